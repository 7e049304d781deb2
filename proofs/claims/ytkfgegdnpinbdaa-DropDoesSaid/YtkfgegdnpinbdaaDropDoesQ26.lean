/- DropDoes: the words and contracts, part 26. -/
import Derived.Test.YtkfgegdnpinbdaaDropDoesQ1
import Derived.Test.YtkfgegdnpinbdaaDropDoesQ2
import Derived.Test.YtkfgegdnpinbdaaDropDoesQ3
import Derived.Test.YtkfgegdnpinbdaaDropDoesQ4
import Derived.Test.YtkfgegdnpinbdaaDropDoesQ6
import Derived.Test.YtkfgegdnpinbdaaDropDoesQ7
import Derived.Test.YtkfgegdnpinbdaaDropDoesQ12
import Derived.Test.YtkfgegdnpinbdaaChecked
import Derived.WalkKit
import Derived.WalkLawsBesides
import Derived.WalkSpells
import Derived.Lib.Hide
import Derived.Laws.Rows
import Derived.Laws.AppendOwnNone
import Derived.Maps.AppendAt
import Derived.ProofKit
import Derived.OpenShut
import Derived.ShutString
import Derived.ChangeOld
import Derived.Below
import Derived.Deep.Slices
import Derived.WideShapes
import Derived.RangeFuncNested
import Derived.RangeFuncBound
import Derived.RangeFuncCalls
import Derived.RangeFuncLeaves
import Derived.RangeFuncBox
import Derived.Shelf.Abstract
import Derived.Shelf.RegionOpen
import Derived.OwnWalkIn
import Derived.TacticsInMore
import Derived.LoopNIn
import Derived.LoopIn
import Derived.Lib.AppendZerosOnto
import Derived.Lib.SliceRun
import Derived.Lib.Walk
import Derived.Deep.LoopGhost
import Derived.Laws.CopyOwn
import Derived.Laws.CopyRow
import Derived.OrdersHeld
import Derived.Deep.QuietTactic
import Derived.BigQuiet
import Derived.StillTailTactics
import Derived.Deep.DeepCutAuto
import Derived.Laws.MakeOwn
namespace Go.Proofs.Ytkfgegdnpinbdaa
open Go.ChangeShapes Go.WideShapes Go.ChangeAt Go.RowKit

theorem own_ : ownKnob Try.prog.godebug = none := by kernel_rfl
theorem laidOut_ : laidOutB Try.prog = true := by kernel_rfl

end Go.Proofs.Ytkfgegdnpinbdaa

namespace Go.Proofs.Ytkfgegdnpinbdaa
open Go.ChangeShapes Go.WideShapes Go.ChangeAt Go.RowKit

section
variable {H : Type} {enc : TypeId × Value → H} {W : World} {r : Reach} {base : Nat} {spare : Nat → Bool} {held : Bool} {v : Value} {d : DataW H} {p : List MemPlace}
set_option maxRecDepth 100000 in
theorem arg_node (hv : Value.okWide Try.prog W r base 47 v) (h : DataW.Trod enc Try.prog W 0 spare held 47 v d p) :
    ∃ (x : NodeL) (u : Value), v = .agg #[.int .i64 x.level, u] ∧ (Lit.int .i64 x.level).wf = true ∧ Sl rItem W 0 W.heap.size u x.items := by
  have ht : fieldsOf Try.prog 47 = some [(0, 3), (1, 45)] := by kernel_rfl
  have hit : fieldsOf Try.prog 97 = some [(0, 95), (3, 3), (4, 26)] := by kernel_rfl
  have hk : fieldsOf Try.prog 95 = some [(0, 5), (1, 93), (2, 93)] := by kernel_rfl
  have hop : Opens Try.prog 97 rItem := opens_item hit hk Try.underlying5 Try.underlying93 (by kernel_rfl) (by kernel_rfl) (by kernel_rfl) Try.underlying3 (by kernel_rfl) (by kernel_rfl) (by kernel_rfl) Try.underlying26 Try.underlying5 (by kernel_rfl)
  have hci : Try.prog.cellsOf 3 = 1 := by kernel_rfl
  have hcl : Try.prog.cellsOf 45 = 1 := by kernel_rfl
  have ce : Try.prog.cellsOf 47 = 2 := by kernel_rfl
  obtain ⟨cs, rfl, hsz⟩ := okW_struct ht hv
  obtain ⟨fuel, hf⟩ := h
  obtain ⟨hl, n, hf⟩ := trod_parts ht hf
  obtain ⟨y0, h0⟩ := hf (0, 3) (by simp)
  obtain ⟨y1, h1⟩ := hf (1, 45) (by simp)
  dsimp only at h0 h1
  rw [hci] at h0
  rw [hcl] at h1
  rw [ce] at hsz
  obtain ⟨k0, e0, _, w0⟩ := DataW.trod_int Try.underlying3 h0
  obtain ⟨u, l, e1, hB⟩ := open_sl (r := rItem) Try.underlying45 (by kernel_rfl) (by decide) hop h1
  refine ⟨⟨k0, l⟩, u, ?_, w0, hB⟩
  congr 1
  apply Array.toList_inj.1
  obtain ⟨cl⟩ := cs
  match cl, hsz with
  | [c0, c1], _ =>
    simp [Value.cells] at e0 e1
    simp [e0, e1]
end
end Go.Proofs.Ytkfgegdnpinbdaa

namespace Go.Proofs.Ytkfgegdnpinbdaa
open Go.ChangeShapes Go.WideShapes Go.ChangeAt Go.RowKit

section
variable {H : Type} {enc : TypeId × Value → H} {W : World} {r : Reach} {base : Nat} {spare : Nat → Bool} {held : Bool} {v : Value} {d : DataW H} {p : List MemPlace}
set_option maxRecDepth 100000 in
theorem arg_store (hv : Value.okWide Try.prog W r base 28 v) (h : DataW.Trod enc Try.prog W 0 spare held 28 v d p) :
    ∃ (s : StoreL) (b u x y : Value), v = .agg #[b, u, x, y] ∧ StoreV W 0 W.heap.size b u x y s := by
  have ht : fieldsOf Try.prog 28 = some [(0, 25), (2, 26), (3, 26)] := by kernel_rfl
  have hd : fieldsOf Try.prog 25 = some [(0, 22), (1, 23)] := by kernel_rfl
  have htw : fieldsOf Try.prog 92 = some [(0, 3), (1, 26)] := by kernel_rfl
  have hcb : Try.prog.cellsOf 26 = 1 := by kernel_rfl
  have hcd : Try.prog.cellsOf 25 = 2 := by kernel_rfl
  have ce : Try.prog.cellsOf 28 = 4 := by kernel_rfl
  obtain ⟨cs, rfl, hsz⟩ := okW_struct ht hv
  obtain ⟨fuel, hf⟩ := h
  obtain ⟨hl, n, hf⟩ := trod_parts ht hf
  obtain ⟨y0, h0⟩ := hf (0, 25) (by simp)
  obtain ⟨y1, h1⟩ := hf (2, 26) (by simp)
  obtain ⟨y2, h2⟩ := hf (3, 26) (by simp)
  dsimp only at h0 h1 h2
  rw [hcb] at h1 h2
  rw [hcd] at h0
  rw [ce] at hsz
  obtain ⟨b, u, x, e0, hD⟩ := open_disk hd Try.underlying22 Try.underlying23 (by kernel_rfl) (by kernel_rfl) htw (by kernel_rfl) Try.underlying3 (by kernel_rfl) (by kernel_rfl) (by kernel_rfl) Try.underlying26 Try.underlying5 (by kernel_rfl) h0
  obtain ⟨v1, l1, e1, B1⟩ := open_bytes Try.underlying26 Try.underlying5 (by kernel_rfl) h1
  obtain ⟨v2, l2, e2, B2⟩ := open_bytes Try.underlying26 Try.underlying5 (by kernel_rfl) h2
  refine ⟨⟨x, l1, l2⟩, b, u, v1, v2, ?_, hD, B1, B2⟩
  congr 1
  apply Array.toList_inj.1
  obtain ⟨cl⟩ := cs
  match cl, hsz with
  | [c0, c1, c2, c3], _ =>
    simp [Value.cells] at e0 e1 e2
    simp [e0, e1, e2]
end
end Go.Proofs.Ytkfgegdnpinbdaa

