/- NodeUnlike: the words and contracts, part 20. -/
import Derived.Test.YtfdogefoodljaaaNodeUnlikeQ1
import Derived.Test.YtfdogefoodljaaaNodeUnlikeQ2
import Derived.Test.YtfdogefoodljaaaNodeUnlikeQ6
import Derived.Test.YtfdogefoodljaaaNodeUnlikeQ19
import Derived.WalkKit
import Derived.WalkLawsBesides
import Derived.WalkSpells
import Derived.Lib.Hide
import Derived.Laws.Rows
import Derived.Laws.AppendOwnNone
import Derived.Maps.AppendAt
import Derived.ProofKit
import Derived.OpenShut
import Derived.ShutString
import Derived.ChangeOld
import Derived.Below
import Derived.Deep.Slices
import Derived.WideShapes
namespace Go.Proofs.Ytfdogefoodljaaa
open Go.ChangeShapes Go.WideShapes Go.ChangeAt Go.RowKit

section
variable {H : Type} {enc : TypeId × Value → H} {W : World} {r : Reach} {base : Nat} {spare : Nat → Bool} {held : Bool} {v : Value} {d : DataW H} {p : List MemPlace}
set_option maxRecDepth 100000 in
theorem arg_node (hv : Value.okWide Try.prog W r base 62 v) (h : DataW.Trod enc Try.prog W 0 spare held 62 v d p) :
    ∃ (x : NodeL) (u : Value), v = .agg #[.int .i64 x.level, u] ∧ (Lit.int .i64 x.level).wf = true ∧ Sl rItem W 0 W.heap.size u x.items := by
  have ht : fieldsOf Try.prog 62 = some [(0, 3), (1, 60)] := by kernel_rfl
  have hit : fieldsOf Try.prog 73 = some [(0, 65), (3, 3), (4, 22)] := by kernel_rfl
  have hk : fieldsOf Try.prog 65 = some [(0, 5), (1, 42), (2, 42)] := by kernel_rfl
  have hop : Opens Try.prog 73 rItem := opens_item hit hk Try.underlying5 Try.underlying42 (by kernel_rfl) (by kernel_rfl) (by kernel_rfl) Try.underlying3 (by kernel_rfl) (by kernel_rfl) (by kernel_rfl) Try.underlying22 Try.underlying5 (by kernel_rfl)
  have hci : Try.prog.cellsOf 3 = 1 := by kernel_rfl
  have hcl : Try.prog.cellsOf 60 = 1 := by kernel_rfl
  have ce : Try.prog.cellsOf 62 = 2 := by kernel_rfl
  obtain ⟨cs, rfl, hsz⟩ := okW_struct ht hv
  obtain ⟨fuel, hf⟩ := h
  obtain ⟨hl, n, hf⟩ := trod_parts ht hf
  obtain ⟨y0, h0⟩ := hf (0, 3) (by simp)
  obtain ⟨y1, h1⟩ := hf (1, 60) (by simp)
  dsimp only at h0 h1
  rw [hci] at h0
  rw [hcl] at h1
  rw [ce] at hsz
  obtain ⟨k0, e0, _, w0⟩ := DataW.trod_int Try.underlying3 h0
  obtain ⟨u, l, e1, hB⟩ := open_sl (r := rItem) Try.underlying60 (by kernel_rfl) (by decide) hop h1
  refine ⟨⟨k0, l⟩, u, ?_, w0, hB⟩
  congr 1
  apply Array.toList_inj.1
  obtain ⟨cl⟩ := cs
  match cl, hsz with
  | [c0, c1], _ =>
    simp [Value.cells] at e0 e1
    simp [e0, e1]
end
end Go.Proofs.Ytfdogefoodljaaa

