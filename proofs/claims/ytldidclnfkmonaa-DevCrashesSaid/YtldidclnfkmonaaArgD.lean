/- Arguments that come in: disks. -/
import Derived.Test.YtldidclnfkmonaaArgs
import Derived.Test.YtldidclnfkmonaaOpn
namespace Go.Proofs.Ytldidclnfkmonaa
open Go.ChangeShapes Go.WideShapes Go.ChangeAt Go.RowKit

section
variable {H : Type} {enc : TypeId × Value → H} {W : World} {r : Reach} {base : Nat} {spare : Nat → Bool} {held : Bool} {v : Value} {d : DataW H} {p : List MemPlace}
set_option maxRecDepth 100000 in
theorem arg_disk (hv : Value.okWide Try.prog W r base 39 v) (h : DataW.Trod enc Try.prog W 0 spare held 39 v d p) :
    ∃ (b u : Value) (x : DiskL), v = .agg #[b, u] ∧ DiskV W 0 W.heap.size b u x := by
  have ht : fieldsOf Try.prog 39 = some [(0, 36), (1, 37)] := by kernel_rfl
  have htw : fieldsOf Try.prog 74 = some [(0, 3), (1, 28)] := by kernel_rfl
  obtain ⟨cs, rfl, hsz⟩ := okW_struct ht hv
  obtain ⟨fuel, hf⟩ := h
  obtain ⟨b, u, x, hcs, hD⟩ := open_disk ht Try.underlying36 Try.underlying37 (by kernel_rfl) (by kernel_rfl) htw (by kernel_rfl) Try.underlying3 (by kernel_rfl) (by kernel_rfl) (by kernel_rfl) Try.underlying28 Try.underlying5 (by kernel_rfl) hf
  refine ⟨b, u, x, ?_, hD⟩
  congr 1
  apply Array.toList_inj.1
  exact hcs
set_option maxRecDepth 100000 in
theorem arg_bools (hv : Value.okWide Try.prog W r base 52 v) (h : DataW.Trod enc Try.prog W 0 spare held 52 v d p) : ∃ l, Sl rBool W 0 W.heap.size v l := by
  obtain ⟨a, len, cap, rfl⟩ := okWide_slice Try.underlying52 hv
  obtain ⟨fuel, hf⟩ := h
  obtain ⟨u, l, hcs, hS⟩ := open_sl Try.underlying52 (by kernel_rfl) (by decide) (opens_bool Try.underlying4) hf
  simp [Value.cells] at hcs
  subst hcs
  exact ⟨l, hS⟩
end
end Go.Proofs.Ytldidclnfkmonaa
