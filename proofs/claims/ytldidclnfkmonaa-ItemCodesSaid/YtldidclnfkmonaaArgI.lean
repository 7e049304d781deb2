/- Arguments that come in: keys, items. -/
import Derived.Test.YtldidclnfkmonaaArgs
import Derived.Test.YtldidclnfkmonaaOpn
namespace Go.Proofs.Ytldidclnfkmonaa
open Go.ChangeShapes Go.WideShapes Go.ChangeAt Go.RowKit

section
variable {H : Type} {enc : TypeId × Value → H} {W : World} {r : Reach} {base : Nat} {spare : Nat → Bool} {held : Bool} {v : Value} {d : DataW H} {p : List MemPlace}
set_option maxRecDepth 100000 in
theorem arg_key (hv : Value.okWide Try.prog W r base 24 v) (h : DataW.Trod enc Try.prog W 0 spare held 24 v d p) : ∃ k : KeyL, v = .agg #[bV k.kind, wV k.id, wV k.off] := by
  have ht : fieldsOf Try.prog 24 = some [(0, 5), (1, 22), (2, 22)] := by kernel_rfl
  obtain ⟨cs, rfl, hsz⟩ := okW_struct ht hv
  obtain ⟨fuel, hf⟩ := h
  obtain ⟨k, hk⟩ := open_key ht Try.underlying5 Try.underlying22 (by kernel_rfl) (by kernel_rfl) (by kernel_rfl) hf
  refine ⟨k, ?_⟩
  congr 1
  apply Array.toList_inj.1
  exact hk
set_option maxRecDepth 100000 in
theorem arg_item (hv : Value.okWide Try.prog W r base 30 v) (h : DataW.Trod enc Try.prog W 0 spare held 30 v d p) :
    ∃ (x : ItemL) (u : Value), v = .agg #[bV x.key.kind, wV x.key.id, wV x.key.off, .int .i64 x.ref, u] ∧ Bytes W 0 W.heap.size u x.val ∧ (Lit.int .i64 x.ref).wf = true := by
  have ht : fieldsOf Try.prog 30 = some [(0, 24), (3, 3), (4, 28)] := by kernel_rfl
  have hk : fieldsOf Try.prog 24 = some [(0, 5), (1, 22), (2, 22)] := by kernel_rfl
  obtain ⟨cs, rfl, hsz⟩ := okW_struct ht hv
  obtain ⟨fuel, hf⟩ := h
  obtain ⟨k, n, u, l, hcs, hw, hB⟩ := open_item ht hk Try.underlying5 Try.underlying22 (by kernel_rfl) (by kernel_rfl) (by kernel_rfl) Try.underlying3 (by kernel_rfl) (by kernel_rfl) (by kernel_rfl) Try.underlying28 Try.underlying5 (by kernel_rfl) hf
  refine ⟨⟨k, n, l⟩, u, ?_, hB, hw⟩
  congr 1
  apply Array.toList_inj.1
  exact hcs
end
end Go.Proofs.Ytldidclnfkmonaa
