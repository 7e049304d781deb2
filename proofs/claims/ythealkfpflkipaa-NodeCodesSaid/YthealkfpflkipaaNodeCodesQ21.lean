/- NodeCodes: the words and contracts, part 21. -/
import Derived.Test.YthealkfpflkipaaNodeCodesQ1
import Derived.Test.YthealkfpflkipaaNodeCodesQ4
import Derived.Test.YthealkfpflkipaaChecked
import Derived.WalkKit
import Derived.WalkLawsBesides
import Derived.WalkSpells
import Derived.Lib.Hide
import Derived.Laws.Rows
import Derived.Laws.AppendOwnNone
import Derived.Maps.AppendAt
import Derived.ProofKit
import Derived.OpenShut
import Derived.ShutString
import Derived.ChangeOld
import Derived.Below
import Derived.Deep.Slices
import Derived.WideShapes
namespace Go.Proofs.Ythealkfpflkipaa
open Go.ChangeShapes Go.WideShapes Go.ChangeAt Go.RowKit

theorem own_ : ownKnob Try.prog.godebug = none := by kernel_rfl
theorem laidOut_ : laidOutB Try.prog = true := by kernel_rfl

theorem arg_bytes {H : Type} {enc : TypeId × Value → H} {P : Program} {W : World} {r : Reach} {base b0 : Nat} {spare : Nat → Bool} {held : Bool} {t e : TypeId} {v : Value} {d : DataW H} {p : List MemPlace} (ht : P.underlying t = some (.slice e)) (he : P.underlying e = some (.int .u8))
    (hC : P.cellsOf e = 1) (hv : Value.okWide P W r base t v) (h : DataW.Trod enc P W b0 spare held t v d p) : ∃ l, Bytes W 0 W.heap.size v l := by
  obtain ⟨a, len, cap, rfl⟩ := okWide_slice ht hv
  obtain ⟨fuel, hf⟩ := h
  rcases open_ints ht he hC hf with ⟨hcs, _⟩ | ⟨x, l, c, zs, hcs, _, hl, hm, hz, _, hcell, hwz⟩
  · simp [Value.cells] at hcs
    obtain ⟨rfl, rfl, rfl⟩ := hcs
    exact ⟨[], Bytes.nil_ _ _ _⟩
  · simp [Value.cells] at hcs
    obtain ⟨rfl, rfl, rfl⟩ := hcs
    have hz' : zs.length = cap ∨ zs.length = len := by first | exact .inl hz | (split at hz <;> first | exact .inl hz | exact .inr hz)
    have hb8 : ∀ n ∈ zs, 0 ≤ n ∧ n ≤ 255 := fun n hn => bounds_u8 (hwz n hn)
    have hll : len ≤ zs.length := by omega
    refine ⟨(zs.take len).map fun n => UInt8.ofNat n.toNat, some x, cap, by simp [Nat.min_eq_left hll], by simp; omega, hm, fun hp => ?_, fun h => by cases h⟩
    have hp' : 0 < len := by simp at hp; omega
    have h0 := hcell 0 (by omega)
    obtain ⟨b, off, spot⟩ := x
    have hspot : spot = none := by simpa [Addr.add] using World.cell?_spot h0
    subst hspot
    have hblk : b < W.heap.size := cell_lt' (a := ⟨b, off, none⟩) (by simpa [Addr.add] using h0)
    refine ⟨b, off, rfl, Nat.zero_le _, hblk, fun i y hy => ?_⟩
    have hi : i < len := by have := (List.getElem?_eq_some_iff.1 hy).1; simp at this; omega
    have hc := hcell i (by omega)
    have e2 : (⟨b, off, none⟩ : Addr).add i = ⟨b, off + i, none⟩ := by unfold Addr.add; split <;> simp_all
    rw [e2] at hc
    rw [hc]
    have hi2 : i < zs.length := by omega
    have hbz := hb8 zs[i] (List.getElem_mem hi2)
    simp [hi, hi2] at hy
    subst hy
    simp [bV, hi2]
    omega
end Go.Proofs.Ythealkfpflkipaa

namespace Go.Proofs.Ythealkfpflkipaa
open Go.ChangeShapes Go.WideShapes Go.ChangeAt Go.RowKit

section
variable {H : Type} {enc : TypeId × Value → H} {W : World} {r : Reach} {base : Nat} {spare : Nat → Bool} {held : Bool} {v : Value} {d : DataW H} {p : List MemPlace}
set_option maxRecDepth 100000 in
theorem arg_key (hv : Value.okWide Try.prog W r base 56 v) (h : DataW.Trod enc Try.prog W 0 spare held 56 v d p) : ∃ k : KeyL, v = .agg #[bV k.kind, wV k.id, wV k.off] := by
  have ht : fieldsOf Try.prog 56 = some [(0, 5), (1, 34), (2, 34)] := by kernel_rfl
  obtain ⟨cs, rfl, hsz⟩ := okW_struct ht hv
  obtain ⟨fuel, hf⟩ := h
  obtain ⟨k, hk⟩ := open_key ht Try.underlying5 Try.underlying34 (by kernel_rfl) (by kernel_rfl) (by kernel_rfl) hf
  refine ⟨k, ?_⟩
  congr 1
  apply Array.toList_inj.1
  exact hk
end
end Go.Proofs.Ythealkfpflkipaa

namespace Go.Proofs.Ythealkfpflkipaa
open Go.ChangeShapes Go.WideShapes Go.ChangeAt Go.RowKit

section
variable {H : Type} {enc : TypeId × Value → H} {W : World} {r : Reach} {base : Nat} {spare : Nat → Bool} {held : Bool} {v : Value} {d : DataW H} {p : List MemPlace}
set_option maxRecDepth 100000 in
theorem arg_node (hv : Value.okWide Try.prog W r base 54 v) (h : DataW.Trod enc Try.prog W 0 spare held 54 v d p) :
    ∃ (x : NodeL) (u : Value), v = .agg #[.int .i64 x.level, u] ∧ (Lit.int .i64 x.level).wf = true ∧ Sl rItem W 0 W.heap.size u x.items := by
  have ht : fieldsOf Try.prog 54 = some [(0, 3), (1, 52)] := by kernel_rfl
  have hit : fieldsOf Try.prog 85 = some [(0, 56), (3, 3), (4, 22)] := by kernel_rfl
  have hk : fieldsOf Try.prog 56 = some [(0, 5), (1, 34), (2, 34)] := by kernel_rfl
  have hop : Opens Try.prog 85 rItem := opens_item hit hk Try.underlying5 Try.underlying34 (by kernel_rfl) (by kernel_rfl) (by kernel_rfl) Try.underlying3 (by kernel_rfl) (by kernel_rfl) (by kernel_rfl) Try.underlying22 Try.underlying5 (by kernel_rfl)
  have hci : Try.prog.cellsOf 3 = 1 := by kernel_rfl
  have hcl : Try.prog.cellsOf 52 = 1 := by kernel_rfl
  have ce : Try.prog.cellsOf 54 = 2 := by kernel_rfl
  obtain ⟨cs, rfl, hsz⟩ := okW_struct ht hv
  obtain ⟨fuel, hf⟩ := h
  obtain ⟨hl, n, hf⟩ := trod_parts ht hf
  obtain ⟨y0, h0⟩ := hf (0, 3) (by simp)
  obtain ⟨y1, h1⟩ := hf (1, 52) (by simp)
  dsimp only at h0 h1
  rw [hci] at h0
  rw [hcl] at h1
  rw [ce] at hsz
  obtain ⟨k0, e0, _, w0⟩ := DataW.trod_int Try.underlying3 h0
  obtain ⟨u, l, e1, hB⟩ := open_sl (r := rItem) Try.underlying52 (by kernel_rfl) (by decide) hop h1
  refine ⟨⟨k0, l⟩, u, ?_, w0, hB⟩
  congr 1
  apply Array.toList_inj.1
  obtain ⟨cl⟩ := cs
  match cl, hsz with
  | [c0, c1], _ =>
    simp [Value.cells] at e0 e1
    simp [e0, e1]
end
end Go.Proofs.Ythealkfpflkipaa

