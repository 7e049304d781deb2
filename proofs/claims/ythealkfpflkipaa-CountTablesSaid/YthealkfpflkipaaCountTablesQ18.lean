/- CountTables: the words and contracts, part 18. -/
import Derived.Test.YthealkfpflkipaaCountTablesQ1
import Derived.Test.YthealkfpflkipaaCountTablesQ2
import Derived.Test.YthealkfpflkipaaChecked
import Derived.WalkKit
import Derived.WalkLawsBesides
import Derived.WalkSpells
import Derived.Lib.Hide
import Derived.Laws.Rows
import Derived.Laws.AppendOwnNone
import Derived.Maps.AppendAt
import Derived.ProofKit
import Derived.OpenShut
import Derived.ShutString
import Derived.ChangeOld
import Derived.Below
import Derived.Deep.Slices
import Derived.WideShapes
namespace Go.Proofs.Ythealkfpflkipaa
open Go.ChangeShapes Go.WideShapes Go.ChangeAt Go.RowKit

theorem own_ : ownKnob Try.prog.godebug = none := by kernel_rfl
theorem laidOut_ : laidOutB Try.prog = true := by kernel_rfl

theorem arg_bytes {H : Type} {enc : TypeId × Value → H} {P : Program} {W : World} {r : Reach} {base b0 : Nat} {spare : Nat → Bool} {held : Bool} {t e : TypeId} {v : Value} {d : DataW H} {p : List MemPlace} (ht : P.underlying t = some (.slice e)) (he : P.underlying e = some (.int .u8))
    (hC : P.cellsOf e = 1) (hv : Value.okWide P W r base t v) (h : DataW.Trod enc P W b0 spare held t v d p) : ∃ l, Bytes W 0 W.heap.size v l := by
  obtain ⟨a, len, cap, rfl⟩ := okWide_slice ht hv
  obtain ⟨fuel, hf⟩ := h
  rcases open_ints ht he hC hf with ⟨hcs, _⟩ | ⟨x, l, c, zs, hcs, _, hl, hm, hz, _, hcell, hwz⟩
  · simp [Value.cells] at hcs
    obtain ⟨rfl, rfl, rfl⟩ := hcs
    exact ⟨[], Bytes.nil_ _ _ _⟩
  · simp [Value.cells] at hcs
    obtain ⟨rfl, rfl, rfl⟩ := hcs
    have hz' : zs.length = cap ∨ zs.length = len := by first | exact .inl hz | (split at hz <;> first | exact .inl hz | exact .inr hz)
    have hb8 : ∀ n ∈ zs, 0 ≤ n ∧ n ≤ 255 := fun n hn => bounds_u8 (hwz n hn)
    have hll : len ≤ zs.length := by omega
    refine ⟨(zs.take len).map fun n => UInt8.ofNat n.toNat, some x, cap, by simp [Nat.min_eq_left hll], by simp; omega, hm, fun hp => ?_, fun h => by cases h⟩
    have hp' : 0 < len := by simp at hp; omega
    have h0 := hcell 0 (by omega)
    obtain ⟨b, off, spot⟩ := x
    have hspot : spot = none := by simpa [Addr.add] using World.cell?_spot h0
    subst hspot
    have hblk : b < W.heap.size := cell_lt' (a := ⟨b, off, none⟩) (by simpa [Addr.add] using h0)
    refine ⟨b, off, rfl, Nat.zero_le _, hblk, fun i y hy => ?_⟩
    have hi : i < len := by have := (List.getElem?_eq_some_iff.1 hy).1; simp at this; omega
    have hc := hcell i (by omega)
    have e2 : (⟨b, off, none⟩ : Addr).add i = ⟨b, off + i, none⟩ := by unfold Addr.add; split <;> simp_all
    rw [e2] at hc
    rw [hc]
    have hi2 : i < zs.length := by omega
    have hbz := hb8 zs[i] (List.getElem_mem hi2)
    simp [hi, hi2] at hy
    subst hy
    simp [bV, hi2]
    omega
end Go.Proofs.Ythealkfpflkipaa

namespace Go.Proofs.Ythealkfpflkipaa
open Go.ChangeShapes Go.WideShapes Go.ChangeAt Go.RowKit

section
variable {H : Type} {enc : TypeId × Value → H} {W : World} {r : Reach} {base : Nat} {spare : Nat → Bool} {held : Bool} {v : Value} {d : DataW H} {p : List MemPlace}
set_option maxRecDepth 100000 in
theorem arg_disk (hv : Value.okWide Try.prog W r base 26 v) (h : DataW.Trod enc Try.prog W 0 spare held 26 v d p) :
    ∃ (b u : Value) (x : DiskL), v = .agg #[b, u] ∧ DiskV W 0 W.heap.size b u x := by
  have ht : fieldsOf Try.prog 26 = some [(0, 23), (1, 24)] := by kernel_rfl
  have htw : fieldsOf Try.prog 50 = some [(0, 3), (1, 22)] := by kernel_rfl
  obtain ⟨cs, rfl, hsz⟩ := okW_struct ht hv
  obtain ⟨fuel, hf⟩ := h
  obtain ⟨b, u, x, hcs, hD⟩ := open_disk ht Try.underlying23 Try.underlying24 (by kernel_rfl) (by kernel_rfl) htw (by kernel_rfl) Try.underlying3 (by kernel_rfl) (by kernel_rfl) (by kernel_rfl) Try.underlying22 Try.underlying5 (by kernel_rfl) hf
  refine ⟨b, u, x, ?_, hD⟩
  congr 1
  apply Array.toList_inj.1
  exact hcs
end
end Go.Proofs.Ythealkfpflkipaa

