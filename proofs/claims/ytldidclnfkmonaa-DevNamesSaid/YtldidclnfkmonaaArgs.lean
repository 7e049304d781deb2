/- Arguments that come in, opened to the words of Mem. -/
import Derived.Test.YtldidclnfkmonaaChecked
import Derived.Test.YtldidclnfkmonaaMem
import Derived.ProofKit
import Derived.OpenShut
import Derived.ShutString
import Derived.ChangeOld
import Derived.Below
namespace Go.Proofs.Ytldidclnfkmonaa
open Go.ChangeShapes Go.WideShapes Go.ChangeAt Go.RowKit

theorem own_ : ownKnob Try.prog.godebug = none := by kernel_rfl
theorem laidOut_ : laidOutB Try.prog = true := by kernel_rfl

theorem arg_bytes {H : Type} {enc : TypeId × Value → H} {P : Program} {W : World} {r : Reach} {base b0 : Nat} {spare : Nat → Bool} {held : Bool} {t e : TypeId} {v : Value} {d : DataW H} {p : List MemPlace} (ht : P.underlying t = some (.slice e)) (he : P.underlying e = some (.int .u8))
    (hC : P.cellsOf e = 1) (hv : Value.okWide P W r base t v) (h : DataW.Trod enc P W b0 spare held t v d p) : ∃ l, Bytes W 0 W.heap.size v l := by
  obtain ⟨a, len, cap, rfl⟩ := okWide_slice ht hv
  obtain ⟨fuel, hf⟩ := h
  rcases open_ints ht he hC hf with ⟨hcs, _⟩ | ⟨x, l, c, zs, hcs, _, hl, hm, hz, _, hcell, hwz⟩
  · simp [Value.cells] at hcs
    obtain ⟨rfl, rfl, rfl⟩ := hcs
    exact ⟨[], Bytes.nil_ _ _ _⟩
  · simp [Value.cells] at hcs
    obtain ⟨rfl, rfl, rfl⟩ := hcs
    have hz' : zs.length = cap ∨ zs.length = len := by first | exact .inl hz | (split at hz <;> first | exact .inl hz | exact .inr hz)
    have hb8 : ∀ n ∈ zs, 0 ≤ n ∧ n ≤ 255 := fun n hn => bounds_u8 (hwz n hn)
    have hll : len ≤ zs.length := by omega
    refine ⟨(zs.take len).map fun n => UInt8.ofNat n.toNat, some x, cap, by simp [Nat.min_eq_left hll], by simp; omega, hm, fun hp => ?_, fun h => by cases h⟩
    have hp' : 0 < len := by simp at hp; omega
    have h0 := hcell 0 (by omega)
    obtain ⟨b, off, spot⟩ := x
    have hspot : spot = none := by simpa [Addr.add] using World.cell?_spot h0
    subst hspot
    have hblk : b < W.heap.size := cell_lt' (a := ⟨b, off, none⟩) (by simpa [Addr.add] using h0)
    refine ⟨b, off, rfl, Nat.zero_le _, hblk, fun i y hy => ?_⟩
    have hi : i < len := by have := (List.getElem?_eq_some_iff.1 hy).1; simp at this; omega
    have hc := hcell i (by omega)
    have e2 : (⟨b, off, none⟩ : Addr).add i = ⟨b, off + i, none⟩ := by unfold Addr.add; split <;> simp_all
    rw [e2] at hc
    rw [hc]
    have hi2 : i < zs.length := by omega
    have hbz := hb8 zs[i] (List.getElem_mem hi2)
    simp [hi, hi2] at hy
    subst hy
    simp [bV, hi2]
    omega
end Go.Proofs.Ytldidclnfkmonaa
