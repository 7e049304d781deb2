/- copy into a row of bytes. -/
import Derived.Test.YtldidclnfkmonaaRefN
import Derived.Lib.AppendZerosOnto
import Derived.Lib.SliceRun
import Derived.Lib.Walk
import Derived.Deep.LoopGhost
import Derived.Laws.CopyOwn
namespace Go.Proofs.Ytldidclnfkmonaa
open Go.RowKit

/-- copy into a row of bytes. -/
theorem wpList_copyB {P : Program} {w : World} {ops : Array Oper} {rest : List Oper} {o : Oper} {a : Act} {Q : Exit → Act → World → Prop} (hgd : o.guard = none) (d s : Operand) (dT sT : TypeId)
    (ho : o.op = .call { callee := .builtin .copy, args := #[d, s], argTypes := #[dT, sT] }) (e : TypeId) (hu : P.underlying dT = some (.slice e))
    (hi : (P.info? e).map (fun i => (i.zero, i.size, i.bytes)) = some (some (.int .u8 0), 1, 1)) (g off dLen dCap : Nat) (hd : a.eval d = .slice (some ⟨g, off, none⟩) dLen dCap)
    (L : List UInt8) (hrow : RowB w g e L) (lo hi' : Nat) (sv : Value) (bs : List UInt8) (hs : a.eval s = sv) (hr : Bytes w lo hi' sv bs) (hfit : off + min bs.length dLen ≤ L.length)
    (B : Nat) (hBg : B ≤ g) (h : ∀ w', RowB w' g e (splice L off (bs.take (min bs.length dLen))) → Below B w w' → wpList P ops Q rest (a.put o.dst (goInt ((min bs.length dLen : Nat) : Int))) w') : wpList P ops Q (o :: rest) a w := by
  obtain ⟨i0, hi0, hz0, hz1, hz2⟩ := info_parts hi
  obtain ⟨sp, sc, rfl, h1, h2, h3, h4⟩ := hr
  have hn : (bs.take (min bs.length dLen)).length = min bs.length dLen := by rw [List.length_take]; omega
  have hn' : ((bs.take (min bs.length dLen)).map bV).length = Nat.min bs.length dLen := by rw [List.length_map, hn]
  refine wpList_copy_splice hgd d s dT sT ho e hu (by rw [hi0]; simp [hz1]) _ _ _ _ _ _ hd hs g off (L.map bV) e hrow ((bs.take (min bs.length dLen)).map bV) hn' ?_ ?_ ?_ B w (Below.refl _ _) hBg ?_
  · intro hp
    refine ⟨rfl, ?_⟩
    rw [hn'] at hp
    have hp' : 0 < bs.length := by have : Nat.min bs.length dLen ≤ bs.length := Nat.min_le_left _ _; omega
    obtain ⟨b, o2, rfl, _, _, hc⟩ := h3 hp'
    refine ⟨_, rfl, fun j v hj => ?_⟩
    have e2 : (⟨b, o2, none⟩ : Addr).add j = ⟨b, o2 + j, none⟩ := by unfold Addr.add; split <;> simp_all
    rw [List.getElem?_map, List.getElem?_take] at hj
    split at hj
    · cases hx : bs[j]? with
      | none => rw [hx] at hj; cases hj
      | some x =>
        rw [hx] at hj
        cases hj
        rw [e2]
        exact hc j x hx
    · cases hj
  · rw [List.length_map, List.length_map, hn]; exact hfit
  · intro u hu
    obtain ⟨y, _, rfl⟩ := List.mem_map.1 hu
    rfl
  · intro w' hrow' hb
    rw [List.length_map, hn]
    refine h w' ?_ hb
    have h5 := hrow'.out
    unfold RowB
    rw [h5]
    simp [splice, List.map_take, List.map_drop]
end Go.Proofs.Ytldidclnfkmonaa
