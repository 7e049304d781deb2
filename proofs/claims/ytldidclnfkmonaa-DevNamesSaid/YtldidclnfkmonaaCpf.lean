/- copy into a row of bytes: all else stays. -/
import Derived.Test.YtldidclnfkmonaaCpy
import Derived.Laws.CopyRow
namespace Go.Proofs.Ytldidclnfkmonaa
open Go.RowKit

/-- Block g alone may have turned. -/
def OnlyAt (g : Nat) (w w' : World) : Prop := Below g w w' ∧ w'.heap.size = w.heap.size ∧ ∀ k, k ≠ g → w'.heap[k]? = w.heap[k]?
theorem OnlyAt.refl (g : Nat) (w : World) : OnlyAt g w w := ⟨Below.refl _ _, rfl, fun _ _ => rfl⟩

theorem wpList_copyF {P : Program} {w : World} {ops : Array Oper} {rest : List Oper} {o : Oper} {a : Act} {Q : Exit → Act → World → Prop} (hgd : o.guard = none) (d s : Operand) (dT sT : TypeId)
    (ho : o.op = .call { callee := .builtin .copy, args := #[d, s], argTypes := #[dT, sT] }) (e : TypeId) (hu : P.underlying dT = some (.slice e))
    (hi : (P.info? e).map (fun i => (i.zero, i.size, i.bytes)) = some (some (.int .u8 0), 1, 1)) (g off dLen dCap : Nat) (hd : a.eval d = .slice (some ⟨g, off, none⟩) dLen dCap)
    (L : List UInt8) (hrow : RowB w g e L) (lo hi' : Nat) (sv : Value) (bs : List UInt8) (hs : a.eval s = sv) (hr : Bytes w lo hi' sv bs) (hfit : bs.length ≤ dLen) (hfit2 : off + bs.length ≤ L.length)
    (h : ∀ w', RowB w' g e (splice L off bs) → OnlyAt g w w' → wpList P ops Q rest (a.put o.dst (goInt ((bs.length : Nat) : Int))) w') : wpList P ops Q (o :: rest) a w := by
  obtain ⟨i0, hi0, hz0, hz1, hz2⟩ := info_parts hi
  obtain ⟨sp, sc, rfl, h1, h2, h3, h4⟩ := hr
  have hmin : Nat.min bs.length dLen = bs.length := Nat.min_eq_left hfit
  have hsz : (P.info? e).map (·.size) = some 1 := by rw [hi0]; simp [hz1]
  by_cases h0 : bs.length = 0
  · obtain rfl : bs = [] := List.eq_nil_of_length_eq_zero h0
    refine wpList_copy_nothing hgd d s dT sT ho e hu hsz _ _ _ _ _ _ hd hs hmin ?_
    exact h w (by simpa [splice] using hrow) (OnlyAt.refl _ _)
  · obtain ⟨b, o2, rfl, _, _, hc⟩ := h3 (by omega)
    refine wpList_copy_own hgd d s dT sT ho e hu hsz g off dLen dCap _ _ _ hd hs (L.map bV).toArray e hrow (bs.map bV) (by rw [List.length_map, hmin]) ?_ (by simpa using hfit2) ?_ ?_
    · intro j v hj
      have e2 : (⟨b, o2, none⟩ : Addr).add j = ⟨b, o2 + j, none⟩ := by unfold Addr.add; split <;> simp_all
      rw [List.getElem?_map] at hj
      cases hx : bs[j]? with
      | none => rw [hx] at hj; cases hj
      | some x =>
        rw [hx] at hj
        cases hj
        rw [e2]
        exact hc j x hx
    · intro u hu
      obtain ⟨y, _, rfl⟩ := List.mem_map.1 hu
      rfl
    · rw [List.length_map]
      refine h _ ?_ ⟨below_setRow (Below.refl _ _) (Nat.le_refl _) _, by simp [World.setRow], fun k hk => setRow_other w g k _ (by omega)⟩
      unfold RowB
      rw [setRow_heap w g (L.map bV).toArray _ e (0, 0) hrow]
      simp [splice, List.map_take, List.map_drop]
end Go.Proofs.Ytldidclnfkmonaa
