/- CountSums: the words and contracts, part 17. -/
import Derived.Test.YtfdogefoodljaaaCountSumsQ1
import Derived.Test.YtfdogefoodljaaaCountSumsQ2
import Derived.Test.YtfdogefoodljaaaCountSumsQ3
import Derived.Test.YtfdogefoodljaaaCountSumsQ4
import Derived.Test.YtfdogefoodljaaaCountSumsQ5
import Derived.Test.YtfdogefoodljaaaCountSumsQ6
import Derived.Test.YtfdogefoodljaaaCountSumsQ7
import Derived.Test.YtfdogefoodljaaaCountSumsQ8
import Derived.Test.YtfdogefoodljaaaCountSumsQ9
import Derived.Test.YtfdogefoodljaaaCountSumsQ10
import Derived.Test.YtfdogefoodljaaaCountSumsQ11
import Derived.Test.YtfdogefoodljaaaCountSumsQ12
import Derived.Test.YtfdogefoodljaaaCountSumsQ13
import Derived.Test.YtfdogefoodljaaaCountSumsQ14
import Derived.Test.YtfdogefoodljaaaCountSumsQ15
import Derived.Test.YtfdogefoodljaaaCountSumsQ16
import Derived.WalkKit
import Derived.WalkLawsBesides
import Derived.WalkSpells
import Derived.Lib.Hide
import Derived.Laws.Rows
import Derived.Laws.AppendOwnNone
import Derived.Maps.AppendAt
import Derived.ProofKit
import Derived.Deep.Slices
import Derived.WideShapes
import Derived.RangeFuncNested
import Derived.RangeFuncBound
import Derived.RangeFuncCalls
import Derived.RangeFuncLeaves
import Derived.RangeFuncBox
import Derived.Shelf.Abstract
import Derived.Shelf.RegionOpen
import Derived.OwnWalkIn
import Derived.TacticsInMore
import Derived.LoopNIn
import Derived.LoopIn
import Derived.Lib.AppendZerosOnto
import Derived.Lib.SliceRun
import Derived.Lib.Walk
import Derived.Deep.LoopGhost
import Derived.Laws.CopyOwn
import Derived.OrdersHeld
import Derived.Deep.QuietTactic
import Derived.BigQuiet
import Derived.StillTailTactics
import Derived.OpenShut
import Derived.Deep.DeepCutAuto
import Derived.Laws.CopyRow
import Derived.Laws.MakeOwn
import Derived.Deep.RegionHeld
import Derived.KernelRfl
import Derived.BigFrameIn
namespace Go.Proofs.Ytfdogefoodljaaa
open Go.RowKit

theorem outX_no {d : DiskL} {s : Int} {t : List UInt8} (h : errX d s t ≠ 0) : outX d s t = ⟨[], []⟩ := by unfold outX; rw [if_neg h]
theorem seen_snoc (bl : List (List UInt8)) (l : List WrL) (p q : Int) (x : List UInt8) : seenD ⟨bl, l ++ [⟨p, x⟩]⟩ q = if p = q then x else seenD ⟨bl, l⟩ q := by
  unfold seenD
  simp only [lastW_app]
  by_cases e : p = q
  · rw [if_pos e, if_pos e]
  · rw [if_neg e, if_neg e]
/-- What a write comes to. -/
theorem errX_zero {d : DiskL} {s : Int} {t : List UInt8} (h : errX d s t = 0) : mayD d = true ∧ (s = 0 ∨ s = 1) ∧ mayT t = true ∧ mayD (outX d s t) = true ∧
    outX d s t = ⟨d.blocks, d.waits ++ [⟨4 + 2 * s, t.take 128⟩] ++ [⟨5 + 2 * s, t.drop 128⟩]⟩ := by
  have h0 := h
  unfold errX at h
  by_cases hz : errP d s = 0
  · rw [if_neg (by simp [hz])] at h
    obtain ⟨m1, m2⟩ := errP_zero hz
    cases hm : mayT t with
    | false => rw [hm] at h; cases h
    | true =>
      rw [hm, if_pos rfl] at h
      have hp : plcP d s = 4 + 2 * s := by unfold plcP; rw [hz, if_pos rfl]
      have hl := mayT_len hm
      have e2 : stC t d (plcP d s) (chL 2) = stepC t (stepC t (d, plcP d s, 0) 0) 1 := by rw [show chL 2 = [0] ++ [1] from rfl, stC_app, show ([0] : List (Fin 2)) = [] ++ [0] from rfl, stC_app]; rfl
      have k1 : stepC t (d, plcP d s, 0) 0 = (writeD d (4 + 2 * s) (t.take 128), 4 + 2 * s + 1, errW d (4 + 2 * s) (t.take 128)) := by
        unfold stepC
        rw [if_neg (by simp), hp]
        simp
      rw [e2, k1] at h
      by_cases z1 : errW d (4 + 2 * s) (t.take 128) = 0
      · have k2 : stepC t (writeD d (4 + 2 * s) (t.take 128), 4 + 2 * s + 1, errW d (4 + 2 * s) (t.take 128)) 1 = (writeD (writeD d (4 + 2 * s) (t.take 128)) (4 + 2 * s + 1) (t.drop 128), 4 + 2 * s + 1 + 1, errW (writeD d (4 + 2 * s) (t.take 128)) (4 + 2 * s + 1) (t.drop 128)) := by
          unfold stepC
          rw [if_neg (by simp [z1])]
          have : (t.drop ((1 : Fin 2).1 * 128)).take 128 = t.drop 128 := by
            show (t.drop (1 * 128)).take 128 = _
            rw [Nat.one_mul]
            exact List.take_of_length_le (by simp; omega)
          simp only [this]
        rw [k2] at h
        simp only at h
        obtain ⟨w1, w2⟩ := write_may z1
        obtain ⟨w3, w4⟩ := write_may h
        have ho : outX d s t = writeD (writeD d (4 + 2 * s) (t.take 128)) (4 + 2 * s + 1) (t.drop 128) := by
          unfold outX
          rw [if_pos h0, e2, k1, k2]
        rw [ho]
        refine ⟨m1, m2, by trivial, w4, ?_⟩
        rw [w3, w1, show (4 + 2 * s + 1 : Int) = 5 + 2 * s by omega]
      · exfalso
        unfold stepC at h
        rw [if_pos z1] at h
        exact z1 h
  · rw [if_pos hz] at h
    exact absurd h hz
theorem errP_may {d : DiskL} (h : mayD d = true) (s : Int) : errP d s = if s = 0 ∨ s = 1 then 0 else 2 := by unfold errP; rw [h]; rfl
theorem side_zero {d : DiskL} {s : Int} (h : mayD d = true) (hs : s = 0 ∨ s = 1) : errR d s = (if mayT (sideL d s) then 0 else 8) ∧ readT d s = if mayT (sideL d s) then sideL d s else [] := by
  have h3 : errR d s = (if mayT (sideL d s) then 0 else 8) := by unfold errR; rw [errP_may h, if_pos hs, if_neg (by simp)]
  refine ⟨h3, ?_⟩
  unfold readT
  rw [h3]
  cases mayT (sideL d s) <;> rfl
/-- What is written on a side is read there; the other side stays. -/
theorem sides {d : DiskL} {s : Int} {t : List UInt8} (h : errX d s t = 0) : errR (outX d s t) s = 0 ∧ readT (outX d s t) s = t ∧ errR (outX d s t) (1 - s) = errR d (1 - s) ∧ readT (outX d s t) (1 - s) = readT d (1 - s) ∧ (outX d s t).waits.length = d.waits.length + 2 := by
  obtain ⟨m1, m2, m3, m4, m5⟩ := errX_zero h
  have hseen : ∀ q, seenD (outX d s t) q = if 5 + 2 * s = q then t.drop 128 else if 4 + 2 * s = q then t.take 128 else seenD d q := fun q => by
    rw [m5, seen_snoc, seen_snoc]
  have e1 : sideL (outX d s t) s = t := by
    unfold sideL
    rw [hseen, hseen, if_neg (by omega), if_pos rfl, if_pos rfl, List.take_append_drop]
  have e2 : sideL (outX d s t) (1 - s) = sideL d (1 - s) := by
    unfold sideL
    rw [hseen, hseen, if_neg (by omega), if_neg (by omega), if_neg (by omega), if_neg (by omega)]
  obtain ⟨a1, a2⟩ := side_zero (d := outX d s t) (s := s) m4 m2
  obtain ⟨b1, b2⟩ := side_zero (d := outX d s t) (s := 1 - s) m4 (by omega)
  obtain ⟨c1, c2⟩ := side_zero (d := d) (s := 1 - s) m1 (by omega)
  rw [e1, m3] at a1 a2
  rw [e2] at b1 b2
  exact ⟨a1, a2, b1.trans c1.symm, b2.trans c2.symm, by rw [m5]; simp⟩
/-- A table that is turned at one block has another sum. -/
theorem sum_turned {t : List UInt8} {p : Int} {b e : UInt8} (h : errT t p e = 0) (hb : b ≠ 0) : mayT (outT t p b e) = true ∧ crc (outT t p b e) ≠ crc t := by
  obtain ⟨h1, h2, h3, h4⟩ := errT_zero.1 h
  have hl := mayT_len h1
  have ho : outT t p b e = t.set p.toNat (t.getD p.toNat 0 + b) := by unfold outT; rw [if_pos h]
  rw [ho]
  refine ⟨by rw [mayT_set _ _ _ (by omega)]; exact h1, ?_⟩
  have hp : p.toNat < t.length := by omega
  have hs : t.set p.toNat (t.getD p.toNat 0 + b) = t.take p.toNat ++ [t.getD p.toNat 0 + b] ++ t.drop (p.toNat + 1) := by
    rw [List.set_eq_take_append_cons_drop, if_pos hp]
    simp
  have ht : t = t.take p.toNat ++ [t.getD p.toNat 0] ++ t.drop (p.toNat + 1) := by
    have := List.set_eq_take_append_cons_drop (l := t) (i := p.toNat) (a := t.getD p.toNat 0)
    rw [if_pos hp, set_getD t _ hp] at this
    rw [List.append_assoc]
    exact this
  rw [hs]
  intro hc
  rw [ht] at hc
  have hne : [t.getD p.toNat 0 + b] ≠ [t.getD p.toNat 0] := by
    intro hh
    injection hh with hh
    apply hb
    have h5 : t.getD p.toNat 0 + b - t.getD p.toNat 0 = t.getD p.toNat 0 - t.getD p.toNat 0 := by rw [hh]
    rwa [UInt8.sub_self, UInt8.add_comm, UInt8.add_sub_cancel] at h5
  have := crc_window (t.take p.toNat) [t.getD p.toNat 0 + b] [t.getD p.toNat 0] (t.drop (p.toNat + 1)) rfl (by simp) hne
  rw [← ht] at hc
  rw [← ht] at this
  exact this hc
end Go.Proofs.Ytfdogefoodljaaa

namespace Go.Proofs.Ytfdogefoodljaaa
open Go.RowKit

set_option maxRecDepth 100000 in
set_option maxHeartbeats 1000000 in
theorem alive7 (w : World) : Calls Try.prog 15 #[] w fun e w' => e = .returned (.bool true) ∧ Below w.heap.size w w' := by
  obtain ⟨R, hR⟩ : ∃ R, R = List.replicate 256 (0 : UInt8) := ⟨_, rfl⟩
  have hRe : errT R 9 255 = 0 := by rw [hR]; decide +kernel
  obtain ⟨A, hA⟩ : ∃ A, A = outT R 9 1 255 := ⟨_, rfl⟩
  have hAl : A.length = 256 := by rw [hA, hR]; decide +kernel
  have hA9 : A[9]? = some 1 := by rw [hA, hR]; decide +kernel
  have hd := down_up hRe
  rw [← hA] at hd
  have hc1 := fun w => cnew_any w
  have hc2 := fun v w h => cup_any v R 9 w h
  have hc3 := fun v w h => cdown_any v A 9 w h
  rw [← hR] at hc1
  rw [← hA, hRe] at hc2
  rw [hd.1, hd.2] at hc3
  have HC := Lib.hid (And.intro hc1 (And.intro hc2 hc3))
  have HA := Lib.hid hA9
  clear hc1 hc2 hc3 hd hA9 hA hRe hR
  go_enter Try.func15, Try.ntmps15
  go_wp2_with fail
  refine (HC.out.1 w).mono ?_
  rintro e w1 ⟨u1, rfl, hm1⟩
  go_wp2_with fail
  refine (HC.out.2.1 _ _ hm1.bytes.all0).mono ?_
  rintro e w2 ⟨u2, rfl, hm2⟩
  obtain ⟨b, off, c, rfl, -, -, -, -, -⟩ := hm2.bytes.at_n hAl (by omega)
  go_wp2_with fail
  refine (HC.out.2.2 _ _ hm2.bytes.all0).mono ?_
  rintro e w3 ⟨u3, rfl, hm3⟩
  have hB2 := below_step hm1.below hm1.below.size hm2.below
  have hB3 := below_step hB2 hB2.size hm3.below
  have ha := (hm2.bytes.step hm3.below)
  have ca := fun W => (ha.step (aft_below w3 W)).cellAt 9 1 HA.out
  have c3 := fun W => cv_of (hm3.bytes.step (aft_below w3 W))
  have i9 : (9 : Int).toNat = 9 := rfl
  clear hm1 hm2 HA
  simp only [bV] at ca
  go_wp2_with fail
  refine wp_region_held_drew (S := Cls w3) (by kernel_rfl) (Cls.drew w3) (fun hCl => ?_)
  refine wpAnyH_seg (fuel := 5) (by kernel_rfl) (fun _ d _ _ _ h => by cases d <;> exact h) hCl [0, 1, 2, 3, 4, 5, 6, 7, 8, 9, 10, 11, 12, 13, 14] _ _ _ (by kernel_rfl) (by kernel_rfl) ?_
  simp only [opsOf_cons, opsOf_nil, consOp_some, List.getElem?_toArray, List.getElem?_cons_succ, List.getElem?_cons_zero]
  repeat (first | go_big_quiet_step (fail) | quiet_step (fail))
  refine wpQuiet_nil ?_
  refine wpAnyH_each (fuel := 4) [15] (by kernel_rfl) (by simp) (by kernel_rfl) ?_
  refine Each.cons _ rfl (fun K' hK => ?_) Each.nil
  go_simp
  refine (HC.out.1 _).mono ?_
  rintro e w4 ⟨u4, rfl, hm4⟩
  have hst : Below w3.heap.size w3 w4 := (Below.refl w3.heap.size w3).drew.trans hm4.below
  have c4 := fun (W : World) => cv_of (hm4.bytes.step (aft_below w4 W))
  refine hK.out (Cls w4) (Cls.sub hst) (Cls.refl w4) ?_
  have hCl := Cls.refl w4
  clear hK K' c3 ca
  refine wpAnyH_seg (fuel := 0) (by kernel_rfl) (fun _ d _ _ _ h => by cases d <;> exact h) hCl [16, 17, 18, 19] _ _ _ (by kernel_rfl) (by kernel_rfl) ?_
  simp only [opsOf_cons, opsOf_nil, consOp_some, List.getElem?_toArray, List.getElem?_cons_succ, List.getElem?_cons_zero]
  repeat (first | go_big_quiet_step (fail) | quiet_step (fail))
  refine wpQuiet_nil ?_
  refine wpAnyH_done (by kernel_rfl) ?_ _
  go_wp2
  go_ret
  exact ⟨rfl, below_step hB3 hB3.size hst⟩

end Go.Proofs.Ytfdogefoodljaaa

