/- CountSides: the words and contracts, part 17. -/
import Derived.Test.YtfdogefoodljaaaCountSidesQ1
import Derived.Test.YtfdogefoodljaaaCountSidesQ2
import Derived.Test.YtfdogefoodljaaaCountSidesQ3
import Derived.Test.YtfdogefoodljaaaCountSidesQ4
import Derived.Test.YtfdogefoodljaaaCountSidesQ5
import Derived.Test.YtfdogefoodljaaaCountSidesQ6
import Derived.Test.YtfdogefoodljaaaCountSidesQ7
import Derived.Test.YtfdogefoodljaaaCountSidesQ8
import Derived.Test.YtfdogefoodljaaaCountSidesQ9
import Derived.Test.YtfdogefoodljaaaCountSidesQ10
import Derived.Test.YtfdogefoodljaaaCountSidesQ11
import Derived.Test.YtfdogefoodljaaaCountSidesQ12
import Derived.Test.YtfdogefoodljaaaCountSidesQ13
import Derived.Test.YtfdogefoodljaaaCountSidesQ14
import Derived.Test.YtfdogefoodljaaaCountSidesQ15
import Derived.Test.YtfdogefoodljaaaCountSidesQ16
import Derived.WalkKit
import Derived.WalkLawsBesides
import Derived.WalkSpells
import Derived.Lib.Hide
import Derived.Laws.Rows
import Derived.Laws.AppendOwnNone
import Derived.Maps.AppendAt
import Derived.ProofKit
import Derived.Deep.Slices
import Derived.WideShapes
import Derived.RangeFuncNested
import Derived.RangeFuncBound
import Derived.RangeFuncCalls
import Derived.RangeFuncLeaves
import Derived.RangeFuncBox
import Derived.Shelf.Abstract
import Derived.Shelf.RegionOpen
import Derived.OwnWalkIn
import Derived.TacticsInMore
import Derived.LoopNIn
import Derived.LoopIn
import Derived.Lib.AppendZerosOnto
import Derived.Lib.SliceRun
import Derived.Lib.Walk
import Derived.Deep.LoopGhost
import Derived.Laws.CopyOwn
import Derived.OrdersHeld
import Derived.Deep.QuietTactic
import Derived.BigQuiet
import Derived.StillTailTactics
import Derived.OpenShut
import Derived.Deep.DeepCutAuto
import Derived.Laws.CopyRow
import Derived.Laws.MakeOwn
import Derived.Deep.RegionHeld
import Derived.KernelRfl
import Derived.BigFrameIn
namespace Go.Proofs.Ytfdogefoodljaaa
open Go.RowKit

theorem outX_no {d : DiskL} {s : Int} {t : List UInt8} (h : errX d s t ≠ 0) : outX d s t = ⟨[], []⟩ := by unfold outX; rw [if_neg h]
theorem seen_snoc (bl : List (List UInt8)) (l : List WrL) (p q : Int) (x : List UInt8) : seenD ⟨bl, l ++ [⟨p, x⟩]⟩ q = if p = q then x else seenD ⟨bl, l⟩ q := by
  unfold seenD
  simp only [lastW_app]
  by_cases e : p = q
  · rw [if_pos e, if_pos e]
  · rw [if_neg e, if_neg e]
/-- What a write comes to. -/
theorem errX_zero {d : DiskL} {s : Int} {t : List UInt8} (h : errX d s t = 0) : mayD d = true ∧ (s = 0 ∨ s = 1) ∧ mayT t = true ∧ mayD (outX d s t) = true ∧
    outX d s t = ⟨d.blocks, d.waits ++ [⟨4 + 2 * s, t.take 128⟩] ++ [⟨5 + 2 * s, t.drop 128⟩]⟩ := by
  have h0 := h
  unfold errX at h
  by_cases hz : errP d s = 0
  · rw [if_neg (by simp [hz])] at h
    obtain ⟨m1, m2⟩ := errP_zero hz
    cases hm : mayT t with
    | false => rw [hm] at h; cases h
    | true =>
      rw [hm, if_pos rfl] at h
      have hp : plcP d s = 4 + 2 * s := by unfold plcP; rw [hz, if_pos rfl]
      have hl := mayT_len hm
      have e2 : stC t d (plcP d s) (chL 2) = stepC t (stepC t (d, plcP d s, 0) 0) 1 := by rw [show chL 2 = [0] ++ [1] from rfl, stC_app, show ([0] : List (Fin 2)) = [] ++ [0] from rfl, stC_app]; rfl
      have k1 : stepC t (d, plcP d s, 0) 0 = (writeD d (4 + 2 * s) (t.take 128), 4 + 2 * s + 1, errW d (4 + 2 * s) (t.take 128)) := by
        unfold stepC
        rw [if_neg (by simp), hp]
        simp
      rw [e2, k1] at h
      by_cases z1 : errW d (4 + 2 * s) (t.take 128) = 0
      · have k2 : stepC t (writeD d (4 + 2 * s) (t.take 128), 4 + 2 * s + 1, errW d (4 + 2 * s) (t.take 128)) 1 = (writeD (writeD d (4 + 2 * s) (t.take 128)) (4 + 2 * s + 1) (t.drop 128), 4 + 2 * s + 1 + 1, errW (writeD d (4 + 2 * s) (t.take 128)) (4 + 2 * s + 1) (t.drop 128)) := by
          unfold stepC
          rw [if_neg (by simp [z1])]
          have : (t.drop ((1 : Fin 2).1 * 128)).take 128 = t.drop 128 := by
            show (t.drop (1 * 128)).take 128 = _
            rw [Nat.one_mul]
            exact List.take_of_length_le (by simp; omega)
          simp only [this]
        rw [k2] at h
        simp only at h
        obtain ⟨w1, w2⟩ := write_may z1
        obtain ⟨w3, w4⟩ := write_may h
        have ho : outX d s t = writeD (writeD d (4 + 2 * s) (t.take 128)) (4 + 2 * s + 1) (t.drop 128) := by
          unfold outX
          rw [if_pos h0, e2, k1, k2]
        rw [ho]
        refine ⟨m1, m2, by trivial, w4, ?_⟩
        rw [w3, w1, show (4 + 2 * s + 1 : Int) = 5 + 2 * s by omega]
      · exfalso
        unfold stepC at h
        rw [if_pos z1] at h
        exact z1 h
  · rw [if_pos hz] at h
    exact absurd h hz
theorem errP_may {d : DiskL} (h : mayD d = true) (s : Int) : errP d s = if s = 0 ∨ s = 1 then 0 else 2 := by unfold errP; rw [h]; rfl
theorem side_zero {d : DiskL} {s : Int} (h : mayD d = true) (hs : s = 0 ∨ s = 1) : errR d s = (if mayT (sideL d s) then 0 else 8) ∧ readT d s = if mayT (sideL d s) then sideL d s else [] := by
  have h3 : errR d s = (if mayT (sideL d s) then 0 else 8) := by unfold errR; rw [errP_may h, if_pos hs, if_neg (by simp)]
  refine ⟨h3, ?_⟩
  unfold readT
  rw [h3]
  cases mayT (sideL d s) <;> rfl
/-- What is written on a side is read there; the other side stays. -/
theorem sides {d : DiskL} {s : Int} {t : List UInt8} (h : errX d s t = 0) : errR (outX d s t) s = 0 ∧ readT (outX d s t) s = t ∧ errR (outX d s t) (1 - s) = errR d (1 - s) ∧ readT (outX d s t) (1 - s) = readT d (1 - s) ∧ (outX d s t).waits.length = d.waits.length + 2 := by
  obtain ⟨m1, m2, m3, m4, m5⟩ := errX_zero h
  have hseen : ∀ q, seenD (outX d s t) q = if 5 + 2 * s = q then t.drop 128 else if 4 + 2 * s = q then t.take 128 else seenD d q := fun q => by
    rw [m5, seen_snoc, seen_snoc]
  have e1 : sideL (outX d s t) s = t := by
    unfold sideL
    rw [hseen, hseen, if_neg (by omega), if_pos rfl, if_pos rfl, List.take_append_drop]
  have e2 : sideL (outX d s t) (1 - s) = sideL d (1 - s) := by
    unfold sideL
    rw [hseen, hseen, if_neg (by omega), if_neg (by omega), if_neg (by omega), if_neg (by omega)]
  obtain ⟨a1, a2⟩ := side_zero (d := outX d s t) (s := s) m4 m2
  obtain ⟨b1, b2⟩ := side_zero (d := outX d s t) (s := 1 - s) m4 (by omega)
  obtain ⟨c1, c2⟩ := side_zero (d := d) (s := 1 - s) m1 (by omega)
  rw [e1, m3] at a1 a2
  rw [e2] at b1 b2
  exact ⟨a1, a2, b1.trans c1.symm, b2.trans c2.symm, by rw [m5]; simp⟩
end Go.Proofs.Ytfdogefoodljaaa

namespace Go.Proofs.Ytfdogefoodljaaa
open Go.RowKit

set_option maxRecDepth 100000 in
set_option maxHeartbeats 1000000 in
theorem alive7 (w : World) : Calls Try.prog 15 #[] w fun e w' => e = .returned (.bool true) ∧ Below w.heap.size w w' := by
  obtain ⟨R, hR⟩ : ∃ R, R = List.replicate 256 (0 : UInt8) := ⟨_, rfl⟩
  have hRe : errT R 9 255 = 0 := by rw [hR]; decide +kernel
  obtain ⟨A, hA⟩ : ∃ A, A = outT R 9 1 255 := ⟨_, rfl⟩
  have hAl : A.length = 256 := by rw [hA, hR]; decide +kernel
  have hA9 : A[9]? = some 1 := by rw [hA, hR]; decide +kernel
  have hd := down_up hRe
  rw [← hA] at hd
  have hc1 := fun w => cnew_any w
  have hc2 := fun v w h => cup_any v R 9 w h
  have hc3 := fun v w h => cdown_any v A 9 w h
  rw [← hR] at hc1
  rw [← hA, hRe] at hc2
  rw [hd.1, hd.2] at hc3
  have HC := Lib.hid (And.intro hc1 (And.intro hc2 hc3))
  have HA := Lib.hid hA9
  clear hc1 hc2 hc3 hd hA9 hA hRe hR
  go_enter Try.func15, Try.ntmps15
  go_wp2_with fail
  refine (HC.out.1 w).mono ?_
  rintro e w1 ⟨u1, rfl, hm1⟩
  go_wp2_with fail
  refine (HC.out.2.1 _ _ hm1.bytes.all0).mono ?_
  rintro e w2 ⟨u2, rfl, hm2⟩
  obtain ⟨b, off, c, rfl, -, -, -, -, -⟩ := hm2.bytes.at_n hAl (by omega)
  go_wp2_with fail
  refine (HC.out.2.2 _ _ hm2.bytes.all0).mono ?_
  rintro e w3 ⟨u3, rfl, hm3⟩
  have hB2 := below_step hm1.below hm1.below.size hm2.below
  have hB3 := below_step hB2 hB2.size hm3.below
  have ha := (hm2.bytes.step hm3.below)
  have ca := fun W => (ha.step (aft_below w3 W)).cellAt 9 1 HA.out
  have c3 := fun W => cv_of (hm3.bytes.step (aft_below w3 W))
  have i9 : (9 : Int).toNat = 9 := rfl
  clear hm1 hm2 HA
  simp only [bV] at ca
  go_wp2_with fail
  refine wp_region_held_drew (S := Cls w3) (by kernel_rfl) (Cls.drew w3) (fun hCl => ?_)
  refine wpAnyH_seg (fuel := 5) (by kernel_rfl) (fun _ d _ _ _ h => by cases d <;> exact h) hCl [0, 1, 2, 3, 4, 5, 6, 7, 8, 9, 10, 11, 12, 13, 14] _ _ _ (by kernel_rfl) (by kernel_rfl) ?_
  simp only [opsOf_cons, opsOf_nil, consOp_some, List.getElem?_toArray, List.getElem?_cons_succ, List.getElem?_cons_zero]
  repeat (first | go_big_quiet_step (fail) | quiet_step (fail))
  refine wpQuiet_nil ?_
  refine wpAnyH_each (fuel := 4) [15] (by kernel_rfl) (by simp) (by kernel_rfl) ?_
  refine Each.cons _ rfl (fun K' hK => ?_) Each.nil
  go_simp
  refine (HC.out.1 _).mono ?_
  rintro e w4 ⟨u4, rfl, hm4⟩
  have hst : Below w3.heap.size w3 w4 := (Below.refl w3.heap.size w3).drew.trans hm4.below
  have c4 := fun (W : World) => cv_of (hm4.bytes.step (aft_below w4 W))
  refine hK.out (Cls w4) (Cls.sub hst) (Cls.refl w4) ?_
  have hCl := Cls.refl w4
  clear hK K' c3 ca
  refine wpAnyH_seg (fuel := 0) (by kernel_rfl) (fun _ d _ _ _ h => by cases d <;> exact h) hCl [16, 17, 18, 19] _ _ _ (by kernel_rfl) (by kernel_rfl) ?_
  simp only [opsOf_cons, opsOf_nil, consOp_some, List.getElem?_toArray, List.getElem?_cons_succ, List.getElem?_cons_zero]
  repeat (first | go_big_quiet_step (fail) | quiet_step (fail))
  refine wpQuiet_nil ?_
  refine wpAnyH_done (by kernel_rfl) ?_ _
  go_wp2
  go_ret
  exact ⟨rfl, below_step hB3 hB3.size hst⟩

end Go.Proofs.Ytfdogefoodljaaa

namespace Go.Proofs.Ytfdogefoodljaaa
open Go.RowKit

set_option maxRecDepth 100000 in
set_option maxHeartbeats 2000000 in
theorem countSides_walk (d : DiskL) (b_d u_d : Value) (s : Int) (v_t : Value) (t : List UInt8) (w : World) (h_d : DiskV w 0 w.heap.size b_d u_d d) (_ws : (Lit.int .i64 s).wf = true) (h_t : Bytes w 0 w.heap.size v_t t) :
    Calls Try.prog 5 #[.agg #[b_d, u_d], .int .i64 s, v_t] w fun e w' => e = .returned (.bool true) ∧ Below w.heap.size w w' := by
  obtain ⟨ab_d, cb_d, rfl, gb_d, gc_d, -, -⟩ := h_d.1
  obtain ⟨au_d, cu_d, rfl, gu_d, gv_d, -, -⟩ := h_d.2
  unfold maxLen at gc_d gv_d
  obtain ⟨a_t, c_t, rfl, g_t, gm_t⟩ := h_t.form rfl
  unfold maxLen at gm_t
  have hst := ((Below.refl w.heap.size w).alloc (Nat.le_refl _) (.cells #[.slice ab_d d.blocks.length cb_d, .slice au_d d.waits.length cu_d] 33))
  have q_d := LK.new w (.cells #[.slice ab_d d.blocks.length cb_d, .slice au_d d.waits.length cu_d] 33)
  have hB : LW w _ := hst
  have D_d := (LD.of h_d (Nat.le_refl _)).step hst
  have B_t := (LB.of h_t (Nat.le_refl _)).step hst
  have sz_V : w.heap.size + 0 < (w.alloc (.cells #[.slice ab_d d.blocks.length cb_d, .slice au_d d.waits.length cu_d] 33)).heap.size := by simp
  obtain ⟨V, hV⟩ : ∃ V, (w.alloc (.cells #[.slice ab_d d.blocks.length cb_d, .slice au_d d.waits.length cu_d] 33)) = V := ⟨_, rfl⟩
  rw [hV] at sz_V q_d D_d B_t hB
  clear hst h_d h_t
  have HQ := Lib.hid (And.intro q_d (And.intro D_d (And.intro B_t hB)))
  clear q_d D_d B_t hB
  have c_q_d0 := LK.cell HQ.out.1 0
  have c_q_d1 := LK.cell HQ.out.1 1
  simp at c_q_d0 c_q_d1
  have hno := outX_no (d := d) (s := s) (t := t)
  have hss := fun h => (errX_zero (d := d) (s := s) (t := t) h).2.1
  have hyes := sides (d := d) (s := s) (t := t)
  obtain ⟨W, hW⟩ : ∃ W, outX d s t = W := ⟨_, rfl⟩
  obtain ⟨ex, hex⟩ : ∃ ex, errX d s t = ex := ⟨_, rfl⟩
  have k_w := fun V b u v h1 h2 => cwrite_any b u d s v t V h1 h2
  rw [hW, hex] at k_w hno hyes
  rw [hex] at hss
  have k_g := fun V hh => great_any (.slice ab_d d.blocks.length cb_d) (.slice au_d d.waits.length cu_d) d V hh
  have k_r := fun V b u hh => cread_any b u W s V hh
  have k_x := fun V b u hh => cread_any b u d (1 - s) V hh
  have k_y := fun V b u hh => cread_any b u W (1 - s) V hh
  obtain ⟨er, her⟩ : ∃ er, errR W s = er := ⟨_, rfl⟩
  obtain ⟨rt, hrt⟩ : ∃ rt, readT W s = rt := ⟨_, rfl⟩
  obtain ⟨e2, he2⟩ : ∃ e2, errR W (1 - s) = e2 := ⟨_, rfl⟩
  obtain ⟨r2, hr2⟩ : ∃ r2, readT W (1 - s) = r2 := ⟨_, rfl⟩
  obtain ⟨e3, he3⟩ : ∃ e3, errR d (1 - s) = e3 := ⟨_, rfl⟩
  obtain ⟨r3, hr3⟩ : ∃ r3, readT d (1 - s) = r3 := ⟨_, rfl⟩
  rw [her, hrt] at k_r
  rw [he2, hr2] at k_y
  rw [he3, hr3] at k_x
  rw [her, hrt, he2, hr2, he3, hr3] at hyes
  have HN := Lib.hid (And.intro hno (And.intro hyes hss))
  clear hss hno hyes hW hex her hrt he2 hr2 he3 hr3
  have HC := Lib.hid (And.intro k_w (And.intro k_g (And.intro k_r (And.intro k_x k_y))))
  clear k_w k_g k_r k_x k_y
  go_enter Try.func5, Try.ntmps5
  go_upto_region 1 with (fail)
  clear hV
  go_wp2_with fail
  refine (alive7 V).mono ?_
  rintro e w1 ⟨rfl, hst⟩
  clear c_q_d0 c_q_d1
  obtain ⟨q_d, D_d, B_t, hB⟩ := HQ.out
  clear HQ
  have sz_w1 : V.heap.size ≤ w1.heap.size := hst.size
  replace q_d := q_d.step hst
  replace D_d := D_d.step hst
  replace B_t := B_t.step hst
  replace hB := hB.step hst
  clear hst
  have HQ := Lib.hid (And.intro q_d (And.intro D_d (And.intro B_t hB)))
  clear q_d D_d B_t hB
  have c_q_d0 := LK.cell HQ.out.1 0
  have c_q_d1 := LK.cell HQ.out.1 1
  simp at c_q_d0 c_q_d1
  go_wp2_with fail
  refine (HC.out.2.1 _ HQ.out.2.1.v).mono ?_
  rintro e w2 ⟨g, rfl, hst, hg1⟩
  clear c_q_d0 c_q_d1
  obtain ⟨q_d, D_d, B_t, hB⟩ := HQ.out
  clear HQ
  have sz_w2 : w1.heap.size ≤ w2.heap.size := hst.size
  replace q_d := q_d.step hst
  replace D_d := D_d.step hst
  replace B_t := B_t.step hst
  replace hB := hB.step hst
  clear hst
  have HQ := Lib.hid (And.intro q_d (And.intro D_d (And.intro B_t hB)))
  clear q_d D_d B_t hB
  have c_q_d0 := LK.cell HQ.out.1 0
  have c_q_d1 := LK.cell HQ.out.1 1
  simp at c_q_d0 c_q_d1
  cases g
  case true =>
    go_wp2
    go_ret
    exact ⟨rfl, HQ.out.2.2.2⟩
  obtain ⟨hn1, hn2, -⟩ := hg1 rfl
  clear hg1
  by_cases hl : 10000 < t.length
  · have i1 : (10000 : Int) < t.length := by omega
    go_wp2
    go_ret
    exact ⟨rfl, HQ.out.2.2.2⟩
  have i1 : decide ((10000 : Int) < t.length) = false := by simp; omega
  go_wp2_with fail
  refine (HC.out.1 _ _ _ _ HQ.out.2.1.v HQ.out.2.2.1.v).mono ?_
  rintro e w3 ⟨b1, u1, rfl, hm⟩
  clear c_q_d0 c_q_d1
  obtain ⟨q_d, D_d, B_t, hB⟩ := HQ.out
  clear HQ
  have D_W := LT.of hm
  have hst := hm.below
  obtain ⟨ab_W, cb_W, rfl, -, -, -, -⟩ := hm.v0.1
  obtain ⟨au_W, cu_W, rfl, -, -, -, -⟩ := hm.v0.2
  clear hm
  have sz_w3 : w2.heap.size ≤ w3.heap.size := hst.size
  replace q_d := q_d.step hst
  replace D_d := D_d.step hst
  replace B_t := B_t.step hst
  replace hB := hB.step hst
  clear hst
  have HQ := Lib.hid (And.intro q_d (And.intro D_d (And.intro B_t (And.intro D_W hB))))
  clear q_d D_d B_t D_W hB
  have c_q_d0 := LK.cell HQ.out.1 0
  have c_q_d1 := LK.cell HQ.out.1 1
  simp at c_q_d0 c_q_d1
  go_upto_region 7 with (fail)
  clear c_q_d0 c_q_d1
  obtain ⟨q_d, D_d, B_t, D_W, hB⟩ := HQ.out
  clear HQ
  have hst := (Below.refl w3.heap.size w3).alloc (Nat.le_refl _) (.cells #[.slice ab_W W.blocks.length cb_W, .slice au_W W.waits.length cu_W] 33)
  have hlt : w3.heap.size < (w3.alloc (.cells #[.slice ab_W W.blocks.length cb_W, .slice au_W W.waits.length cu_W] 33)).heap.size := by simp
  have q_W := LK.new w3 (.cells #[.slice ab_W W.blocks.length cb_W, .slice au_W W.waits.length cu_W] 33)
  replace q_d := q_d.step hst
  replace D_d := D_d.step hst
  replace B_t := B_t.step hst
  replace D_W := D_W.step hst
  replace hB := hB.step hst
  obtain ⟨w4, hw⟩ : ∃ v, w3.alloc (.cells #[.slice ab_W W.blocks.length cb_W, .slice au_W W.waits.length cu_W] 33) = v := ⟨_, rfl⟩
  rw [hw] at hlt q_W q_d D_d B_t D_W hB ⊢
  clear hw hst
  have sz_w4 := hlt
  clear hlt
  have HQ := Lib.hid (And.intro q_d (And.intro D_d (And.intro B_t (And.intro D_W (And.intro q_W hB)))))
  clear q_d D_d B_t D_W q_W hB
  have c_q_d0 := LK.cell HQ.out.1 0
  have c_q_d1 := LK.cell HQ.out.1 1
  have c_q_W0 := LK.cell HQ.out.2.2.2.2.1 0
  have c_q_W1 := LK.cell HQ.out.2.2.2.2.1 1
  simp at c_q_d0 c_q_d1 c_q_W0 c_q_W1
  by_cases hz : ex = 0
  case neg =>
    have i2 : (ex != 0) = true := by simp [hz]
    have hwz : (W.blocks.length : Int) = 0 := by rw [HN.out.1 hz]; rfl
    go_wp2
    go_ret
    exact ⟨rfl, HQ.out.2.2.2.2.2⟩
  subst hz
  obtain ⟨y1, y2, y3, y4, y5⟩ := HN.out.2.1 rfl
  have hs0 : 0 ≤ s ∧ s ≤ 1 := by have := HN.out.2.2 rfl; omega
  obtain ⟨hs0, hs1⟩ := hs0
  subst y1 y2 y3 y4
  have hwl : (W.waits.length : Int) = (d.waits.length : Int) + 2 := by omega
  have HWL := Lib.hid hwl
  clear hwl y5 HN i1
  go_wp2_with fail
  refine (HC.out.2.2.1 _ _ _ HQ.out.2.2.2.1.v).mono ?_
  rintro e w5 ⟨v2, rfl, hm⟩
  clear c_q_d0 c_q_d1 c_q_W0 c_q_W1
  obtain ⟨q_d, D_d, B_t, D_W, q_W, hB⟩ := HQ.out
  clear HQ
  have B_r := LM.of hm
  have hst := hm.below
  obtain ⟨a_r, c_r, rfl, -, -⟩ := hm.bytes.form rfl
  clear hm
  have sz_w5 : w4.heap.size ≤ w5.heap.size := hst.size
  replace q_d := q_d.step hst
  replace D_d := D_d.step hst
  replace B_t := B_t.step hst
  replace D_W := D_W.step hst
  replace q_W := q_W.step hst
  replace hB := hB.step hst
  clear hst
  have HQ := Lib.hid (And.intro q_d (And.intro D_d (And.intro B_t (And.intro D_W (And.intro q_W (And.intro B_r hB))))))
  clear q_d D_d B_t D_W q_W B_r hB
  have c_q_d0 := LK.cell HQ.out.1 0
  have c_q_d1 := LK.cell HQ.out.1 1
  have c_q_W0 := LK.cell HQ.out.2.2.2.2.1 0
  have c_q_W1 := LK.cell HQ.out.2.2.2.2.1 1
  simp at c_q_d0 c_q_d1 c_q_W0 c_q_W1
  go_wp2_with fail
  refine (HC.out.2.2.2.1 _ _ _ HQ.out.2.1.v).mono ?_
  rintro e w6 ⟨v3, rfl, hm⟩
  clear c_q_d0 c_q_d1 c_q_W0 c_q_W1
  obtain ⟨q_d, D_d, B_t, D_W, q_W, B_r, hB⟩ := HQ.out
  clear HQ
  have B_x := LM.of hm
  have hst := hm.below
  obtain ⟨a_x, c_x, rfl, -, -⟩ := hm.bytes.form rfl
  clear hm
  have sz_w6 : w5.heap.size ≤ w6.heap.size := hst.size
  replace q_d := q_d.step hst
  replace D_d := D_d.step hst
  replace B_t := B_t.step hst
  replace D_W := D_W.step hst
  replace q_W := q_W.step hst
  replace B_r := B_r.step hst
  replace hB := hB.step hst
  clear hst
  have HQ := Lib.hid (And.intro q_d (And.intro D_d (And.intro B_t (And.intro D_W (And.intro q_W (And.intro B_r (And.intro B_x hB)))))))
  clear q_d D_d B_t D_W q_W B_r B_x hB
  have c_q_d0 := LK.cell HQ.out.1 0
  have c_q_d1 := LK.cell HQ.out.1 1
  have c_q_W0 := LK.cell HQ.out.2.2.2.2.1 0
  have c_q_W1 := LK.cell HQ.out.2.2.2.2.1 1
  simp at c_q_d0 c_q_d1 c_q_W0 c_q_W1
  go_wp2_with fail
  refine (HC.out.2.2.2.2 _ _ _ HQ.out.2.2.2.1.v).mono ?_
  rintro e w7 ⟨v4, rfl, hm⟩
  clear c_q_d0 c_q_d1 c_q_W0 c_q_W1
  obtain ⟨q_d, D_d, B_t, D_W, q_W, B_r, B_x, hB⟩ := HQ.out
  clear HQ
  have B_y := LM.of hm
  have hst := hm.below
  obtain ⟨a_y, c_y, rfl, -, -⟩ := hm.bytes.form rfl
  clear hm
  have sz_w7 : w6.heap.size ≤ w7.heap.size := hst.size
  replace q_d := q_d.step hst
  replace D_d := D_d.step hst
  replace B_t := B_t.step hst
  replace D_W := D_W.step hst
  replace q_W := q_W.step hst
  replace B_r := B_r.step hst
  replace B_x := B_x.step hst
  replace hB := hB.step hst
  clear hst
  have HQ := Lib.hid (And.intro q_d (And.intro D_d (And.intro B_t (And.intro D_W (And.intro q_W (And.intro B_r (And.intro B_x (And.intro B_y hB))))))))
  clear q_d D_d B_t D_W q_W B_r B_x B_y hB
  have c_q_d0 := LK.cell HQ.out.1 0
  have c_q_d1 := LK.cell HQ.out.1 1
  have c_q_W0 := LK.cell HQ.out.2.2.2.2.1 0
  have c_q_W1 := LK.cell HQ.out.2.2.2.2.1 1
  simp at c_q_d0 c_q_d1 c_q_W0 c_q_W1
  have t1 := cv_of HQ.out.2.2.2.2.2.1.v
  have t2 := cv_of HQ.out.2.2.1.v
  have t3 := cv_of HQ.out.2.2.2.2.2.2.1.v
  have t4 := cv_of HQ.out.2.2.2.2.2.2.2.1.v
  have hwl := HWL.out
  go_wp2
  go_ret
  exact ⟨rfl, HQ.out.2.2.2.2.2.2.2.2⟩
end Go.Proofs.Ytfdogefoodljaaa

