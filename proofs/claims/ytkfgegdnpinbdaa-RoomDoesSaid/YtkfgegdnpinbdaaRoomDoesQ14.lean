/- RoomDoes: the words and contracts, part 14. -/
import Derived.Test.YtkfgegdnpinbdaaRoomDoesQ1
import Derived.Test.YtkfgegdnpinbdaaRoomDoesQ2
import Derived.Test.YtkfgegdnpinbdaaRoomDoesQ3
import Derived.Test.YtkfgegdnpinbdaaRoomDoesQ4
import Derived.Test.YtkfgegdnpinbdaaRoomDoesQ5
import Derived.Test.YtkfgegdnpinbdaaRoomDoesQ6
import Derived.Test.YtkfgegdnpinbdaaRoomDoesQ7
import Derived.Test.YtkfgegdnpinbdaaRoomDoesQ8
import Derived.Test.YtkfgegdnpinbdaaRoomDoesQ10
import Derived.Test.YtkfgegdnpinbdaaRoomDoesQ11
import Derived.Test.YtkfgegdnpinbdaaRoomDoesQ12
import Derived.Test.YtkfgegdnpinbdaaRoomDoesQ13
import Derived.WalkKit
import Derived.WalkLawsBesides
import Derived.WalkSpells
import Derived.Lib.Hide
import Derived.Laws.Rows
import Derived.Laws.AppendOwnNone
import Derived.Maps.AppendAt
import Derived.ProofKit
import Derived.Deep.Slices
import Derived.WideShapes
import Derived.RangeFuncNested
import Derived.RangeFuncBound
import Derived.RangeFuncCalls
import Derived.RangeFuncLeaves
import Derived.RangeFuncBox
import Derived.Shelf.Abstract
import Derived.Shelf.RegionOpen
import Derived.OwnWalkIn
import Derived.TacticsInMore
import Derived.LoopNIn
import Derived.LoopIn
import Derived.Lib.AppendZerosOnto
import Derived.Lib.SliceRun
import Derived.Lib.Walk
import Derived.Deep.LoopGhost
import Derived.Laws.CopyOwn
import Derived.Laws.CopyRow
import Derived.OrdersHeld
import Derived.Deep.QuietTactic
import Derived.BigQuiet
import Derived.StillTailTactics
import Derived.OpenShut
import Derived.Deep.DeepCutAuto
import Derived.Laws.MakeOwn
import Derived.Deep.RegionHeld
import Derived.KernelRfl
import Derived.BigFrameIn
import Derived.OrdersIn
namespace Go.Proofs.Ytkfgegdnpinbdaa
open Go.RowKit Go.Shelf
attribute [local go_sem] Oper.semAt_some encF

theorem StoreT.ck {w w' : World} {lo : Nat} {b u x y : Value} {s : StoreL} (h : StoreT w lo w.heap.size b u x y s) (hc : CKc w w') (hs : w.heap.size ≤ w'.heap.size) : StoreT w' lo w'.heap.size b u x y s :=
  StoreT.more (w := w') (lo := lo) (hi := w.heap.size) ⟨⟨Sl.ck rBytesT_ck h.1.1 hc, Sl.ck rWriteT_ck h.1.2 hc⟩, ⟨h.2.1.1.ck hc, thawed_ck hc h.2.1.1 h.2.1.2⟩, ⟨h.2.2.1.ck hc, thawed_ck hc h.2.2.1 h.2.2.2⟩⟩ (Nat.le_refl _) hs
/-- What Take comes to at place p. -/
def atOf (s : StoreL) (b : List UInt8) (p : Nat) : StoreL × Int × Int := if errW s.disk p b = 0 then (⟨writeD s.disk p b, s.now.set p 1, s.last⟩, (p : Int), 0) else (noS, 0, errW s.disk p b)
theorem take_cases (s : StoreL) (b : List UInt8) : (mayS s = false ∧ errTk s b = 8 ∧ atTk s b = 0 ∧ takeS s b = noS) ∨ (mayS s = true ∧ b.length ≠ 128 ∧ errTk s b = 3 ∧ atTk s b = 0 ∧ takeS s b = noS) ∨
    (mayS s = true ∧ b.length = 128 ∧ (freeS s = [] → errTk s b = 9 ∧ atTk s b = 0 ∧ takeS s b = noS) ∧ ∀ p r, freeS s = p :: r → atOf s b p = (takeS s b, atTk s b, errTk s b)) := by
  have hz : ∀ e : Int, e ≠ 0 → errTk s b = e → atTk s b = 0 ∧ takeS s b = noS := fun e h1 h2 => by unfold atTk takeS; rw [h2, if_neg h1, if_neg h1]; exact ⟨rfl, rfl⟩
  cases hm : mayS s with
  | false =>
    have h : errTk s b = 8 := by unfold errTk; rw [hm]; rfl
    exact .inl ⟨rfl, h, hz 8 (by decide) h⟩
  | true =>
    by_cases hl : b.length = 128
    · refine .inr (.inr ⟨rfl, hl, fun hf => ?_, fun p r hf => ?_⟩)
      · have h : errTk s b = 9 := by unfold errTk; rw [hm, if_pos rfl, if_pos hl, hf]
        exact ⟨h, hz 9 (by decide) h⟩
      · have h : errTk s b = errW s.disk p b := by unfold errTk; rw [hm, if_pos rfl, if_pos hl, hf]
        have hh : headS s = p := by unfold headS; rw [hf]; rfl
        unfold atOf
        by_cases he : errW s.disk p b = 0
        · rw [if_pos he]
          unfold takeS atTk
          rw [h, if_pos he, if_pos he, hh, he]
        · rw [if_neg he, (hz _ he h).1, (hz _ he h).2, h]
    · have h : errTk s b = 3 := by unfold errTk; rw [hm, if_pos rfl, if_neg hl]
      exact .inr (.inl ⟨rfl, hl, h, hz 3 (by decide) h⟩)

set_option maxRecDepth 100000 in
set_option maxHeartbeats 1000000 in
theorem stake_no (b_s u_s x_s y_s : Value) (s : StoreL) (v_b : Value) (b : List UInt8) (w : World) (h_s : StoreV w 0 w.heap.size b_s u_s x_s y_s s) (h_b : Bytes w 0 w.heap.size v_b b) (hn : mayS s = false ∨ b.length ≠ 128) :
    Calls Try.prog 9 #[.agg #[b_s, u_s, x_s, y_s], v_b] w fun e w' => ∃ b' u' x' y', e = .returned (.tuple #[.agg #[b', u', x', y'], .int .i64 (atTk s b), .int .i64 (errTk s b)]) ∧ MadeS w w' b' u' x' y' (takeS s b) := by
  obtain ⟨ab_s, cb_s, rfl, gb_s, gc_s, -, -⟩ := h_s.1.1
  obtain ⟨au_s, cu_s, rfl, gu_s, gv_s, -, -⟩ := h_s.1.2
  obtain ⟨ax_s, cx_s, rfl, gx_s, gz_s⟩ := h_s.2.1.form rfl
  obtain ⟨ay_s, cy_s, rfl, gy_s, gw_s⟩ := h_s.2.2.form rfl
  unfold maxLen at gc_s gv_s gz_s gw_s
  obtain ⟨a_b, c_b, rfl, g_b, gm_b⟩ := h_b.form rfl
  unfold maxLen at gm_b
  have hst := ((((((Below.refl w.heap.size w).alloc (Nat.le_refl _) (.cells #[.slice ab_s s.disk.blocks.length cb_s, .slice au_s s.disk.waits.length cu_s, .slice ax_s s.now.length cx_s, .slice ay_s s.last.length cy_s] 28)).alloc (by simp) (.cells #[.slice a_b b.length c_b] 26)).alloc (by simp; omega) (.cells #[.slice none 0 0, .slice none 0 0, .slice none 0 0, .slice none 0 0] 28)).alloc (by simp; omega) (.cells #[.int .i64 0] 3)).alloc (by simp; omega) (.cells #[.int .i64 0] 32))
  have hq := five_new w (.cells #[.slice ab_s s.disk.blocks.length cb_s, .slice au_s s.disk.waits.length cu_s, .slice ax_s s.now.length cx_s, .slice ay_s s.last.length cy_s] 28) (.cells #[.slice a_b b.length c_b] 26) (.cells #[.slice none 0 0, .slice none 0 0, .slice none 0 0, .slice none 0 0] 28) (.cells #[.int .i64 0] 3) (.cells #[.int .i64 0] 32)
  have q_s := LK.of hq.1
  have q_bb := LK.of hq.2.1
  have q_r := LK.of hq.2.2.1
  have q_a := LK.of hq.2.2.2.1
  have q_e := LK.of hq.2.2.2.2
  have hB : LW w _ := hst
  have O_s := (LO.of h_s (Nat.le_refl _)).step hst
  have B_b := (LB.of h_b (Nat.le_refl _)).step hst
  have sz_V : w.heap.size + 4 < (((((w.alloc (.cells #[.slice ab_s s.disk.blocks.length cb_s, .slice au_s s.disk.waits.length cu_s, .slice ax_s s.now.length cx_s, .slice ay_s s.last.length cy_s] 28)).alloc (.cells #[.slice a_b b.length c_b] 26)).alloc (.cells #[.slice none 0 0, .slice none 0 0, .slice none 0 0, .slice none 0 0] 28)).alloc (.cells #[.int .i64 0] 3)).alloc (.cells #[.int .i64 0] 32)).heap.size := by simp
  obtain ⟨V, hV⟩ : ∃ V, (((((w.alloc (.cells #[.slice ab_s s.disk.blocks.length cb_s, .slice au_s s.disk.waits.length cu_s, .slice ax_s s.now.length cx_s, .slice ay_s s.last.length cy_s] 28)).alloc (.cells #[.slice a_b b.length c_b] 26)).alloc (.cells #[.slice none 0 0, .slice none 0 0, .slice none 0 0, .slice none 0 0] 28)).alloc (.cells #[.int .i64 0] 3)).alloc (.cells #[.int .i64 0] 32)) = V := ⟨_, rfl⟩
  rw [hV] at sz_V q_s q_bb q_r q_a q_e O_s B_b hB
  clear hst h_s h_b hq
  have HQ := Lib.hid (And.intro q_s (And.intro q_bb (And.intro q_r (And.intro q_a (And.intro q_e (And.intro O_s (And.intro B_b hB)))))))
  clear q_s q_bb q_r q_a q_e O_s B_b hB
  have c_q_s0 := LK.cell HQ.out.1 0
  have c_q_s1 := LK.cell HQ.out.1 1
  have c_q_s2 := LK.cell HQ.out.1 2
  have c_q_s3 := LK.cell HQ.out.1 3
  have c_q_bb0 := LK.cell HQ.out.2.1 0
  have c_q_r0 := LK.cell HQ.out.2.2.1 0
  have c_q_r1 := LK.cell HQ.out.2.2.1 1
  have c_q_r2 := LK.cell HQ.out.2.2.1 2
  have c_q_r3 := LK.cell HQ.out.2.2.1 3
  have c_q_a0 := LK.cell HQ.out.2.2.2.1 0
  have c_q_e0 := LK.cell HQ.out.2.2.2.2.1 0
  simp at c_q_s0 c_q_s1 c_q_s2 c_q_s3 c_q_bb0 c_q_r0 c_q_r1 c_q_r2 c_q_r3 c_q_a0 c_q_e0
  have hE := take_cases s b
  have k_c := fun V b u x y hh => scheck_any b u x y s V hh
  have hes : (mayS s = false ∧ errS s = 8) ∨ (mayS s = true ∧ errS s = 0) := by
    unfold errS
    cases mayS s
    · exact .inl ⟨rfl, rfl⟩
    · exact .inr ⟨rfl, rfl⟩
  obtain ⟨er, her⟩ : ∃ e, errS s = e := ⟨_, rfl⟩
  obtain ⟨et, het⟩ : ∃ e, errTk s b = e := ⟨_, rfl⟩
  obtain ⟨at1, hat⟩ : ∃ e, atTk s b = e := ⟨_, rfl⟩
  obtain ⟨ts, hts⟩ : ∃ e, takeS s b = e := ⟨_, rfl⟩
  rw [her] at k_c hes
  simp only [het, hat, hts] at hE ⊢
  clear her het hat hts
  have HC := Lib.hid (k_c)
  clear k_c
  go_enter Try.func9, Try.ntmps9
  go_upto_region 1 with (fail)
  clear hV
  go_wp2_with fail
  refine (HC.out _ _ _ _ _ HQ.out.2.2.2.2.2.1.v).mono ?_
  rintro e w1 ⟨rfl, hst⟩
  clear c_q_s0 c_q_s1 c_q_s2 c_q_s3 c_q_bb0 c_q_r0 c_q_r1 c_q_r2 c_q_r3 c_q_a0 c_q_e0
  obtain ⟨q_s, q_bb, q_r, q_a, q_e, O_s, B_b, hB⟩ := HQ.out
  clear HQ
  have sz_w1 : V.heap.size ≤ w1.heap.size := hst.size
  replace q_s := q_s.step hst
  replace q_bb := q_bb.step hst
  replace q_r := q_r.step hst
  replace q_a := q_a.step hst
  replace q_e := q_e.step hst
  replace O_s := O_s.step hst
  replace B_b := B_b.step hst
  replace hB := hB.step hst
  clear hst
  have HQ := Lib.hid (And.intro q_s (And.intro q_bb (And.intro q_r (And.intro q_a (And.intro q_e (And.intro O_s (And.intro B_b hB)))))))
  clear q_s q_bb q_r q_a q_e O_s B_b hB
  have c_q_s0 := LK.cell HQ.out.1 0
  have c_q_s1 := LK.cell HQ.out.1 1
  have c_q_s2 := LK.cell HQ.out.1 2
  have c_q_s3 := LK.cell HQ.out.1 3
  have c_q_bb0 := LK.cell HQ.out.2.1 0
  have c_q_r0 := LK.cell HQ.out.2.2.1 0
  have c_q_r1 := LK.cell HQ.out.2.2.1 1
  have c_q_r2 := LK.cell HQ.out.2.2.1 2
  have c_q_r3 := LK.cell HQ.out.2.2.1 3
  have z_q_r0 := LK.frozen HQ.out.2.2.1 0
  have z_q_r1 := LK.frozen HQ.out.2.2.1 1
  have z_q_r2 := LK.frozen HQ.out.2.2.1 2
  have z_q_r3 := LK.frozen HQ.out.2.2.1 3
  have c_q_a0 := LK.cell HQ.out.2.2.2.1 0
  have z_q_a0 := LK.frozen HQ.out.2.2.2.1 0
  have c_q_e0 := LK.cell HQ.out.2.2.2.2.1 0
  have z_q_e0 := LK.frozen HQ.out.2.2.2.2.1 0
  simp at c_q_s0 c_q_s1 c_q_s2 c_q_s3 c_q_bb0 c_q_r0 c_q_r1 c_q_r2 c_q_r3 c_q_a0 c_q_e0
  rcases hE with ⟨hm, rfl, rfl, rfl⟩ | ⟨hm, hl, rfl, rfl, rfl⟩ | ⟨hm, hl, -⟩
  · rcases hes with ⟨-, rfl⟩ | ⟨h, -⟩
    · skip
      go_wp2
      refine bodyPost_ret (v := .tuple #[.agg #[.slice none 0 0, .slice none 0 0, .slice none 0 0, .slice none 0 0], .int .i64 0, .int .i64 8]) (by simp [results, Try.results9, go_sem, c_q_r0, c_q_r1, c_q_r2, c_q_r3, c_q_a0, c_q_e0]) rfl ⟨_, _, _, _, rfl, ?_⟩
      exact ((((MadeL.nil_ (w.heap.size + 5) HQ.out.2.2.2.2.2.2.2).four (w.heap.size + 2) _ _ _ _ (by omega) (by omega)).set (w.heap.size + 3) 0 _ (by omega) (by omega)).set (w.heap.size + 4) 0 _ (by omega) (by omega)).made (by omega)
    · rw [hm] at h
      cases h
  · rcases hes with ⟨h, -⟩ | ⟨-, rfl⟩
    · rw [hm] at h
      cases h
    have i1 : ¬ (b.length : Int) = 128 := by omega
    go_wp2
    refine bodyPost_ret (v := .tuple #[.agg #[.slice none 0 0, .slice none 0 0, .slice none 0 0, .slice none 0 0], .int .i64 0, .int .i64 3]) (by simp [results, Try.results9, go_sem, c_q_r0, c_q_r1, c_q_r2, c_q_r3, c_q_a0, c_q_e0]) rfl ⟨_, _, _, _, rfl, ?_⟩
    exact ((((MadeL.nil_ (w.heap.size + 5) HQ.out.2.2.2.2.2.2.2).four (w.heap.size + 2) _ _ _ _ (by omega) (by omega)).set (w.heap.size + 3) 0 _ (by omega) (by omega)).set (w.heap.size + 4) 0 _ (by omega) (by omega)).made (by omega)
  · rcases hn with h | h
    · rw [hm] at h
      cases h
    · exact absurd hl h

theorem put6 {z : World} {r : Nat} {a b c d a' b' c' d' e e' f f' : Value} {T Ti Te : TypeId} (h1 : z.heap[r]? = some (.cells #[a, b, c, d] T (0, 0))) (h2 : z.heap[r + 1]? = some (.cells #[e] Ti (0, 0))) (h3 : z.heap[r + 1 + 1]? = some (.cells #[f] Te (0, 0))) :
    ∃ Z, ((((((z.setCell ⟨r, 0, none⟩ a').setCell ⟨r, 1, none⟩ b').setCell ⟨r, 2, none⟩ c').setCell ⟨r, 3, none⟩ d').setCell ⟨r + 1, 0, none⟩ e').setCell ⟨r + 1 + 1, 0, none⟩ f') = Z ∧
      Z.heap[r]? = some (.cells #[a', b', c', d'] T (0, 0)) ∧ Z.heap[r + 1]? = some (.cells #[e'] Ti (0, 0)) ∧ Z.heap[r + 1 + 1]? = some (.cells #[f'] Te (0, 0)) ∧ (∀ k, k ≠ r → k ≠ r + 1 → k ≠ r + 1 + 1 → Z.heap[k]? = z.heap[k]?) ∧ Z.heap.size = z.heap.size ∧ (∀ n, n ≤ r → Below n z Z) := by
  refine ⟨_, rfl, ?_, ?_, ?_, fun k k1 k2 k3 => ?_, by simp only [World.size_setCell], fun n hn => ?_⟩
  · exact (set_other _ _ _ _ _ (by omega)).trans ((set_other _ _ _ _ _ (by omega)).trans (set_block (set_block (set_block (set_block h1 0 _) 1 _) 2 _) 3 _))
  · exact (set_other _ _ _ _ _ (by omega)).trans (set_block ((set_other _ _ _ _ _ (by omega)).trans ((set_other _ _ _ _ _ (by omega)).trans ((set_other _ _ _ _ _ (by omega)).trans ((set_other _ _ _ _ _ (by omega)).trans h2)))) 0 _)
  · exact set_block ((set_other _ _ _ _ _ (by omega)).trans ((set_other _ _ _ _ _ (by omega)).trans ((set_other _ _ _ _ _ (by omega)).trans ((set_other _ _ _ _ _ (by omega)).trans ((set_other _ _ _ _ _ (by omega)).trans h3))))) 0 _
  · exact (set_other _ _ _ _ _ k3).trans ((set_other _ _ _ _ _ k2).trans ((set_other _ _ _ _ _ k1).trans ((set_other _ _ _ _ _ k1).trans ((set_other _ _ _ _ _ k1).trans (set_other _ _ _ _ _ k1)))))
  · exact ((below_four z a' b' c' d' hn).setCell (p := ⟨r + 1, 0, none⟩) (by show n ≤ r + 1; omega) e').setCell (p := ⟨r + 1 + 1, 0, none⟩) (by show n ≤ r + 1 + 1; omega) f'
theorem keep6 {W z Z : World} {r : Nat} {x1 x2 x3 : Array Value} {T1 T2 T3 : TypeId} (hW : Below W.heap.size W z) (h1 : z.heap[r]? = some (.cells x1 T1 (0, 0))) (h2 : z.heap[r + 1]? = some (.cells x2 T2 (0, 0))) (h3 : z.heap[r + 1 + 1]? = some (.cells x3 T3 (0, 0)))
    (hs : z.heap.size ≤ Z.heap.size) (ho : ∀ k, k < z.heap.size → k ≠ r → k ≠ r + 1 → k ≠ r + 1 + 1 → Z.heap[k]? = z.heap[k]?) : KeepsOthers W Z := by
  refine ⟨Nat.le_trans hW.size hs, fun k o hk hc => ?_⟩
  have hlt := (Array.getElem?_eq_some_iff.1 hk).1
  have hz := (hW.block k hlt).trans hk
  refine (ho k (Nat.lt_of_lt_of_le hlt hW.size) ?_ ?_ ?_).trans hz
  · rintro rfl; rw [h1] at hz; cases hz; cases hc
  · rintro rfl; rw [h2] at hz; cases hz; cases hc
  · rintro rfl; rw [h3] at hz; cases hz; cases hc

set_option maxRecDepth 100000 in
set_option maxHeartbeats 2000000 in
theorem stake_yes (b_s u_s x_s y_s : Value) (s : StoreL) (v_b : Value) (b : List UInt8) (w : World) (h_s : StoreV w 0 w.heap.size b_s u_s x_s y_s s) (h_b : Bytes w 0 w.heap.size v_b b) (hm : mayS s = true) (hl : b.length = 128) :
    Calls Try.prog 9 #[.agg #[b_s, u_s, x_s, y_s], v_b] w fun e w' => ∃ b' u' x' y', e = .returned (.tuple #[.agg #[b', u', x', y'], .int .i64 (atTk s b), .int .i64 (errTk s b)]) ∧ MadeS w w' b' u' x' y' (takeS s b) := by
  obtain ⟨ab_s, cb_s, rfl, gb_s, gc_s, -, -⟩ := h_s.1.1
  obtain ⟨au_s, cu_s, rfl, gu_s, gv_s, -, -⟩ := h_s.1.2
  obtain ⟨ax_s, cx_s, rfl, gx_s, gz_s⟩ := h_s.2.1.form rfl
  obtain ⟨ay_s, cy_s, rfl, gy_s, gw_s⟩ := h_s.2.2.form rfl
  unfold maxLen at gc_s gv_s gz_s gw_s
  obtain ⟨a_b, c_b, rfl, g_b, gm_b⟩ := h_b.form hl
  unfold maxLen at gm_b
  have hst := ((((((Below.refl w.heap.size w).alloc (Nat.le_refl _) (.cells #[.slice ab_s s.disk.blocks.length cb_s, .slice au_s s.disk.waits.length cu_s, .slice ax_s s.now.length cx_s, .slice ay_s s.last.length cy_s] 28)).alloc (by simp) (.cells #[.slice a_b 128 c_b] 26)).alloc (by simp; omega) (.cells #[.slice none 0 0, .slice none 0 0, .slice none 0 0, .slice none 0 0] 28)).alloc (by simp; omega) (.cells #[.int .i64 0] 3)).alloc (by simp; omega) (.cells #[.int .i64 0] 32))
  have hq := five_new w (.cells #[.slice ab_s s.disk.blocks.length cb_s, .slice au_s s.disk.waits.length cu_s, .slice ax_s s.now.length cx_s, .slice ay_s s.last.length cy_s] 28) (.cells #[.slice a_b 128 c_b] 26) (.cells #[.slice none 0 0, .slice none 0 0, .slice none 0 0, .slice none 0 0] 28) (.cells #[.int .i64 0] 3) (.cells #[.int .i64 0] 32)
  have q_s := LK.of hq.1
  have q_bb := LK.of hq.2.1
  have q_r := LK.of hq.2.2.1
  have q_a := LK.of hq.2.2.2.1
  have q_e := LK.of hq.2.2.2.2
  have hB : LW w _ := hst
  have O_s := (LO.of h_s (Nat.le_refl _)).step hst
  have B_b := (LB.of h_b (Nat.le_refl _)).step hst
  have sz_V : w.heap.size + 4 < (((((w.alloc (.cells #[.slice ab_s s.disk.blocks.length cb_s, .slice au_s s.disk.waits.length cu_s, .slice ax_s s.now.length cx_s, .slice ay_s s.last.length cy_s] 28)).alloc (.cells #[.slice a_b 128 c_b] 26)).alloc (.cells #[.slice none 0 0, .slice none 0 0, .slice none 0 0, .slice none 0 0] 28)).alloc (.cells #[.int .i64 0] 3)).alloc (.cells #[.int .i64 0] 32)).heap.size := by simp
  obtain ⟨V, hV⟩ : ∃ V, (((((w.alloc (.cells #[.slice ab_s s.disk.blocks.length cb_s, .slice au_s s.disk.waits.length cu_s, .slice ax_s s.now.length cx_s, .slice ay_s s.last.length cy_s] 28)).alloc (.cells #[.slice a_b 128 c_b] 26)).alloc (.cells #[.slice none 0 0, .slice none 0 0, .slice none 0 0, .slice none 0 0] 28)).alloc (.cells #[.int .i64 0] 3)).alloc (.cells #[.int .i64 0] 32)) = V := ⟨_, rfl⟩
  rw [hV] at sz_V q_s q_bb q_r q_a q_e O_s B_b hB
  clear hst h_s h_b hq
  have HQ := Lib.hid (And.intro q_s (And.intro q_bb (And.intro q_r (And.intro q_a (And.intro q_e (And.intro O_s (And.intro B_b hB)))))))
  clear q_s q_bb q_r q_a q_e O_s B_b hB
  have c_q_s0 := LK.cell HQ.out.1 0
  have c_q_s1 := LK.cell HQ.out.1 1
  have c_q_s2 := LK.cell HQ.out.1 2
  have c_q_s3 := LK.cell HQ.out.1 3
  have c_q_bb0 := LK.cell HQ.out.2.1 0
  have c_q_r0 := LK.cell HQ.out.2.2.1 0
  have c_q_r1 := LK.cell HQ.out.2.2.1 1
  have c_q_r2 := LK.cell HQ.out.2.2.1 2
  have c_q_r3 := LK.cell HQ.out.2.2.1 3
  have c_q_a0 := LK.cell HQ.out.2.2.2.1 0
  have c_q_e0 := LK.cell HQ.out.2.2.2.2.1 0
  simp at c_q_s0 c_q_s1 c_q_s2 c_q_s3 c_q_bb0 c_q_r0 c_q_r1 c_q_r2 c_q_r3 c_q_a0 c_q_e0
  have hE := take_cases s b
  have k_c := fun V b u x y hh => scheck_any b u x y s V hh
  have hes : errS s = 0 := by unfold errS; rw [hm]; rfl
  rw [hes] at k_c
  have h256 := mayT_len (mayS_iff.1 hm).2.1
  have h257 := mayT_len (mayS_iff.1 hm).2.2
  obtain ⟨et, het⟩ : ∃ e, errTk s b = e := ⟨_, rfl⟩
  obtain ⟨at1, hat⟩ : ∃ e, atTk s b = e := ⟨_, rfl⟩
  obtain ⟨ts, hts⟩ : ∃ e, takeS s b = e := ⟨_, rfl⟩
  simp only [het, hat, hts] at hE ⊢
  have hE2 : (freeS s = [] → et = 9 ∧ at1 = 0 ∧ ts = noS) ∧ ∀ p r, freeS s = p :: r → atOf s b p = (ts, at1, et) := by
    rcases hE with ⟨h, -⟩ | ⟨-, h, -⟩ | ⟨-, -, h⟩
    · rw [hm] at h; cases h
    · exact absurd hl h
    · exact h
  have k_w := fun (p : Nat) V b1 u v hh hv => dwrite_any b1 u s.disk p v b V hh hv
  have k_n := fun V v hh => bclone_any v s.now V hh (by omega)
  have k_l := fun V v hh => bclone_any v s.last V hh (by omega)
  have HE := Lib.hid (And.intro hE2 (And.intro h256 h257))
  clear hE hE2 het hat hts hes hm
  have HC := Lib.hid (And.intro k_c (And.intro k_w (And.intro k_n k_l)))
  clear k_c k_w k_n k_l
  obtain ⟨nb, no, nc, e1, -, zb, z1, zc, hcell⟩ := HQ.out.2.2.2.2.2.1.n.at_n h256 (by omega)
  injection e1 with e1 el e2
  subst e1 e2
  clear el
  obtain ⟨lb, lo, lc, e3, -, zd, z2, ze, hcell2⟩ := HQ.out.2.2.2.2.2.1.l.at_n h257 (by omega)
  injection e3 with e3 el e4
  subst e3 e4
  clear el hcell hcell2 zb zd h256 h257
  refine (callsIn_wide (n := 5)).1 ?_
  refine callsIn_of_wp_marks Try.func9 rfl trivial ?_ rfl
  simp only [Try.ntmps9, List.size_toArray, List.length_cons, List.length_nil, Nat.reduceAdd, Nat.reduceSub, Array.replicate_succ, Array.replicate_zero, List.push_toArray, List.append_toArray, List.nil_append, List.cons_append]
  gi_wp2_with fail
  clear hV
  refine ⟨trivial, ?_⟩
  gi_at_call 18
  refine (callsIn_wide.2 (HC.out.1 _ _ _ _ _ HQ.out.2.2.2.2.2.1.v)).mono ?_
  rintro e w1 ⟨rfl, hst⟩
  clear c_q_s0 c_q_s1 c_q_s2 c_q_s3 c_q_bb0 c_q_r0 c_q_r1 c_q_r2 c_q_r3 c_q_a0 c_q_e0
  obtain ⟨q_s, q_bb, q_r, q_a, q_e, O_s, B_b, hB⟩ := HQ.out
  clear HQ
  have sz_w1 : V.heap.size ≤ w1.heap.size := hst.size
  replace q_s := q_s.step hst
  replace q_bb := q_bb.step hst
  replace q_r := q_r.step hst
  replace q_a := q_a.step hst
  replace q_e := q_e.step hst
  replace O_s := O_s.step hst
  replace B_b := B_b.step hst
  replace hB := hB.step hst
  clear hst
  have HQ := Lib.hid (And.intro q_s (And.intro q_bb (And.intro q_r (And.intro q_a (And.intro q_e (And.intro O_s (And.intro B_b hB)))))))
  clear q_s q_bb q_r q_a q_e O_s B_b hB
  have c_q_s0 := LK.cell HQ.out.1 0
  have c_q_s1 := LK.cell HQ.out.1 1
  have c_q_s2 := LK.cell HQ.out.1 2
  have c_q_s3 := LK.cell HQ.out.1 3
  have c_q_bb0 := LK.cell HQ.out.2.1 0
  have c_q_r0 := LK.cell HQ.out.2.2.1 0
  have c_q_r1 := LK.cell HQ.out.2.2.1 1
  have c_q_r2 := LK.cell HQ.out.2.2.1 2
  have c_q_r3 := LK.cell HQ.out.2.2.1 3
  have c_q_a0 := LK.cell HQ.out.2.2.2.1 0
  have c_q_e0 := LK.cell HQ.out.2.2.2.2.1 0
  simp at c_q_s0 c_q_s1 c_q_s2 c_q_s3 c_q_bb0 c_q_r0 c_q_r1 c_q_r2 c_q_r3 c_q_a0 c_q_e0
  gi_wp2_with fail
  refine ⟨trivial, ?_⟩
  gi_at_call 36
  refine (free_in _ _ _ _ _ w1).mono ?_
  rintro e w2 ⟨rfl, rfl⟩
  clear c_q_s0 c_q_s1 c_q_s2 c_q_s3 c_q_bb0 c_q_r0 c_q_r1 c_q_r2 c_q_r3 c_q_a0 c_q_e0
  obtain ⟨q_s, q_bb, q_r, q_a, q_e, O_s, B_b, hB⟩ := HQ.out
  clear HQ
  have hst := (Below.refl w1.heap.size w1).alloc (Nat.le_refl _) (.cells #[.slice ab_s s.disk.blocks.length cb_s, .slice au_s s.disk.waits.length cu_s, .slice (some ⟨nb, no, none⟩) s.now.length cx_s, .slice (some ⟨lb, lo, none⟩) s.last.length cy_s] 28)
  have hlt : w1.heap.size < (w1.alloc (.cells #[.slice ab_s s.disk.blocks.length cb_s, .slice au_s s.disk.waits.length cu_s, .slice (some ⟨nb, no, none⟩) s.now.length cx_s, .slice (some ⟨lb, lo, none⟩) s.last.length cy_s] 28)).heap.size := by simp
  have q_f := LK.new w1 (.cells #[.slice ab_s s.disk.blocks.length cb_s, .slice au_s s.disk.waits.length cu_s, .slice (some ⟨nb, no, none⟩) s.now.length cx_s, .slice (some ⟨lb, lo, none⟩) s.last.length cy_s] 28)
  replace q_s := q_s.step hst
  replace q_bb := q_bb.step hst
  replace q_r := q_r.step hst
  replace q_a := q_a.step hst
  replace q_e := q_e.step hst
  replace O_s := O_s.step hst
  replace B_b := B_b.step hst
  replace hB := hB.step hst
  obtain ⟨w2, hw⟩ : ∃ v, w1.alloc (.cells #[.slice ab_s s.disk.blocks.length cb_s, .slice au_s s.disk.waits.length cu_s, .slice (some ⟨nb, no, none⟩) s.now.length cx_s, .slice (some ⟨lb, lo, none⟩) s.last.length cy_s] 28) = v := ⟨_, rfl⟩
  rw [hw] at hlt q_f q_s q_bb q_r q_a q_e O_s B_b hB ⊢
  clear hw hst
  have sz_w2 := hlt
  clear hlt
  have HQ := Lib.hid (And.intro q_s (And.intro q_bb (And.intro q_r (And.intro q_a (And.intro q_e (And.intro O_s (And.intro B_b (And.intro q_f hB))))))))
  clear q_s q_bb q_r q_a q_e O_s B_b q_f hB
  have c_q_s0 := LK.cell HQ.out.1 0
  have c_q_s1 := LK.cell HQ.out.1 1
  have c_q_s2 := LK.cell HQ.out.1 2
  have c_q_s3 := LK.cell HQ.out.1 3
  have c_q_bb0 := LK.cell HQ.out.2.1 0
  have c_q_r0 := LK.cell HQ.out.2.2.1 0
  have c_q_r1 := LK.cell HQ.out.2.2.1 1
  have c_q_r2 := LK.cell HQ.out.2.2.1 2
  have c_q_r3 := LK.cell HQ.out.2.2.1 3
  have c_q_a0 := LK.cell HQ.out.2.2.2.1 0
  have c_q_e0 := LK.cell HQ.out.2.2.2.2.1 0
  simp at c_q_s0 c_q_s1 c_q_s2 c_q_s3 c_q_bb0 c_q_r0 c_q_r1 c_q_r2 c_q_r3 c_q_a0 c_q_e0
  have hst2 : SeqStopsK Fence.wide 4 Try.prog 75 #[.pointer (some ⟨w1.heap.size, 0, none⟩)] encF (KeepF w.heap.size w1.heap.size) (fun ys => ys = freeF s 256) (fun pre => ∃ k, k ≤ 256 ∧ pre = freeF s k) 256 w2 := by
    have h256 := HE.out.2.1
    have h257 := HE.out.2.2
    obtain ⟨b1, o1, c1, e1, -, zb, y1, yc, hcell⟩ := (Lv.get HQ.out.2.2.2.2.2.1).2.1.at_n h256 (by omega)
    obtain ⟨b2, o2, c2, e2, -, zd, y2, yd, hcell2⟩ := (Lv.get HQ.out.2.2.2.2.2.1).2.2.at_n h257 (by omega)
    have hq := LK.blk HQ.out.2.2.2.2.2.2.2.1
    rw [h256, h257] at hq
    injection e1 with e1 el e3
    cases e1
    subst e3
    clear el
    injection e2 with e2 el e4
    cases e2
    subst e4
    exact free_stops 4 (by omega) w1.heap.size w.heap.size nb no cx_s lb lo cy_s _ _ _ s h256 h257 y1 yc y2 yd zb zd w2 (by omega) hq hcell hcell2
  have HST := Lib.hid hst2
  clear hst2
  gi_wp2_with fail
  clear c_q_s0 c_q_s1 c_q_s2 c_q_s3 c_q_bb0 c_q_r0 c_q_r1 c_q_r2 c_q_r3 c_q_a0 c_q_e0
  refine wpIn_rangeFunc_ownF rfl (by omega) (gf := 75) (lb := #[.pointer (some ⟨w1.heap.size, 0, none⟩)]) rfl trivial (enters_of Try.func75 (by kernel_rfl) rfl)
    HST.out KeepF.trans (keepF_b (by omega) (by omega)) (Below.refl _ _) (fun _ => rfl)
    (fun pre W => pre = [] ∧ Below w2.heap.size w2 W)
    (fun c pre W => (∃ x : Fin 256, c = .ret ∧ pre = [x] ∧ (∃ b1 u1 x1 y1, W.heap[w.heap.size + 2]? = some (.cells #[b1, u1, x1, y1] 28 (0, 0)) ∧ StoreT W (w.heap.size + 5) W.heap.size b1 u1 x1 y1 (atOf s b x.1).1) ∧
        W.heap[w.heap.size + 3]? = some (.cells #[.int .i64 (atOf s b x.1).2.1] 3 (0, 0)) ∧ W.heap[w.heap.size + 4]? = some (.cells #[.int .i64 (atOf s b x.1).2.2] 32 (0, 0))) ∧ Below w.heap.size w W)
    ((ownFrom_pure _ _).and (ownFrom_below (Nat.le_refl _) (Nat.le_refl _)))
    (fun c => OwnFrom.and (Own.from (fun t A B row hs hg hr => by
      obtain ⟨x, h1, h2, ⟨b1, u1, x1, y1, h3, h4⟩, h5, h6⟩ := hs
      exact ⟨x, h1, h2, ⟨b1, u1, x1, y1, blk_grown hg hr h3, h4.ck (grown_ck hg hr) hg.size⟩, blk_grown hg hr h5, blk_grown hg hr h6⟩) _) (ownFrom_below (Nat.le_refl _) (by omega)))
    ⟨rfl, Below.refl _ _⟩
    ?a1 ?assign ?body ?done ?stop
  case assign =>
    intro l x W K hK
    gi_wp2
    exact hK
  case body =>
    rintro l pre x W ⟨rfl, hBW⟩ hlen
    obtain ⟨q_s, q_bb, q_r, q_a, q_e, O_s, B_b, q_f, hB⟩ := HQ.out
    clear HQ
    replace q_s := q_s.step hBW
    replace q_bb := q_bb.step hBW
    replace q_r := q_r.step hBW
    replace q_a := q_a.step hBW
    replace q_e := q_e.step hBW
    replace O_s := O_s.step hBW
    replace B_b := B_b.step hBW
    replace q_f := q_f.step hBW
    replace hB := hB.step hBW
    have sz_W : w2.heap.size ≤ W.heap.size := hBW.size
    have hW : LW W W := Below.refl _ _
    obtain ⟨p, hp⟩ := x
    have hA : atOf s b p = if errW s.disk p b = 0 then (⟨writeD s.disk p b, s.now.set p 1, s.last⟩, (p : Int), 0) else (noS, 0, errW s.disk p b) := rfl
    have k_w := HC.out.2.1 p
    obtain ⟨ew, hew⟩ : ∃ e, errW s.disk p b = e := ⟨_, rfl⟩
    obtain ⟨wd, hwd⟩ : ∃ e, writeD s.disk p b = e := ⟨_, rfl⟩
    rw [hew, hwd] at k_w hA
    have HA := Lib.hid (And.intro hA hwd)
    have HKW := Lib.hid k_w
    clear hA k_w hew hwd HST
    have HQ := Lib.hid (And.intro q_s (And.intro q_bb (And.intro q_r (And.intro q_a (And.intro q_e (And.intro O_s (And.intro B_b (And.intro q_f (And.intro hW hB)))))))))
    clear q_s q_bb q_r q_a q_e O_s B_b q_f hW hB
    have c_q_s0 := LK.cell HQ.out.1 0
    have c_q_s1 := LK.cell HQ.out.1 1
    have c_q_s2 := LK.cell HQ.out.1 2
    have c_q_s3 := LK.cell HQ.out.1 3
    have c_q_bb0 := LK.cell HQ.out.2.1 0
    have c_q_r0 := LK.cell HQ.out.2.2.1 0
    have c_q_r1 := LK.cell HQ.out.2.2.1 1
    have c_q_r2 := LK.cell HQ.out.2.2.1 2
    have c_q_r3 := LK.cell HQ.out.2.2.1 3
    have z_q_r0 := LK.frozen HQ.out.2.2.1 0
    have z_q_r1 := LK.frozen HQ.out.2.2.1 1
    have z_q_r2 := LK.frozen HQ.out.2.2.1 2
    have z_q_r3 := LK.frozen HQ.out.2.2.1 3
    have c_q_a0 := LK.cell HQ.out.2.2.2.1 0
    have z_q_a0 := LK.frozen HQ.out.2.2.2.1 0
    have c_q_e0 := LK.cell HQ.out.2.2.2.2.1 0
    have z_q_e0 := LK.frozen HQ.out.2.2.2.2.1 0
    simp at c_q_s0 c_q_s1 c_q_s2 c_q_s3 c_q_bb0 c_q_r0 c_q_r1 c_q_r2 c_q_r3 c_q_a0 c_q_e0
    gi_wp2_with fail
    refine ⟨trivial, ?_⟩
    gi_at_call 39
    refine (CallsIn.inRound l (callsIn_wide.2 (HKW.out _ _ _ _ HQ.out.2.2.2.2.2.1.d HQ.out.2.2.2.2.2.2.1.v))).mono ?_
    rintro e w3 ⟨b3, u3, rfl, hm⟩
    clear z_q_r0 z_q_r1 z_q_r2 z_q_r3 z_q_a0 z_q_e0 c_q_s0 c_q_s1 c_q_s2 c_q_s3 c_q_bb0 c_q_r0 c_q_r1 c_q_r2 c_q_r3 c_q_a0 c_q_e0
    obtain ⟨q_s, q_bb, q_r, q_a, q_e, O_s, B_b, q_f, hW, hB⟩ := HQ.out
    clear HQ
    have D_w := LT.of hm
    have hst := hm.below
    obtain ⟨ab_w, cb_w, rfl, -, -, -, -⟩ := hm.v0.1
    obtain ⟨au_w, cu_w, rfl, -, -, -, -⟩ := hm.v0.2
    clear hm
    have sz_w3 : W.heap.size ≤ w3.heap.size := hst.size
    replace q_s := q_s.step hst
    replace q_bb := q_bb.step hst
    replace q_r := q_r.step hst
    replace q_a := q_a.step hst
    replace q_e := q_e.step hst
    replace O_s := O_s.step hst
    replace B_b := B_b.step hst
    replace q_f := q_f.step hst
    replace hW := hW.step hst
    replace hB := hB.step hst
    clear hst
    have HQ := Lib.hid (And.intro q_s (And.intro q_bb (And.intro q_r (And.intro q_a (And.intro q_e (And.intro O_s (And.intro B_b (And.intro q_f (And.intro hW (And.intro D_w hB))))))))))
    clear q_s q_bb q_r q_a q_e O_s B_b q_f hW D_w hB
    have c_q_s0 := LK.cell HQ.out.1 0
    have c_q_s1 := LK.cell HQ.out.1 1
    have c_q_s2 := LK.cell HQ.out.1 2
    have c_q_s3 := LK.cell HQ.out.1 3
    have c_q_bb0 := LK.cell HQ.out.2.1 0
    have c_q_r0 := LK.cell HQ.out.2.2.1 0
    have c_q_r1 := LK.cell HQ.out.2.2.1 1
    have c_q_r2 := LK.cell HQ.out.2.2.1 2
    have c_q_r3 := LK.cell HQ.out.2.2.1 3
    have z_q_r0 := LK.frozen HQ.out.2.2.1 0
    have z_q_r1 := LK.frozen HQ.out.2.2.1 1
    have z_q_r2 := LK.frozen HQ.out.2.2.1 2
    have z_q_r3 := LK.frozen HQ.out.2.2.1 3
    have c_q_a0 := LK.cell HQ.out.2.2.2.1 0
    have z_q_a0 := LK.frozen HQ.out.2.2.2.1 0
    have c_q_e0 := LK.cell HQ.out.2.2.2.2.1 0
    have z_q_e0 := LK.frozen HQ.out.2.2.2.2.1 0
    simp at c_q_s0 c_q_s1 c_q_s2 c_q_s3 c_q_bb0 c_q_r0 c_q_r1 c_q_r2 c_q_r3 c_q_a0 c_q_e0
    have g0 : w.heap.size < w3.heap.size := by omega
    have g1 : w.heap.size + 1 < w3.heap.size := by omega
    have g2 : w.heap.size + 1 + 1 < w3.heap.size := by omega
    have g3 : w.heap.size + 1 + 1 + 1 < w3.heap.size := by omega
    have g4 : w.heap.size + 1 + 1 + 1 + 1 < w3.heap.size := by omega
    by_cases hz : ew = 0
    case neg =>
      have i1 : (ew != 0) = true := by simp [hz]
      gi_wp2
      obtain ⟨Z, hZ, p1, p2, p3, p4, p5, p6⟩ := put6 (a' := .slice none 0 0) (b' := .slice none 0 0) (c' := .slice none 0 0) (d' := .slice none 0 0) (e' := .int .i64 0) (f' := .int .i64 ew) (r := w.heap.size + 1 + 1) (LK.blk HQ.out.2.2.1) (LK.blk HQ.out.2.2.2.1) (LK.blk HQ.out.2.2.2.2.1)
      rw [hZ]
      have ha := fun x (hx : x < Z.heap.size) => Below.heap_alloc Z (.cells #[.slice ab_w wd.blocks.length cb_w, .slice au_w wd.waits.length cu_w] 25) x hx
      have hBZ := (Below.trans HQ.out.2.2.2.2.2.2.2.2.2.2 (p6 w.heap.size (by omega))).alloc (by omega) (.cells #[.slice ab_w wd.blocks.length cb_w, .slice au_w wd.waits.length cu_w] 25)
      have hA := HA.out.1
      rw [if_neg hz] at hA
      refine ⟨keep6 HQ.out.2.2.2.2.2.2.2.2.1 (LK.blk HQ.out.2.2.1) (LK.blk HQ.out.2.2.2.1) (LK.blk HQ.out.2.2.2.2.1) (by rw [World.size_alloc]; omega) (fun x hx x1 x2 x3 => (ha x (by omega)).trans (p4 x x1 x2 x3)), ⟨⟨p, hp⟩, rfl, rfl, ⟨_, _, _, _, (ha _ (by omega)).trans p1, ?_⟩, ?_, ?_⟩, hBZ⟩
      · show StoreT _ _ _ _ _ _ _ (atOf s b p).1
        rw [hA]
        exact StoreT.nil_ _ _ _
      · show _ = some (Obj.cells #[.int .i64 (atOf s b p).2.1] _ _)
        rw [hA]
        exact (ha _ (by omega)).trans p2
      · show _ = some (Obj.cells #[.int .i64 (atOf s b p).2.2] _ _)
        rw [hA]
        exact (ha _ (by omega)).trans p3
    subst hz
    gi_wp2_with fail
    clear z_q_r0 z_q_r1 z_q_r2 z_q_r3 z_q_a0 z_q_e0 c_q_s0 c_q_s1 c_q_s2 c_q_s3 c_q_bb0 c_q_r0 c_q_r1 c_q_r2 c_q_r3 c_q_a0 c_q_e0
    obtain ⟨q_s, q_bb, q_r, q_a, q_e, O_s, B_b, q_f, hW, D_w, hB⟩ := HQ.out
    clear HQ
    have hst := (Below.refl w3.heap.size w3).alloc (Nat.le_refl _) (.cells #[.slice ab_w wd.blocks.length cb_w, .slice au_w wd.waits.length cu_w] 25)
    have hlt : w3.heap.size < (w3.alloc (.cells #[.slice ab_w wd.blocks.length cb_w, .slice au_w wd.waits.length cu_w] 25)).heap.size := by simp
    have q_w := LK.new w3 (.cells #[.slice ab_w wd.blocks.length cb_w, .slice au_w wd.waits.length cu_w] 25)
    replace q_s := q_s.step hst
    replace q_bb := q_bb.step hst
    replace q_r := q_r.step hst
    replace q_a := q_a.step hst
    replace q_e := q_e.step hst
    replace O_s := O_s.step hst
    replace B_b := B_b.step hst
    replace q_f := q_f.step hst
    replace hW := hW.step hst
    replace D_w := D_w.step hst
    replace hB := hB.step hst
    obtain ⟨w4, hw⟩ : ∃ v, w3.alloc (.cells #[.slice ab_w wd.blocks.length cb_w, .slice au_w wd.waits.length cu_w] 25) = v := ⟨_, rfl⟩
    rw [hw] at hlt q_w q_s q_bb q_r q_a q_e O_s B_b q_f hW D_w hB ⊢
    clear hw hst
    have sz_w4 := hlt
    clear hlt
    have HQ := Lib.hid (And.intro q_s (And.intro q_bb (And.intro q_r (And.intro q_a (And.intro q_e (And.intro O_s (And.intro B_b (And.intro q_f (And.intro hW (And.intro D_w (And.intro q_w hB)))))))))))
    clear q_s q_bb q_r q_a q_e O_s B_b q_f hW D_w q_w hB
    have c_q_s0 := LK.cell HQ.out.1 0
    have c_q_s1 := LK.cell HQ.out.1 1
    have c_q_s2 := LK.cell HQ.out.1 2
    have c_q_s3 := LK.cell HQ.out.1 3
    have c_q_bb0 := LK.cell HQ.out.2.1 0
    have c_q_r0 := LK.cell HQ.out.2.2.1 0
    have c_q_r1 := LK.cell HQ.out.2.2.1 1
    have c_q_r2 := LK.cell HQ.out.2.2.1 2
    have c_q_r3 := LK.cell HQ.out.2.2.1 3
    have c_q_a0 := LK.cell HQ.out.2.2.2.1 0
    have c_q_e0 := LK.cell HQ.out.2.2.2.2.1 0
    have c_q_w0 := LK.cell HQ.out.2.2.2.2.2.2.2.2.2.2.1 0
    have c_q_w1 := LK.cell HQ.out.2.2.2.2.2.2.2.2.2.2.1 1
    simp at c_q_s0 c_q_s1 c_q_s2 c_q_s3 c_q_bb0 c_q_r0 c_q_r1 c_q_r2 c_q_r3 c_q_a0 c_q_e0 c_q_w0 c_q_w1
    refine ⟨trivial, ?_⟩
    gi_at_call 40
    refine (CallsIn.inRound l (callsIn_wide.2 (HC.out.2.2.1 _ _ HQ.out.2.2.2.2.2.1.n))).mono ?_
    rintro e w5 ⟨vn, rfl, hm⟩
    clear c_q_s0 c_q_s1 c_q_s2 c_q_s3 c_q_bb0 c_q_r0 c_q_r1 c_q_r2 c_q_r3 c_q_a0 c_q_e0 c_q_w0 c_q_w1
    obtain ⟨q_s, q_bb, q_r, q_a, q_e, O_s, B_b, q_f, hW, D_w, q_w, hB⟩ := HQ.out
    clear HQ
    have hNL := HE.out.2.1
    have B_n := LM.of hm
    have hst := hm.below
    obtain ⟨n1, n2, n3, rfl, n4, n5, n6, n7, hcn⟩ := hm.bytes.at_n hNL (by omega)
    have hzn := hm.thawed _ _ _ _ rfl p hp
    have hcp := hcn p (s.now.getD p 0) (get_l _ _ _ (by omega))
    simp only [bV] at hcp
    unfold maxLen at n7
    clear hm hcn hNL
    have sz_w5 : w4.heap.size ≤ w5.heap.size := hst.size
    replace q_s := q_s.step hst
    replace q_bb := q_bb.step hst
    replace q_r := q_r.step hst
    replace q_a := q_a.step hst
    replace q_e := q_e.step hst
    replace O_s := O_s.step hst
    replace B_b := B_b.step hst
    replace q_f := q_f.step hst
    replace hW := hW.step hst
    replace D_w := D_w.step hst
    replace q_w := q_w.step hst
    replace hB := hB.step hst
    clear hst
    have HQ := Lib.hid (And.intro q_s (And.intro q_bb (And.intro q_r (And.intro q_a (And.intro q_e (And.intro O_s (And.intro B_b (And.intro q_f (And.intro hW (And.intro D_w (And.intro q_w (And.intro B_n hB))))))))))))
    clear q_s q_bb q_r q_a q_e O_s B_b q_f hW D_w q_w B_n hB
    have c_q_s0 := LK.cell HQ.out.1 0
    have c_q_s1 := LK.cell HQ.out.1 1
    have c_q_s2 := LK.cell HQ.out.1 2
    have c_q_s3 := LK.cell HQ.out.1 3
    have c_q_bb0 := LK.cell HQ.out.2.1 0
    have c_q_r0 := LK.cell HQ.out.2.2.1 0
    have c_q_r1 := LK.cell HQ.out.2.2.1 1
    have c_q_r2 := LK.cell HQ.out.2.2.1 2
    have c_q_r3 := LK.cell HQ.out.2.2.1 3
    have c_q_a0 := LK.cell HQ.out.2.2.2.1 0
    have c_q_e0 := LK.cell HQ.out.2.2.2.2.1 0
    have c_q_w0 := LK.cell HQ.out.2.2.2.2.2.2.2.2.2.2.1 0
    have c_q_w1 := LK.cell HQ.out.2.2.2.2.2.2.2.2.2.2.1 1
    simp at c_q_s0 c_q_s1 c_q_s2 c_q_s3 c_q_bb0 c_q_r0 c_q_r1 c_q_r2 c_q_r3 c_q_a0 c_q_e0 c_q_w0 c_q_w1
    gi_wp2_with fail
    clear c_q_s0 c_q_s1 c_q_s2 c_q_s3 c_q_bb0 c_q_r0 c_q_r1 c_q_r2 c_q_r3 c_q_a0 c_q_e0 c_q_w0 c_q_w1
    obtain ⟨q_s, q_bb, q_r, q_a, q_e, O_s, B_b, q_f, hW, D_w, q_w, B_n, hB⟩ := HQ.out
    clear HQ
    have hNL := HE.out.2.1
    have hs6 : (w5.setCell ⟨n1, n2 + p, none⟩ (.int .u8 1)).heap.size = w5.heap.size := by rw [World.size_setCell]
    have hs5 : w5.heap.size ≤ (w5.setCell ⟨n1, n2 + p, none⟩ (.int .u8 1)).heap.size := by omega
    have hbel : Below w4.heap.size w5 (w5.setCell ⟨n1, n2 + p, none⟩ (.int .u8 1)) := (Below.refl _ _).setCell (p := ⟨n1, n2 + p, none⟩) n4 _
    have hfr : ∀ x, x < w5.heap.size → (x < w4.heap.size ∨ w5.heap.size ≤ x) → (w5.setCell ⟨n1, n2 + p, none⟩ (.int .u8 1)).heap[x]? = w5.heap[x]? := fun x h1 h2 => set_other _ _ _ _ x (by omega)
    replace q_s := q_s.out hs5 hfr (by omega)
    replace q_bb := q_bb.out hs5 hfr (by omega)
    replace q_r := q_r.out hs5 hfr (by omega)
    replace q_a := q_a.out hs5 hfr (by omega)
    replace q_e := q_e.out hs5 hfr (by omega)
    replace O_s := O_s.out hs5 hfr (by omega)
    replace B_b := B_b.out hs5 hfr (by omega)
    replace q_f := q_f.out hs5 hfr (by omega)
    replace hW := hW.outB hbel (by omega)
    replace D_w := D_w.out hs5 hfr (by omega)
    replace q_w := q_w.out hs5 hfr (by omega)
    replace B_n := LM.set B_n p 1 (by omega)
    replace hB := hB.outB hbel (by omega)
    have e1 : bV 1 = .int .u8 1 := rfl
    rw [e1] at B_n
    obtain ⟨w6, hw6⟩ : ∃ v, w5.setCell ⟨n1, n2 + p, none⟩ (.int .u8 1) = v := ⟨_, rfl⟩
    rw [hw6] at hs6 q_s q_bb q_r q_a q_e O_s B_b q_f hW D_w q_w B_n hB ⊢
    clear hw6 hs5 hbel hfr e1 hNL hzn hcp
    have HQ := Lib.hid (And.intro q_s (And.intro q_bb (And.intro q_r (And.intro q_a (And.intro q_e (And.intro O_s (And.intro B_b (And.intro q_f (And.intro hW (And.intro D_w (And.intro q_w (And.intro B_n hB))))))))))))
    clear q_s q_bb q_r q_a q_e O_s B_b q_f hW D_w q_w B_n hB
    have c_q_s0 := LK.cell HQ.out.1 0
    have c_q_s1 := LK.cell HQ.out.1 1
    have c_q_s2 := LK.cell HQ.out.1 2
    have c_q_s3 := LK.cell HQ.out.1 3
    have c_q_bb0 := LK.cell HQ.out.2.1 0
    have c_q_r0 := LK.cell HQ.out.2.2.1 0
    have c_q_r1 := LK.cell HQ.out.2.2.1 1
    have c_q_r2 := LK.cell HQ.out.2.2.1 2
    have c_q_r3 := LK.cell HQ.out.2.2.1 3
    have z_q_r0 := LK.frozen HQ.out.2.2.1 0
    have z_q_r1 := LK.frozen HQ.out.2.2.1 1
    have z_q_r2 := LK.frozen HQ.out.2.2.1 2
    have z_q_r3 := LK.frozen HQ.out.2.2.1 3
    have c_q_a0 := LK.cell HQ.out.2.2.2.1 0
    have z_q_a0 := LK.frozen HQ.out.2.2.2.1 0
    have c_q_e0 := LK.cell HQ.out.2.2.2.2.1 0
    have z_q_e0 := LK.frozen HQ.out.2.2.2.2.1 0
    have c_q_w0 := LK.cell HQ.out.2.2.2.2.2.2.2.2.2.2.1 0
    have c_q_w1 := LK.cell HQ.out.2.2.2.2.2.2.2.2.2.2.1 1
    simp at c_q_s0 c_q_s1 c_q_s2 c_q_s3 c_q_bb0 c_q_r0 c_q_r1 c_q_r2 c_q_r3 c_q_a0 c_q_e0 c_q_w0 c_q_w1
    clear z_q_r0 z_q_r1 z_q_r2 z_q_r3 z_q_a0 z_q_e0 c_q_s0 c_q_s1 c_q_s2 c_q_s3 c_q_bb0 c_q_r0 c_q_r1 c_q_r2 c_q_r3 c_q_a0 c_q_e0 c_q_w0 c_q_w1
    obtain ⟨Pr, hPr⟩ : ∃ Pr : World → Prop, ∀ X, Pr X ↔ (X.heap[w3.heap.size]? = w6.heap[w3.heap.size]? ∧ X.heap[w.heap.size]? = w6.heap[w.heap.size]?) := ⟨_, fun _ => Iff.rfl⟩
    have hp0 : Pr w6.drew := (hPr _).2 ⟨rfl, rfl⟩
    have x0 := fun X => blk_cell (((hPr _).1 (selW_pr hp0 X)).1.trans (LK.blk HQ.out.2.2.2.2.2.2.2.2.2.2.1)) 0
    have x1 := fun X => blk_cell (((hPr _).1 (selW_pr hp0 X)).1.trans (LK.blk HQ.out.2.2.2.2.2.2.2.2.2.2.1)) 1
    have x2 := fun X => blk_cell (((hPr _).1 (selW_pr hp0 X)).2.trans (LK.blk HQ.out.1)) 3
    simp at x0 x1 x2
    refine wpIn_region_L (S := Kl Pr w6.drew) 9 (by kernel_rfl) (by kernel_rfl) (fun ⟨_, _, h⟩ => h) (Kl.of hp0) (fun hCl => ?_)
    refine wpAnyL_seg (fuel := 5) (by kernel_rfl) (fun _ d _ _ _ h => by cases d <;> exact h) hCl [0, 1, 2, 3, 6] _ _ _ (by kernel_rfl) (by kernel_rfl) (by kernel_rfl) (by kernel_rfl) ?_
    simp only [opsOf_cons, opsOf_nil, consOp_some, List.getElem?_toArray, List.getElem?_cons_succ, List.getElem?_cons_zero]
    repeat (first | go_big_quiet_step (fail) | quiet_step (fail))
    refine wpQuiet_nil ?_
    refine wpAnyL_each (fuel := 4) [4] (by kernel_rfl) (by simp) (by kernel_rfl) ?_
    refine EachL.cons _ rfl (fun K' hK => ?_) EachL.nil
    go_simp
    refine (HC.out.2.2.2 _ _ (HQ.out.2.2.2.2.2.1.step (Below.refl _ w6).drew).l).mono ?_
    rintro e z7 ⟨vl, rfl, hm7⟩
    obtain ⟨a_l, c_l, rfl, -, -⟩ := hm7.bytes.form rfl
    have h7 : Below w6.heap.size w6 z7 := (Below.refl _ w6).drew.trans hm7.below
    have sz7 : w6.heap.size ≤ z7.heap.size := h7.size
    have g0 : w.heap.size < w6.heap.size := by omega
    have g1 : w3.heap.size < w6.heap.size := (LK.lt HQ.out.2.2.2.2.2.2.2.2.2.2.1)
    have hst : Pr z7 := (hPr _).2 ⟨h7.block _ g1, h7.block _ g0⟩
    have r0 := LK.cell (HQ.out.2.2.1.step h7) 0
    have r1 := LK.cell (HQ.out.2.2.1.step h7) 1
    have r2 := LK.cell (HQ.out.2.2.1.step h7) 2
    have r3 := LK.cell (HQ.out.2.2.1.step h7) 3
    have ra := LK.cell (HQ.out.2.2.2.1.step h7) 0
    have re := LK.cell (HQ.out.2.2.2.2.1.step h7) 0
    simp at r0 r1 r2 r3 ra re
    have s0 := LK.frozen (HQ.out.2.2.1.step h7) 0
    have s1 := LK.frozen (HQ.out.2.2.1.step h7) 1
    have s2 := LK.frozen (HQ.out.2.2.1.step h7) 2
    have s3 := LK.frozen (HQ.out.2.2.1.step h7) 3
    have sa := LK.frozen (HQ.out.2.2.2.1.step h7) 0
    have se := LK.frozen (HQ.out.2.2.2.2.1.step h7) 0
    have HM7 := Lib.hid (And.intro hm7 (And.intro h7 ((hPr _).1 hst)))
    clear hm7 h7
    have hCl : Kl Pr w6.drew _ := Kl.of hst
    refine hK.out (.inr hCl) ?_
    clear hK K'
    refine wpAnyL_each (fuel := 3) [5] (by kernel_rfl) (by simp) (by kernel_rfl) ?_
    refine EachL.cons _ rfl (fun K' hK => ?_) EachL.nil
    go_simp
    have hst : Pr z7 := (hPr _).2 HM7.out.2.2
    have hCl : Kl Pr w6.drew _ := Kl.of hst
    refine hK.out (.inr hCl) ?_
    clear hK K'
    refine wpAnyL_each (fuel := 2) [7] (by kernel_rfl) (by simp) (by kernel_rfl) ?_
    refine EachL.cons _ rfl (fun K' hK => ?_) EachL.nil
    go_simp
    have hst : Pr ((((z7.setCell ⟨w.heap.size + 1 + 1, 0, none⟩ (.slice ab_w wd.blocks.length cb_w)).setCell ⟨w.heap.size + 1 + 1, 1, none⟩ (.slice au_w wd.waits.length cu_w)).setCell ⟨w.heap.size + 1 + 1, 2, none⟩ (.slice (some ⟨n1, n2, none⟩) 256 n3)).setCell ⟨w.heap.size + 1 + 1, 3, none⟩ (.slice a_l s.last.length c_l)) := (hPr _).2 ⟨((set_other _ _ _ _ _ (by omega)).trans ((set_other _ _ _ _ _ (by omega)).trans ((set_other _ _ _ _ _ (by omega)).trans (set_other _ _ _ _ _ (by omega))))).trans HM7.out.2.2.1, ((set_other _ _ _ _ _ (by omega)).trans ((set_other _ _ _ _ _ (by omega)).trans ((set_other _ _ _ _ _ (by omega)).trans (set_other _ _ _ _ _ (by omega))))).trans HM7.out.2.2.2⟩
    have HST := Lib.hid hst
    have hCl : Kl Pr w6.drew _ := Kl.of hst
    refine hK.out (.inr hCl) ?_
    clear hK K'
    refine wpAnyL_each (fuel := 1) [8] (by kernel_rfl) (by simp) (by kernel_rfl) ?_
    refine EachL.cons _ rfl (fun K' hK => ?_) EachL.nil
    go_simp
    have hst : Pr (((((z7.setCell ⟨w.heap.size + 1 + 1, 0, none⟩ (.slice ab_w wd.blocks.length cb_w)).setCell ⟨w.heap.size + 1 + 1, 1, none⟩ (.slice au_w wd.waits.length cu_w)).setCell ⟨w.heap.size + 1 + 1, 2, none⟩ (.slice (some ⟨n1, n2, none⟩) 256 n3)).setCell ⟨w.heap.size + 1 + 1, 3, none⟩ (.slice a_l s.last.length c_l)).setCell ⟨w.heap.size + 1 + 1 + 1, 0, none⟩ (.int .i64 (p : Int))) := (hPr _).2 ⟨(set_other _ _ _ _ _ (by omega)).trans ((hPr _).1 HST.out).1, (set_other _ _ _ _ _ (by omega)).trans ((hPr _).1 HST.out).2⟩
    have hCl : Kl Pr w6.drew _ := Kl.of hst
    refine hK.out (.inr hCl) ?_
    clear hK K'
    refine wpAnyL_each (fuel := 0) [9] (by kernel_rfl) (by simp) (by kernel_rfl) ?_
    refine EachL.cons _ rfl (fun K' hK => ?_) EachL.nil
    go_simp
    refine hK.out (.inl rfl) ?_
    clear hK K'
    refine wpAnyL_done (by kernel_rfl) ?_ _
    clear x0 x1 x2
    gi_wp2
    obtain ⟨hm7, h7, -⟩ := HM7.out
    obtain ⟨Z, hZ, p1, p2, p3, p4, p5, p6⟩ := put6 (a' := .slice ab_w wd.blocks.length cb_w) (b' := .slice au_w wd.waits.length cu_w) (c' := .slice (some ⟨n1, n2, none⟩) 256 n3) (d' := .slice a_l s.last.length c_l) (e' := .int .i64 (p : Int)) (f' := .int .i64 0) (r := w.heap.size + 1 + 1) (LK.blk (HQ.out.2.2.1.step h7)) (LK.blk (HQ.out.2.2.2.1.step h7)) (LK.blk (HQ.out.2.2.2.2.1.step h7))
    rw [hZ]
    have hA := HA.out.1
    rw [if_pos (by trivial)] at hA
    have hD := HQ.out.2.2.2.2.2.2.2.2.2.1.step h7
    have hN := HQ.out.2.2.2.2.2.2.2.2.2.2.2.1.step h7
    have hs7 : StoreT z7 (w.heap.size + 5) z7.heap.size (.slice ab_w wd.blocks.length cb_w) (.slice au_w wd.waits.length cu_w) (.slice (some ⟨n1, n2, none⟩) 256 n3) (.slice a_l s.last.length c_l) ⟨wd, s.now.set p 1, s.last⟩ := ⟨DiskT.more hD.t (by omega) (Lv.hi_le hD), ⟨hN.m.1.more (by omega) (Lv.hi_le hN), hN.m.2⟩, ⟨hm7.bytes.more (show w.heap.size + 5 ≤ w6.heap.size by omega) (Nat.le_refl _), hm7.thawed⟩⟩
    have hsZ := (hs7.keep (w' := Z) (fun x o h1 h2 => ⟨heap_cell (p4 x (by omega) (by omega) (by omega)) o, heap_frozen (p4 x (by omega) (by omega) (by omega)) o⟩)).more (Nat.le_refl _) (Nat.le_of_eq p5.symm)
    refine ⟨keep6 (HQ.out.2.2.2.2.2.2.2.2.1.step h7) (LK.blk (HQ.out.2.2.1.step h7)) (LK.blk (HQ.out.2.2.2.1.step h7)) (LK.blk (HQ.out.2.2.2.2.1.step h7)) (Nat.le_of_eq p5.symm) (fun x _ x1 x2 x3 => p4 x x1 x2 x3), ⟨⟨p, hp⟩, rfl, rfl, ⟨_, _, _, _, p1, ?_⟩, ?_, ?_⟩, Below.trans (LW.step HQ.out.2.2.2.2.2.2.2.2.2.2.2.2 h7) (p6 w.heap.size (by omega))⟩
    · show StoreT _ _ _ _ _ _ _ (atOf s b p).1
      rw [hA]
      exact hsZ
    · show _ = some (Obj.cells #[.int .i64 (atOf s b p).2.1] _ _)
      rw [hA]
      exact p2
    · show _ = some (Obj.cells #[.int .i64 (atOf s b p).2.2] _ _)
      rw [hA]
      exact p3
  case done =>
    rintro D xs W hD rfl ⟨hnil, hBW⟩ hK
    have hfs : freeS s = [] := by unfold freeS; rw [← freeF_map s 256 (Nat.le_refl _), hnil]; rfl
    obtain ⟨rfl, rfl, rfl⟩ := HE.out.1.1 hfs
    obtain ⟨q_s, q_bb, q_r, q_a, q_e, O_s, B_b, q_f, hB⟩ := HQ.out
    clear HQ
    replace q_s := q_s.step hBW
    replace q_bb := q_bb.step hBW
    replace q_r := q_r.step hBW
    replace q_a := q_a.step hBW
    replace q_e := q_e.step hBW
    replace O_s := O_s.step hBW
    replace B_b := B_b.step hBW
    replace q_f := q_f.step hBW
    replace hB := hB.step hBW
    have sz_W : w2.heap.size ≤ W.heap.size := hBW.size
    have HQ := Lib.hid (And.intro q_s (And.intro q_bb (And.intro q_r (And.intro q_a (And.intro q_e (And.intro O_s (And.intro B_b (And.intro q_f hB))))))))
    clear q_s q_bb q_r q_a q_e O_s B_b q_f hB
    have c_q_s0 := LK.cell HQ.out.1 0
    have c_q_s1 := LK.cell HQ.out.1 1
    have c_q_s2 := LK.cell HQ.out.1 2
    have c_q_s3 := LK.cell HQ.out.1 3
    have c_q_bb0 := LK.cell HQ.out.2.1 0
    have c_q_r0 := LK.cell HQ.out.2.2.1 0
    have c_q_r1 := LK.cell HQ.out.2.2.1 1
    have c_q_r2 := LK.cell HQ.out.2.2.1 2
    have c_q_r3 := LK.cell HQ.out.2.2.1 3
    have z_q_r0 := LK.frozen HQ.out.2.2.1 0
    have z_q_r1 := LK.frozen HQ.out.2.2.1 1
    have z_q_r2 := LK.frozen HQ.out.2.2.1 2
    have z_q_r3 := LK.frozen HQ.out.2.2.1 3
    have c_q_a0 := LK.cell HQ.out.2.2.2.1 0
    have z_q_a0 := LK.frozen HQ.out.2.2.2.1 0
    have c_q_e0 := LK.cell HQ.out.2.2.2.2.1 0
    have z_q_e0 := LK.frozen HQ.out.2.2.2.2.1 0
    simp at c_q_s0 c_q_s1 c_q_s2 c_q_s3 c_q_bb0 c_q_r0 c_q_r1 c_q_r2 c_q_r3 c_q_a0 c_q_e0
    gi_wp2
    obtain ⟨Z, hZ, p1, p2, p3, p4, p5, p6⟩ := put6 (a' := .slice none 0 0) (b' := .slice none 0 0) (c' := .slice none 0 0) (d' := .slice none 0 0) (e' := .int .i64 0) (f' := .int .i64 9) (r := w.heap.size + 1 + 1) (LK.blk HQ.out.2.2.1) (LK.blk HQ.out.2.2.2.1) (LK.blk HQ.out.2.2.2.2.1)
    rw [hZ]
    have hK2 : Z.heap[D]? = some (.deferred (some [])) := (p4 D (by omega) (by omega) (by omega)).trans hK
    refine ⟨by simp, .inl ⟨_, _, rfl, run_takeDeferred hK2, ?_⟩⟩
    have hgr := grownBy_putObj' Z D (.deferred none)
    have hrr : ∀ r, some D = some r → ∃ o : Obj, Z.heap[r]? = some o ∧ o.isCells = false := fun r e => by cases e; exact ⟨_, hK2, rfl⟩
    have qr2 := blk_grown hgr hrr p1
    have qa2 := blk_grown hgr hrr p2
    have qe2 := blk_grown hgr hrr p3
    have t0 := blk_cell qr2 0
    have t1 := blk_cell qr2 1
    have t2 := blk_cell qr2 2
    have t3 := blk_cell qr2 3
    have t4 := blk_cell qa2 0
    have t5 := blk_cell qe2 0
    simp at t0 t1 t2 t3 t4 t5
    have hB2 := belowK_b (w := w) (Nat.le_refl _) Z D (.deferred (some [])) (.deferred none) (by omega) hK2 rfl rfl
    refine ⟨.tuple #[.agg #[.slice none 0 0, .slice none 0 0, .slice none 0 0, .slice none 0 0], .int .i64 0, .int .i64 9], by simp [results, Try.results9, go_sem, t0, t1, t2, t3, t4, t5], _, _, _, _, rfl, MadeS.nil_ ((Below.trans HQ.out.2.2.2.2.2.2.2.2 (p6 w.heap.size (by omega))).trans hB2)⟩
  case stop =>
    rintro D c pre Z hD ⟨n, hn, hpre⟩ ⟨⟨x, rfl, rfl, ⟨b1, u1, x1, y1, p1, hs1⟩, p2, p3⟩, hBZ⟩ hK2
    have hx : atOf s b x.1 = (ts, at1, et) := by
      have e1 := freeF_map s n hn
      rw [← hpre] at e1
      obtain ⟨r, hr⟩ := freeN_pre (s := s) hn
      rw [← e1] at hr
      exact HE.out.1.2 x.1 r hr
    rw [hx] at p2 p3 hs1
    have HF := Lib.hid (And.intro p1 (And.intro p2 (And.intro p3 (And.intro hs1 (And.intro hBZ hK2)))))
    clear p1 p2 p3 hs1 hBZ hK2 hx hpre hn
    gi_wp2
    obtain ⟨p1, p2, p3, hs1, hBZ, hK2⟩ := HF.out
    refine ⟨by simp, .inl ⟨_, _, rfl, run_takeDeferred hK2, ?_⟩⟩
    have hgr := grownBy_putObj' Z D (.deferred none)
    have hrr : ∀ r, some D = some r → ∃ o : Obj, Z.heap[r]? = some o ∧ o.isCells = false := fun r e => by cases e; exact ⟨_, hK2, rfl⟩
    have qr2 := blk_grown hgr hrr p1
    have qa2 := blk_grown hgr hrr p2
    have qe2 := blk_grown hgr hrr p3
    have t0 := blk_cell qr2 0
    have t1 := blk_cell qr2 1
    have t2 := blk_cell qr2 2
    have t3 := blk_cell qr2 3
    have t4 := blk_cell qa2 0
    have t5 := blk_cell qe2 0
    simp at t0 t1 t2 t3 t4 t5
    have hB2 := belowK_b (w := w) (Nat.le_refl _) Z D (.deferred (some [])) (.deferred none) (by omega) hK2 rfl rfl
    refine ⟨.tuple #[.agg #[b1, u1, x1, y1], .int .i64 at1, .int .i64 et], by simp [results, Try.results9, go_sem, t0, t1, t2, t3, t4, t5], _, _, _, _, rfl, ⟨(hs1.ck (grown_ck hgr hrr) hgr.size).more (by omega) (Nat.le_refl _), hBZ.trans hB2⟩⟩

/-- room.Take. -/
theorem stake_any (b_s u_s x_s y_s : Value) (s : StoreL) (v_b : Value) (b : List UInt8) (w : World) (h_s : StoreV w 0 w.heap.size b_s u_s x_s y_s s) (h_b : Bytes w 0 w.heap.size v_b b) :
    Calls Try.prog 9 #[.agg #[b_s, u_s, x_s, y_s], v_b] w fun e w' => ∃ b' u' x' y', e = .returned (.tuple #[.agg #[b', u', x', y'], .int .i64 (atTk s b), .int .i64 (errTk s b)]) ∧ MadeS w w' b' u' x' y' (takeS s b) := by
  by_cases hm : mayS s = true
  · by_cases hl : b.length = 128
    · exact stake_yes b_s u_s x_s y_s s v_b b w h_s h_b hm hl
    · exact stake_no b_s u_s x_s y_s s v_b b w h_s h_b (.inr hl)
  · exact stake_no b_s u_s x_s y_s s v_b b w h_s h_b (.inl (by simpa using hm))
end Go.Proofs.Ytkfgegdnpinbdaa

namespace Go.Proofs.Ytkfgegdnpinbdaa
open Go.RowKit

def hidN (nb g k : Nat) : Bool := k == nb || k == g
/-- A bench in block g: its own counts lie in block nb, from lo on; what it has of a disk, and the counts of before, lie elsewhere. -/
structure BenAt (V : World) (lo g nb no nc : Nat) (b u y : Value) (s : StoreL) : Prop where
  blk : V.heap[g]? = some (.cells #[b, u, .slice (some ⟨nb, no, none⟩) 256 nc, y] 132 (0, 0))
  disk : DiskV (hideW V (hidN nb g)) 0 V.heap.size b u s.disk
  now : Bytes V lo V.heap.size (.slice (some ⟨nb, no, none⟩) 256 nc) s.now
  thaw : Thawed V (.slice (some ⟨nb, no, none⟩) 256 nc)
  last : Bytes (hideW V (hidN nb g)) 0 V.heap.size y s.last
  len : s.now.length = 256
  lo_ : lo ≤ nb ∧ lo ≤ g ∧ g ≠ nb ∧ nb < V.heap.size
section
variable {V V' : World} {lo g nb no nc : Nat} {b u y : Value} {s : StoreL}
theorem hid_self (V : World) (nb g : Nat) (V' : World) (h : ∀ k, k < V.heap.size → k ≠ nb → k ≠ g → V'.heap[k]? = V.heap[k]?) : CKc (hideW V (hidN nb g)) (hideW V' (hidN nb g)) :=
  hideW_ck fun k hk hS => ⟨hS, h k hk (fun e => by subst e; simp [hidN] at hS) (fun e => by subst e; simp [hidN] at hS)⟩
theorem DiskV.ck {w w' : World} {lo hi : Nat} {b u : Value} {d : DiskL} (h : DiskV w lo hi b u d) (hc : CKc w w') : DiskV w' lo hi b u d := ⟨Sl.ck rBytes_ck h.1 hc, Sl.ck rWrite_ck h.2 hc⟩
theorem BenAt.step (h : BenAt V lo g nb no nc b u y s) (hb : Below V.heap.size V V') : BenAt V' lo g nb no nc b u y s := by
  have hg := (Array.getElem?_eq_some_iff.1 h.blk).1
  have hc := hid_self V nb g V' (fun k hk _ _ => hb.block k hk)
  exact ⟨(hb.block g hg).trans h.blk, DiskV.more (h.disk.ck hc) (Nat.le_refl _) hb.size, h.now.step hb, thawed_below h.now h.thaw hb (Nat.le_refl _), (h.last.ck hc).more (Nat.le_refl _) hb.size, h.len, h.lo_.1, h.lo_.2.1, h.lo_.2.2.1, Nat.lt_of_lt_of_le h.lo_.2.2.2 hb.size⟩
/-- A count is stored. -/
theorem BenAt.set (h : BenAt V lo g nb no nc b u y s) (i : Nat) (x : UInt8) (hi : i < 256) : BenAt (V.setCell ⟨nb, no + i, none⟩ (bV x)) lo g nb no nc b u y ⟨s.disk, s.now.set i x, s.last⟩ := by
  have hsz : (V.setCell ⟨nb, no + i, none⟩ (bV x)).heap.size = V.heap.size := World.size_setCell _ _ _
  have hc := hid_self V nb g (V.setCell ⟨nb, no + i, none⟩ (bV x)) (fun k _ hk _ => set_other V nb _ _ k hk)
  refine ⟨(set_other V nb _ _ g h.lo_.2.2.1).trans h.blk, ?_, ?_, h.thaw.set _ _, ?_, by simp [h.len], h.lo_.1, h.lo_.2.1, h.lo_.2.2.1, by rw [hsz]; exact h.lo_.2.2.2⟩
  · rw [hsz]; exact h.disk.ck hc
  · rw [hsz]; exact h.now.set i x (by rw [h.len]; exact hi)
  · rw [hsz]; exact h.last.ck hc
theorem BenAt.store (h : BenAt V lo g nb no nc b u y s) : StoreV V 0 V.heap.size b u (.slice (some ⟨nb, no, none⟩) 256 nc) y s :=
  ⟨h.disk.ck (hideW_out V _), h.now.all0, h.last.ck (hideW_out V _)⟩
theorem BenAt.cell (h : BenAt V lo g nb no nc b u y s) (i : Nat) (hi : i < 256) : V.cell? ⟨nb, no + i, none⟩ = some (bV (s.now.getD i 0)) := h.now.cellAt i _ (get_l _ _ _ (by rw [h.len]; exact hi))
end

/-- The bench has another list of what waits. -/
theorem BenAt.waits {V : World} {lo g nb no nc : Nat} {b u y : Value} {s : StoreL} (h : BenAt V lo g nb no nc b u y s) (V' : World) (hk : ∀ k, k < V.heap.size → k ≠ g → V'.heap[k]? = V.heap[k]?) (hs : V.heap.size ≤ V'.heap.size) (u' : Value)
    (hg : V'.heap[g]? = some (.cells #[b, u', .slice (some ⟨nb, no, none⟩) 256 nc, y] 132 (0, 0))) (l : List WrL) (hd : Sl rWrite (hideW V' (hidN nb g)) 0 V'.heap.size u' l) :
    BenAt V' lo g nb no nc b u' y ⟨⟨s.disk.blocks, l⟩, s.now, s.last⟩ := by
  have hc := hid_self V nb g V' (fun k hk' _ h2 => hk k hk' h2)
  have hnb := hk nb h.lo_.2.2.2 (fun e => h.lo_.2.2.1 e.symm)
  refine ⟨hg, ⟨(Sl.ck rBytes_ck h.disk.1 hc).more (Nat.le_refl _) hs, hd⟩, ?_, ?_, (h.last.ck hc).more (Nat.le_refl _) hs, h.len, h.lo_.1, h.lo_.2.1, h.lo_.2.2.1, Nat.lt_of_lt_of_le h.lo_.2.2.2 hs⟩
  · obtain ⟨a, c, e, h1, h2, h3, h4⟩ := h.now
    refine ⟨a, c, e, h1, h2, fun hp => ?_, h4⟩
    obtain ⟨b', off, ea, hlo, hhi, hx⟩ := h3 hp
    refine ⟨b', off, ea, hlo, Nat.lt_of_lt_of_le hhi hs, fun i x hxi => ?_⟩
    rw [ea] at e
    injection e with e1 _ _
    injection e1 with e1
    injection e1 with e1 _ _
    subst e1
    exact (World.cell?_of_block hnb).trans (hx i x hxi)
  · intro b' off n c e i hi
    have := h.thaw b' off n c e i hi
    injection e with e1 _ _
    injection e1 with e1
    injection e1 with e1 _ _
    subst e1
    exact (World.frozen?_of_block hnb).trans this

end Go.Proofs.Ytkfgegdnpinbdaa

namespace Go.Proofs.Ytkfgegdnpinbdaa
open Go.RowKit Go.Shelf
attribute [local go_sem] Oper.semAt_some

def errBn (s : StoreL) (p : Nat) : Int := if s.now.getD p 0 = 0 then 8 else if errNd (seenD s.disk p) = 0 then 0 else 8
def nodeB (s : StoreL) (p : Nat) : NodeL := if errBn s p = 0 then readNd (seenD s.disk p) else ⟨0, []⟩

end Go.Proofs.Ytkfgegdnpinbdaa

