/- RoomCounts: the words and contracts, part 10. -/
import Derived.Test.YtbddbadmfhplmaaRoomCountsQ1
import Derived.Test.YtbddbadmfhplmaaRoomCountsQ2
import Derived.Test.YtbddbadmfhplmaaRoomCountsQ3
import Derived.Test.YtbddbadmfhplmaaRoomCountsQ4
import Derived.Test.YtbddbadmfhplmaaRoomCountsQ5
import Derived.Test.YtbddbadmfhplmaaRoomCountsQ6
import Derived.Test.YtbddbadmfhplmaaRoomCountsQ7
import Derived.Test.YtbddbadmfhplmaaRoomCountsQ8
import Derived.Test.YtbddbadmfhplmaaRoomCountsQ9
import Derived.WalkKit
import Derived.WalkLawsBesides
import Derived.WalkSpells
import Derived.Lib.Hide
import Derived.Laws.Rows
import Derived.Laws.AppendOwnNone
import Derived.Maps.AppendAt
import Derived.ProofKit
import Derived.Deep.Slices
import Derived.WideShapes
import Derived.RangeFuncNested
import Derived.RangeFuncBound
import Derived.RangeFuncCalls
import Derived.RangeFuncLeaves
import Derived.RangeFuncBox
import Derived.Shelf.Abstract
import Derived.Shelf.RegionOpen
import Derived.OwnWalkIn
import Derived.TacticsInMore
import Derived.LoopNIn
import Derived.LoopIn
import Derived.Lib.AppendZerosOnto
import Derived.Lib.SliceRun
import Derived.Lib.Walk
import Derived.Deep.LoopGhost
import Derived.Laws.CopyOwn
import Derived.Laws.CopyRow
import Derived.OrdersHeld
import Derived.Deep.QuietTactic
import Derived.BigQuiet
import Derived.StillTailTactics
import Derived.OpenShut
import Derived.Deep.DeepCutAuto
import Derived.Laws.MakeOwn
import Derived.Deep.RegionHeld
import Derived.KernelRfl
import Derived.BigFrameIn
namespace Go.Proofs.Ytbddbadmfhplmaa
open Go.RowKit

set_option maxRecDepth 100000 in
set_option maxHeartbeats 1000000 in
theorem scheck_any (b_s u_s x_s y_s : Value) (s : StoreL) (w : World) (h_s : StoreV w 0 w.heap.size b_s u_s x_s y_s s) :
    Calls Try.prog 17 #[.agg #[b_s, u_s, x_s, y_s]] w fun e w' => e = .returned (.int .i64 (errS s)) ∧ Below w.heap.size w w' := by
  obtain ⟨ab_s, cb_s, rfl, gb_s, gc_s, -, -⟩ := h_s.1.1
  obtain ⟨au_s, cu_s, rfl, gu_s, gv_s, -, -⟩ := h_s.1.2
  obtain ⟨ax_s, cx_s, rfl, gx_s, gz_s⟩ := h_s.2.1.form rfl
  obtain ⟨ay_s, cy_s, rfl, gy_s, gw_s⟩ := h_s.2.2.form rfl
  unfold maxLen at gc_s gv_s gz_s gw_s
  have hst := ((Below.refl w.heap.size w).alloc (Nat.le_refl _) (.cells #[.slice ab_s s.disk.blocks.length cb_s, .slice au_s s.disk.waits.length cu_s, .slice ax_s s.now.length cx_s, .slice ay_s s.last.length cy_s] 28))
  have q_s := LK.new w (.cells #[.slice ab_s s.disk.blocks.length cb_s, .slice au_s s.disk.waits.length cu_s, .slice ax_s s.now.length cx_s, .slice ay_s s.last.length cy_s] 28)
  have hB : LW w _ := hst
  have O_s := (LO.of h_s (Nat.le_refl _)).step hst
  have sz_V : w.heap.size + 0 < (w.alloc (.cells #[.slice ab_s s.disk.blocks.length cb_s, .slice au_s s.disk.waits.length cu_s, .slice ax_s s.now.length cx_s, .slice ay_s s.last.length cy_s] 28)).heap.size := by simp
  obtain ⟨V, hV⟩ : ∃ V, (w.alloc (.cells #[.slice ab_s s.disk.blocks.length cb_s, .slice au_s s.disk.waits.length cu_s, .slice ax_s s.now.length cx_s, .slice ay_s s.last.length cy_s] 28)) = V := ⟨_, rfl⟩
  rw [hV] at sz_V q_s O_s hB
  clear hst h_s
  have HQ := Lib.hid (And.intro q_s (And.intro O_s hB))
  clear q_s O_s hB
  have c_q_s0 := LK.cell HQ.out.1 0
  have c_q_s1 := LK.cell HQ.out.1 1
  have c_q_s2 := LK.cell HQ.out.1 2
  have c_q_s3 := LK.cell HQ.out.1 3
  simp at c_q_s0 c_q_s1 c_q_s2 c_q_s3
  obtain ⟨md, hmd⟩ : ∃ b, mayD s.disk = b := ⟨_, rfl⟩
  obtain ⟨mn, hmn⟩ : ∃ b, mayT s.now = b := ⟨_, rfl⟩
  obtain ⟨ml, hml⟩ : ∃ b, mayT s.last = b := ⟨_, rfl⟩
  have hE : errS s = if md && (mn && ml) then 0 else 8 := by unfold errS mayS; rw [hmd, hmn, hml]
  obtain ⟨es, hes⟩ : ∃ e, errS s = e := ⟨_, rfl⟩
  rw [hes] at hE ⊢
  have k_d := fun V b u hh => dcheck_any b u s.disk V hh
  have k_n := fun V v hh => ccheck_any v s.now V hh
  have k_l := fun V v hh => ccheck_any v s.last V hh
  rw [hmd] at k_d
  rw [hmn] at k_n
  rw [hml] at k_l
  have HE := Lib.hid hE
  clear hE hes hmd hmn hml
  have HC := Lib.hid (And.intro k_d (And.intro k_n k_l))
  clear k_d k_n k_l
  go_enter Try.func17, Try.ntmps17
  go_upto_region 1 with (fail)
  clear hV
  go_wp2_with fail
  refine (HC.out.1 _ _ _ HQ.out.2.1.d).mono ?_
  rintro e w1 ⟨rfl, hst⟩
  clear c_q_s0 c_q_s1 c_q_s2 c_q_s3
  obtain ⟨q_s, O_s, hB⟩ := HQ.out
  clear HQ
  have sz_w1 : V.heap.size ≤ w1.heap.size := hst.size
  replace q_s := q_s.step hst
  replace O_s := O_s.step hst
  replace hB := hB.step hst
  clear hst
  have HQ := Lib.hid (And.intro q_s (And.intro O_s hB))
  clear q_s O_s hB
  have c_q_s0 := LK.cell HQ.out.1 0
  have c_q_s1 := LK.cell HQ.out.1 1
  have c_q_s2 := LK.cell HQ.out.1 2
  have c_q_s3 := LK.cell HQ.out.1 3
  simp at c_q_s0 c_q_s1 c_q_s2 c_q_s3
  cases md
  case false =>
    obtain rfl : es = 8 := HE.out
    simp only [Bool.false_eq_true, if_false]
    go_wp2
    go_ret
    exact ⟨rfl, HQ.out.2.2⟩
  case true =>
  simp only [if_true]
  go_wp2_with fail
  refine (HC.out.2.1 _ _ HQ.out.2.1.n).mono ?_
  rintro e w0 ⟨rfl, hw0⟩
  rw [hw0]
  clear hw0 w0
  cases mn
  case false =>
    obtain rfl : es = 8 := HE.out
    simp only [Bool.false_eq_true, if_false]
    go_wp2
    go_ret
    exact ⟨rfl, HQ.out.2.2⟩
  case true =>
  simp only [if_true]
  go_wp2_with fail
  refine (HC.out.2.2 _ _ HQ.out.2.1.l).mono ?_
  rintro e w0 ⟨rfl, hw0⟩
  rw [hw0]
  clear hw0 w0
  cases ml
  case false =>
    obtain rfl : es = 8 := HE.out
    simp only [Bool.false_eq_true, if_false]
    go_wp2
    go_ret
    exact ⟨rfl, HQ.out.2.2⟩
  case true =>
  obtain rfl : es = 0 := HE.out
  simp only [if_true]
  go_wp2
  go_ret
  exact ⟨rfl, HQ.out.2.2⟩

theorem dtwin_made (b u : Value) (d : DiskL) (w : World) (h : DiskV w 0 w.heap.size b u d) (hn1 : d.blocks.length ≤ 100000) (hn2 : d.waits.length ≤ 100000) (hT : (datD d).flatten.length ≤ 100000000) :
    Calls Try.prog 77 #[.agg #[b, u]] w fun e w' => ∃ b' u', e = .returned (.agg #[b', u']) ∧ MadeD w w' b' u' d :=
  (dtwin_any b u d w h hn1 hn2 hT).mono fun _ _ ⟨_, _, _, _, he, ht, hb⟩ => ⟨_, _, he, ⟨ht.disk hT hn1 hn2, hb⟩⟩
/-- A store that is not too great to be copied. -/
structure FewS (s : StoreL) : Prop where
  b : s.disk.blocks.length ≤ 100000
  w : s.disk.waits.length ≤ 100000
  f : (datD s.disk).flatten.length ≤ 100000000
  n : s.now.length ≤ 1000000000
  l : s.last.length ≤ 1000000000
theorem FewS.of_may {s : StoreL} (h : mayS s = true) : FewS s := by
  obtain ⟨m1, m2, m3⟩ := mayS_iff.1 h
  obtain ⟨a1, a2, a3, a4⟩ := may_len m1
  have := mayT_len m2
  have := mayT_len m3
  exact ⟨by omega, by omega, dat_le (by omega) (by omega) (fun x hx => Nat.le_of_eq (a3 x hx)) (fun x hx => Nat.le_of_eq (a4 x hx).2.2), by omega, by omega⟩

set_option maxRecDepth 100000 in
set_option maxHeartbeats 1000000 in
theorem stwin_any (b_s u_s x_s y_s : Value) (s : StoreL) (w : World) (h_s : StoreV w 0 w.heap.size b_s u_s x_s y_s s) (hf : FewS s) :
    Calls Try.prog 36 #[.agg #[b_s, u_s, x_s, y_s]] w fun e w' => ∃ b u x y, e = .returned (.agg #[b, u, x, y]) ∧ MadeS w w' b u x y s := by
  obtain ⟨ab_s, cb_s, rfl, gb_s, gc_s, -, -⟩ := h_s.1.1
  obtain ⟨au_s, cu_s, rfl, gu_s, gv_s, -, -⟩ := h_s.1.2
  obtain ⟨ax_s, cx_s, rfl, gx_s, gz_s⟩ := h_s.2.1.form rfl
  obtain ⟨ay_s, cy_s, rfl, gy_s, gw_s⟩ := h_s.2.2.form rfl
  unfold maxLen at gc_s gv_s gz_s gw_s
  have hst := (((Below.refl w.heap.size w).alloc (Nat.le_refl _) (.cells #[.slice ab_s s.disk.blocks.length cb_s, .slice au_s s.disk.waits.length cu_s, .slice ax_s s.now.length cx_s, .slice ay_s s.last.length cy_s] 28)).alloc (by simp) (.cells #[.slice none 0 0, .slice none 0 0, .slice none 0 0, .slice none 0 0] 28))
  have hq := two_new w (.cells #[.slice ab_s s.disk.blocks.length cb_s, .slice au_s s.disk.waits.length cu_s, .slice ax_s s.now.length cx_s, .slice ay_s s.last.length cy_s] 28) (.cells #[.slice none 0 0, .slice none 0 0, .slice none 0 0, .slice none 0 0] 28)
  have q_s := LK.of hq.1
  have q_r := LK.of hq.2
  have hB : LW w _ := hst
  have O_s := (LO.of h_s (Nat.le_refl _)).step hst
  have sz_V : w.heap.size + 1 < ((w.alloc (.cells #[.slice ab_s s.disk.blocks.length cb_s, .slice au_s s.disk.waits.length cu_s, .slice ax_s s.now.length cx_s, .slice ay_s s.last.length cy_s] 28)).alloc (.cells #[.slice none 0 0, .slice none 0 0, .slice none 0 0, .slice none 0 0] 28)).heap.size := by simp
  obtain ⟨V, hV⟩ : ∃ V, ((w.alloc (.cells #[.slice ab_s s.disk.blocks.length cb_s, .slice au_s s.disk.waits.length cu_s, .slice ax_s s.now.length cx_s, .slice ay_s s.last.length cy_s] 28)).alloc (.cells #[.slice none 0 0, .slice none 0 0, .slice none 0 0, .slice none 0 0] 28)) = V := ⟨_, rfl⟩
  rw [hV] at sz_V q_s q_r O_s hB
  clear hst h_s hq
  have HQ := Lib.hid (And.intro q_s (And.intro q_r (And.intro O_s hB)))
  clear q_s q_r O_s hB
  have c_q_s0 := LK.cell HQ.out.1 0
  have c_q_s1 := LK.cell HQ.out.1 1
  have c_q_s2 := LK.cell HQ.out.1 2
  have c_q_s3 := LK.cell HQ.out.1 3
  have c_q_r0 := LK.cell HQ.out.2.1 0
  have c_q_r1 := LK.cell HQ.out.2.1 1
  have c_q_r2 := LK.cell HQ.out.2.1 2
  have c_q_r3 := LK.cell HQ.out.2.1 3
  simp at c_q_s0 c_q_s1 c_q_s2 c_q_s3 c_q_r0 c_q_r1 c_q_r2 c_q_r3
  obtain ⟨f1, f2, f3, f4, f5⟩ := hf
  have k_d := fun V b u hh => dtwin_made b u s.disk V hh f1 f2 f3
  have k_n := fun V v hh => bclone_any v s.now V hh f4
  have k_l := fun V v hh => bclone_any v s.last V hh f5
  clear f1 f2 f3 f4 f5
  have HC := Lib.hid (And.intro k_d (And.intro k_n k_l))
  clear k_d k_n k_l
  go_enter Try.func36, Try.ntmps36
  go_upto_region 1 with (fail)
  clear hV
  clear c_q_s0 c_q_s1 c_q_s2 c_q_s3 c_q_r0 c_q_r1 c_q_r2 c_q_r3
  obtain ⟨Pr, hPr⟩ : ∃ Pr : World → Prop, ∀ X, Pr X ↔ Below V.heap.size V X := ⟨_, fun _ => Iff.rfl⟩
  have hp0 : Pr V.drew := (hPr _).2 (Below.refl _ V).drew
  have x0 := fun X => LK.cell (HQ.out.1.step ((hPr _).1 (selW_pr hp0 X))) 0
  have x1 := fun X => LK.cell (HQ.out.1.step ((hPr _).1 (selW_pr hp0 X))) 1
  have x2 := fun X => LK.cell (HQ.out.1.step ((hPr _).1 (selW_pr hp0 X))) 2
  have x3 := fun X => LK.cell (HQ.out.1.step ((hPr _).1 (selW_pr hp0 X))) 3
  simp at x0 x1 x2 x3
  refine wp_region_L (S := Kl Pr V.drew) 10 (by kernel_rfl) (Kl.of hp0) (fun hCl => ?_)
  refine wpAnyL_seg (fuel := 5) (by kernel_rfl) (fun _ d _ _ _ h => by cases d <;> exact h) hCl [0, 1, 3, 4, 6, 7] _ _ _ (by kernel_rfl) (by kernel_rfl) (by kernel_rfl) (by kernel_rfl) ?_
  simp only [opsOf_cons, opsOf_nil, consOp_some, List.getElem?_toArray, List.getElem?_cons_succ, List.getElem?_cons_zero]
  repeat (first | go_big_quiet_step (fail) | quiet_step (fail))
  refine wpQuiet_nil ?_
  refine wpAnyL_each (fuel := 4) [2] (by kernel_rfl) (by simp) (by kernel_rfl) ?_
  refine EachL.cons _ rfl (fun K' hK => ?_) EachL.nil
  go_simp
  refine (HC.out.1 _ _ _ (HQ.out.2.2.1.step (Below.refl _ V).drew).d).mono ?_
  rintro e z1 ⟨b1, u1, rfl, hm1⟩
  obtain ⟨ab_r, cb_r, rfl, -, -, -, -⟩ := hm1.v0.1
  obtain ⟨au_r, cu_r, rfl, -, -, -, -⟩ := hm1.v0.2
  have hst1 : Below V.heap.size V z1 := (Below.refl _ V).drew.trans hm1.below
  have hst := (hPr _).2 hst1
  have HM1 := Lib.hid (And.intro hm1 hst1)
  clear hm1 hst1
  have hCl : Kl Pr V.drew _ := Kl.of hst
  refine hK.out (.inr hCl) ?_
  clear hK K'
  refine wpAnyL_each (fuel := 3) [5] (by kernel_rfl) (by simp) (by kernel_rfl) ?_
  refine EachL.cons _ rfl (fun K' hK => ?_) EachL.nil
  go_simp
  refine (HC.out.2.1 _ _ (HQ.out.2.2.1.step HM1.out.2).n).mono ?_
  rintro e z2 ⟨x1v, rfl, hm2⟩
  obtain ⟨ax_r, cx_r, rfl, -, -⟩ := hm2.bytes.form rfl
  have hst2 := below_step HM1.out.2 HM1.out.2.size hm2.below
  have hst := (hPr _).2 hst2
  have HM2 := Lib.hid (And.intro hm2 hst2)
  clear hm2 hst2
  have hCl : Kl Pr V.drew _ := Kl.of hst
  refine hK.out (.inr hCl) ?_
  clear hK K'
  refine wpAnyL_each (fuel := 2) [8] (by kernel_rfl) (by simp) (by kernel_rfl) ?_
  refine EachL.cons _ rfl (fun K' hK => ?_) EachL.nil
  go_simp
  refine (HC.out.2.2 _ _ (HQ.out.2.2.1.step HM2.out.2).l).mono ?_
  rintro e z3 ⟨y1v, rfl, hm3⟩
  obtain ⟨ay_r, cy_r, rfl, -, -⟩ := hm3.bytes.form rfl
  have hst3 := below_step HM2.out.2 HM2.out.2.size hm3.below
  have hst := (hPr _).2 hst3
  have r0 := LK.cell (HQ.out.2.1.step hst3) 0
  have r1 := LK.cell (HQ.out.2.1.step hst3) 1
  have r2 := LK.cell (HQ.out.2.1.step hst3) 2
  have r3 := LK.cell (HQ.out.2.1.step hst3) 3
  simp at r0 r1 r2 r3
  have s0 := LK.frozen (HQ.out.2.1.step hst3) 0
  have s1 := LK.frozen (HQ.out.2.1.step hst3) 1
  have s2 := LK.frozen (HQ.out.2.1.step hst3) 2
  have s3 := LK.frozen (HQ.out.2.1.step hst3) 3
  have HM3 := Lib.hid (And.intro hm3 hst3)
  clear hm3 hst3
  have hCl : Kl Pr V.drew _ := Kl.of hst
  refine hK.out (.inr hCl) ?_
  clear hK K'
  refine wpAnyL_each (fuel := 1) [9] (by kernel_rfl) (by simp) (by kernel_rfl) ?_
  refine EachL.cons _ rfl (fun K' hK => ?_) EachL.nil
  go_simp
  have hst := (hPr _).2 HM3.out.2
  have hCl : Kl Pr V.drew _ := Kl.of hst
  refine hK.out (.inr hCl) ?_
  clear hK K'
  refine wpAnyL_each (fuel := 0) [10] (by kernel_rfl) (by simp) (by kernel_rfl) ?_
  refine EachL.cons _ rfl (fun K' hK => ?_) EachL.nil
  go_simp
  refine hK.out (.inl rfl) ?_
  clear hK K'
  refine wpAnyL_done (by kernel_rfl) ?_ _
  clear x0 x1 x2 x3
  go_wp2
  refine bodyPost_ret (v := .agg #[.slice ab_r s.disk.blocks.length cb_r, .slice au_r s.disk.waits.length cu_r, .slice ax_r s.now.length cx_r, .slice ay_r s.last.length cy_r]) (by simp [results, Try.results36, go_sem, r0, r1, r2, r3]) rfl ⟨_, _, _, _, rfl, ?_⟩
  obtain ⟨hm1, h1⟩ := HM1.out
  obtain ⟨hm2, h2⟩ := HM2.out
  obtain ⟨hm3, h3⟩ := HM3.out
  have g1 := hm1.below.size
  have g2 := hm2.below.size
  have g3 := hm3.below.size
  have gV : w.heap.size + 1 < V.heap.size := sz_V
  have hv : V.heap.size ≤ z1.heap.size := h1.size
  have hd := (hm1.disk.below (hm2.below.trans (hm3.below.mono g2)) (Nat.le_refl _))
  have hn := hm2.bytes.below hm3.below (Nat.le_refl _)
  have ht := thawed_below hm2.bytes hm2.thawed hm3.below (Nat.le_refl _)
  have hs : StoreT z3 (w.heap.size + 2) z3.heap.size (.slice ab_r s.disk.blocks.length cb_r) (.slice au_r s.disk.waits.length cu_r) (.slice ax_r s.now.length cx_r) (.slice ay_r s.last.length cy_r) s := ⟨DiskT.more hd (by show w.heap.size + 2 ≤ V.heap.size; omega) (by omega), ⟨hn.more (by omega) (by omega), ht⟩, ⟨hm3.bytes.more (by omega) (Nat.le_refl _), hm3.thawed⟩⟩
  have hsz : ∀ a b c d : Value, ((((z3.setCell ⟨w.heap.size + 1, 0, none⟩ a).setCell ⟨w.heap.size + 1, 1, none⟩ b).setCell ⟨w.heap.size + 1, 2, none⟩ c).setCell ⟨w.heap.size + 1, 3, none⟩ d).heap.size = z3.heap.size := fun a b c d => by simp only [World.size_setCell]
  refine ⟨(hs.keep (kp_four z3 _ _ _ _ (.inl (Nat.lt_succ_self _)))).more (by omega) (by rw [hsz]; exact Nat.le_refl _), ?_⟩
  exact Below.trans (LW.step HQ.out.2.2.2 h3) (below_four z3 _ _ _ _ (Nat.le_succ _))

end Go.Proofs.Ytbddbadmfhplmaa

namespace Go.Proofs.Ytbddbadmfhplmaa
open Go.RowKit

/-- A row of the call's own that holds writes. -/
def OwnW (base : Nat) (W w : World) (v : Value) (l : List WrL) : Prop := ∃ xs, w.ownsRow base 92 2 v l.length xs ∧ ∀ j x, l[j]? = some x → (xs[j * 2]? = some (.int .i64 x.at_) ∧ (Lit.int .i64 x.at_).wf = true) ∧ ∃ y, xs[j * 2 + 1]? = some y ∧ Bytes W 0 W.heap.size y x.data
theorem OwnW.nil_ (base : Nat) (W w : World) : OwnW base W w (.slice none 0 0) [] := ⟨[], World.ownsRow_nil _ _ _ _, fun j x h => by simp at h⟩
end Go.Proofs.Ytbddbadmfhplmaa

namespace Go.Proofs.Ytbddbadmfhplmaa
open Go.RowKit

theorem ext_getD {α : Type} (l m : List α) (d : α) (hl : l.length = m.length) (h : ∀ j, j < l.length → l.getD j d = m.getD j d) : l = m := by
  apply List.ext_getElem? 
  intro j
  rcases Nat.lt_or_ge j l.length with hj | hj
  · rw [get_l l d j hj, get_l m d j (by omega), h j hj]
  · rw [List.getElem?_eq_none hj, List.getElem?_eq_none (by omega)]

set_option maxRecDepth 100000 in
set_option maxHeartbeats 1000000 in
/-- slices.EqualFunc at slices of slices, by bytes.Equal. -/
theorem eqb_any (v u : Value) (l m : List (List UInt8)) (w : World) (hv : Sl rBytes w 0 w.heap.size v l) (hu : Sl rBytes w 0 w.heap.size u m) :
    Calls Try.prog 58 #[v, u, .func (.func 59) #[] #[]] w fun e w' => e = .returned (.bool (decide (l = m))) ∧ w' = w := by
  have HV := Lib.hid hv
  have HU := Lib.hid hu
  obtain ⟨av, cv, rfl, g1, g2, -, -⟩ := hv
  obtain ⟨au, cu, rfl, g1', g2', -, -⟩ := hu
  unfold maxLen at g2 g2'
  obtain ⟨r, hr⟩ : ∃ r, decide (l = m) = r := ⟨_, rfl⟩
  rw [hr]
  have HR := Lib.hid hr
  clear hr
  go_enter Try.func58, Try.ntmps58
  by_cases hl : l.length = m.length
  case neg =>
    obtain rfl : r = false := by
      rw [← HR.out]
      exact decide_eq_false (fun e => hl (by rw [e]))
    have i1 : ¬ (l.length : Int) = m.length := by omega
    go_wp2
    go_ret
    exact ⟨rfl, rfl⟩
  have i1 : ((l.length : Int) != m.length) = false := by simp; omega
  have HL := Lib.hid hl
  have hlm : l.length ≤ m.length := by omega
  clear hl
  go_wp2_with fail
  go_loopw [17] (fun i wr => ∃ k : Nat, k ≤ l.length ∧ i = .int .i64 k ∧ wr = w ∧ ∀ j, j < k → l.getD j [] = m.getD j []) (fun i _ => l.length - (intOf i).toNat)
  case atStart => exact ⟨0, Nat.zero_le _, rfl, rfl, fun j hj => absurd hj (Nat.not_lt_zero _)⟩
  case round =>
  obtain ⟨k, hk, rfl, rfl, hall⟩ := hrel
  by_cases hlt : k < l.length
  · obtain ⟨b1, o1, c1, e1, -, -, -, z3, hb1⟩ := HV.out.at_ (by omega)
    injection e1 with ea _ ec
    subst ea ec
    obtain ⟨b2, o2, c2, e2, -, -, -, z3', hb2⟩ := HU.out.at_ (by omega)
    injection e2 with ea _ ec
    subst ea ec
    obtain ⟨x, hx, hxb⟩ := hb1 k (l.getD k []) (get_l _ _ _ hlt)
    obtain ⟨y, hy, hyb⟩ := hb2 k (m.getD k []) (get_l _ _ _ (by omega))
    have hx' : wr.cell? ⟨b1, o1 + k, none⟩ = some x := by simpa [rBytes] using hx
    have hy' : wr.cell? ⟨b2, o2 + k, none⟩ = some y := by simpa [rBytes] using hy
    have heq := bequal_any x y _ _ wr _ _ _ _ hxb hyb
    have hkm : k < m.length := by omega
    unfold maxLen at z3 z3'
    have HP := Lib.hid (And.intro heq hall)
    clear heq hall hx hy hxb hyb hb1 hb2
    go_wp2_with fail
    refine HP.out.1.mono ?_
    rintro e w1 ⟨rfl, rfl⟩
    by_cases he : l.getD k [] = m.getD k []
    · rw [decide_eq_true he]
      have HE := Lib.hid he
      clear he
      go_wp2
      go_roundw
      case rel => exact ⟨k + 1, by omega, by go_num, trivial, fun j hj => by
        rcases Nat.lt_succ_iff_lt_or_eq.1 hj with hj | rfl
        · exact HP.out.2 j hj
        · exact HE.out⟩
      case measure => simp [intOf]; omega
    · rw [decide_eq_false he]
      obtain rfl : r = false := by
        rw [← HR.out]
        exact decide_eq_false (fun e => he (by rw [e]))
      clear he
      go_wp2
      go_ret
      exact ⟨rfl, rfl⟩
  obtain rfl : k = l.length := by omega
  obtain rfl : r = true := by
    rw [← HR.out]
    exact decide_eq_true (ext_getD l m [] HL.out hall)
  clear hall
  go_wp2
  go_ret
  exact ⟨rfl, rfl⟩

set_option maxRecDepth 100000 in
set_option maxHeartbeats 1000000 in
/-- The comparing of two writes. -/
theorem eqw1_any (p q : Int) (v u : Value) (l m : List UInt8) (w : World) (hv : Bytes w 0 w.heap.size v l) (hu : Bytes w 0 w.heap.size u m) :
    Calls Try.prog 61 #[.agg #[.int .i64 p, v], .agg #[.int .i64 q, u]] w fun e w' => e = .returned (.bool (decide ((⟨p, l⟩ : WrL) = ⟨q, m⟩))) ∧ Below w.heap.size w w' := by
  have hB := ((Below.refl w.heap.size w).alloc (Nat.le_refl _) (.cells #[.int .i64 p, v] 92)).alloc (by simp) (.cells #[.int .i64 q, u] 92)
  have hq := two_new w (.cells #[.int .i64 p, v] 92) (.cells #[.int .i64 q, u] 92)
  have hv0 := hv.step hB
  have hu0 := hu.step hB
  obtain ⟨av, cv, rfl, -, -⟩ := hv.form rfl
  obtain ⟨au, cu, rfl, -, -⟩ := hu.form rfl
  clear hv hu
  obtain ⟨W, hW⟩ : ∃ W, (w.alloc (.cells #[.int .i64 p, .slice av l.length cv] 92)).alloc (.cells #[.int .i64 q, .slice au m.length cu] 92) = W := ⟨_, rfl⟩
  rw [hW] at hB hq hv0 hu0
  have c0 := blk_cell hq.1 0
  have c1 := blk_cell hq.1 1
  have d0 := blk_cell hq.2 0
  have d1 := blk_cell hq.2 1
  simp at c0 c1 d0 d1
  obtain ⟨r, hr⟩ : ∃ r, decide ((⟨p, l⟩ : WrL) = ⟨q, m⟩) = r := ⟨_, rfl⟩
  rw [hr]
  have HR := Lib.hid hr
  have HP := Lib.hid (And.intro (bequal_any _ _ _ _ W _ _ _ _ hv0 hu0) hB)
  clear hr hq hv0 hu0 hB
  go_enter Try.func61, Try.ntmps61
  by_cases hpq : p = q
  case neg =>
    obtain rfl : r = false := by
      rw [← HR.out]
      exact decide_eq_false (fun e => hpq (congrArg WrL.at_ e))
    have i1 : (p == q) = false := by simp [hpq]
    clear hpq
    go_wp2
    go_ret
    exact ⟨rfl, HP.out.2⟩
  subst hpq
  have hr2 : r = decide (l = m) := by
    rw [← HR.out]
    by_cases e : l = m
    · subst e; rw [decide_eq_true rfl, decide_eq_true rfl]
    · rw [decide_eq_false e]
      exact decide_eq_false (fun h => e (congrArg WrL.data h))
  have HR2 := Lib.hid hr2
  clear hr2
  go_wp2_with fail
  refine HP.out.1.mono ?_
  rintro e w1 ⟨rfl, rfl⟩
  rw [← HR2.out]
  go_wp2
  go_ret
  exact ⟨rfl, HP.out.2⟩

set_option maxRecDepth 100000 in
set_option maxHeartbeats 1000000 in
/-- slices.EqualFunc at writes. -/
theorem eqw_any (v u : Value) (l m : List WrL) (w : World) (hv : Sl rWrite w 0 w.heap.size v l) (hu : Sl rWrite w 0 w.heap.size u m) :
    Calls Try.prog 60 #[v, u, .func (.func 61) #[] #[]] w fun e w' => e = .returned (.bool (decide (l = m))) ∧ Below w.heap.size w w' := by
  have HV := Lib.hid hv
  have HU := Lib.hid hu
  obtain ⟨av, cv, rfl, g1, g2, -, -⟩ := hv
  obtain ⟨au, cu, rfl, g1', g2', -, -⟩ := hu
  unfold maxLen at g2 g2'
  obtain ⟨r, hr⟩ : ∃ r, decide (l = m) = r := ⟨_, rfl⟩
  rw [hr]
  have HR := Lib.hid hr
  clear hr
  go_enter Try.func60, Try.ntmps60
  by_cases hl : l.length = m.length
  case neg =>
    obtain rfl : r = false := by
      rw [← HR.out]
      exact decide_eq_false (fun e => hl (by rw [e]))
    have i1 : ¬ (l.length : Int) = m.length := by omega
    go_wp2
    go_ret
    exact ⟨rfl, Below.refl _ _⟩
  have i1 : ((l.length : Int) != m.length) = false := by simp; omega
  have HL := Lib.hid hl
  have hlm : l.length ≤ m.length := by omega
  clear hl
  go_wp2_with fail
  go_loopw [17] (fun i wr => ∃ k : Nat, k ≤ l.length ∧ i = .int .i64 k ∧ Below w.heap.size w wr ∧ ∀ j, j < k → l.getD j ⟨0, []⟩ = m.getD j ⟨0, []⟩) (fun i _ => l.length - (intOf i).toNat)
  case atStart => exact ⟨0, Nat.zero_le _, rfl, Below.refl _ _, fun j hj => absurd hj (Nat.not_lt_zero _)⟩
  case round =>
  obtain ⟨k, hk, rfl, hB, hall⟩ := hrel
  by_cases hlt : k < l.length
  · obtain ⟨b1, o1, c1, e1, -, hz1, -, z3, hb1⟩ := HV.out.at_ (by omega)
    injection e1 with ea _ ec
    subst ea ec
    obtain ⟨b2, o2, c2, e2, -, hz2, -, z3', hb2⟩ := HU.out.at_ (by omega)
    injection e2 with ea _ ec
    subst ea ec
    obtain ⟨f0, -, x, f1, hxb⟩ := hb1 k (l.getD k ⟨0, []⟩) (get_l _ _ _ hlt)
    obtain ⟨h0, -, y, h1, hyb⟩ := hb2 k (m.getD k ⟨0, []⟩) (get_l _ _ _ (by omega))
    obtain ⟨X, hX⟩ : ∃ X, l.getD k ⟨0, []⟩ = X := ⟨_, rfl⟩
    obtain ⟨Y, hY⟩ : ∃ Y, m.getD k ⟨0, []⟩ = Y := ⟨_, rfl⟩
    rw [hX] at f0 hxb
    rw [hY] at h0 hyb
    obtain ⟨p, dp⟩ := X
    obtain ⟨q, dq⟩ := Y
    simp [rWrite] at f0 f1 h0 h1
    obtain ⟨a1, k1, rfl, -, -⟩ := hxb.form rfl
    obtain ⟨a2, k2, rfl, -, -⟩ := hyb.form rfl
    have hz1b := Nat.lt_of_lt_of_le hz1 hB.size
    have hz2b := Nat.lt_of_lt_of_le hz2 hB.size
    replace f0 := (hB.cell (p := ⟨b1, o1 + k * 2, none⟩) hz1).trans f0
    replace f1 := (hB.cell (p := ⟨b1, o1 + k * 2 + 1, none⟩) hz1).trans f1
    replace h0 := (hB.cell (p := ⟨b2, o2 + k * 2, none⟩) hz2).trans h0
    replace h1 := (hB.cell (p := ⟨b2, o2 + k * 2 + 1, none⟩) hz2).trans h1
    have hkm : k < m.length := by omega
    unfold maxLen at z3 z3'
    simp only at hxb hyb
    have hxb' := hxb.below hB (Nat.le_refl _)
    have hyb' := hyb.below hB (Nat.le_refl _)
    have HP := Lib.hid (And.intro hall (And.intro hB (And.intro hxb' (And.intro hyb' (And.intro hX hY)))))
    clear hall hB hxb hyb hxb' hyb' hX hY hb1 hb2
    go_upto_region 7 with (fail)
    have hq := two_new wr (.cells #[.int .i64 p, .slice a1 dp.length k1] 92) (.cells #[.int .i64 q, .slice a2 dq.length k2] 92)
    have hst := ((Below.refl wr.heap.size wr).alloc (Nat.le_refl _) (.cells #[.int .i64 p, .slice a1 dp.length k1] 92)).alloc (by simp) (.cells #[.int .i64 q, .slice a2 dq.length k2] 92)
    obtain ⟨w2, hw2⟩ : ∃ w2, (wr.alloc (.cells #[.int .i64 p, .slice a1 dp.length k1] 92)).alloc (.cells #[.int .i64 q, .slice a2 dq.length k2] 92) = w2 := ⟨_, rfl⟩
    rw [hw2] at hq hst ⊢
    clear hw2
    have hB2 := Lib.hid (below_step HP.out.2.1 HP.out.2.1.size hst)
    have hX2 := Lib.hid (((HP.out.2.2.1.below hst HP.out.2.1.size)).more (Nat.le_refl 0) (hB2.out.size))
    have hY2 := Lib.hid (((HP.out.2.2.2.1.below hst HP.out.2.1.size)).more (Nat.le_refl 0) (hB2.out.size))
    clear hst
    generalize wr.heap.size = gx at *
    have x0 := blk_cell hq.1 0
    have x1 := blk_cell hq.1 1
    have x2 := blk_cell hq.2 0
    have x3 := blk_cell hq.2 1
    simp at x0 x1 x2 x3
    go_wp2_with fail
    refine (eqw1_any p q _ _ dp dq w2 hX2.out hY2.out).mono ?_
    rintro e w3 ⟨rfl, hst3⟩
    have hfin := below_step hB2.out hB2.out.size hst3
    clear hst3 x0 x1 x2 x3
    by_cases he : (⟨p, dp⟩ : WrL) = ⟨q, dq⟩
    · rw [decide_eq_true he]
      have HE := Lib.hid (show l.getD k ⟨0, []⟩ = m.getD k ⟨0, []⟩ by rw [HP.out.2.2.2.2.1, HP.out.2.2.2.2.2, he])
      clear he
      go_wp2
      go_roundw
      case rel => exact ⟨k + 1, by omega, by go_num, hfin, fun j hj => by
        rcases Nat.lt_succ_iff_lt_or_eq.1 hj with hj | rfl
        · exact HP.out.1 j hj
        · exact HE.out⟩
      case measure => simp [intOf]; omega
    · rw [decide_eq_false he]
      obtain rfl : r = false := by
        rw [← HR.out]
        exact decide_eq_false (fun e => he (by rw [← HP.out.2.2.2.2.1, ← HP.out.2.2.2.2.2, e]))
      clear he
      go_wp2
      go_ret
      exact ⟨rfl, hfin⟩
  obtain rfl : k = l.length := by omega
  obtain rfl : r = true := by
    rw [← HR.out]
    exact decide_eq_true (ext_getD l m ⟨0, []⟩ HL.out hall)
  clear hall
  go_wp2
  go_ret
  exact ⟨rfl, hB⟩

set_option maxRecDepth 100000 in
set_option maxHeartbeats 1000000 in
/-- dev.Same. -/
theorem dsame_any (b u b' u' : Value) (d d' : DiskL) (w : World) (h : DiskV w 0 w.heap.size b u d) (h' : DiskV w 0 w.heap.size b' u' d') :
    Calls Try.prog 22 #[.agg #[b, u], .agg #[b', u']] w fun e w' => e = .returned (.bool (decide (d = d'))) ∧ Below w.heap.size w w' := by
  have hB := ((Below.refl w.heap.size w).alloc (Nat.le_refl _) (.cells #[b, u] 25)).alloc (by simp) (.cells #[b', u'] 25)
  have hq := two_new w (.cells #[b, u] 25) (.cells #[b', u'] 25)
  have hD : DiskV _ 0 _ b u d := h.step hB
  have hD' : DiskV _ 0 _ b' u' d' := h'.step hB
  obtain ⟨ab, cb, rfl, -, -, -, -⟩ := h.1
  obtain ⟨au, cu, rfl, -, -, -, -⟩ := h.2
  obtain ⟨ab', cb', rfl, -, -, -, -⟩ := h'.1
  obtain ⟨au', cu', rfl, -, -, -, -⟩ := h'.2
  clear h h'
  obtain ⟨W, hW⟩ : ∃ W, (w.alloc (.cells #[.slice ab d.blocks.length cb, .slice au d.waits.length cu] 25)).alloc (.cells #[.slice ab' d'.blocks.length cb', .slice au' d'.waits.length cu'] 25) = W := ⟨_, rfl⟩
  rw [hW] at hB hq hD hD'
  have c0 := blk_cell hq.1 0
  have c1 := blk_cell hq.1 1
  have d0 := blk_cell hq.2 0
  have d1 := blk_cell hq.2 1
  simp at c0 c1 d0 d1
  obtain ⟨r, hr⟩ : ∃ r, decide (d = d') = r := ⟨_, rfl⟩
  rw [hr]
  have HR := Lib.hid (show r = (decide (d.blocks = d'.blocks) && decide (d.waits = d'.waits)) by
    rw [← hr]
    obtain ⟨x, y⟩ := d
    obtain ⟨x', y'⟩ := d'
    by_cases h1 : x = x' <;> by_cases h2 : y = y' <;> simp [h1, h2])
  have HP := Lib.hid (And.intro (eqb_any _ _ _ _ W hD.1 hD'.1) (And.intro (eqw_any _ _ _ _ W hD.2 hD'.2) hB))
  clear hr hq hD hD' hB
  go_enter Try.func22, Try.ntmps22
  go_wp2_with fail
  refine HP.out.1.mono ?_
  rintro e w1 ⟨rfl, rfl⟩
  by_cases he : d.blocks = d'.blocks
  case neg =>
    rw [decide_eq_false he]
    obtain rfl : r = false := by rw [HR.out, decide_eq_false he]; rfl
    clear he
    go_wp2
    go_ret
    exact ⟨rfl, HP.out.2.2⟩
  rw [decide_eq_true he]
  have HR2 := Lib.hid (show r = decide (d.waits = d'.waits) by rw [HR.out, decide_eq_true he]; rfl)
  clear he
  go_wp2_with fail
  refine HP.out.2.1.mono ?_
  rintro e w2 ⟨rfl, hst⟩
  rw [← HR2.out]
  have hfin := below_step HP.out.2.2 HP.out.2.2.size hst
  go_wp2
  go_ret
  exact ⟨rfl, hfin⟩
end Go.Proofs.Ytbddbadmfhplmaa

