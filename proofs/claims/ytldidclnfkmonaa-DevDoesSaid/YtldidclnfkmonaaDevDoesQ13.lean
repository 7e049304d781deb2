/- DevDoes: the words and contracts, part 13. -/
import Derived.Test.YtldidclnfkmonaaDevDoesQ1
import Derived.Test.YtldidclnfkmonaaDevDoesQ2
import Derived.Test.YtldidclnfkmonaaDevDoesQ3
import Derived.Test.YtldidclnfkmonaaDevDoesQ4
import Derived.Test.YtldidclnfkmonaaDevDoesQ5
import Derived.Test.YtldidclnfkmonaaDevDoesQ6
import Derived.Test.YtldidclnfkmonaaDevDoesQ7
import Derived.Test.YtldidclnfkmonaaDevDoesQ8
import Derived.Test.YtldidclnfkmonaaDevDoesQ9
import Derived.Test.YtldidclnfkmonaaDevDoesQ10
import Derived.Test.YtldidclnfkmonaaDevDoesQ11
import Derived.Test.YtldidclnfkmonaaDevDoesQ12
import Derived.WalkKit
import Derived.WalkLawsBesides
import Derived.WalkSpells
import Derived.Lib.Hide
import Derived.Laws.Rows
import Derived.Laws.AppendOwnNone
import Derived.Maps.AppendAt
import Derived.RangeFuncNested
import Derived.RangeFuncBound
import Derived.RangeFuncCalls
import Derived.RangeFuncLeaves
import Derived.RangeFuncBox
import Derived.Shelf.Abstract
import Derived.Shelf.RegionOpen
import Derived.OwnWalkIn
import Derived.TacticsInMore
import Derived.LoopNIn
import Derived.LoopIn
import Derived.ProofKit
import Derived.Deep.Slices
import Derived.WideShapes
import Derived.OrdersHeld
import Derived.Deep.QuietTactic
import Derived.BigQuiet
import Derived.StillTailTactics
import Derived.OpenShut
import Derived.Lib.SliceRun
import Derived.Lib.AppendZerosOnto
import Derived.Lib.Walk
import Derived.Deep.LoopGhost
import Derived.Laws.CopyOwn
import Derived.Deep.DeepCutAuto
import Derived.Laws.CopyRow
import Derived.Laws.MakeOwn
import Derived.Deep.RegionHeld
namespace Go.Proofs.Ytldidclnfkmonaa
open Go.RowKit

theorem wp_appW {w : World} {o : Oper} {a : Act} {K : Act → World → Prop} {Q : Exit → Act → World → Prop} (s x : Operand)
    (ho : o.op = .call { callee := .builtin .append, args := #[s, x], argTypes := #[37, 37] }) (base : Nat) (W : World) (v sv : Value) (l l2 : List WrL) (hs : a.eval s = v) (hx : a.eval x = sv)
    (hown : OwnW base W w v l) (hsrc : SrcW W w sv l2) (hlen : l.length + l2.length ≤ 100000) (hbase : base ≤ w.heap.size) (hne : ∃ ad c, sv = .slice (some ad) l2.length c := by exact ⟨_, _, rfl⟩)
    (h : ∀ ad cc w', OwnW base W w' (.slice ad (l ++ l2).length cc) (l ++ l2) → Below base w w' → K (a.put o.dst (.slice ad (l ++ l2).length cc)) w') : o.wp Try.prog a w K Q := by
  obtain ⟨i0, hi0, hz0, hz1, hz2⟩ := info_parts (P := Try.prog) (e := 74) (z := .agg #[.int .i64 0, .slice none 0 0]) (size := 2) (bytes := 32) (by kernel_rfl)
  obtain ⟨xs, hrow, hxs⟩ := hown
  obtain ⟨ad, c, rfl, hn, bs, hbl, hba, hcl⟩ := hsrc
  obtain ⟨ad', c', e⟩ := hne
  cases e
  have hform : ∀ {v : Value} {n : Nat} {ys : List Value} {w : World}, w.ownsRow base 74 2 v n ys → ∃ ad cc, v = .slice ad n cc := fun h => by
    rcases h.2 with ⟨rfl, h0⟩ | ⟨g, cap, cur, rfl, -⟩
    · exact ⟨none, 0, by rw [h0]⟩
    · exact ⟨_, _, rfl⟩
  have hone : ∀ u ∈ wcells bs, u.oneCell' = true := by
    intro u hu
    obtain ⟨j, hj⟩ := List.mem_iff_getElem?.1 hu
    obtain ⟨i, x, hxx, hh⟩ := wcells_inv bs j u hj
    have hi : i < l2.length := by rw [← hbl]; exact (List.getElem?_eq_some_iff.1 hxx).1
    obtain ⟨y, hy1, hy2, hy3⟩ := hba i _ (get_l l2 ⟨0, []⟩ i hi)
    rw [hy1] at hxx
    cases hxx
    rcases hh with ⟨-, rfl⟩ | ⟨-, rfl⟩
    · rfl
    · obtain ⟨a2, c2, rfl, -⟩ := hy3; rfl
  refine wp_append_own w s x 37 ho base 74 i0 _ 2 32 Try.underlying37 hi0 hz0 hz1 hz2 rfl (by decide) v l.length xs hs hrow ad' l2.length c (wcells bs) hx (by rw [wcells_length, hbl]) (hcl _ rfl) hone (by unfold maxLen; omega) (by omega) hbase ?_
  intro v' w' hown' hg' _
  obtain ⟨ad2, cc', rfl⟩ := hform hown'
  have hB' : Below base w w' := ((Below.refl w.heap.size w).mono hbase).grown hg' hbase (own_block hrow)
  have := h ad2 cc' w' ⟨xs ++ wcells bs, by rw [List.length_append]; exact hown', fun j y hj => ?_⟩ hB'
  · rw [List.length_append] at this
    exact this
  · have hxl := hrow.1
    rcases Nat.lt_or_ge j l.length with hjl | hjl
    · rw [List.getElem?_append_left hjl] at hj
      obtain ⟨⟨p1, p2⟩, z, p3, p4⟩ := hxs j y hj
      exact ⟨⟨by rw [List.getElem?_append_left (by omega)]; exact p1, p2⟩, z, by rw [List.getElem?_append_left (by omega)]; exact p3, p4⟩
    · rw [List.getElem?_append_right hjl] at hj
      obtain ⟨z, p1, p2, p3⟩ := hba _ y hj
      obtain ⟨q1, q2⟩ := wcells_get bs _ _ p1
      refine ⟨⟨?_, p2⟩, z, ?_, p3⟩
      · rw [List.getElem?_append_right (by omega), hxl, show j * 2 - l.length * 2 = (j - l.length) * 2 by omega]; exact q1
      · rw [List.getElem?_append_right (by omega), hxl, show j * 2 + 1 - l.length * 2 = (j - l.length) * 2 + 1 by omega]; exact q2

theorem OwnW.src {base : Nat} {W w : World} {v : Value} {l : List WrL} (h : OwnW base W w v l) : SrcW W w v l := by
  obtain ⟨xs, ⟨hl, hrow⟩, hx⟩ := h
  obtain ⟨bs, hbl, hba⟩ := list_of (n := l.length) (p := fun i (b : Int × Value) => b.1 = (l.getD i ⟨0, []⟩).at_ ∧ (Lit.int .i64 b.1).wf = true ∧ Bytes W 0 W.heap.size b.2 (l.getD i ⟨0, []⟩).data ∧ xs[i * 2]? = some (.int .i64 b.1) ∧ xs[i * 2 + 1]? = some b.2) (fun i hi => by
    obtain ⟨⟨p1, p2⟩, y, p3, p4⟩ := hx i _ (get_l l ⟨0, []⟩ i hi)
    exact ⟨((l.getD i ⟨0, []⟩).at_, y), rfl, p2, p4, p1, p3⟩)
  have hba2 : ∀ (i : Nat) (x : WrL), l[i]? = some x → ∃ y : Value, bs[i]? = some (x.at_, y) ∧ (Lit.int .i64 x.at_).wf = true ∧ Bytes W 0 W.heap.size y x.data := fun i x hxi => by
    have hi : i < l.length := (List.getElem?_eq_some_iff.1 hxi).1
    have hb : bs[i]? = some (bs[i]'(by omega)) := by simp
    obtain ⟨p1, p2, p3, -, -⟩ := hba i _ hb
    rw [get_l l ⟨0, []⟩ i hi] at hxi
    cases hxi
    exact ⟨(bs[i]'(by omega)).2, by rw [hb, ← p1], by rw [← p1]; exact p2, p3⟩
  rcases hrow with ⟨rfl, h0⟩ | ⟨g, cap, cur, rfl, hg, hh, h1, h2, h3, h4⟩
  · have e : l = [] := List.eq_nil_of_length_eq_zero (by omega)
    exact ⟨none, 0, by rw [e]; rfl, fun _ => ⟨rfl, e⟩, bs, hbl, hba2, fun ad e => by cases e⟩
  · refine ⟨_, _, rfl, fun e => (by cases e), bs, hbl, hba2, fun ad e j u hj => ?_⟩
    cases e
    have e2 : (⟨g, 0, none⟩ : Addr).add j = ⟨g, j, none⟩ := by unfold Addr.add; split <;> simp_all
    obtain ⟨i, x, hxi, hh2⟩ := wcells_inv bs j u hj
    obtain ⟨-, -, -, q1, q2⟩ := hba i x hxi
    have hxj : xs[j]? = some u := by
      rcases hh2 with ⟨rfl, rfl⟩ | ⟨rfl, rfl⟩
      · exact q1
      · exact q2
    rw [e2, blk_cell hh, ← hxj, ← h4, List.getElem?_take, if_pos]
    · simp
    · have := (List.getElem?_eq_some_iff.1 hxj).1
      rw [hl] at this
      exact this
theorem SrcW.to {W W2 w : World} {sv : Value} {l : List WrL} (h : SrcW W w sv l) (hk : ∀ v x, Bytes W 0 W.heap.size v x → Bytes W2 0 W2.heap.size v x) : SrcW W2 w sv l := by
  obtain ⟨a, c, e, hn, bs, hbl, hba, hcl⟩ := h
  exact ⟨a, c, e, hn, bs, hbl, fun i x hx => by obtain ⟨y, p1, p2, p3⟩ := hba i x hx; exact ⟨y, p1, p2, hk _ _ p3⟩, hcl⟩

set_option maxRecDepth 100000 in
set_option maxHeartbeats 1000000 in
/-- The reference's Kept, of a disk that may be, and as many marks as writes. -/
theorem rkept_any (b u : Value) (d : DiskL) (v : Value) (ks : List Bool) (w : World) (hi : Nat) (hhi : hi ≤ w.heap.size) (h : DiskV w 0 hi b u d) (hv : Sl rBool w 0 hi v ks) (hm : mayD d = true) (hl : ks.length = d.waits.length) :
    Calls Try.prog 73 #[.agg #[b, u], v] w fun e w' => ∃ b' u', e = .returned (.agg #[b', u']) ∧ GotK hi w w' b' u' ⟨putW d.blocks (keptW d.waits ks), []⟩ := by
  obtain ⟨ab, cb, rfl, g1, g2, -, -⟩ := h.1
  obtain ⟨au, cu, rfl, g3, g4, -, -⟩ := h.2
  obtain ⟨av, cv, rfl, y1, y2, -, -⟩ := id hv
  have hB : Below w.heap.size w (((w.alloc (.cells #[.slice ab d.blocks.length cb, .slice au d.waits.length cu] 39)).alloc (.cells #[.slice none 0 0, .slice none 0 0] 39)).alloc (.cells #[.slice ab d.blocks.length cb, .slice none 0 0] 39)) := (((Below.refl w.heap.size w).alloc (Nat.le_refl _) _).alloc (by simp) _).alloc (by simp; omega) _
  have hq := three_new w (.cells #[.slice ab d.blocks.length cb, .slice au d.waits.length cu] 39) (.cells #[.slice none 0 0, .slice none 0 0] 39) (.cells #[.slice ab d.blocks.length cb, .slice none 0 0] 39)
  have hT : DiskV (trunc w hi) 0 (trunc w hi).heap.size (.slice ab d.blocks.length cb) (.slice au d.waits.length cu) d := by rw [trunc_size hhi]; exact ⟨Sl.keep h.1 (trunc_kp hhi), Sl.keep h.2 (trunc_kp hhi)⟩
  have hvT : Sl rBool (trunc w hi) 0 (trunc w hi).heap.size (.slice av ks.length cv) ks := by rw [trunc_size hhi]; exact Sl.keep hv (trunc_kp hhi)
  have hBT := trunc_below hhi
  obtain ⟨T, hTT⟩ : ∃ T, trunc w hi = T := ⟨_, rfl⟩
  rw [hTT] at hT hBT hvT
  have HTS := Lib.hid (show T.heap.size = hi by rw [← hTT]; exact trunc_size hhi)
  have HTE := Lib.hid hTT
  have HHB := Lib.hid h.1
  unfold maxLen at g2 g4 y2
  clear h hv hTT
  obtain ⟨W, hW⟩ : ∃ W, ((w.alloc (.cells #[.slice ab d.blocks.length cb, .slice au d.waits.length cu] 39)).alloc (.cells #[.slice none 0 0, .slice none 0 0] 39)).alloc (.cells #[.slice ab d.blocks.length cb, .slice none 0 0] 39) = W := ⟨_, rfl⟩
  rw [hW] at hB hq
  have hTW := hBT.trans (hB.mono hBT.size)
  have hn2 := (Array.getElem?_eq_some_iff.1 hq.2.2).1
  have HN2 := Lib.hid hn2
  have HM := Lib.hid (And.intro hm hl)
  have hml := (may_len hm).2.1
  have HBTW := Lib.hid hBT
  have HQ := Lib.hid (And.intro hT (And.intro hvT (And.intro hTW (And.intro hB hq))))
  have HWE := Lib.hid hW
  clear hT hvT hTW hB hq hm hl hBT hW
  go_enter Try.func73, Try.ntmps73
  go_upto_region 2 with (fail)
  rw [HWE.out]
  clear HWE
  go_wp2_with fail
  go_loopw [6] (fun i wr => ∃ (k : Nat) (a5 : Option Addr) (c5 : Nat), k ≤ d.waits.length ∧ i = .int .i64 k ∧ wr.heap[w.heap.size + 2]? = some (.cells #[.slice ab d.blocks.length cb, .slice a5 (keptW (d.waits.take k) (ks.take k)).length c5] 39 (0, 0)) ∧
    OwnW W.heap.size T wr (.slice a5 (keptW (d.waits.take k) (ks.take k)).length c5) (keptW (d.waits.take k) (ks.take k)) ∧ (∀ j, j < W.heap.size → j ≠ w.heap.size + 2 → wr.heap[j]? = W.heap[j]?) ∧ W.heap.size ≤ wr.heap.size ∧ Below w.heap.size w wr) (fun i _ => d.waits.length - (intOf i).toNat)
  case atStart => exact ⟨0, none, 0, Nat.zero_le _, rfl, HQ.out.2.2.2.2.2.2, OwnW.nil_ _ _ _, fun _ _ _ => rfl, Nat.le_refl _, HQ.out.2.2.2.1⟩
  case round =>
  obtain ⟨k, a5, c5, hk, rfl, q5, hown, hsame, hsz, hBw⟩ := hrel
  have qd := (hsame w.heap.size (by omega) (by omega)).trans HQ.out.2.2.2.2.1
  have n0 := blk_cell qd 0
  have n1 := blk_cell qd 1
  have m0 := blk_cell q5 0
  have m1 := blk_cell q5 1
  simp at n0 n1 m0 m1
  by_cases hlt : k < d.waits.length
  · have hkk : k < ks.length := by have := HM.out.2; omega
    have hTr : Below T.heap.size T wr := HBTW.out.trans (hBw.mono HBTW.out.size)
    obtain ⟨kb, ko, kc, ek, -, zz1, zz2, zz3, hke⟩ := HQ.out.2.1.at_ (by omega)
    injection ek with ea _ ec
    subst ea ec
    have hb0 := hke k (ks.getD k false) (get_l _ _ _ hkk)
    have hkb : wr.cell? ⟨kb, ko + k, none⟩ = some (.bool (ks.getD k false)) := (hTr.cell (p := ⟨kb, ko + k, none⟩) zz1).trans (by simpa [rBool] using hb0)
    have hkt := keptW_take d.waits ks k HM.out.2.symm hlt
    unfold maxLen at zz3
    obtain ⟨bk, hbk⟩ : ∃ bk, ks.getD k false = bk := ⟨_, rfl⟩
    rw [hbk] at hkb hkt
    clear hb0 hke hbk
    cases bk
    case false =>
      have HP := Lib.hid (And.intro q5 (And.intro hown (And.intro hsame (And.intro hsz (And.intro hBw hkt)))))
      clear q5 hown hsame hsz hBw hkt hTr
      go_wp2
      go_roundw
      case rel => exact ⟨k + 1, a5, c5, by omega, by go_num, by rw [HP.out.2.2.2.2.2]; exact HP.out.1, by rw [HP.out.2.2.2.2.2]; exact HP.out.2.1, HP.out.2.2.1, HP.out.2.2.2.1, HP.out.2.2.2.2.1⟩
      case measure => simp [intOf]; omega
    obtain ⟨bb, bo, cb', e', -, z1, z2, z3, hbe⟩ := HQ.out.1.2.at_ (by omega)
    injection e' with ea _ ec
    subst ea ec
    obtain ⟨e0, e1, x, e2, e3⟩ := hbe k (d.waits.getD k ⟨0, []⟩) (get_l _ _ _ hlt)
    obtain ⟨ya, yc, rfl, -, hyc⟩ := e3.form rfl
    obtain ⟨y, hy⟩ : ∃ y, d.waits.getD k ⟨0, []⟩ = y := ⟨_, rfl⟩
    rw [hy] at e0 e1 e3 hkt
    rw [hy] at e2
    clear hy hbe
    obtain ⟨at0, dt⟩ := y
    simp [rWrite] at e0 e2
    simp only at e1 e3
    obtain ⟨kl, hkl⟩ : ∃ kl, keptW (d.waits.take k) (ks.take k) = kl := ⟨_, rfl⟩
    have hkll : kl.length ≤ 5000 := by
      have := keptW_le (d.waits.take k) (ks.take k)
      rw [hkl, List.length_take] at this
      omega
    rw [hkl] at q5 hown hkt m1
    unfold maxLen at z3
    have z1w : bb < W.heap.size := Nat.lt_of_lt_of_le z1 HQ.out.2.2.1.size
    have hone := SrcW.one (W := T) (w := wr.drew) (p := at0) e1 e3
    have hownA := (hown.same (w' := wr.drew) (fun _ _ _ h => h)).alloc (.cells #[.int .i64 at0, .slice ya dt.length yc] 74)
    obtain ⟨Pr, hPr⟩ : ∃ Pr : World → Prop, ∀ X, Pr X ↔ ∀ j, j < W.heap.size → X.heap[j]? = wr.heap[j]? := ⟨_, fun _ => Iff.rfl⟩
    have hp0 : Pr wr.drew := (hPr _).2 (fun _ _ => rfl)
    have x1 := fun X => (blk_cell (((hPr _).1 (selW_pr hp0 X) (w.heap.size + 2) HN2.out).trans q5) 1)
    have x2 := fun X => (blk_cell (((hPr _).1 (selW_pr hp0 X) w.heap.size (by omega)).trans qd) 1)
    have x3 := fun X => (heap_cell ((hPr _).1 (selW_pr hp0 X) bb z1w) (bo + k * 2)).trans ((hTr.cell (p := ⟨bb, bo + k * 2, none⟩) z1).trans e0)
    have x4 := fun X => (heap_cell ((hPr _).1 (selW_pr hp0 X) bb z1w) (bo + k * 2 + 1)).trans ((hTr.cell (p := ⟨bb, bo + k * 2 + 1, none⟩) z1).trans e2)
    simp at x1 x2
    have HP := Lib.hid (And.intro q5 (And.intro hsame (And.intro hsz (And.intro hBw (And.intro hkt (And.intro hkl (And.intro hownA hone)))))))
    clear q5 hown hsame hsz hBw hkt hTr hkl hownA hone e0 e1 e2 e3
    go_wp2_with fail
    refine wp_region_L (S := Kl Pr wr.drew) 10 (by kernel_rfl) (Kl.of hp0) (fun hCl => ?_)
    refine wpAnyL_seg (fuel := 4) (by kernel_rfl) (fun _ d _ _ _ h => by cases d <;> exact h) hCl [0, 1, 2, 3, 4, 5, 6] _ _ _ (by kernel_rfl) (by kernel_rfl) (by kernel_rfl) (by kernel_rfl) ?_
    simp only [opsOf_cons, opsOf_nil, consOp_some, List.getElem?_toArray, List.getElem?_cons_succ, List.getElem?_cons_zero]
    repeat (first | go_big_quiet_step (fail) | quiet_step (fail))
    refine wpQuiet_nil ?_
    refine wpAnyL_each (fuel := 3) [7] (by kernel_rfl) (by simp) (by kernel_rfl) ?_
    refine EachL.cons _ rfl (fun K' hK => ?_) EachL.nil
    go_simp
    have hnew := World.alloc_heap_new wr.drew (.cells #[.int .i64 at0, .slice ya dt.length yc] 74)
    have hst : Pr (wr.drew.alloc (.cells #[.int .i64 at0, .slice ya dt.length yc] 74)) := (hPr _).2 (fun j hj => Below.heap_alloc wr.drew _ j (Nat.lt_of_lt_of_le hj HP.out.2.2.1))
    have hCl : Kl Pr wr.drew _ := Kl.of hst
    refine hK.out (.inr hCl) ?_
    clear hK K'
    refine wpAnyL_each (fuel := 2) [8] (by kernel_rfl) (by simp) (by kernel_rfl) ?_
    refine EachL.cons _ rfl (fun K' hK => ?_) EachL.nil
    refine if_yes (by kernel_rfl) ?_
    refine wp_appW (.tmp 22) (.tmp 28) rfl W.heap.size T (.slice a5 kl.length c5) (.slice (some ⟨wr.heap.size, 0, none⟩) 1 1) kl [⟨at0, dt⟩] rfl rfl HP.out.2.2.2.2.2.2.1 HP.out.2.2.2.2.2.2.2 (by show kl.length + 1 ≤ 100000; omega) (Nat.le_trans HP.out.2.2.1 (by show wr.heap.size ≤ (wr.alloc _).heap.size; rw [World.size_alloc]; exact Nat.le_succ _)) ⟨_, _, rfl⟩ ?_
    intro a4 c4 z2 hown4 hB4
    have hst : Pr z2 := (hPr _).2 (fun j hj => (hB4.block j hj).trans (Below.heap_alloc wr _ j (Nat.lt_of_lt_of_le hj HP.out.2.2.1)))
    rw [show (kl ++ [(⟨at0, dt⟩ : WrL)]).length = kl.length + 1 by simp] at hown4 ⊢
    have k5 := ((hPr _).1 hst (w.heap.size + 2) HN2.out).trans HP.out.1
    have j1 := blk_cell k5 1
    have jf := blk_frozen k5 1
    simp at j1
    have HO := Lib.hid (And.intro hown4 (And.intro hB4 k5))
    clear hown4 hB4 k5
    have hCl : Kl Pr wr.drew _ := Kl.of hst
    refine hK.out (.inr hCl) ?_
    clear hK K'
    refine wpAnyL_seg (fuel := 1) (by kernel_rfl) (fun _ d _ _ _ h => by cases d <;> exact h) hCl [9] _ _ _ (by kernel_rfl) (by kernel_rfl) (by kernel_rfl) (by kernel_rfl) ?_
    simp only [opsOf_cons, opsOf_nil, consOp_some, List.getElem?_toArray, List.getElem?_cons_succ, List.getElem?_cons_zero]
    repeat (first | go_big_quiet_step (fail) | quiet_step (fail))
    refine wpQuiet_nil ?_
    refine wpAnyL_each (fuel := 0) [10] (by kernel_rfl) (by simp) (by kernel_rfl) ?_
    refine EachL.cons _ rfl (fun K' hK => ?_) EachL.nil
    go_simp
    refine hK.out (.inl rfl) ?_
    clear hK K'
    refine wpAnyL_done (by kernel_rfl) ?_ _
    go_wp2
    go_roundw
    case rel =>
      obtain ⟨hown4, hB4, k5⟩ := HO.out
      obtain ⟨q5, hsame, hsz, hBw, hkt, hkl, hownA, hone⟩ := HP.out
      have hs := set_other z2 (w.heap.size + 2) 1 (.slice a4 (kl.length + 1) c4)
      have hst2 := (hPr _).1 hst
      have hkl1 : keptW (d.waits.take (k + 1)) (ks.take (k + 1)) = kl ++ [⟨at0, dt⟩] := by rw [hkt]; rfl
      refine ⟨k + 1, a4, c4, by omega, by go_num, ?_, ?_, fun j h1 h2 => (hs j h2).trans ((hst2 j h1).trans (hsame j h1 h2)), ?_, ?_⟩
      · rw [hkl1, show (kl ++ [(⟨at0, dt⟩ : WrL)]).length = kl.length + 1 by simp]
        exact set_block k5 1 _
      · rw [hkl1, show (kl ++ [(⟨at0, dt⟩ : WrL)]).length = kl.length + 1 by simp]
        exact hown4.set (w.heap.size + 2) 1 _ HN2.out
      · rw [World.size_setCell]
        exact Nat.le_trans hsz (Nat.le_trans (by show wr.heap.size ≤ (wr.alloc _).heap.size; rw [World.size_alloc]; exact Nat.le_succ _) hB4.size)
      · have hWw : w.heap.size ≤ W.heap.size := HQ.out.2.2.2.1.size
        exact ((((hBw.alloc hBw.size (.cells #[.int .i64 at0, .slice ya dt.length yc] 74)).drew).trans (hB4.mono hWw)).setCell (p := ⟨w.heap.size + 2, 1, none⟩) (by show w.heap.size ≤ w.heap.size + 2; omega) _)
    case measure => simp [intOf]; omega
  obtain rfl : k = d.waits.length := by omega
  have ht1 : d.waits.take d.waits.length = d.waits := List.take_length
  have ht2 : ks.take d.waits.length = ks := by rw [← HM.out.2, List.take_length]
  rw [ht1, ht2] at q5 hown m1
  have q1 := (hsame (w.heap.size + 1) (by omega) (by omega)).trans HQ.out.2.2.2.2.2.1
  obtain ⟨kl, hkl⟩ : ∃ kl, keptW d.waits ks = kl := ⟨_, rfl⟩
  have hklw : ∀ x ∈ kl, 0 ≤ x.at_ ∧ x.at_ < d.blocks.length := fun x hx => by
    rw [← hkl] at hx
    have := (may_len HM.out.1).2.2.2 x (keptW_mem _ _ x hx)
    have := (may_len HM.out.1).1
    omega
  rw [hkl] at q5 hown m1
  have hhr : hi ≤ wr.heap.size := Nat.le_trans hhi hBw.size
  have hTr : Below T.heap.size T wr := HBTW.out.trans (hBw.mono HBTW.out.size)
  have hbs2 : Sl rBytes wr 0 hi (.slice ab d.blocks.length cb) d.blocks := HHB.out.below hBw hhi
  have hus2 : Sl rWrite wr 0 wr.heap.size (.slice a5 kl.length c5) kl := hown.sl hTr
  have hsr2 : SrcW (trunc wr hi) wr (.slice a5 kl.length c5) kl := hown.src.to fun v x hx => by
    rw [trunc_size hhr]
    have := hx.below hTr (Nat.le_refl _)
    rw [HTS.out] at this
    exact this.kept (trunc_kp hhr)
  have r0 := blk_cell q1 0
  have r1 := blk_cell q1 1
  simp at r0 r1
  have hml1 := (may_len HM.out.1).1
  have HZ := Lib.hid (And.intro hbs2 (And.intro hus2 (And.intro hsr2 (And.intro hklw (And.intro q1 (And.intro hBw (And.intro hhr (And.intro hkl (And.intro hml1 hsz)))))))))
  clear q5 hown hsame hsz hBw qd q1 ht1 ht2 hklw hhr hTr hbs2 hus2 hsr2 hml1 hk hlt
  clear hkl
  go_wp2_with fail
  refine (rsettled_any (.slice ab d.blocks.length cb) (.slice a5 kl.length c5) ⟨d.blocks, kl⟩ wr hi HZ.out.2.2.2.2.2.2.1 HZ.out.1 HZ.out.2.1 HZ.out.2.2.1 (by have := HZ.out.2.2.2.2.2.2.2.2.1; show 0 < d.blocks.length; omega) (by have := HZ.out.2.2.2.2.2.2.2.2.1; show d.blocks.length ≤ 300; omega) HZ.out.2.2.2.1).mono ?_
  rintro e z ⟨b', u', rfl, hgd⟩
  obtain ⟨ab', cb', rfl, -, -, -, -⟩ := hgd.got.disk.1
  obtain ⟨au', cu', rfl, -, -, -, -⟩ := hgd.got.disk.2
  have p1 := (hgd.below.block _ (Array.getElem?_eq_some_iff.1 HZ.out.2.2.2.2.1).1).trans HZ.out.2.2.2.2.1
  have r0' := blk_cell p1 0
  have r1' := blk_cell p1 1
  have f0' := blk_frozen p1 0
  have f1' := blk_frozen p1 1
  simp at r0' r1'
  have HT2 := Lib.hid hgd
  clear r0 r1 n0 n1 m0 m1 p1 hgd
  generalize (DiskL.mk (putW d.blocks kl) []).blocks.length = l1 at *
  generalize (DiskL.mk (putW d.blocks kl) []).waits.length = l2 at *
  go_wp2
  refine bodyPost_ret (v := .agg #[.slice ab' l1 cb', .slice au' l2 cu']) (by simp [results, Try.results73, go_sem, r0', r1']) rfl ?_
  have hBw := HZ.out.2.2.2.2.2.1
  have hBf := ((below_step hBw hBw.size HT2.out.below).setCell (p := ⟨w.heap.size + 1, 0, none⟩) (Nat.le_succ _) (.slice ab' l1 cb')).setCell (p := ⟨w.heap.size + 1, 1, none⟩) (Nat.le_succ _) (.slice au' l2 cu')
  rw [HZ.out.2.2.2.2.2.2.2.1]
  have hsz : ((z.setCell ⟨w.heap.size + 1, 0, none⟩ (.slice ab' l1 cb')).setCell ⟨w.heap.size + 1, 1, none⟩ (.slice au' l2 cu')).heap.size = z.heap.size := by rw [World.size_setCell, World.size_setCell]
  have hq1w := (Array.getElem?_eq_some_iff.1 HZ.out.2.2.2.2.1).1
  exact ⟨_, _, rfl, fun X hs hkX => HT2.out.disk X (by rw [← hsz]; exact hs) (fun k h1 h2 => (hkX k (h1.imp id (fun h => Nat.le_trans hBw.size h)) (by rw [hsz]; exact h2)).trans ((set_other _ _ _ _ k (by omega)).trans (set_other z _ _ _ k (by omega)))), hBf⟩
end Go.Proofs.Ytldidclnfkmonaa

namespace Go.Proofs.Ytldidclnfkmonaa
open Go.RowKit

set_option maxRecDepth 100000 in
set_option maxHeartbeats 1000000 in
/-- The reference's Crash. -/
theorem rdcrash_any (b u : Value) (d : DiskL) (v : Value) (ks : List Bool) (w : World) (h : DiskV w 0 w.heap.size b u d) (hv : Sl rBool w 0 w.heap.size v ks) :
    Calls Try.prog 45 #[.agg #[b, u], v] w fun e w' => ∃ b' u', e = .returned (.tuple #[.agg #[b', u'], .int .i64 (errK d ks)]) ∧ GotD w w' b' u' (crashD d ks) := by
  have hB := ((Below.refl w.heap.size w).alloc (Nat.le_refl _) (.cells #[b, u] 39)).alloc (by simp) (.cells #[.slice none 0 0, .slice none 0 0] 39)
  have hD : DiskV _ 0 _ b u d := h.step hB
  have hq := two_new w (.cells #[b, u] 39) (.cells #[.slice none 0 0, .slice none 0 0] 39)
  have h1 := fun V hh => rmayd_any b u d V hh
  have h2 := fun V hi hhi (hh : DiskV V 0 hi b u d) (hv : Sl rBool V 0 hi v ks) (hm : mayD d = true) (hl : ks.length = d.waits.length) => rkept_any b u d v ks V hi hhi hh hv hm hl
  obtain ⟨ab, cb, rfl, g1, g2, -, -⟩ := h.1
  obtain ⟨au, cu, rfl, g1', g2', -, -⟩ := h.2
  unfold maxLen at g2 g2'
  obtain ⟨av, cv, rfl, y1, y2, -, -⟩ := id hv
  unfold maxLen at y2
  have HD0 := Lib.hid (And.intro h hv)
  clear h hv
  obtain ⟨W, hW⟩ : ∃ W, (w.alloc (.cells #[.slice ab d.blocks.length cb, .slice au d.waits.length cu] 39)).alloc (.cells #[.slice none 0 0, .slice none 0 0] 39) = W := ⟨_, rfl⟩
  rw [hW] at hB hD hq
  have c0 := blk_cell hq.1 0
  have c1 := blk_cell hq.1 1
  simp at c0 c1
  have HQ := Lib.hid (And.intro hD (And.intro hB hq))
  obtain ⟨ec, hec⟩ : ∃ ec, errK d ks = ec := ⟨_, rfl⟩
  obtain ⟨bd, hbd⟩ : ∃ bd, crashD d ks = bd := ⟨_, rfl⟩
  rw [hec, hbd]
  have HE := Lib.hid (And.intro hec hbd)
  have HC := Lib.hid (And.intro h1 h2)
  clear hB hD hq h1 h2 hec hbd
  go_enter Try.func45, Try.ntmps45
  go_wp2_with fail
  refine (HC.out.1 W HQ.out.1).mono ?_
  rintro e w1 ⟨rfl, hst⟩
  obtain ⟨hD, hB, q0, q1⟩ := HQ.out
  replace q0 := (hst.block _ (Array.getElem?_eq_some_iff.1 q0).1).trans q0
  replace q1 := (hst.block _ (Array.getElem?_eq_some_iff.1 q1).1).trans q1
  replace hD := hD.step hst
  replace hB := below_step hB hB.size hst
  clear c0 c1
  have c0 := blk_cell q0 0
  have c1 := blk_cell q0 1
  have r0 := blk_cell q1 0
  have r1 := blk_cell q1 1
  have f0 := blk_frozen q1 0
  have f1 := blk_frozen q1 1
  simp at c0 c1 r0 r1
  have HQ1 := Lib.hid (And.intro hD (And.intro hB (And.intro q0 q1)))
  clear hD hB q0 q1 hst HQ
  cases hmay : mayD d
  case false =>
    have hw : ec = 8 ∧ bd = ⟨[], []⟩ := by
      obtain ⟨h1, h2⟩ := HE.out
      have e1 : ec = 8 := by rw [← h1]; unfold errK; rw [hmay]; rfl
      refine ⟨e1, ?_⟩
      rw [← h2]
      unfold crashD
      rw [h1, e1, if_neg (by decide)]
    obtain ⟨rfl, rfl⟩ := hw
    clear hmay
    go_wp2
    refine bodyPost_ret (v := .tuple #[.agg #[.slice none 0 0, .slice none 0 0], .int .i64 8]) (by simp [results, Try.results45, go_sem, r0, r1]) rfl ⟨_, _, rfl, GotD.nil_ ((HQ1.out.2.1.setCell (p := ⟨w.heap.size + 1, 0, none⟩) (Nat.le_succ _) _).setCell (p := ⟨w.heap.size + 1, 1, none⟩) (Nat.le_succ _) _)⟩
  by_cases hkl : ks.length = d.waits.length
  case neg =>
    have hw : ec = 2 ∧ bd = ⟨[], []⟩ := by
      obtain ⟨h1, h2⟩ := HE.out
      have e1 : ec = 2 := by rw [← h1]; unfold errK; rw [hmay, if_neg hkl]; rfl
      refine ⟨e1, ?_⟩
      rw [← h2]
      unfold crashD
      rw [h1, e1, if_neg (by decide)]
    obtain ⟨rfl, rfl⟩ := hw
    clear hmay
    have i1 : ¬ (ks.length : Int) = d.waits.length := by omega
    go_wp2
    refine bodyPost_ret (v := .tuple #[.agg #[.slice none 0 0, .slice none 0 0], .int .i64 2]) (by simp [results, Try.results45, go_sem, r0, r1]) rfl ⟨_, _, rfl, GotD.nil_ ((HQ1.out.2.1.setCell (p := ⟨w.heap.size + 1, 0, none⟩) (Nat.le_succ _) _).setCell (p := ⟨w.heap.size + 1, 1, none⟩) (Nat.le_succ _) _)⟩
  have hw : ec = 0 ∧ bd = ⟨putW d.blocks (keptW d.waits ks), []⟩ := by
    obtain ⟨h1, h2⟩ := HE.out
    have e1 : ec = 0 := by rw [← h1]; unfold errK; rw [hmay, if_pos hkl]; rfl
    refine ⟨e1, ?_⟩
    rw [← h2]
    unfold crashD
    rw [h1, e1, if_pos rfl]
  obtain ⟨rfl, rfl⟩ := hw
  have HM := Lib.hid (And.intro hmay hkl)
  have i1 : ((ks.length : Int) != d.waits.length) = false := by simp; omega
  clear hmay hkl
  go_wp2_with fail
  refine (HC.out.2 w1 w.heap.size HQ1.out.2.1.size ⟨HD0.out.1.1.below HQ1.out.2.1 (Nat.le_refl _), HD0.out.1.2.below HQ1.out.2.1 (Nat.le_refl _)⟩ (HD0.out.2.below HQ1.out.2.1 (Nat.le_refl _)) HM.out.1 HM.out.2).mono ?_
  rintro e z ⟨b', u', rfl, hm⟩
  have hst := hm.below
  obtain ⟨ab', cb', rfl, -, -, -, -⟩ := hm.got.disk.1
  obtain ⟨au', cu', rfl, -, -, -, -⟩ := hm.got.disk.2
  have p1 := (hst.block _ (Array.getElem?_eq_some_iff.1 HQ1.out.2.2.2).1).trans HQ1.out.2.2.2
  have r0' := blk_cell p1 0
  have r1' := blk_cell p1 1
  have f0' := blk_frozen p1 0
  have f1' := blk_frozen p1 1
  simp at r0' r1'
  have HT := Lib.hid hm
  clear r0 r1 c0 c1 f0 f1 hst p1 hm
  generalize (DiskL.mk (putW d.blocks (keptW d.waits ks)) []).blocks.length = n1 at *
  generalize (DiskL.mk (putW d.blocks (keptW d.waits ks)) []).waits.length = n2 at *
  go_wp2
  refine bodyPost_ret (v := .tuple #[.agg #[.slice ab' n1 cb', .slice au' n2 cu'], .int .i64 0]) (by simp [results, Try.results45, go_sem, r0', r1']) rfl ?_
  have hB := HQ1.out.2.1
  have hlt := (Array.getElem?_eq_some_iff.1 HQ1.out.2.2.2).1
  have hBf := ((below_step hB hB.size HT.out.below).setCell (p := ⟨w.heap.size + 1, 0, none⟩) (Nat.le_succ _) (.slice ab' n1 cb')).setCell (p := ⟨w.heap.size + 1, 1, none⟩) (Nat.le_succ _) (.slice au' n2 cu')
  exact ⟨_, _, rfl, HT.out.disk _ (by rw [World.size_setCell, World.size_setCell]; exact Nat.le_refl _) (fun k h1 _ => (set_other _ _ _ _ k (by omega)).trans (set_other z _ _ _ k (by omega))), hBf⟩
end Go.Proofs.Ytldidclnfkmonaa

