/- RingLost: the words and contracts, part 12. -/
import Derived.Test.YtcibihakjcenaaaRingLostQ1
import Derived.Test.YtcibihakjcenaaaRingLostQ2
import Derived.Test.YtcibihakjcenaaaRingLostQ3
import Derived.Test.YtcibihakjcenaaaRingLostQ4
import Derived.Test.YtcibihakjcenaaaRingLostQ5
import Derived.Test.YtcibihakjcenaaaRingLostQ6
import Derived.Test.YtcibihakjcenaaaRingLostQ7
import Derived.Test.YtcibihakjcenaaaRingLostQ8
import Derived.Test.YtcibihakjcenaaaRingLostQ9
import Derived.Test.YtcibihakjcenaaaRingLostQ10
import Derived.Test.YtcibihakjcenaaaRingLostQ11
import Derived.WalkKit
import Derived.WalkLawsBesides
import Derived.WalkSpells
import Derived.Lib.Hide
import Derived.Laws.Rows
import Derived.Laws.AppendOwnNone
import Derived.Maps.AppendAt
import Derived.RangeFuncNested
import Derived.RangeFuncBound
import Derived.RangeFuncCalls
import Derived.RangeFuncLeaves
import Derived.RangeFuncBox
import Derived.Shelf.Abstract
import Derived.Shelf.RegionOpen
import Derived.OwnWalkIn
import Derived.TacticsInMore
import Derived.LoopNIn
import Derived.LoopIn
import Derived.ProofKit
import Derived.Deep.Slices
import Derived.WideShapes
import Derived.OrdersHeld
import Derived.Deep.QuietTactic
import Derived.BigQuiet
import Derived.StillTailTactics
import Derived.OpenShut
import Derived.Lib.SliceRun
import Derived.Lib.AppendZerosOnto
import Derived.Lib.Walk
import Derived.Deep.LoopGhost
import Derived.Laws.CopyOwn
import Derived.Deep.DeepCutAuto
import Derived.Laws.CopyRow
import Derived.Laws.MakeOwn
import Derived.Deep.RegionHeld
import Derived.KernelRfl
namespace Go.Proofs.Ytcibihakjcenaaa
open Go.RowKit

/-- The writes whose mark is true. -/
def keptW : List WrL → List Bool → List WrL
  | x :: l, k :: ks => if k then x :: keptW l ks else keptW l ks
  | _, _ => []
theorem keptW_snoc (l : List WrL) (ks : List Bool) (x : WrL) (k : Bool) (h : l.length = ks.length) : keptW (l ++ [x]) (ks ++ [k]) = if k then keptW l ks ++ [x] else keptW l ks := by
  induction l generalizing ks with
  | nil =>
    cases ks with
    | nil => cases k <;> rfl
    | cons a b => simp at h
  | cons y l ih =>
    cases ks with
    | nil => simp at h
    | cons a b =>
      simp only [List.cons_append, keptW, ih b (by simpa using h)]
      cases a <;> cases k <;> rfl
theorem keptW_take (l : List WrL) (ks : List Bool) (n : Nat) (h : l.length = ks.length) (hn : n < l.length) : keptW (l.take (n + 1)) (ks.take (n + 1)) = if ks.getD n false then keptW (l.take n) (ks.take n) ++ [l.getD n ⟨0, []⟩] else keptW (l.take n) (ks.take n) := by
  rw [List.take_add_one, List.take_add_one, List.getElem?_eq_getElem hn, List.getElem?_eq_getElem (by omega : n < ks.length)]
  rw [show (some l[n]).toList = [l[n]] from rfl, show (some (ks[n]'(by omega))).toList = [ks[n]'(by omega)] from rfl, keptW_snoc _ _ _ _ (by simp; omega)]
  simp [hn, show n < ks.length by omega]
theorem keptW_mem (l : List WrL) (ks : List Bool) : ∀ x ∈ keptW l ks, x ∈ l := by
  induction l generalizing ks with
  | nil => intro x hx; cases ks <;> cases hx
  | cons y l ih =>
    cases ks with
    | nil => intro x hx; cases hx
    | cons a b =>
      intro x hx
      unfold keptW at hx
      cases a with
      | true =>
        rcases List.mem_cons.1 hx with rfl | hx
        · exact List.mem_cons_self ..
        · exact List.mem_cons_of_mem _ (ih b x hx)
      | false => exact List.mem_cons_of_mem _ (ih b x hx)
theorem keptW_le (l : List WrL) (ks : List Bool) : (keptW l ks).length ≤ l.length := by
  induction l generalizing ks with
  | nil => cases ks <;> exact Nat.le_refl _
  | cons y l ih =>
    cases ks with
    | nil => exact Nat.zero_le _
    | cons a b =>
      have := ih b
      unfold keptW
      cases a <;> simp <;> omega

/-- A row of the call's own that holds writes. -/
def OwnW (base : Nat) (W w : World) (v : Value) (l : List WrL) : Prop := ∃ xs, w.ownsRow base 143 2 v l.length xs ∧ ∀ j x, l[j]? = some x → (xs[j * 2]? = some (.int .i64 x.at_) ∧ (Lit.int .i64 x.at_).wf = true) ∧ ∃ y, xs[j * 2 + 1]? = some y ∧ Bytes W 0 W.heap.size y x.data
theorem OwnW.nil_ (base : Nat) (W w : World) : OwnW base W w (.slice none 0 0) [] := ⟨[], World.ownsRow_nil _ _ _ _, fun j x h => by simp at h⟩
theorem OwnW.sl {base : Nat} {W w : World} {v : Value} {l : List WrL} (h : OwnW base W w v l) (hB : Below W.heap.size W w) : Sl rWrite w 0 w.heap.size v l := by
  obtain ⟨xs, ⟨hl, hrow⟩, hx⟩ := h
  rcases hrow with ⟨rfl, h0⟩ | ⟨g, cap, cur, rfl, hg, hh, h1, h2, h3, h4⟩
  · have : l = [] := List.eq_nil_of_length_eq_zero (by omega)
    subst this
    exact Sl.nil_ _ _ _
  · refine ⟨_, _, rfl, h1, h2, fun _ => ⟨g, 0, rfl, Nat.zero_le _, (Array.getElem?_eq_some_iff.1 hh).1, fun i x hxi => ?_⟩, fun h => by cases h⟩
    have hi : i < l.length := (List.getElem?_eq_some_iff.1 hxi).1
    obtain ⟨⟨e1, e2⟩, y, e3, e4⟩ := hx i x hxi
    have hc : ∀ j u, xs[j]? = some u → w.cell? ⟨g, j, none⟩ = some u := by
      intro j u hj
      rw [blk_cell hh, ← hj, ← h4, List.getElem?_take, if_pos]
      · simp
      · have := (List.getElem?_eq_some_iff.1 hj).1
        rw [hl] at this
        exact this
    refine ⟨?_, e2, y, ?_, (e4.below hB (Nat.le_refl _)).more (Nat.le_refl _) hB.size⟩
    · show w.cell? ⟨g, 0 + i * 2 + 0, none⟩ = _
      rw [Nat.zero_add, Nat.add_zero]
      exact hc _ _ e1
    · show w.cell? ⟨g, 0 + i * 2 + 1, none⟩ = _
      rw [Nat.zero_add]
      exact hc _ _ e3

theorem own_block {base : Nat} {e : TypeId} {size n : Nat} {v : Value} {xs : List Value} {w : World} (h : w.ownsRow base e size v n xs) : ∀ g, v.ownBlock = some g → base ≤ g := by
  intro g e
  rcases h.2 with ⟨rfl, h0⟩ | ⟨g, cap, cur, rfl, hgg, hh, h1, h2, h3, h4⟩
  · cases e
  · cases e; exact hgg
def errK (d : DiskL) (ks : List Bool) : Int := if mayD d then (if ks.length = d.waits.length then 0 else 2) else 8
/-- A disk behind a crash. -/
def crashD (d : DiskL) (ks : List Bool) : DiskL := if errK d ks = 0 then ⟨putW d.blocks (keptW d.waits ks), []⟩ else ⟨[], []⟩

set_option maxRecDepth 100000 in
set_option maxHeartbeats 1000000 in
/-- dev.Crash. -/
theorem dcrash_any (b u : Value) (d : DiskL) (v : Value) (ks : List Bool) (w : World) (h : DiskV w 0 w.heap.size b u d) (hv : Sl rBool w 0 w.heap.size v ks) :
    Calls Try.prog 52 #[.agg #[b, u], v] w fun e w' => ∃ b' u', e = .returned (.tuple #[.agg #[b', u'], .int .i64 (errK d ks)]) ∧ MadeD w w' b' u' (crashD d ks) := by
  have hB := ((Below.refl w.heap.size w).alloc (Nat.le_refl _) (.cells #[b, u] 44)).alloc (by simp) (.cells #[.slice none 0 0, .slice none 0 0] 44)
  have hD : DiskV _ 0 _ b u d := h.step hB
  have hv0 := hv.step hB
  have hq := two_new w (.cells #[b, u] 44) (.cells #[.slice none 0 0, .slice none 0 0] 44)
  have h1 := fun V hh => dcheck_any b u d V hh
  have h2 := fun V (v : Value) (l : List WrL) (hh : DiskV V 0 V.heap.size b u d) (hm : mayD d = true) (h1 : Sl rWrite V 0 V.heap.size v l) (h2 : l.length ≤ 100000) (h3) => settle_any b u d v l V hh h1 hm h2 h3
  obtain ⟨ab, cb, rfl, g1, g2, -, -⟩ := h.1
  obtain ⟨au, cu, rfl, g1', g2', -, -⟩ := h.2
  obtain ⟨av, cv, rfl, y1, y2, -, -⟩ := id hv
  unfold maxLen at g2 g2' y2
  clear h hv
  obtain ⟨W, hW⟩ : ∃ W, (w.alloc (.cells #[.slice ab d.blocks.length cb, .slice au d.waits.length cu] 44)).alloc (.cells #[.slice none 0 0, .slice none 0 0] 44) = W := ⟨_, rfl⟩
  rw [hW] at hB hD hq hv0
  have c0 := blk_cell hq.1 0
  have c1 := blk_cell hq.1 1
  simp at c0 c1
  have HQ := Lib.hid (And.intro hD (And.intro hv0 (And.intro hB hq)))
  obtain ⟨ec, hec⟩ : ∃ ec, errK d ks = ec := ⟨_, rfl⟩
  obtain ⟨bd, hbd⟩ : ∃ bd, crashD d ks = bd := ⟨_, rfl⟩
  rw [hec, hbd]
  have HE := Lib.hid (And.intro hec hbd)
  have HC := Lib.hid (And.intro h1 h2)
  clear hB hD hq h1 h2 hec hbd hv0
  go_enter Try.func52, Try.ntmps52
  go_wp2_with fail
  refine (HC.out.1 W HQ.out.1).mono ?_
  rintro e w1 ⟨rfl, hst⟩
  obtain ⟨hD, hv0, hB, q0, q1⟩ := HQ.out
  replace q0 := (hst.block _ (Array.getElem?_eq_some_iff.1 q0).1).trans q0
  replace q1 := (hst.block _ (Array.getElem?_eq_some_iff.1 q1).1).trans q1
  replace hD := hD.step hst
  replace hv0 := hv0.step hst
  replace hB := below_step hB hB.size hst
  clear c0 c1
  have c0 := blk_cell q0 0
  have c1 := blk_cell q0 1
  have r0 := blk_cell q1 0
  have r1 := blk_cell q1 1
  have f0 := blk_frozen q1 0
  have f1 := blk_frozen q1 1
  simp at c0 c1 r0 r1
  have HQ1 := Lib.hid (And.intro hD (And.intro hv0 (And.intro hB (And.intro q0 q1))))
  clear hD hB q0 q1 hst HQ hv0
  cases hmay : mayD d
  case false =>
    have hw : ec = 8 ∧ bd = ⟨[], []⟩ := by
      obtain ⟨h1, h2⟩ := HE.out
      have e1 : ec = 8 := by rw [← h1]; unfold errK; rw [hmay]; rfl
      refine ⟨e1, ?_⟩
      rw [← h2]
      unfold crashD
      rw [h1, e1, if_neg (by decide)]
    obtain ⟨rfl, rfl⟩ := hw
    clear hmay
    go_wp2
    refine bodyPost_ret (v := .tuple #[.agg #[.slice none 0 0, .slice none 0 0], .int .i64 8]) (by simp [results, Try.results52, go_sem, r0, r1]) rfl ⟨_, _, rfl, MadeD.nil_ ((HQ1.out.2.2.1.setCell (p := ⟨w.heap.size + 1, 0, none⟩) (Nat.le_succ _) _).setCell (p := ⟨w.heap.size + 1, 1, none⟩) (Nat.le_succ _) _)⟩
  by_cases hkl : ks.length = d.waits.length
  case neg =>
    have hw : ec = 2 ∧ bd = ⟨[], []⟩ := by
      obtain ⟨h1, h2⟩ := HE.out
      have e1 : ec = 2 := by rw [← h1]; unfold errK; rw [hmay, if_neg hkl]; rfl
      refine ⟨e1, ?_⟩
      rw [← h2]
      unfold crashD
      rw [h1, e1, if_neg (by decide)]
    obtain ⟨rfl, rfl⟩ := hw
    clear hmay
    have i1 : ¬ (ks.length : Int) = d.waits.length := by omega
    go_wp2
    refine bodyPost_ret (v := .tuple #[.agg #[.slice none 0 0, .slice none 0 0], .int .i64 2]) (by simp [results, Try.results52, go_sem, r0, r1]) rfl ⟨_, _, rfl, MadeD.nil_ ((HQ1.out.2.2.1.setCell (p := ⟨w.heap.size + 1, 0, none⟩) (Nat.le_succ _) _).setCell (p := ⟨w.heap.size + 1, 1, none⟩) (Nat.le_succ _) _)⟩
  have hw : ec = 0 ∧ bd = ⟨putW d.blocks (keptW d.waits ks), []⟩ := by
    obtain ⟨h1, h2⟩ := HE.out
    have e1 : ec = 0 := by rw [← h1]; unfold errK; rw [hmay, if_pos hkl]; rfl
    refine ⟨e1, ?_⟩
    rw [← h2]
    unfold crashD
    rw [h1, e1, if_pos rfl]
  obtain ⟨rfl, rfl⟩ := hw
  have hm4 := (may_len hmay).2.1
  have HM := Lib.hid (And.intro hmay hkl)
  have i1 : ((ks.length : Int) != d.waits.length) = false := by simp; omega
  clear hmay hkl
  go_wp2_with fail
  go_loopw [7, 25] (fun v i wr => ∃ k : Nat, k ≤ ks.length ∧ i = .int .i64 k ∧ OwnW w1.heap.size w1 wr v (keptW (d.waits.take k) (ks.take k)) ∧ Below w1.heap.size w1 wr) (fun _ i _ => ks.length - (intOf i).toNat)
  case atStart => exact ⟨0, Nat.zero_le _, rfl, OwnW.nil_ _ _ _, Below.refl _ _⟩
  case round =>
  obtain ⟨k, hk, rfl, hown, hB⟩ := hrel
  by_cases hlt : k < ks.length
  · obtain ⟨kb, ko, kc, ek, -, zz1, zz2, zz3, hke⟩ := (HQ1.out.2.1).at_ (by omega)
    injection ek with ea _ ec
    subst ea ec
    have hb0 := hke k (ks.getD k false) (get_l _ _ _ hlt)
    have hkb : wr.cell? ⟨kb, ko + k, none⟩ = some (.bool (ks.getD k false)) := (hB.cell (p := ⟨kb, ko + k, none⟩) zz1).trans (by simpa [rBool] using hb0)
    have hlw : k < d.waits.length := by have := HM.out.2; omega
    have hkt := keptW_take d.waits ks k HM.out.2.symm hlw
    unfold maxLen at zz3
    obtain ⟨bk, hbk⟩ : ∃ bk, ks.getD k false = bk := ⟨_, rfl⟩
    rw [hbk] at hkb hkt
    clear hb0 hke hbk
    cases bk
    case false =>
      have HP := Lib.hid (And.intro hown (And.intro hB hkt))
      clear hown hB hkt
      go_wp2
      go_roundw
      case rel => exact ⟨k + 1, by omega, by go_num, by rw [HP.out.2.2]; exact HP.out.1, HP.out.2.1⟩
      case measure => simp [intOf]; omega
    obtain ⟨bb, bo, cb', e', -, z1, z2, z3, hbe⟩ := (HQ1.out.1.2).at_ (by omega)
    injection e' with ea _ ec
    subst ea ec
    obtain ⟨e0, e1, x, e2, e3⟩ := hbe k (d.waits.getD k ⟨0, []⟩) (get_l _ _ _ hlw)
    obtain ⟨ya, yc, rfl, -, hyc⟩ := e3.form rfl
    obtain ⟨y, hy⟩ : ∃ y, d.waits.getD k ⟨0, []⟩ = y := ⟨_, rfl⟩
    rw [hy] at e0 e1 e2 e3 hkt
    clear hy hbe
    obtain ⟨at0, dt⟩ := y
    simp [rWrite] at e0 e2
    have n0 := (Array.getElem?_eq_some_iff.1 HQ1.out.2.2.2.1).1
    have s0 := (hB.cell (p := ⟨bb, bo + k * 2, none⟩) z1).trans e0
    have s1 := (hB.cell (p := ⟨bb, bo + k * 2 + 1, none⟩) z1).trans e2
    have s2 := (hB.cell (p := ⟨w.heap.size, 1, none⟩) n0).trans c1
    obtain ⟨kl, hkl⟩ : ∃ kl, keptW (d.waits.take k) (ks.take k) = kl := ⟨_, rfl⟩
    have hkll : kl.length ≤ 5000 := by
      have := keptW_le (d.waits.take k) (ks.take k)
      rw [hkl] at this
      rw [List.length_take] at this
      omega
    rw [hkl] at hown hkt
    unfold maxLen at z3
    obtain ⟨xs, hown, hxs⟩ := hown
    have hB1 := hB.alloc hB.size (.cells #[.int .i64 at0, .slice ya dt.length yc] 143)
    have hcl : ∀ j u, ([.int .i64 at0, .slice ya dt.length yc] : List Value)[j]? = some u → (wr.alloc (.cells #[.int .i64 at0, .slice ya dt.length yc] 143)).cell? ((⟨wr.heap.size, 0, none⟩ : Addr).add j) = some u := by
      intro j u hj
      have hn := World.alloc_heap_new wr (.cells #[.int .i64 at0, .slice ya dt.length yc] 143)
      rcases j with _ | _ | j'
      · cases hj; exact blk_cell hn 0
      · cases hj; exact blk_cell hn 1
      · simp at hj
    have hone : ∀ u ∈ ([.int .i64 at0, .slice ya dt.length yc] : List Value), u.oneCell' = true := by
      intro u hu
      simp at hu
      rcases hu with rfl | rfl <;> rfl
    have hownA : (wr.alloc (.cells #[.int .i64 at0, .slice ya dt.length yc] 143)).ownsRow w1.heap.size 143 2 _ kl.length xs := World.ownsRow.alloc hown _
    have hblk := own_block hown
    obtain ⟨i0, hi0, hz0, hz1, hz2⟩ := info_parts (P := Try.prog) (e := 143) (z := .agg #[.int .i64 0, .slice none 0 0]) (size := 2) (bytes := 32) (by kernel_rfl)
    have HP := Lib.hid (And.intro hxs (And.intro hB1 (And.intro hkt (And.intro e1 (And.intro e3 (And.intro hcl (And.intro hone (And.intro hownA (And.intro hblk hown.1)))))))))
    have hBs := hB1.size
    clear hown hxs hB hB1 hkt e1 e3 hkl e0 e2 hcl hone hownA hblk
    go_wp2_with (at_builtin; refine wpList_append_own _ rfl (.tmp 31) (.tmp 37) 42 rfl w1.heap.size 143 i0 _ 2 32 Try.underlying42 hi0 hz0 hz1 hz2 rfl (by decide) _ kl.length xs rfl HP.out.2.2.2.2.2.2.2.1 ⟨wr.heap.size, 0, none⟩ 1 1 [.int .i64 at0, .slice ya dt.length yc] rfl rfl HP.out.2.2.2.2.2.1 HP.out.2.2.2.2.2.2.1 (by unfold maxLen; omega) (by omega) hBs ?_; intro v' z2 hown2 hg2 _)
    go_roundw
    case rel =>
      obtain ⟨hxs, hB1, hkt, e1, e3, hcl, hone, hownA, hblk, hxl⟩ := HP.out
      refine ⟨k + 1, by omega, by go_num, ?_, hB1.grown hg2 hBs hblk⟩
      rw [hkt, if_pos rfl]
      refine ⟨xs ++ [.int .i64 at0, .slice ya dt.length yc], by rw [List.length_append]; exact hown2, fun j x hj => ?_⟩
      rcases Nat.lt_or_ge j kl.length with h | h
      · rw [List.getElem?_append_left h] at hj
        obtain ⟨⟨p1, p2⟩, y, p3, p4⟩ := hxs j x hj
        exact ⟨⟨by rw [List.getElem?_append_left (by omega)]; exact p1, p2⟩, y, by rw [List.getElem?_append_left (by omega)]; exact p3, p4⟩
      · have hjj : j = kl.length := by
          have := (List.getElem?_eq_some_iff.1 hj).1
          rw [List.length_append] at this
          simp at this
          omega
        subst hjj
        rw [List.getElem?_append_right (Nat.le_refl _), Nat.sub_self] at hj
        cases hj
        refine ⟨⟨?_, e1⟩, .slice ya dt.length yc, ?_, e3⟩
        · rw [List.getElem?_append_right (by omega), hxl, Nat.sub_self]
          rfl
        · rw [List.getElem?_append_right (by omega), hxl, show kl.length * 2 + 1 - kl.length * 2 = 1 by omega]
          rfl
    case measure => simp [intOf]; omega
  obtain rfl : k = ks.length := by omega
  have hlen := HM.out.2
  have ht1 : d.waits.take ks.length = d.waits := by rw [hlen, List.take_length]
  rw [ht1, List.take_length] at hown
  have hsl := hown.sl hB
  obtain ⟨q0, q1⟩ := HQ1.out.2.2.2
  have hD := HQ1.out.1.step hB
  have hBw := below_step HQ1.out.2.2.1 HQ1.out.2.2.1.size hB
  replace q0 := (hB.block _ (Array.getElem?_eq_some_iff.1 q0).1).trans q0
  replace q1 := (hB.block _ (Array.getElem?_eq_some_iff.1 q1).1).trans q1
  clear c0 c1 r0 r1 f0 f1
  have c0 := blk_cell q0 0
  have c1 := blk_cell q0 1
  simp at c0 c1
  have hkl2 : (keptW d.waits ks).length ≤ 100000 := by have := keptW_le d.waits ks; omega
  have hkm : ∀ x ∈ keptW d.waits ks, 0 ≤ x.at_ ∧ x.at_ < 256 ∧ x.data.length = 128 := fun x hx => (may_len HM.out.1).2.2.2 x (keptW_mem _ _ x hx)
  have HZ := Lib.hid (And.intro hD (And.intro hsl (And.intro hkl2 (And.intro hkm (And.intro q1 hBw)))))
  clear hown hsl q0 q1 hD hBw hkl2 hkm ht1 hlen hB hk hlt
  go_wp2_with fail
  refine (HC.out.2 wr _ _ HZ.out.1 HM.out.1 HZ.out.2.1 HZ.out.2.2.1 HZ.out.2.2.2.1).mono ?_
  rintro e z ⟨b', u', rfl, hm⟩
  have hst := hm.below
  obtain ⟨ab', cb', rfl, -, -, -, -⟩ := hm.disk.1
  obtain ⟨au', cu', rfl, -, -, -, -⟩ := hm.disk.2
  have p1 := (hst.block _ (Array.getElem?_eq_some_iff.1 HZ.out.2.2.2.2.1).1).trans HZ.out.2.2.2.2.1
  have r0' := blk_cell p1 0
  have r1' := blk_cell p1 1
  have f0' := blk_frozen p1 0
  have f1' := blk_frozen p1 1
  simp at r0' r1'
  have HT := Lib.hid hm
  clear c0 c1 hst p1 hm
  generalize (DiskL.mk (putW d.blocks (keptW d.waits ks)) []).blocks.length = n1 at *
  generalize (DiskL.mk (putW d.blocks (keptW d.waits ks)) []).waits.length = n2 at *
  go_wp2
  refine bodyPost_ret (v := .tuple #[.agg #[.slice ab' n1 cb', .slice au' n2 cu'], .int .i64 0]) (by simp [results, Try.results52, go_sem, r0', r1']) rfl ?_
  have hB := HZ.out.2.2.2.2.2
  have hlt := (Array.getElem?_eq_some_iff.1 HZ.out.2.2.2.2.1).1
  have hBf := ((below_step hB hB.size HT.out.below).setCell (p := ⟨w.heap.size + 1, 0, none⟩) (Nat.le_succ _) (.slice ab' n1 cb')).setCell (p := ⟨w.heap.size + 1, 1, none⟩) (Nat.le_succ _) (.slice au' n2 cu')
  exact ⟨_, _, rfl, (HT.out.disk.keep (kp_two z _ _ _ hlt)).more hB.size (by rw [World.size_setCell, World.size_setCell]; exact Nat.le_refl _), hBf⟩
end Go.Proofs.Ytcibihakjcenaaa

namespace Go.Proofs.Ytcibihakjcenaaa
open Go.RowKit

theorem ext_getD {α : Type} (l m : List α) (d : α) (hl : l.length = m.length) (h : ∀ j, j < l.length → l.getD j d = m.getD j d) : l = m := by
  apply List.ext_getElem? 
  intro j
  rcases Nat.lt_or_ge j l.length with hj | hj
  · rw [get_l l d j hj, get_l m d j (by omega), h j hj]
  · rw [List.getElem?_eq_none hj, List.getElem?_eq_none (by omega)]

end Go.Proofs.Ytcibihakjcenaaa

namespace Go.Proofs.Ytcibihakjcenaaa

def half (s : BitVec 32) : BitVec 32 := (s >>> 1) ^^^ (if s.getLsbD 0 then 0xedb88320#32 else 0#32)
def halves : Nat → BitVec 32 → BitVec 32
  | 0, s => s
  | n + 1, s => half (halves n s)
theorem halves_add (s : BitVec 32) (n : Nat) : ∀ m, halves (n + m) s = halves m (halves n s)
  | 0 => rfl
  | m + 1 => by rw [← Nat.add_assoc, halves, halves_add s n m, halves]

theorem half_xor (a b : BitVec 32) : half (a ^^^ b) = half a ^^^ half b := by
  unfold half
  rw [BitVec.ushiftRight_xor_distrib, BitVec.getLsbD_xor]
  cases ha : a.getLsbD 0 <;> cases hb : b.getLsbD 0
  · simp
  · simp [BitVec.xor_assoc]
  · simp only [Bool.xor_false, if_true, if_false, Bool.false_eq_true, BitVec.xor_zero]
    ac_rfl
  · simp only [Bool.xor_true, Bool.not_true, if_true, if_false, Bool.false_eq_true, BitVec.xor_zero]
    have e : (a >>> 1 ^^^ 3988292384#32) ^^^ (b >>> 1 ^^^ 3988292384#32) = a >>> 1 ^^^ b >>> 1 ^^^ (3988292384#32 ^^^ 3988292384#32) := by ac_rfl
    rw [e]; simp
theorem halves_xor (a b : BitVec 32) : ∀ n, halves n (a ^^^ b) = halves n a ^^^ halves n b
  | 0 => rfl
  | n + 1 => by rw [halves, halves_xor a b n, half_xor]; rfl
/-- What is even is only moved. -/
theorem halves_even (s : BitVec 32) : ∀ n, (∀ i, i < n → s.getLsbD i = false) → halves n s = s >>> n
  | 0, _ => by simp [halves]
  | n + 1, h => by
    rw [halves, halves_even s n (fun i hi => h i (by omega)), half]
    have h0 : (s >>> n).getLsbD 0 = false := by rw [BitVec.getLsbD_ushiftRight]; simpa using h n (by omega)
    rw [h0]
    simp [BitVec.shiftRight_add]
/-- A table of four bits serves. -/
theorem halves_four (s : BitVec 32) : halves 4 s = (s >>> 4) ^^^ halves 4 (s &&& 15#32) := by
  have e : s = (s &&& 0xfffffff0#32) ^^^ (s &&& 15#32) := by
    apply BitVec.eq_of_getLsbD_eq
    intro i hi
    rw [BitVec.getLsbD_xor, BitVec.getLsbD_and, BitVec.getLsbD_and]
    have hk : ∀ k : Fin 32, ((0xfffffff0#32).getLsbD k.val ^^ (15#32).getLsbD k.val) = true := by decide
    have := hk ⟨i, hi⟩
    cases h1 : (0xfffffff0#32).getLsbD i <;> cases h2 : (15#32).getLsbD i <;> simp_all
  have h1 : halves 4 (s &&& 0xfffffff0#32) = (s &&& 0xfffffff0#32) >>> 4 := by
    apply halves_even
    intro i hi
    rw [BitVec.getLsbD_and]
    have : (0xfffffff0#32).getLsbD i = false := by
      match i, hi with
      | 0, _ => decide
      | 1, _ => decide
      | 2, _ => decide
      | 3, _ => decide
    rw [this]; simp
  have h2 : (s &&& 0xfffffff0#32) >>> 4 = s >>> 4 := by
    apply BitVec.eq_of_getLsbD_eq
    intro i hi
    rw [BitVec.getLsbD_ushiftRight, BitVec.getLsbD_ushiftRight, BitVec.getLsbD_and]
    by_cases h : 4 + i < 32
    · have : (0xfffffff0#32).getLsbD (4 + i) = true := by
        have hk : ∀ k : Fin 28, (0xfffffff0#32).getLsbD (4 + k.val) = true := by decide
        exact hk ⟨i, by omega⟩
      rw [this]; simp
    · rw [BitVec.getLsbD_of_ge s (4 + i) (by omega)]; simp
  conv => lhs; rw [e, halves_xor, h1, h2]

def b32 (x : UInt8) : BitVec 32 := BitVec.ofNat 32 x.toNat
def stepB (s : BitVec 32) (x : UInt8) : BitVec 32 := halves 8 (s ^^^ b32 x)
def crcS (s : BitVec 32) (l : List UInt8) : BitVec 32 := l.foldl stepB s
def crc (l : List UInt8) : BitVec 32 := ~~~ (crcS (BitVec.allOnes 32) l)
theorem crcS_append (s : BitVec 32) (a b : List UInt8) : crcS s (a ++ b) = crcS (crcS s a) b := by simp [crcS]
theorem stepB_four (s : BitVec 32) (x : UInt8) : stepB s x = halves 4 (halves 4 (s ^^^ b32 x)) := halves_add _ 4 4
open Go in
theorem xor_u32 (a b : BitVec 32) : bits .xor .u32 (a.toNat : Int) (b.toNat : Int) = ((a ^^^ b).toNat : Int) := by
  simp only [bits, IntKind.bits]
  rw [BitVec.ofInt_natCast, BitVec.ofInt_natCast, BitVec.ofNat_toNat, BitVec.ofNat_toNat]
  simp only [BitVec.setWidth_eq]
  rw [IntKind.wrap_u32]
  have := (a ^^^ b).isLt
  show ((a ^^^ b).toNat : Int) % 4294967296 = _
  omega
open Go in
theorem and_u32 (a b : BitVec 32) : bits .and .u32 (a.toNat : Int) (b.toNat : Int) = ((a &&& b).toNat : Int) := by
  simp only [bits, IntKind.bits]
  rw [BitVec.ofInt_natCast, BitVec.ofInt_natCast, BitVec.ofNat_toNat, BitVec.ofNat_toNat]
  simp only [BitVec.setWidth_eq]
  rw [IntKind.wrap_u32]
  have := (a &&& b).isLt
  show ((a &&& b).toNat : Int) % 4294967296 = _
  omega
theorem b32_nat (x : UInt8) : (b32 x).toNat = x.toNat := by
  have := x.toNat_lt
  simp only [b32, BitVec.toNat_ofNat]
  omega
theorem shr_nat (a : BitVec 32) (n : Nat) : (a >>> n).toNat = a.toNat / 2 ^ n := by rw [BitVec.toNat_ushiftRight, Nat.shiftRight_eq_div_pow]
end Go.Proofs.Ytcibihakjcenaaa

namespace Go.Proofs.Ytcibihakjcenaaa
open Go.RowKit

def u32v (s : BitVec 32) : Value := .int .u32 (s.toNat : Int)
def tabV (k : Nat) : Array Value := ((List.range 16).map fun i => if i < k then u32v (halves 4 (BitVec.ofNat 32 i)) else .int .u32 0).toArray
theorem tabV_set (n : Nat) (h : n < 16) (v : Value) (hv : v = u32v (halves 4 (BitVec.ofNat 32 n))) : (tabV n).setIfInBounds n v = tabV (n + 1) := by
  subst hv
  apply Array.ext_getElem?
  intro i
  rw [Array.getElem?_setIfInBounds]
  by_cases hi : n = i
  · subst hi
    simp [tabV, h]
  · rw [if_neg hi]
    have : (i < n + 1) = (i < n) := by apply propext; omega
    by_cases h16 : i < 16
    · simp [tabV, h16, this]
    · simp [tabV, h16]
theorem tabV_at (i : Nat) (h : i < 16) : (tabV 16)[i]? = some (u32v (halves 4 (BitVec.ofNat 32 i))) := by simp [tabV, h]
theorem tabV_zero : tabV 0 = #[.int .u32 0, .int .u32 0, .int .u32 0, .int .u32 0, .int .u32 0, .int .u32 0, .int .u32 0, .int .u32 0, .int .u32 0, .int .u32 0, .int .u32 0, .int .u32 0, .int .u32 0, .int .u32 0, .int .u32 0, .int .u32 0] := rfl
theorem tabV_lit : tabV 16 = #[.int .u32 0, .int .u32 498536548, .int .u32 997073096, .int .u32 651767980, .int .u32 1994146192, .int .u32 1802195444, .int .u32 1303535960, .int .u32 1342533948, .int .u32 3988292384, .int .u32 4027552580, .int .u32 3604390888, .int .u32 3412177804, .int .u32 2607071920, .int .u32 2262029012, .int .u32 2685067896, .int .u32 3183342108] := by kernel_rfl
theorem half_nat (s : BitVec 32) : bits BinOp.xor IntKind.u32 ((s.toNat : Int) / 2) (3988292384 * bits BinOp.and IntKind.u32 (s.toNat : Int) 1 % 4294967296) = ((half s).toNat : Int) := by
  have h1 : ((s.toNat : Int) / (2 : Int)) = ((s >>> 1).toNat : Int) := by rw [shr_nat]; omega
  have h2 := and_u32 s 1#32
  have h3 : (s &&& 1#32) = if s.getLsbD 0 then 1#32 else 0#32 := by
    apply BitVec.eq_of_getLsbD_eq
    intro i hi
    cases i with
    | zero => cases h : s.getLsbD 0 <;> simp [h, -BitVec.getLsbD_eq_getElem]
    | succ i => cases h : s.getLsbD 0 <;> simp [BitVec.getLsbD_one]
  have h4 : (3988292384 * bits BinOp.and IntKind.u32 (s.toNat : Int) 1 % 4294967296) = ((if s.getLsbD 0 then 0xedb88320#32 else 0#32 : BitVec 32).toNat : Int) := by
    rw [show (1 : Int) = ((1#32).toNat : Int) by decide, h2, h3]
    cases s.getLsbD 0 <;> decide
  rw [h1, h4, xor_u32]
  rfl

set_option maxHeartbeats 1000000 in
theorem fold_any (w : World) : Calls Try.prog 135 #[] w fun e w' => e = .returned (.agg (tabV 16)) ∧ Below w.heap.size w w' := by
  go_enter Try.func135, Try.ntmps135
  go_wp2
  go_loopw [3] (fun k wr => ∃ n : Nat, n ≤ 16 ∧ k = .int .i64 n ∧ wr = w.alloc (.cells (tabV n) 184)) (fun k _ => 16 - (intOf k).toNat)
  case atStart => exact ⟨0, by omega, rfl, by rw [tabV_zero]⟩
  case round =>
    obtain ⟨n, hn, rfl, rfl⟩ := hrel
    by_cases h : n < 16
    · have hcell : (tabV n)[n]? = some (.int .u32 0) := by simp [tabV, h]
      have htab := fun v hv => tabV_set n h v hv
      have HT := Lib.hid htab
      clear htab
      go_wp2
      go_loop [2, 8] (fun s k => ∃ j : Nat, j ≤ 4 ∧ k = .int .i64 j ∧ s = u32v (halves j (BitVec.ofNat 32 n))) (fun _ k => 4 - (intOf k).toNat)
      case atStart => exact ⟨0, by omega, rfl, by rw [halves, u32v, BitVec.toNat_ofNat, Nat.mod_eq_of_lt (by omega)]⟩
      case round =>
        obtain ⟨j, hj, rfl, hs⟩ := hrel
        unfold u32v at hs
        subst hs
        have hb := (halves j (BitVec.ofNat 32 n)).isLt
        have hf : j < 4 → half (halves j (BitVec.ofNat 32 n)) = halves (j + 1) (BitVec.ofNat 32 n) := fun _ => rfl
        have HF := Lib.hid hf
        have he : j = 4 → halves j (BitVec.ofNat 32 n) = halves 4 (BitVec.ofNat 32 n) := fun h => by rw [h]
        have HE := Lib.hid he
        clear hf he
        generalize halves j (BitVec.ofNat 32 n) = s at *
        by_cases h4 : j < 4
        · go_wp2
          go_round
          case rel => exact ⟨j + 1, by omega, by go_num, by rw [half_nat, HF.out h4]; rfl⟩
          case measure => simp [intOf]; omega
        · go_wp2
          go_roundw
          case rel => exact ⟨n + 1, by omega, by go_num, by rw [HT.out _ (by rw [HE.out (by omega)]; rfl)]⟩
          case measure => simp [intOf]; omega
    · obtain rfl : n = 16 := by omega
      rw [tabV_lit]
      go_wp2
      exact bodyPost_ret (v := .agg #[.int .u32 0, .int .u32 498536548, .int .u32 997073096, .int .u32 651767980, .int .u32 1994146192, .int .u32 1802195444, .int .u32 1303535960, .int .u32 1342533948, .int .u32 3988292384, .int .u32 4027552580, .int .u32 3604390888, .int .u32 3412177804, .int .u32 2607071920, .int .u32 2262029012, .int .u32 2685067896, .int .u32 3183342108]) (by simp [results, Try.results135, go_sem]) rfl ⟨by rw [tabV_lit], (Below.refl _ _).alloc (Nat.le_refl _) _⟩

theorem four_nat (s : BitVec 32) : bits BinOp.xor IntKind.u32 ((s.toNat : Int) / (16 : Int)) ((halves 4 (s &&& 15#32)).toNat : Int) = ((halves 4 s).toNat : Int) := by
  have h1 : ((s.toNat : Int) / (16 : Int)) = ((s >>> 4).toNat : Int) := by rw [shr_nat]; omega
  rw [h1, xor_u32, ← halves_four]
theorem and15 (s : BitVec 32) : ∃ i : Nat, i < 16 ∧ bits BinOp.and IntKind.u32 (s.toNat : Int) 15 = (i : Int) ∧ halves 4 (BitVec.ofNat 32 i) = halves 4 (s &&& 15#32) := by
  have h := and_u32 s 15#32
  refine ⟨(s &&& 15#32).toNat, ?_, h, by rw [BitVec.ofNat_toNat]; simp⟩
  rw [BitVec.toNat_and]
  exact Nat.lt_of_le_of_lt Nat.and_le_right (by decide)

set_option maxHeartbeats 1000000 in
theorem of_any (v : Value) (l : List UInt8) (w : World) (hI : Bytes w 0 w.heap.size v l) : Calls Try.prog 101 #[v] w fun e w' => e = .returned (u32v (crc l)) ∧ Below w.heap.size w w' := by
  obtain ⟨a, c, rfl, g1, g2, g3, _⟩ := id hI
  unfold maxLen at g2
  have hfold := fold_any
  have HF := Lib.hid hfold
  clear hfold
  go_enter Try.func101, Try.ntmps101
  go_wp2_with fail
  refine (HF.out _).mono ?_
  rw [tabV_lit]
  rintro e w1 ⟨rfl, hB⟩
  have hI1 := hI.step hB
  clear g3 hI HF
  go_wp2
  rw [← tabV_lit]
  have hI2 := hI1.step ((Below.refl w1.heap.size w1).alloc (Nat.le_refl _) (.cells (tabV 16) 184))
  obtain ⟨W, hW⟩ : ∃ W, w1.alloc (.cells (tabV 16) 184) = W := ⟨_, rfl⟩
  have htab : ∀ i : Nat, i < 16 → W.cell? ⟨w1.heap.size, i, none⟩ = some (u32v (halves 4 (BitVec.ofNat 32 i))) := fun i hi => by rw [← hW, World.cell?_alloc_new]; exact tabV_at i hi
  have hBW : Below w.heap.size w W := by rw [← hW]; exact hB.alloc hB.size _
  rw [hW] at hI2 ⊢
  generalize w1.heap.size = tb at *
  have HT := Lib.hid htab
  have HI := Lib.hid hI2
  clear hI1 hB hW htab hI2
  go_loop [4, 10] (fun s i => ∃ k : Nat, k ≤ l.length ∧ i = .int .i64 k ∧ s = u32v (crcS (BitVec.allOnes 32) (l.take k))) (fun _ i => l.length - (intOf i).toNat)
  case atStart => exact ⟨0, Nat.zero_le _, rfl, rfl⟩
  case round =>
    obtain ⟨k, hk, rfl, hs⟩ := hrel
    unfold u32v at hs
    subst hs
    by_cases hlt : k < l.length
    · obtain ⟨b, off, c', he, _, hb, _, _, hc⟩ := HI.out.at_ (by omega)
      cases he
      have hx := hc k l[k] (by simp [hlt])
      have hsn : crcS (BitVec.allOnes 32) (l.take (k + 1)) = stepB (crcS (BitVec.allOnes 32) (l.take k)) l[k] := by rw [List.take_succ_eq_append_getElem hlt, crcS_append]; rfl
      have HS := Lib.hid hsn
      clear hsn hc
      generalize crcS (BitVec.allOnes 32) (l.take k) = s at *
      generalize l[k] = x at *
      unfold bV at hx
      have hxl : (x.toNat : Int) < 256 := by have := x.toNat_lt; omega
      have e1 : bits BinOp.xor IntKind.u32 (s.toNat : Int) (x.toNat : Int) = ((s ^^^ b32 x).toNat : Int) := by rw [← b32_nat, xor_u32]
      have hs1 : stepB s x = halves 4 (halves 4 (s ^^^ b32 x)) := stepB_four s x
      have HS1 := Lib.hid hs1
      clear hs1
      generalize s ^^^ b32 x = s1 at *
      obtain ⟨i1, hi1, e2, e3⟩ := and15 s1
      have t1 := HT.out i1 hi1
      have e4 := four_nat s1
      rw [← e3] at e4
      generalize halves 4 (BitVec.ofNat 32 i1) = y1 at *
      generalize halves 4 s1 = s2 at *
      obtain ⟨i2, hi2, e5, e6⟩ := and15 s2
      have t2 := HT.out i2 hi2
      have e7 := four_nat s2
      rw [← e6] at e7
      generalize halves 4 (BitVec.ofNat 32 i2) = y2 at *
      generalize halves 4 s2 = s3 at *
      unfold u32v at t1 t2
      have b1 := s1.isLt
      have b2 := s2.isLt
      clear e3 e6
      go_wp2
      go_round
      case rel => exact ⟨k + 1, by omega, by go_num, by rw [HS.out, HS1.out]; rfl⟩
      case measure => simp [intOf]; omega
    · obtain rfl : k = l.length := by omega
      rw [List.take_length]
      have hfin : u32v (crc l) = .int .u32 (bits BinOp.xor IntKind.u32 IntKind.u32.max ((crcS (BitVec.allOnes 32) l).toNat : Int)) := by
        rw [show IntKind.u32.max = ((BitVec.allOnes 32).toNat : Int) by decide, xor_u32, BitVec.allOnes_xor]
        rfl
      have HFin := Lib.hid hfin
      have hbd := (crcS (BitVec.allOnes 32) l).isLt
      clear hfin
      generalize crcS (BitVec.allOnes 32) l = s at *
      go_wp2
      go_ret
      exact ⟨by rw [HFin.out]; rfl, hBW⟩
end Go.Proofs.Ytcibihakjcenaaa

namespace Go.Proofs.Ytcibihakjcenaaa
open Go.RowKit

set_option maxHeartbeats 1000000 in
/-- slices.Clone. -/
theorem clone_any (v : Value) (l : List UInt8) (w : World) (hI : Bytes w 0 w.heap.size v l) (hl : l.length ≤ 1000000) :
    Calls Try.prog 106 #[v] w fun e w' => ∃ u, e = .returned u ∧ MadeB w w' u l := by
  obtain ⟨a, c, rfl, g1, g2, g3, g4⟩ := id hI
  have hnil := fun (w : World) (a : Option Addr) (n c n' c' : Nat) => Lib.run_eql_slice_nil (P := Try.prog) w 26 5 a n c n' c' Try.underlying26
  cases a with
  | none =>
    have hc := g4 rfl
    subst hc
    have h0 : l = [] := List.eq_nil_of_length_eq_zero (by omega)
    subst h0
    go_enter Try.func106, Try.ntmps106
    go_wp2
    go_ret
    exact ⟨_, rfl, MadeB.nil_ (Below.refl _ _)⟩
  | some ad =>
    clear g3 g4
    have hown : OwnB w.heap.size 5 (w.alloc (.cells #[] 5)) (.slice (some ⟨w.heap.size, 0, none⟩) 0 0) [] := ⟨by simp, .inr ⟨w.heap.size, 0, #[], rfl, Nat.le_refl _, World.alloc_heap_new w _, Nat.le_refl _, Nat.zero_le _, rfl, rfl⟩⟩
    have hb0 := (Below.refl w.heap.size w).alloc (Nat.le_refl _) (.cells #[] 5)
    have hI1 := hI.step hb0
    go_enter Try.func106, Try.ntmps106
    go_wp2_with (at_builtin; refine wpList_appB rfl _ _ 26 rfl w.heap.size 5 Try.underlying26 info_u8 _ [] rfl hown _ _ _ l rfl hI1 (by simp; omega) (by simp) ?_; intro u w1 hown1 hB1)
    go_ret
    exact ⟨_, rfl, hown1.made (hb0.trans hB1)⟩

end Go.Proofs.Ytcibihakjcenaaa

