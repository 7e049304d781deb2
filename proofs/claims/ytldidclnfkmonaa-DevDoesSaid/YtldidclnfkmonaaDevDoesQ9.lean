/- DevDoes: the words and contracts, part 9. -/
import Derived.Test.YtldidclnfkmonaaDevDoesQ1
import Derived.Test.YtldidclnfkmonaaDevDoesQ2
import Derived.Test.YtldidclnfkmonaaDevDoesQ3
import Derived.Test.YtldidclnfkmonaaDevDoesQ4
import Derived.Test.YtldidclnfkmonaaDevDoesQ5
import Derived.Test.YtldidclnfkmonaaDevDoesQ6
import Derived.Test.YtldidclnfkmonaaDevDoesQ7
import Derived.Test.YtldidclnfkmonaaDevDoesQ8
import Derived.WalkKit
import Derived.WalkLawsBesides
import Derived.WalkSpells
import Derived.Lib.Hide
import Derived.Laws.Rows
import Derived.Laws.AppendOwnNone
import Derived.Maps.AppendAt
import Derived.RangeFuncNested
import Derived.RangeFuncBound
import Derived.RangeFuncCalls
import Derived.RangeFuncLeaves
import Derived.RangeFuncBox
import Derived.Shelf.Abstract
import Derived.Shelf.RegionOpen
import Derived.OwnWalkIn
import Derived.TacticsInMore
import Derived.LoopNIn
import Derived.LoopIn
import Derived.ProofKit
import Derived.Deep.Slices
import Derived.WideShapes
import Derived.OrdersHeld
import Derived.Deep.QuietTactic
import Derived.BigQuiet
import Derived.StillTailTactics
import Derived.OpenShut
import Derived.Lib.SliceRun
import Derived.Lib.AppendZerosOnto
import Derived.Lib.Walk
import Derived.Deep.LoopGhost
import Derived.Laws.CopyOwn
import Derived.Deep.DeepCutAuto
import Derived.Laws.CopyRow
import Derived.Laws.MakeOwn
import Derived.Deep.RegionHeld
namespace Go.Proofs.Ytldidclnfkmonaa
open Go.RowKit

/-- The writes whose mark is true. -/
def keptW : List WrL → List Bool → List WrL
  | x :: l, k :: ks => if k then x :: keptW l ks else keptW l ks
  | _, _ => []
theorem keptW_snoc (l : List WrL) (ks : List Bool) (x : WrL) (k : Bool) (h : l.length = ks.length) : keptW (l ++ [x]) (ks ++ [k]) = if k then keptW l ks ++ [x] else keptW l ks := by
  induction l generalizing ks with
  | nil =>
    cases ks with
    | nil => cases k <;> rfl
    | cons a b => simp at h
  | cons y l ih =>
    cases ks with
    | nil => simp at h
    | cons a b =>
      simp only [List.cons_append, keptW, ih b (by simpa using h)]
      cases a <;> cases k <;> rfl
theorem keptW_take (l : List WrL) (ks : List Bool) (n : Nat) (h : l.length = ks.length) (hn : n < l.length) : keptW (l.take (n + 1)) (ks.take (n + 1)) = if ks.getD n false then keptW (l.take n) (ks.take n) ++ [l.getD n ⟨0, []⟩] else keptW (l.take n) (ks.take n) := by
  rw [List.take_add_one, List.take_add_one, List.getElem?_eq_getElem hn, List.getElem?_eq_getElem (by omega : n < ks.length)]
  rw [show (some l[n]).toList = [l[n]] from rfl, show (some (ks[n]'(by omega))).toList = [ks[n]'(by omega)] from rfl, keptW_snoc _ _ _ _ (by simp; omega)]
  simp [hn, show n < ks.length by omega]
theorem keptW_mem (l : List WrL) (ks : List Bool) : ∀ x ∈ keptW l ks, x ∈ l := by
  induction l generalizing ks with
  | nil => intro x hx; cases ks <;> cases hx
  | cons y l ih =>
    cases ks with
    | nil => intro x hx; cases hx
    | cons a b =>
      intro x hx
      unfold keptW at hx
      cases a with
      | true =>
        rcases List.mem_cons.1 hx with rfl | hx
        · exact List.mem_cons_self ..
        · exact List.mem_cons_of_mem _ (ih b x hx)
      | false => exact List.mem_cons_of_mem _ (ih b x hx)
theorem keptW_le (l : List WrL) (ks : List Bool) : (keptW l ks).length ≤ l.length := by
  induction l generalizing ks with
  | nil => cases ks <;> exact Nat.le_refl _
  | cons y l ih =>
    cases ks with
    | nil => exact Nat.zero_le _
    | cons a b =>
      have := ih b
      unfold keptW
      cases a <;> simp <;> omega

/-- A row of the call's own that holds writes. -/
def OwnW (base : Nat) (W w : World) (v : Value) (l : List WrL) : Prop := ∃ xs, w.ownsRow base 74 2 v l.length xs ∧ ∀ j x, l[j]? = some x → (xs[j * 2]? = some (.int .i64 x.at_) ∧ (Lit.int .i64 x.at_).wf = true) ∧ ∃ y, xs[j * 2 + 1]? = some y ∧ Bytes W 0 W.heap.size y x.data
theorem OwnW.nil_ (base : Nat) (W w : World) : OwnW base W w (.slice none 0 0) [] := ⟨[], World.ownsRow_nil _ _ _ _, fun j x h => by simp at h⟩
theorem OwnW.sl {base : Nat} {W w : World} {v : Value} {l : List WrL} (h : OwnW base W w v l) (hB : Below W.heap.size W w) : Sl rWrite w 0 w.heap.size v l := by
  obtain ⟨xs, ⟨hl, hrow⟩, hx⟩ := h
  rcases hrow with ⟨rfl, h0⟩ | ⟨g, cap, cur, rfl, hg, hh, h1, h2, h3, h4⟩
  · have : l = [] := List.eq_nil_of_length_eq_zero (by omega)
    subst this
    exact Sl.nil_ _ _ _
  · refine ⟨_, _, rfl, h1, h2, fun _ => ⟨g, 0, rfl, Nat.zero_le _, (Array.getElem?_eq_some_iff.1 hh).1, fun i x hxi => ?_⟩, fun h => by cases h⟩
    have hi : i < l.length := (List.getElem?_eq_some_iff.1 hxi).1
    obtain ⟨⟨e1, e2⟩, y, e3, e4⟩ := hx i x hxi
    have hc : ∀ j u, xs[j]? = some u → w.cell? ⟨g, j, none⟩ = some u := by
      intro j u hj
      rw [blk_cell hh, ← hj, ← h4, List.getElem?_take, if_pos]
      · simp
      · have := (List.getElem?_eq_some_iff.1 hj).1
        rw [hl] at this
        exact this
    refine ⟨?_, e2, y, ?_, (e4.below hB (Nat.le_refl _)).more (Nat.le_refl _) hB.size⟩
    · show w.cell? ⟨g, 0 + i * 2 + 0, none⟩ = _
      rw [Nat.zero_add, Nat.add_zero]
      exact hc _ _ e1
    · show w.cell? ⟨g, 0 + i * 2 + 1, none⟩ = _
      rw [Nat.zero_add]
      exact hc _ _ e3

theorem own_block {base : Nat} {e : TypeId} {size n : Nat} {v : Value} {xs : List Value} {w : World} (h : w.ownsRow base e size v n xs) : ∀ g, v.ownBlock = some g → base ≤ g := by
  intro g e
  rcases h.2 with ⟨rfl, h0⟩ | ⟨g, cap, cur, rfl, hgg, hh, h1, h2, h3, h4⟩
  · cases e
  · cases e; exact hgg
def errK (d : DiskL) (ks : List Bool) : Int := if mayD d then (if ks.length = d.waits.length then 0 else 2) else 8
/-- A disk behind a crash. -/
def crashD (d : DiskL) (ks : List Bool) : DiskL := if errK d ks = 0 then ⟨putW d.blocks (keptW d.waits ks), []⟩ else ⟨[], []⟩

set_option maxRecDepth 100000 in
set_option maxHeartbeats 1000000 in
/-- dev.Crash. -/
theorem dcrash_any (b u : Value) (d : DiskL) (v : Value) (ks : List Bool) (w : World) (h : DiskV w 0 w.heap.size b u d) (hv : Sl rBool w 0 w.heap.size v ks) :
    Calls Try.prog 29 #[.agg #[b, u], v] w fun e w' => ∃ b' u', e = .returned (.tuple #[.agg #[b', u'], .int .i64 (errK d ks)]) ∧ MadeD w w' b' u' (crashD d ks) := by
  have hB := ((Below.refl w.heap.size w).alloc (Nat.le_refl _) (.cells #[b, u] 39)).alloc (by simp) (.cells #[.slice none 0 0, .slice none 0 0] 39)
  have hD : DiskV _ 0 _ b u d := h.step hB
  have hv0 := hv.step hB
  have hq := two_new w (.cells #[b, u] 39) (.cells #[.slice none 0 0, .slice none 0 0] 39)
  have h1 := fun V hh => dcheck_any b u d V hh
  have h2 := fun V (v : Value) (l : List WrL) (hh : DiskV V 0 V.heap.size b u d) (hm : mayD d = true) (h1 : Sl rWrite V 0 V.heap.size v l) (h2 : l.length ≤ 100000) (h3) => settle_any b u d v l V hh h1 hm h2 h3
  obtain ⟨ab, cb, rfl, g1, g2, -, -⟩ := h.1
  obtain ⟨au, cu, rfl, g1', g2', -, -⟩ := h.2
  obtain ⟨av, cv, rfl, y1, y2, -, -⟩ := id hv
  unfold maxLen at g2 g2' y2
  clear h hv
  obtain ⟨W, hW⟩ : ∃ W, (w.alloc (.cells #[.slice ab d.blocks.length cb, .slice au d.waits.length cu] 39)).alloc (.cells #[.slice none 0 0, .slice none 0 0] 39) = W := ⟨_, rfl⟩
  rw [hW] at hB hD hq hv0
  have c0 := blk_cell hq.1 0
  have c1 := blk_cell hq.1 1
  simp at c0 c1
  have HQ := Lib.hid (And.intro hD (And.intro hv0 (And.intro hB hq)))
  obtain ⟨ec, hec⟩ : ∃ ec, errK d ks = ec := ⟨_, rfl⟩
  obtain ⟨bd, hbd⟩ : ∃ bd, crashD d ks = bd := ⟨_, rfl⟩
  rw [hec, hbd]
  have HE := Lib.hid (And.intro hec hbd)
  have HC := Lib.hid (And.intro h1 h2)
  clear hB hD hq h1 h2 hec hbd hv0
  go_enter Try.func29, Try.ntmps29
  go_wp2_with fail
  refine (HC.out.1 W HQ.out.1).mono ?_
  rintro e w1 ⟨rfl, hst⟩
  obtain ⟨hD, hv0, hB, q0, q1⟩ := HQ.out
  replace q0 := (hst.block _ (Array.getElem?_eq_some_iff.1 q0).1).trans q0
  replace q1 := (hst.block _ (Array.getElem?_eq_some_iff.1 q1).1).trans q1
  replace hD := hD.step hst
  replace hv0 := hv0.step hst
  replace hB := below_step hB hB.size hst
  clear c0 c1
  have c0 := blk_cell q0 0
  have c1 := blk_cell q0 1
  have r0 := blk_cell q1 0
  have r1 := blk_cell q1 1
  have f0 := blk_frozen q1 0
  have f1 := blk_frozen q1 1
  simp at c0 c1 r0 r1
  have HQ1 := Lib.hid (And.intro hD (And.intro hv0 (And.intro hB (And.intro q0 q1))))
  clear hD hB q0 q1 hst HQ hv0
  cases hmay : mayD d
  case false =>
    have hw : ec = 8 ∧ bd = ⟨[], []⟩ := by
      obtain ⟨h1, h2⟩ := HE.out
      have e1 : ec = 8 := by rw [← h1]; unfold errK; rw [hmay]; rfl
      refine ⟨e1, ?_⟩
      rw [← h2]
      unfold crashD
      rw [h1, e1, if_neg (by decide)]
    obtain ⟨rfl, rfl⟩ := hw
    clear hmay
    go_wp2
    refine bodyPost_ret (v := .tuple #[.agg #[.slice none 0 0, .slice none 0 0], .int .i64 8]) (by simp [results, Try.results29, go_sem, r0, r1]) rfl ⟨_, _, rfl, MadeD.nil_ ((HQ1.out.2.2.1.setCell (p := ⟨w.heap.size + 1, 0, none⟩) (Nat.le_succ _) _).setCell (p := ⟨w.heap.size + 1, 1, none⟩) (Nat.le_succ _) _)⟩
  by_cases hkl : ks.length = d.waits.length
  case neg =>
    have hw : ec = 2 ∧ bd = ⟨[], []⟩ := by
      obtain ⟨h1, h2⟩ := HE.out
      have e1 : ec = 2 := by rw [← h1]; unfold errK; rw [hmay, if_neg hkl]; rfl
      refine ⟨e1, ?_⟩
      rw [← h2]
      unfold crashD
      rw [h1, e1, if_neg (by decide)]
    obtain ⟨rfl, rfl⟩ := hw
    clear hmay
    have i1 : ¬ (ks.length : Int) = d.waits.length := by omega
    go_wp2
    refine bodyPost_ret (v := .tuple #[.agg #[.slice none 0 0, .slice none 0 0], .int .i64 2]) (by simp [results, Try.results29, go_sem, r0, r1]) rfl ⟨_, _, rfl, MadeD.nil_ ((HQ1.out.2.2.1.setCell (p := ⟨w.heap.size + 1, 0, none⟩) (Nat.le_succ _) _).setCell (p := ⟨w.heap.size + 1, 1, none⟩) (Nat.le_succ _) _)⟩
  have hw : ec = 0 ∧ bd = ⟨putW d.blocks (keptW d.waits ks), []⟩ := by
    obtain ⟨h1, h2⟩ := HE.out
    have e1 : ec = 0 := by rw [← h1]; unfold errK; rw [hmay, if_pos hkl]; rfl
    refine ⟨e1, ?_⟩
    rw [← h2]
    unfold crashD
    rw [h1, e1, if_pos rfl]
  obtain ⟨rfl, rfl⟩ := hw
  have hm4 := (may_len hmay).2.1
  have HM := Lib.hid (And.intro hmay hkl)
  have i1 : ((ks.length : Int) != d.waits.length) = false := by simp; omega
  clear hmay hkl
  go_wp2_with fail
  go_loopw [7, 25] (fun v i wr => ∃ k : Nat, k ≤ ks.length ∧ i = .int .i64 k ∧ OwnW w1.heap.size w1 wr v (keptW (d.waits.take k) (ks.take k)) ∧ Below w1.heap.size w1 wr) (fun _ i _ => ks.length - (intOf i).toNat)
  case atStart => exact ⟨0, Nat.zero_le _, rfl, OwnW.nil_ _ _ _, Below.refl _ _⟩
  case round =>
  obtain ⟨k, hk, rfl, hown, hB⟩ := hrel
  by_cases hlt : k < ks.length
  · obtain ⟨kb, ko, kc, ek, -, zz1, zz2, zz3, hke⟩ := (HQ1.out.2.1).at_ (by omega)
    injection ek with ea _ ec
    subst ea ec
    have hb0 := hke k (ks.getD k false) (get_l _ _ _ hlt)
    have hkb : wr.cell? ⟨kb, ko + k, none⟩ = some (.bool (ks.getD k false)) := (hB.cell (p := ⟨kb, ko + k, none⟩) zz1).trans (by simpa [rBool] using hb0)
    have hlw : k < d.waits.length := by have := HM.out.2; omega
    have hkt := keptW_take d.waits ks k HM.out.2.symm hlw
    unfold maxLen at zz3
    obtain ⟨bk, hbk⟩ : ∃ bk, ks.getD k false = bk := ⟨_, rfl⟩
    rw [hbk] at hkb hkt
    clear hb0 hke hbk
    cases bk
    case false =>
      have HP := Lib.hid (And.intro hown (And.intro hB hkt))
      clear hown hB hkt
      go_wp2
      go_roundw
      case rel => exact ⟨k + 1, by omega, by go_num, by rw [HP.out.2.2]; exact HP.out.1, HP.out.2.1⟩
      case measure => simp [intOf]; omega
    obtain ⟨bb, bo, cb', e', -, z1, z2, z3, hbe⟩ := (HQ1.out.1.2).at_ (by omega)
    injection e' with ea _ ec
    subst ea ec
    obtain ⟨e0, e1, x, e2, e3⟩ := hbe k (d.waits.getD k ⟨0, []⟩) (get_l _ _ _ hlw)
    obtain ⟨ya, yc, rfl, -, hyc⟩ := e3.form rfl
    obtain ⟨y, hy⟩ : ∃ y, d.waits.getD k ⟨0, []⟩ = y := ⟨_, rfl⟩
    rw [hy] at e0 e1 e2 e3 hkt
    clear hy hbe
    obtain ⟨at0, dt⟩ := y
    simp [rWrite] at e0 e2
    have n0 := (Array.getElem?_eq_some_iff.1 HQ1.out.2.2.2.1).1
    have s0 := (hB.cell (p := ⟨bb, bo + k * 2, none⟩) z1).trans e0
    have s1 := (hB.cell (p := ⟨bb, bo + k * 2 + 1, none⟩) z1).trans e2
    have s2 := (hB.cell (p := ⟨w.heap.size, 1, none⟩) n0).trans c1
    obtain ⟨kl, hkl⟩ : ∃ kl, keptW (d.waits.take k) (ks.take k) = kl := ⟨_, rfl⟩
    have hkll : kl.length ≤ 5000 := by
      have := keptW_le (d.waits.take k) (ks.take k)
      rw [hkl] at this
      rw [List.length_take] at this
      omega
    rw [hkl] at hown hkt
    unfold maxLen at z3
    obtain ⟨xs, hown, hxs⟩ := hown
    have hB1 := hB.alloc hB.size (.cells #[.int .i64 at0, .slice ya dt.length yc] 74)
    have hcl : ∀ j u, ([.int .i64 at0, .slice ya dt.length yc] : List Value)[j]? = some u → (wr.alloc (.cells #[.int .i64 at0, .slice ya dt.length yc] 74)).cell? ((⟨wr.heap.size, 0, none⟩ : Addr).add j) = some u := by
      intro j u hj
      have hn := World.alloc_heap_new wr (.cells #[.int .i64 at0, .slice ya dt.length yc] 74)
      rcases j with _ | _ | j'
      · cases hj; exact blk_cell hn 0
      · cases hj; exact blk_cell hn 1
      · simp at hj
    have hone : ∀ u ∈ ([.int .i64 at0, .slice ya dt.length yc] : List Value), u.oneCell' = true := by
      intro u hu
      simp at hu
      rcases hu with rfl | rfl <;> rfl
    have hownA : (wr.alloc (.cells #[.int .i64 at0, .slice ya dt.length yc] 74)).ownsRow w1.heap.size 74 2 _ kl.length xs := World.ownsRow.alloc hown _
    have hblk := own_block hown
    obtain ⟨i0, hi0, hz0, hz1, hz2⟩ := info_parts (P := Try.prog) (e := 74) (z := .agg #[.int .i64 0, .slice none 0 0]) (size := 2) (bytes := 32) (by kernel_rfl)
    have HP := Lib.hid (And.intro hxs (And.intro hB1 (And.intro hkt (And.intro e1 (And.intro e3 (And.intro hcl (And.intro hone (And.intro hownA (And.intro hblk hown.1)))))))))
    have hBs := hB1.size
    clear hown hxs hB hB1 hkt e1 e3 hkl e0 e2 hcl hone hownA hblk
    go_wp2_with (at_builtin; refine wpList_append_own _ rfl (.tmp 31) (.tmp 37) 37 rfl w1.heap.size 74 i0 _ 2 32 Try.underlying37 hi0 hz0 hz1 hz2 rfl (by decide) _ kl.length xs rfl HP.out.2.2.2.2.2.2.2.1 ⟨wr.heap.size, 0, none⟩ 1 1 [.int .i64 at0, .slice ya dt.length yc] rfl rfl HP.out.2.2.2.2.2.1 HP.out.2.2.2.2.2.2.1 (by unfold maxLen; omega) (by omega) hBs ?_; intro v' z2 hown2 hg2 _)
    go_roundw
    case rel =>
      obtain ⟨hxs, hB1, hkt, e1, e3, hcl, hone, hownA, hblk, hxl⟩ := HP.out
      refine ⟨k + 1, by omega, by go_num, ?_, hB1.grown hg2 hBs hblk⟩
      rw [hkt, if_pos rfl]
      refine ⟨xs ++ [.int .i64 at0, .slice ya dt.length yc], by rw [List.length_append]; exact hown2, fun j x hj => ?_⟩
      rcases Nat.lt_or_ge j kl.length with h | h
      · rw [List.getElem?_append_left h] at hj
        obtain ⟨⟨p1, p2⟩, y, p3, p4⟩ := hxs j x hj
        exact ⟨⟨by rw [List.getElem?_append_left (by omega)]; exact p1, p2⟩, y, by rw [List.getElem?_append_left (by omega)]; exact p3, p4⟩
      · have hjj : j = kl.length := by
          have := (List.getElem?_eq_some_iff.1 hj).1
          rw [List.length_append] at this
          simp at this
          omega
        subst hjj
        rw [List.getElem?_append_right (Nat.le_refl _), Nat.sub_self] at hj
        cases hj
        refine ⟨⟨?_, e1⟩, .slice ya dt.length yc, ?_, e3⟩
        · rw [List.getElem?_append_right (by omega), hxl, Nat.sub_self]
          rfl
        · rw [List.getElem?_append_right (by omega), hxl, show kl.length * 2 + 1 - kl.length * 2 = 1 by omega]
          rfl
    case measure => simp [intOf]; omega
  obtain rfl : k = ks.length := by omega
  have hlen := HM.out.2
  have ht1 : d.waits.take ks.length = d.waits := by rw [hlen, List.take_length]
  rw [ht1, List.take_length] at hown
  have hsl := hown.sl hB
  obtain ⟨q0, q1⟩ := HQ1.out.2.2.2
  have hD := HQ1.out.1.step hB
  have hBw := below_step HQ1.out.2.2.1 HQ1.out.2.2.1.size hB
  replace q0 := (hB.block _ (Array.getElem?_eq_some_iff.1 q0).1).trans q0
  replace q1 := (hB.block _ (Array.getElem?_eq_some_iff.1 q1).1).trans q1
  clear c0 c1 r0 r1 f0 f1
  have c0 := blk_cell q0 0
  have c1 := blk_cell q0 1
  simp at c0 c1
  have hkl2 : (keptW d.waits ks).length ≤ 100000 := by have := keptW_le d.waits ks; omega
  have hkm : ∀ x ∈ keptW d.waits ks, 0 ≤ x.at_ ∧ x.at_ < 256 ∧ x.data.length = 128 := fun x hx => (may_len HM.out.1).2.2.2 x (keptW_mem _ _ x hx)
  have HZ := Lib.hid (And.intro hD (And.intro hsl (And.intro hkl2 (And.intro hkm (And.intro q1 hBw)))))
  clear hown hsl q0 q1 hD hBw hkl2 hkm ht1 hlen hB hk hlt
  go_wp2_with fail
  refine (HC.out.2 wr _ _ HZ.out.1 HM.out.1 HZ.out.2.1 HZ.out.2.2.1 HZ.out.2.2.2.1).mono ?_
  rintro e z ⟨b', u', rfl, hm⟩
  have hst := hm.below
  obtain ⟨ab', cb', rfl, -, -, -, -⟩ := hm.disk.1
  obtain ⟨au', cu', rfl, -, -, -, -⟩ := hm.disk.2
  have p1 := (hst.block _ (Array.getElem?_eq_some_iff.1 HZ.out.2.2.2.2.1).1).trans HZ.out.2.2.2.2.1
  have r0' := blk_cell p1 0
  have r1' := blk_cell p1 1
  have f0' := blk_frozen p1 0
  have f1' := blk_frozen p1 1
  simp at r0' r1'
  have HT := Lib.hid hm
  clear c0 c1 hst p1 hm
  generalize (DiskL.mk (putW d.blocks (keptW d.waits ks)) []).blocks.length = n1 at *
  generalize (DiskL.mk (putW d.blocks (keptW d.waits ks)) []).waits.length = n2 at *
  go_wp2
  refine bodyPost_ret (v := .tuple #[.agg #[.slice ab' n1 cb', .slice au' n2 cu'], .int .i64 0]) (by simp [results, Try.results29, go_sem, r0', r1']) rfl ?_
  have hB := HZ.out.2.2.2.2.2
  have hlt := (Array.getElem?_eq_some_iff.1 HZ.out.2.2.2.2.1).1
  have hBf := ((below_step hB hB.size HT.out.below).setCell (p := ⟨w.heap.size + 1, 0, none⟩) (Nat.le_succ _) (.slice ab' n1 cb')).setCell (p := ⟨w.heap.size + 1, 1, none⟩) (Nat.le_succ _) (.slice au' n2 cu')
  exact ⟨_, _, rfl, (HT.out.disk.keep (kp_two z _ _ _ hlt)).more hB.size (by rw [World.size_setCell, World.size_setCell]; exact Nat.le_refl _), hBf⟩
end Go.Proofs.Ytldidclnfkmonaa

namespace Go.Proofs.Ytldidclnfkmonaa
open Go.RowKit

theorem ext_getD {α : Type} (l m : List α) (d : α) (hl : l.length = m.length) (h : ∀ j, j < l.length → l.getD j d = m.getD j d) : l = m := by
  apply List.ext_getElem? 
  intro j
  rcases Nat.lt_or_ge j l.length with hj | hj
  · rw [get_l l d j hj, get_l m d j (by omega), h j hj]
  · rw [List.getElem?_eq_none hj, List.getElem?_eq_none (by omega)]

set_option maxRecDepth 100000 in
set_option maxHeartbeats 1000000 in
/-- slices.EqualFunc at slices of slices, by bytes.Equal. -/
theorem eqb_any (v u : Value) (l m : List (List UInt8)) (w : World) (hv : Sl rBytes w 0 w.heap.size v l) (hu : Sl rBytes w 0 w.heap.size u m) :
    Calls Try.prog 67 #[v, u, .func (.func 55) #[] #[]] w fun e w' => e = .returned (.bool (decide (l = m))) ∧ w' = w := by
  have HV := Lib.hid hv
  have HU := Lib.hid hu
  obtain ⟨av, cv, rfl, g1, g2, -, -⟩ := hv
  obtain ⟨au, cu, rfl, g1', g2', -, -⟩ := hu
  unfold maxLen at g2 g2'
  obtain ⟨r, hr⟩ : ∃ r, decide (l = m) = r := ⟨_, rfl⟩
  rw [hr]
  have HR := Lib.hid hr
  clear hr
  go_enter Try.func67, Try.ntmps67
  by_cases hl : l.length = m.length
  case neg =>
    obtain rfl : r = false := by
      rw [← HR.out]
      exact decide_eq_false (fun e => hl (by rw [e]))
    have i1 : ¬ (l.length : Int) = m.length := by omega
    go_wp2
    go_ret
    exact ⟨rfl, rfl⟩
  have i1 : ((l.length : Int) != m.length) = false := by simp; omega
  have HL := Lib.hid hl
  have hlm : l.length ≤ m.length := by omega
  clear hl
  go_wp2_with fail
  go_loopw [17] (fun i wr => ∃ k : Nat, k ≤ l.length ∧ i = .int .i64 k ∧ wr = w ∧ ∀ j, j < k → l.getD j [] = m.getD j []) (fun i _ => l.length - (intOf i).toNat)
  case atStart => exact ⟨0, Nat.zero_le _, rfl, rfl, fun j hj => absurd hj (Nat.not_lt_zero _)⟩
  case round =>
  obtain ⟨k, hk, rfl, rfl, hall⟩ := hrel
  by_cases hlt : k < l.length
  · obtain ⟨b1, o1, c1, e1, -, -, -, z3, hb1⟩ := HV.out.at_ (by omega)
    injection e1 with ea _ ec
    subst ea ec
    obtain ⟨b2, o2, c2, e2, -, -, -, z3', hb2⟩ := HU.out.at_ (by omega)
    injection e2 with ea _ ec
    subst ea ec
    obtain ⟨x, hx, hxb⟩ := hb1 k (l.getD k []) (get_l _ _ _ hlt)
    obtain ⟨y, hy, hyb⟩ := hb2 k (m.getD k []) (get_l _ _ _ (by omega))
    have hx' : wr.cell? ⟨b1, o1 + k, none⟩ = some x := by simpa [rBytes] using hx
    have hy' : wr.cell? ⟨b2, o2 + k, none⟩ = some y := by simpa [rBytes] using hy
    have heq := bequal_any x y _ _ wr _ _ _ _ hxb hyb
    have hkm : k < m.length := by omega
    unfold maxLen at z3 z3'
    have HP := Lib.hid (And.intro heq hall)
    clear heq hall hx hy hxb hyb hb1 hb2
    go_wp2_with fail
    refine HP.out.1.mono ?_
    rintro e w1 ⟨rfl, rfl⟩
    by_cases he : l.getD k [] = m.getD k []
    · rw [decide_eq_true he]
      have HE := Lib.hid he
      clear he
      go_wp2
      go_roundw
      case rel => exact ⟨k + 1, by omega, by go_num, trivial, fun j hj => by
        rcases Nat.lt_succ_iff_lt_or_eq.1 hj with hj | rfl
        · exact HP.out.2 j hj
        · exact HE.out⟩
      case measure => simp [intOf]; omega
    · rw [decide_eq_false he]
      obtain rfl : r = false := by
        rw [← HR.out]
        exact decide_eq_false (fun e => he (by rw [e]))
      clear he
      go_wp2
      go_ret
      exact ⟨rfl, rfl⟩
  obtain rfl : k = l.length := by omega
  obtain rfl : r = true := by
    rw [← HR.out]
    exact decide_eq_true (ext_getD l m [] HL.out hall)
  clear hall
  go_wp2
  go_ret
  exact ⟨rfl, rfl⟩

set_option maxRecDepth 100000 in
set_option maxHeartbeats 1000000 in
/-- The comparing of two writes. -/
theorem eqw1_any (p q : Int) (v u : Value) (l m : List UInt8) (w : World) (hv : Bytes w 0 w.heap.size v l) (hu : Bytes w 0 w.heap.size u m) :
    Calls Try.prog 69 #[.agg #[.int .i64 p, v], .agg #[.int .i64 q, u]] w fun e w' => e = .returned (.bool (decide ((⟨p, l⟩ : WrL) = ⟨q, m⟩))) ∧ Below w.heap.size w w' := by
  have hB := ((Below.refl w.heap.size w).alloc (Nat.le_refl _) (.cells #[.int .i64 p, v] 74)).alloc (by simp) (.cells #[.int .i64 q, u] 74)
  have hq := two_new w (.cells #[.int .i64 p, v] 74) (.cells #[.int .i64 q, u] 74)
  have hv0 := hv.step hB
  have hu0 := hu.step hB
  obtain ⟨av, cv, rfl, -, -⟩ := hv.form rfl
  obtain ⟨au, cu, rfl, -, -⟩ := hu.form rfl
  clear hv hu
  obtain ⟨W, hW⟩ : ∃ W, (w.alloc (.cells #[.int .i64 p, .slice av l.length cv] 74)).alloc (.cells #[.int .i64 q, .slice au m.length cu] 74) = W := ⟨_, rfl⟩
  rw [hW] at hB hq hv0 hu0
  have c0 := blk_cell hq.1 0
  have c1 := blk_cell hq.1 1
  have d0 := blk_cell hq.2 0
  have d1 := blk_cell hq.2 1
  simp at c0 c1 d0 d1
  obtain ⟨r, hr⟩ : ∃ r, decide ((⟨p, l⟩ : WrL) = ⟨q, m⟩) = r := ⟨_, rfl⟩
  rw [hr]
  have HR := Lib.hid hr
  have HP := Lib.hid (And.intro (bequal_any _ _ _ _ W _ _ _ _ hv0 hu0) hB)
  clear hr hq hv0 hu0 hB
  go_enter Try.func69, Try.ntmps69
  by_cases hpq : p = q
  case neg =>
    obtain rfl : r = false := by
      rw [← HR.out]
      exact decide_eq_false (fun e => hpq (congrArg WrL.at_ e))
    have i1 : (p == q) = false := by simp [hpq]
    clear hpq
    go_wp2
    go_ret
    exact ⟨rfl, HP.out.2⟩
  subst hpq
  have hr2 : r = decide (l = m) := by
    rw [← HR.out]
    by_cases e : l = m
    · subst e; rw [decide_eq_true rfl, decide_eq_true rfl]
    · rw [decide_eq_false e]
      exact decide_eq_false (fun h => e (congrArg WrL.data h))
  have HR2 := Lib.hid hr2
  clear hr2
  go_wp2_with fail
  refine HP.out.1.mono ?_
  rintro e w1 ⟨rfl, rfl⟩
  rw [← HR2.out]
  go_wp2
  go_ret
  exact ⟨rfl, HP.out.2⟩

set_option maxRecDepth 100000 in
set_option maxHeartbeats 1000000 in
/-- slices.EqualFunc at writes. -/
theorem eqw_any (v u : Value) (l m : List WrL) (w : World) (hv : Sl rWrite w 0 w.heap.size v l) (hu : Sl rWrite w 0 w.heap.size u m) :
    Calls Try.prog 68 #[v, u, .func (.func 69) #[] #[]] w fun e w' => e = .returned (.bool (decide (l = m))) ∧ Below w.heap.size w w' := by
  have HV := Lib.hid hv
  have HU := Lib.hid hu
  obtain ⟨av, cv, rfl, g1, g2, -, -⟩ := hv
  obtain ⟨au, cu, rfl, g1', g2', -, -⟩ := hu
  unfold maxLen at g2 g2'
  obtain ⟨r, hr⟩ : ∃ r, decide (l = m) = r := ⟨_, rfl⟩
  rw [hr]
  have HR := Lib.hid hr
  clear hr
  go_enter Try.func68, Try.ntmps68
  by_cases hl : l.length = m.length
  case neg =>
    obtain rfl : r = false := by
      rw [← HR.out]
      exact decide_eq_false (fun e => hl (by rw [e]))
    have i1 : ¬ (l.length : Int) = m.length := by omega
    go_wp2
    go_ret
    exact ⟨rfl, Below.refl _ _⟩
  have i1 : ((l.length : Int) != m.length) = false := by simp; omega
  have HL := Lib.hid hl
  have hlm : l.length ≤ m.length := by omega
  clear hl
  go_wp2_with fail
  go_loopw [17] (fun i wr => ∃ k : Nat, k ≤ l.length ∧ i = .int .i64 k ∧ Below w.heap.size w wr ∧ ∀ j, j < k → l.getD j ⟨0, []⟩ = m.getD j ⟨0, []⟩) (fun i _ => l.length - (intOf i).toNat)
  case atStart => exact ⟨0, Nat.zero_le _, rfl, Below.refl _ _, fun j hj => absurd hj (Nat.not_lt_zero _)⟩
  case round =>
  obtain ⟨k, hk, rfl, hB, hall⟩ := hrel
  by_cases hlt : k < l.length
  · obtain ⟨b1, o1, c1, e1, -, hz1, -, z3, hb1⟩ := HV.out.at_ (by omega)
    injection e1 with ea _ ec
    subst ea ec
    obtain ⟨b2, o2, c2, e2, -, hz2, -, z3', hb2⟩ := HU.out.at_ (by omega)
    injection e2 with ea _ ec
    subst ea ec
    obtain ⟨f0, -, x, f1, hxb⟩ := hb1 k (l.getD k ⟨0, []⟩) (get_l _ _ _ hlt)
    obtain ⟨h0, -, y, h1, hyb⟩ := hb2 k (m.getD k ⟨0, []⟩) (get_l _ _ _ (by omega))
    obtain ⟨X, hX⟩ : ∃ X, l.getD k ⟨0, []⟩ = X := ⟨_, rfl⟩
    obtain ⟨Y, hY⟩ : ∃ Y, m.getD k ⟨0, []⟩ = Y := ⟨_, rfl⟩
    rw [hX] at f0 hxb
    rw [hY] at h0 hyb
    obtain ⟨p, dp⟩ := X
    obtain ⟨q, dq⟩ := Y
    simp [rWrite] at f0 f1 h0 h1
    obtain ⟨a1, k1, rfl, -, -⟩ := hxb.form rfl
    obtain ⟨a2, k2, rfl, -, -⟩ := hyb.form rfl
    have hz1b := Nat.lt_of_lt_of_le hz1 hB.size
    have hz2b := Nat.lt_of_lt_of_le hz2 hB.size
    replace f0 := (hB.cell (p := ⟨b1, o1 + k * 2, none⟩) hz1).trans f0
    replace f1 := (hB.cell (p := ⟨b1, o1 + k * 2 + 1, none⟩) hz1).trans f1
    replace h0 := (hB.cell (p := ⟨b2, o2 + k * 2, none⟩) hz2).trans h0
    replace h1 := (hB.cell (p := ⟨b2, o2 + k * 2 + 1, none⟩) hz2).trans h1
    have hkm : k < m.length := by omega
    unfold maxLen at z3 z3'
    simp only at hxb hyb
    have hxb' := hxb.below hB (Nat.le_refl _)
    have hyb' := hyb.below hB (Nat.le_refl _)
    have HP := Lib.hid (And.intro hall (And.intro hB (And.intro hxb' (And.intro hyb' (And.intro hX hY)))))
    clear hall hB hxb hyb hxb' hyb' hX hY hb1 hb2
    go_upto_region 7 with (fail)
    have hq := two_new wr (.cells #[.int .i64 p, .slice a1 dp.length k1] 74) (.cells #[.int .i64 q, .slice a2 dq.length k2] 74)
    have hst := ((Below.refl wr.heap.size wr).alloc (Nat.le_refl _) (.cells #[.int .i64 p, .slice a1 dp.length k1] 74)).alloc (by simp) (.cells #[.int .i64 q, .slice a2 dq.length k2] 74)
    obtain ⟨w2, hw2⟩ : ∃ w2, (wr.alloc (.cells #[.int .i64 p, .slice a1 dp.length k1] 74)).alloc (.cells #[.int .i64 q, .slice a2 dq.length k2] 74) = w2 := ⟨_, rfl⟩
    rw [hw2] at hq hst ⊢
    clear hw2
    have hB2 := Lib.hid (below_step HP.out.2.1 HP.out.2.1.size hst)
    have hX2 := Lib.hid (((HP.out.2.2.1.below hst HP.out.2.1.size)).more (Nat.le_refl 0) (hB2.out.size))
    have hY2 := Lib.hid (((HP.out.2.2.2.1.below hst HP.out.2.1.size)).more (Nat.le_refl 0) (hB2.out.size))
    clear hst
    generalize wr.heap.size = gx at *
    have x0 := blk_cell hq.1 0
    have x1 := blk_cell hq.1 1
    have x2 := blk_cell hq.2 0
    have x3 := blk_cell hq.2 1
    simp at x0 x1 x2 x3
    go_wp2_with fail
    refine (eqw1_any p q _ _ dp dq w2 hX2.out hY2.out).mono ?_
    rintro e w3 ⟨rfl, hst3⟩
    have hfin := below_step hB2.out hB2.out.size hst3
    clear hst3 x0 x1 x2 x3
    by_cases he : (⟨p, dp⟩ : WrL) = ⟨q, dq⟩
    · rw [decide_eq_true he]
      have HE := Lib.hid (show l.getD k ⟨0, []⟩ = m.getD k ⟨0, []⟩ by rw [HP.out.2.2.2.2.1, HP.out.2.2.2.2.2, he])
      clear he
      go_wp2
      go_roundw
      case rel => exact ⟨k + 1, by omega, by go_num, hfin, fun j hj => by
        rcases Nat.lt_succ_iff_lt_or_eq.1 hj with hj | rfl
        · exact HP.out.1 j hj
        · exact HE.out⟩
      case measure => simp [intOf]; omega
    · rw [decide_eq_false he]
      obtain rfl : r = false := by
        rw [← HR.out]
        exact decide_eq_false (fun e => he (by rw [← HP.out.2.2.2.2.1, ← HP.out.2.2.2.2.2, e]))
      clear he
      go_wp2
      go_ret
      exact ⟨rfl, hfin⟩
  obtain rfl : k = l.length := by omega
  obtain rfl : r = true := by
    rw [← HR.out]
    exact decide_eq_true (ext_getD l m ⟨0, []⟩ HL.out hall)
  clear hall
  go_wp2
  go_ret
  exact ⟨rfl, hB⟩

set_option maxRecDepth 100000 in
set_option maxHeartbeats 1000000 in
/-- dev.Same. -/
theorem dsame_any (b u b' u' : Value) (d d' : DiskL) (w : World) (h : DiskV w 0 w.heap.size b u d) (h' : DiskV w 0 w.heap.size b' u' d') :
    Calls Try.prog 40 #[.agg #[b, u], .agg #[b', u']] w fun e w' => e = .returned (.bool (decide (d = d'))) ∧ Below w.heap.size w w' := by
  have hB := ((Below.refl w.heap.size w).alloc (Nat.le_refl _) (.cells #[b, u] 39)).alloc (by simp) (.cells #[b', u'] 39)
  have hq := two_new w (.cells #[b, u] 39) (.cells #[b', u'] 39)
  have hD : DiskV _ 0 _ b u d := h.step hB
  have hD' : DiskV _ 0 _ b' u' d' := h'.step hB
  obtain ⟨ab, cb, rfl, -, -, -, -⟩ := h.1
  obtain ⟨au, cu, rfl, -, -, -, -⟩ := h.2
  obtain ⟨ab', cb', rfl, -, -, -, -⟩ := h'.1
  obtain ⟨au', cu', rfl, -, -, -, -⟩ := h'.2
  clear h h'
  obtain ⟨W, hW⟩ : ∃ W, (w.alloc (.cells #[.slice ab d.blocks.length cb, .slice au d.waits.length cu] 39)).alloc (.cells #[.slice ab' d'.blocks.length cb', .slice au' d'.waits.length cu'] 39) = W := ⟨_, rfl⟩
  rw [hW] at hB hq hD hD'
  have c0 := blk_cell hq.1 0
  have c1 := blk_cell hq.1 1
  have d0 := blk_cell hq.2 0
  have d1 := blk_cell hq.2 1
  simp at c0 c1 d0 d1
  obtain ⟨r, hr⟩ : ∃ r, decide (d = d') = r := ⟨_, rfl⟩
  rw [hr]
  have HR := Lib.hid (show r = (decide (d.blocks = d'.blocks) && decide (d.waits = d'.waits)) by
    rw [← hr]
    obtain ⟨x, y⟩ := d
    obtain ⟨x', y'⟩ := d'
    by_cases h1 : x = x' <;> by_cases h2 : y = y' <;> simp [h1, h2])
  have HP := Lib.hid (And.intro (eqb_any _ _ _ _ W hD.1 hD'.1) (And.intro (eqw_any _ _ _ _ W hD.2 hD'.2) hB))
  clear hr hq hD hD' hB
  go_enter Try.func40, Try.ntmps40
  go_wp2_with fail
  refine HP.out.1.mono ?_
  rintro e w1 ⟨rfl, rfl⟩
  by_cases he : d.blocks = d'.blocks
  case neg =>
    rw [decide_eq_false he]
    obtain rfl : r = false := by rw [HR.out, decide_eq_false he]; rfl
    clear he
    go_wp2
    go_ret
    exact ⟨rfl, HP.out.2.2⟩
  rw [decide_eq_true he]
  have HR2 := Lib.hid (show r = decide (d.waits = d'.waits) by rw [HR.out, decide_eq_true he]; rfl)
  clear he
  go_wp2_with fail
  refine HP.out.2.1.mono ?_
  rintro e w2 ⟨rfl, hst⟩
  rw [← HR2.out]
  have hfin := below_step HP.out.2.2 HP.out.2.2.size hst
  go_wp2
  go_ret
  exact ⟨rfl, hfin⟩
end Go.Proofs.Ytldidclnfkmonaa

namespace Go.Proofs.Ytldidclnfkmonaa
open Go.RowKit

/-- A disk, and where it lies. -/
structure DR (V : World) (lo hi : Nat) (b u : Value) (d : DiskL) : Prop where
  v : DiskV V lo hi b u d
  hi : hi ≤ V.heap.size
theorem DR.step {V V' : World} {lo hi : Nat} {b u : Value} {d : DiskL} (h : DR V lo hi b u d) (hst : Below V.heap.size V V') : DR V' lo hi b u d := ⟨⟨h.v.1.below hst h.hi, h.v.2.below hst h.hi⟩, Nat.le_trans h.hi hst.size⟩
theorem DR.v0 {V : World} {lo hi : Nat} {b u : Value} {d : DiskL} (h : DR V lo hi b u d) : DiskV V 0 V.heap.size b u d := h.v.more (Nat.zero_le _) h.hi
theorem DR.of {V V' : World} {b u : Value} {d : DiskL} (h : MadeD V V' b u d) : DR V' V.heap.size V'.heap.size b u d := ⟨h.disk.v, Nat.le_refl _⟩
structure BR (V : World) (lo hi : Nat) (v : Value) (l : List UInt8) : Prop where
  v : Bytes V lo hi v l
  hi : hi ≤ V.heap.size
theorem BR.step {V V' : World} {lo hi : Nat} {v : Value} {l : List UInt8} (h : BR V lo hi v l) (hst : Below V.heap.size V V') : BR V' lo hi v l := ⟨h.v.below hst h.hi, Nat.le_trans h.hi hst.size⟩
theorem BR.v0 {V : World} {lo hi : Nat} {v : Value} {l : List UInt8} (h : BR V lo hi v l) : Bytes V 0 V.heap.size v l := h.v.more (Nat.zero_le _) h.hi

end Go.Proofs.Ytldidclnfkmonaa

