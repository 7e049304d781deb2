/- Disks: dev.Crash. -/
import Derived.Test.YtldidclnfkmonaaDev12
namespace Go.Proofs.Ytldidclnfkmonaa
open Go.RowKit

/-- The writes whose mark is true. -/
def keptW : List WrL → List Bool → List WrL
  | x :: l, k :: ks => if k then x :: keptW l ks else keptW l ks
  | _, _ => []
theorem keptW_snoc (l : List WrL) (ks : List Bool) (x : WrL) (k : Bool) (h : l.length = ks.length) : keptW (l ++ [x]) (ks ++ [k]) = if k then keptW l ks ++ [x] else keptW l ks := by
  induction l generalizing ks with
  | nil =>
    cases ks with
    | nil => cases k <;> rfl
    | cons a b => simp at h
  | cons y l ih =>
    cases ks with
    | nil => simp at h
    | cons a b =>
      simp only [List.cons_append, keptW, ih b (by simpa using h)]
      cases a <;> cases k <;> rfl
theorem keptW_take (l : List WrL) (ks : List Bool) (n : Nat) (h : l.length = ks.length) (hn : n < l.length) : keptW (l.take (n + 1)) (ks.take (n + 1)) = if ks.getD n false then keptW (l.take n) (ks.take n) ++ [l.getD n ⟨0, []⟩] else keptW (l.take n) (ks.take n) := by
  rw [List.take_add_one, List.take_add_one, List.getElem?_eq_getElem hn, List.getElem?_eq_getElem (by omega : n < ks.length)]
  rw [show (some l[n]).toList = [l[n]] from rfl, show (some (ks[n]'(by omega))).toList = [ks[n]'(by omega)] from rfl, keptW_snoc _ _ _ _ (by simp; omega)]
  simp [hn, show n < ks.length by omega]
theorem keptW_mem (l : List WrL) (ks : List Bool) : ∀ x ∈ keptW l ks, x ∈ l := by
  induction l generalizing ks with
  | nil => intro x hx; cases ks <;> cases hx
  | cons y l ih =>
    cases ks with
    | nil => intro x hx; cases hx
    | cons a b =>
      intro x hx
      unfold keptW at hx
      cases a with
      | true =>
        rcases List.mem_cons.1 hx with rfl | hx
        · exact List.mem_cons_self ..
        · exact List.mem_cons_of_mem _ (ih b x hx)
      | false => exact List.mem_cons_of_mem _ (ih b x hx)
theorem keptW_le (l : List WrL) (ks : List Bool) : (keptW l ks).length ≤ l.length := by
  induction l generalizing ks with
  | nil => cases ks <;> exact Nat.le_refl _
  | cons y l ih =>
    cases ks with
    | nil => exact Nat.zero_le _
    | cons a b =>
      have := ih b
      unfold keptW
      cases a <;> simp <;> omega

/-- A row of the call's own that holds writes. -/
def OwnW (base : Nat) (W w : World) (v : Value) (l : List WrL) : Prop := ∃ xs, w.ownsRow base 74 2 v l.length xs ∧ ∀ j x, l[j]? = some x → (xs[j * 2]? = some (.int .i64 x.at_) ∧ (Lit.int .i64 x.at_).wf = true) ∧ ∃ y, xs[j * 2 + 1]? = some y ∧ Bytes W 0 W.heap.size y x.data
theorem OwnW.nil_ (base : Nat) (W w : World) : OwnW base W w (.slice none 0 0) [] := ⟨[], World.ownsRow_nil _ _ _ _, fun j x h => by simp at h⟩
theorem OwnW.sl {base : Nat} {W w : World} {v : Value} {l : List WrL} (h : OwnW base W w v l) (hB : Below W.heap.size W w) : Sl rWrite w 0 w.heap.size v l := by
  obtain ⟨xs, ⟨hl, hrow⟩, hx⟩ := h
  rcases hrow with ⟨rfl, h0⟩ | ⟨g, cap, cur, rfl, hg, hh, h1, h2, h3, h4⟩
  · have : l = [] := List.eq_nil_of_length_eq_zero (by omega)
    subst this
    exact Sl.nil_ _ _ _
  · refine ⟨_, _, rfl, h1, h2, fun _ => ⟨g, 0, rfl, Nat.zero_le _, (Array.getElem?_eq_some_iff.1 hh).1, fun i x hxi => ?_⟩, fun h => by cases h⟩
    have hi : i < l.length := (List.getElem?_eq_some_iff.1 hxi).1
    obtain ⟨⟨e1, e2⟩, y, e3, e4⟩ := hx i x hxi
    have hc : ∀ j u, xs[j]? = some u → w.cell? ⟨g, j, none⟩ = some u := by
      intro j u hj
      rw [blk_cell hh, ← hj, ← h4, List.getElem?_take, if_pos]
      · simp
      · have := (List.getElem?_eq_some_iff.1 hj).1
        rw [hl] at this
        exact this
    refine ⟨?_, e2, y, ?_, (e4.below hB (Nat.le_refl _)).more (Nat.le_refl _) hB.size⟩
    · show w.cell? ⟨g, 0 + i * 2 + 0, none⟩ = _
      rw [Nat.zero_add, Nat.add_zero]
      exact hc _ _ e1
    · show w.cell? ⟨g, 0 + i * 2 + 1, none⟩ = _
      rw [Nat.zero_add]
      exact hc _ _ e3

theorem own_block {base : Nat} {e : TypeId} {size n : Nat} {v : Value} {xs : List Value} {w : World} (h : w.ownsRow base e size v n xs) : ∀ g, v.ownBlock = some g → base ≤ g := by
  intro g e
  rcases h.2 with ⟨rfl, h0⟩ | ⟨g, cap, cur, rfl, hgg, hh, h1, h2, h3, h4⟩
  · cases e
  · cases e; exact hgg
def errK (d : DiskL) (ks : List Bool) : Int := if mayD d then (if ks.length = d.waits.length then 0 else 2) else 8
/-- A disk behind a crash. -/
def crashD (d : DiskL) (ks : List Bool) : DiskL := if errK d ks = 0 then ⟨putW d.blocks (keptW d.waits ks), []⟩ else ⟨[], []⟩

set_option maxRecDepth 100000 in
set_option maxHeartbeats 1000000 in
/-- dev.Crash. -/
theorem dcrash_any (b u : Value) (d : DiskL) (v : Value) (ks : List Bool) (w : World) (h : DiskV w 0 w.heap.size b u d) (hv : Sl rBool w 0 w.heap.size v ks) :
    Calls Try.prog 29 #[.agg #[b, u], v] w fun e w' => ∃ b' u', e = .returned (.tuple #[.agg #[b', u'], .int .i64 (errK d ks)]) ∧ MadeD w w' b' u' (crashD d ks) := by
  have hB := ((Below.refl w.heap.size w).alloc (Nat.le_refl _) (.cells #[b, u] 39)).alloc (by simp) (.cells #[.slice none 0 0, .slice none 0 0] 39)
  have hD : DiskV _ 0 _ b u d := h.step hB
  have hv0 := hv.step hB
  have hq := two_new w (.cells #[b, u] 39) (.cells #[.slice none 0 0, .slice none 0 0] 39)
  have h1 := fun V hh => dcheck_any b u d V hh
  have h2 := fun V (v : Value) (l : List WrL) (hh : DiskV V 0 V.heap.size b u d) (hm : mayD d = true) (h1 : Sl rWrite V 0 V.heap.size v l) (h2 : l.length ≤ 100000) (h3) => settle_any b u d v l V hh h1 hm h2 h3
  obtain ⟨ab, cb, rfl, g1, g2, -, -⟩ := h.1
  obtain ⟨au, cu, rfl, g1', g2', -, -⟩ := h.2
  obtain ⟨av, cv, rfl, y1, y2, -, -⟩ := id hv
  unfold maxLen at g2 g2' y2
  clear h hv
  obtain ⟨W, hW⟩ : ∃ W, (w.alloc (.cells #[.slice ab d.blocks.length cb, .slice au d.waits.length cu] 39)).alloc (.cells #[.slice none 0 0, .slice none 0 0] 39) = W := ⟨_, rfl⟩
  rw [hW] at hB hD hq hv0
  have c0 := blk_cell hq.1 0
  have c1 := blk_cell hq.1 1
  simp at c0 c1
  have HQ := Lib.hid (And.intro hD (And.intro hv0 (And.intro hB hq)))
  obtain ⟨ec, hec⟩ : ∃ ec, errK d ks = ec := ⟨_, rfl⟩
  obtain ⟨bd, hbd⟩ : ∃ bd, crashD d ks = bd := ⟨_, rfl⟩
  rw [hec, hbd]
  have HE := Lib.hid (And.intro hec hbd)
  have HC := Lib.hid (And.intro h1 h2)
  clear hB hD hq h1 h2 hec hbd hv0
  go_enter Try.func29, Try.ntmps29
  go_wp2_with fail
  refine (HC.out.1 W HQ.out.1).mono ?_
  rintro e w1 ⟨rfl, hst⟩
  obtain ⟨hD, hv0, hB, q0, q1⟩ := HQ.out
  replace q0 := (hst.block _ (Array.getElem?_eq_some_iff.1 q0).1).trans q0
  replace q1 := (hst.block _ (Array.getElem?_eq_some_iff.1 q1).1).trans q1
  replace hD := hD.step hst
  replace hv0 := hv0.step hst
  replace hB := below_step hB hB.size hst
  clear c0 c1
  have c0 := blk_cell q0 0
  have c1 := blk_cell q0 1
  have r0 := blk_cell q1 0
  have r1 := blk_cell q1 1
  have f0 := blk_frozen q1 0
  have f1 := blk_frozen q1 1
  simp at c0 c1 r0 r1
  have HQ1 := Lib.hid (And.intro hD (And.intro hv0 (And.intro hB (And.intro q0 q1))))
  clear hD hB q0 q1 hst HQ hv0
  cases hmay : mayD d
  case false =>
    have hw : ec = 8 ∧ bd = ⟨[], []⟩ := by
      obtain ⟨h1, h2⟩ := HE.out
      have e1 : ec = 8 := by rw [← h1]; unfold errK; rw [hmay]; rfl
      refine ⟨e1, ?_⟩
      rw [← h2]
      unfold crashD
      rw [h1, e1, if_neg (by decide)]
    obtain ⟨rfl, rfl⟩ := hw
    clear hmay
    go_wp2
    refine bodyPost_ret (v := .tuple #[.agg #[.slice none 0 0, .slice none 0 0], .int .i64 8]) (by simp [results, Try.results29, go_sem, r0, r1]) rfl ⟨_, _, rfl, MadeD.nil_ ((HQ1.out.2.2.1.setCell (p := ⟨w.heap.size + 1, 0, none⟩) (Nat.le_succ _) _).setCell (p := ⟨w.heap.size + 1, 1, none⟩) (Nat.le_succ _) _)⟩
  by_cases hkl : ks.length = d.waits.length
  case neg =>
    have hw : ec = 2 ∧ bd = ⟨[], []⟩ := by
      obtain ⟨h1, h2⟩ := HE.out
      have e1 : ec = 2 := by rw [← h1]; unfold errK; rw [hmay, if_neg hkl]; rfl
      refine ⟨e1, ?_⟩
      rw [← h2]
      unfold crashD
      rw [h1, e1, if_neg (by decide)]
    obtain ⟨rfl, rfl⟩ := hw
    clear hmay
    have i1 : ¬ (ks.length : Int) = d.waits.length := by omega
    go_wp2
    refine bodyPost_ret (v := .tuple #[.agg #[.slice none 0 0, .slice none 0 0], .int .i64 2]) (by simp [results, Try.results29, go_sem, r0, r1]) rfl ⟨_, _, rfl, MadeD.nil_ ((HQ1.out.2.2.1.setCell (p := ⟨w.heap.size + 1, 0, none⟩) (Nat.le_succ _) _).setCell (p := ⟨w.heap.size + 1, 1, none⟩) (Nat.le_succ _) _)⟩
  have hw : ec = 0 ∧ bd = ⟨putW d.blocks (keptW d.waits ks), []⟩ := by
    obtain ⟨h1, h2⟩ := HE.out
    have e1 : ec = 0 := by rw [← h1]; unfold errK; rw [hmay, if_pos hkl]; rfl
    refine ⟨e1, ?_⟩
    rw [← h2]
    unfold crashD
    rw [h1, e1, if_pos rfl]
  obtain ⟨rfl, rfl⟩ := hw
  have hm4 := (may_len hmay).2.1
  have HM := Lib.hid (And.intro hmay hkl)
  have i1 : ((ks.length : Int) != d.waits.length) = false := by simp; omega
  clear hmay hkl
  go_wp2_with fail
  go_loopw [7, 25] (fun v i wr => ∃ k : Nat, k ≤ ks.length ∧ i = .int .i64 k ∧ OwnW w1.heap.size w1 wr v (keptW (d.waits.take k) (ks.take k)) ∧ Below w1.heap.size w1 wr) (fun _ i _ => ks.length - (intOf i).toNat)
  case atStart => exact ⟨0, Nat.zero_le _, rfl, OwnW.nil_ _ _ _, Below.refl _ _⟩
  case round =>
  obtain ⟨k, hk, rfl, hown, hB⟩ := hrel
  by_cases hlt : k < ks.length
  · obtain ⟨kb, ko, kc, ek, -, zz1, zz2, zz3, hke⟩ := (HQ1.out.2.1).at_ (by omega)
    injection ek with ea _ ec
    subst ea ec
    have hb0 := hke k (ks.getD k false) (get_l _ _ _ hlt)
    have hkb : wr.cell? ⟨kb, ko + k, none⟩ = some (.bool (ks.getD k false)) := (hB.cell (p := ⟨kb, ko + k, none⟩) zz1).trans (by simpa [rBool] using hb0)
    have hlw : k < d.waits.length := by have := HM.out.2; omega
    have hkt := keptW_take d.waits ks k HM.out.2.symm hlw
    unfold maxLen at zz3
    obtain ⟨bk, hbk⟩ : ∃ bk, ks.getD k false = bk := ⟨_, rfl⟩
    rw [hbk] at hkb hkt
    clear hb0 hke hbk
    cases bk
    case false =>
      have HP := Lib.hid (And.intro hown (And.intro hB hkt))
      clear hown hB hkt
      go_wp2
      go_roundw
      case rel => exact ⟨k + 1, by omega, by go_num, by rw [HP.out.2.2]; exact HP.out.1, HP.out.2.1⟩
      case measure => simp [intOf]; omega
    obtain ⟨bb, bo, cb', e', -, z1, z2, z3, hbe⟩ := (HQ1.out.1.2).at_ (by omega)
    injection e' with ea _ ec
    subst ea ec
    obtain ⟨e0, e1, x, e2, e3⟩ := hbe k (d.waits.getD k ⟨0, []⟩) (get_l _ _ _ hlw)
    obtain ⟨ya, yc, rfl, -, hyc⟩ := e3.form rfl
    obtain ⟨y, hy⟩ : ∃ y, d.waits.getD k ⟨0, []⟩ = y := ⟨_, rfl⟩
    rw [hy] at e0 e1 e2 e3 hkt
    clear hy hbe
    obtain ⟨at0, dt⟩ := y
    simp [rWrite] at e0 e2
    have n0 := (Array.getElem?_eq_some_iff.1 HQ1.out.2.2.2.1).1
    have s0 := (hB.cell (p := ⟨bb, bo + k * 2, none⟩) z1).trans e0
    have s1 := (hB.cell (p := ⟨bb, bo + k * 2 + 1, none⟩) z1).trans e2
    have s2 := (hB.cell (p := ⟨w.heap.size, 1, none⟩) n0).trans c1
    obtain ⟨kl, hkl⟩ : ∃ kl, keptW (d.waits.take k) (ks.take k) = kl := ⟨_, rfl⟩
    have hkll : kl.length ≤ 5000 := by
      have := keptW_le (d.waits.take k) (ks.take k)
      rw [hkl] at this
      rw [List.length_take] at this
      omega
    rw [hkl] at hown hkt
    unfold maxLen at z3
    obtain ⟨xs, hown, hxs⟩ := hown
    have hB1 := hB.alloc hB.size (.cells #[.int .i64 at0, .slice ya dt.length yc] 74)
    have hcl : ∀ j u, ([.int .i64 at0, .slice ya dt.length yc] : List Value)[j]? = some u → (wr.alloc (.cells #[.int .i64 at0, .slice ya dt.length yc] 74)).cell? ((⟨wr.heap.size, 0, none⟩ : Addr).add j) = some u := by
      intro j u hj
      have hn := World.alloc_heap_new wr (.cells #[.int .i64 at0, .slice ya dt.length yc] 74)
      rcases j with _ | _ | j'
      · cases hj; exact blk_cell hn 0
      · cases hj; exact blk_cell hn 1
      · simp at hj
    have hone : ∀ u ∈ ([.int .i64 at0, .slice ya dt.length yc] : List Value), u.oneCell' = true := by
      intro u hu
      simp at hu
      rcases hu with rfl | rfl <;> rfl
    have hownA : (wr.alloc (.cells #[.int .i64 at0, .slice ya dt.length yc] 74)).ownsRow w1.heap.size 74 2 _ kl.length xs := World.ownsRow.alloc hown _
    have hblk := own_block hown
    obtain ⟨i0, hi0, hz0, hz1, hz2⟩ := info_parts (P := Try.prog) (e := 74) (z := .agg #[.int .i64 0, .slice none 0 0]) (size := 2) (bytes := 32) (by kernel_rfl)
    have HP := Lib.hid (And.intro hxs (And.intro hB1 (And.intro hkt (And.intro e1 (And.intro e3 (And.intro hcl (And.intro hone (And.intro hownA (And.intro hblk hown.1)))))))))
    have hBs := hB1.size
    clear hown hxs hB hB1 hkt e1 e3 hkl e0 e2 hcl hone hownA hblk
    go_wp2_with (at_builtin; refine wpList_append_own _ rfl (.tmp 31) (.tmp 37) 37 rfl w1.heap.size 74 i0 _ 2 32 Try.underlying37 hi0 hz0 hz1 hz2 rfl (by decide) _ kl.length xs rfl HP.out.2.2.2.2.2.2.2.1 ⟨wr.heap.size, 0, none⟩ 1 1 [.int .i64 at0, .slice ya dt.length yc] rfl rfl HP.out.2.2.2.2.2.1 HP.out.2.2.2.2.2.2.1 (by unfold maxLen; omega) (by omega) hBs ?_; intro v' z2 hown2 hg2 _)
    go_roundw
    case rel =>
      obtain ⟨hxs, hB1, hkt, e1, e3, hcl, hone, hownA, hblk, hxl⟩ := HP.out
      refine ⟨k + 1, by omega, by go_num, ?_, hB1.grown hg2 hBs hblk⟩
      rw [hkt, if_pos rfl]
      refine ⟨xs ++ [.int .i64 at0, .slice ya dt.length yc], by rw [List.length_append]; exact hown2, fun j x hj => ?_⟩
      rcases Nat.lt_or_ge j kl.length with h | h
      · rw [List.getElem?_append_left h] at hj
        obtain ⟨⟨p1, p2⟩, y, p3, p4⟩ := hxs j x hj
        exact ⟨⟨by rw [List.getElem?_append_left (by omega)]; exact p1, p2⟩, y, by rw [List.getElem?_append_left (by omega)]; exact p3, p4⟩
      · have hjj : j = kl.length := by
          have := (List.getElem?_eq_some_iff.1 hj).1
          rw [List.length_append] at this
          simp at this
          omega
        subst hjj
        rw [List.getElem?_append_right (Nat.le_refl _), Nat.sub_self] at hj
        cases hj
        refine ⟨⟨?_, e1⟩, .slice ya dt.length yc, ?_, e3⟩
        · rw [List.getElem?_append_right (by omega), hxl, Nat.sub_self]
          rfl
        · rw [List.getElem?_append_right (by omega), hxl, show kl.length * 2 + 1 - kl.length * 2 = 1 by omega]
          rfl
    case measure => simp [intOf]; omega
  obtain rfl : k = ks.length := by omega
  have hlen := HM.out.2
  have ht1 : d.waits.take ks.length = d.waits := by rw [hlen, List.take_length]
  rw [ht1, List.take_length] at hown
  have hsl := hown.sl hB
  obtain ⟨q0, q1⟩ := HQ1.out.2.2.2
  have hD := HQ1.out.1.step hB
  have hBw := below_step HQ1.out.2.2.1 HQ1.out.2.2.1.size hB
  replace q0 := (hB.block _ (Array.getElem?_eq_some_iff.1 q0).1).trans q0
  replace q1 := (hB.block _ (Array.getElem?_eq_some_iff.1 q1).1).trans q1
  clear c0 c1 r0 r1 f0 f1
  have c0 := blk_cell q0 0
  have c1 := blk_cell q0 1
  simp at c0 c1
  have hkl2 : (keptW d.waits ks).length ≤ 100000 := by have := keptW_le d.waits ks; omega
  have hkm : ∀ x ∈ keptW d.waits ks, 0 ≤ x.at_ ∧ x.at_ < 256 ∧ x.data.length = 128 := fun x hx => (may_len HM.out.1).2.2.2 x (keptW_mem _ _ x hx)
  have HZ := Lib.hid (And.intro hD (And.intro hsl (And.intro hkl2 (And.intro hkm (And.intro q1 hBw)))))
  clear hown hsl q0 q1 hD hBw hkl2 hkm ht1 hlen hB hk hlt
  go_wp2_with fail
  refine (HC.out.2 wr _ _ HZ.out.1 HM.out.1 HZ.out.2.1 HZ.out.2.2.1 HZ.out.2.2.2.1).mono ?_
  rintro e z ⟨b', u', rfl, hm⟩
  have hst := hm.below
  obtain ⟨ab', cb', rfl, -, -, -, -⟩ := hm.disk.1
  obtain ⟨au', cu', rfl, -, -, -, -⟩ := hm.disk.2
  have p1 := (hst.block _ (Array.getElem?_eq_some_iff.1 HZ.out.2.2.2.2.1).1).trans HZ.out.2.2.2.2.1
  have r0' := blk_cell p1 0
  have r1' := blk_cell p1 1
  have f0' := blk_frozen p1 0
  have f1' := blk_frozen p1 1
  simp at r0' r1'
  have HT := Lib.hid hm
  clear c0 c1 hst p1 hm
  generalize (DiskL.mk (putW d.blocks (keptW d.waits ks)) []).blocks.length = n1 at *
  generalize (DiskL.mk (putW d.blocks (keptW d.waits ks)) []).waits.length = n2 at *
  go_wp2
  refine bodyPost_ret (v := .tuple #[.agg #[.slice ab' n1 cb', .slice au' n2 cu'], .int .i64 0]) (by simp [results, Try.results29, go_sem, r0', r1']) rfl ?_
  have hB := HZ.out.2.2.2.2.2
  have hlt := (Array.getElem?_eq_some_iff.1 HZ.out.2.2.2.2.1).1
  have hBf := ((below_step hB hB.size HT.out.below).setCell (p := ⟨w.heap.size + 1, 0, none⟩) (Nat.le_succ _) (.slice ab' n1 cb')).setCell (p := ⟨w.heap.size + 1, 1, none⟩) (Nat.le_succ _) (.slice au' n2 cu')
  exact ⟨_, _, rfl, (HT.out.disk.keep (kp_two z _ _ _ hlt)).more hB.size (by rw [World.size_setCell, World.size_setCell]; exact Nat.le_refl _), hBf⟩
end Go.Proofs.Ytldidclnfkmonaa
