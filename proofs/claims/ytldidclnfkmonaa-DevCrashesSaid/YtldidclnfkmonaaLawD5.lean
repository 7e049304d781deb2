/- The walk of the statement DevCrashes. -/
import Derived.Test.YtldidclnfkmonaaLawD3
namespace Go.Proofs.Ytldidclnfkmonaa
open Go.RowKit

theorem kept_nil (l : List WrL) (ks : List Bool) (h : ∀ k ∈ ks, k = false) : keptW l ks = [] := by
  induction l generalizing ks with
  | nil => cases ks <;> rfl
  | cons x l ih =>
    cases ks with
    | nil => rfl
    | cons k ks =>
      unfold keptW
      rw [h k (List.mem_cons_self ..), if_neg (by decide)]
      exact ih ks (fun y hy => h y (List.mem_cons_of_mem _ hy))
theorem kept_true (l : List WrL) (ks : List Bool) (hl : ks.length = l.length) (h : ∀ k ∈ ks, k = true) : keptW l ks = l := by
  have e : ks = List.replicate l.length true := List.eq_replicate_iff.2 ⟨hl, h⟩
  rw [e, kept_all]
/-- The last one of those that were kept is one of them, with its mark. -/
theorem lastW_kept (l : List WrL) (ks : List Bool) (p : Int) (hl : ks.length = l.length) (x : WrL) (h : lastW (keptW l ks) p = some x) : ∃ i, i < ks.length ∧ ks.getD i false = true ∧ l.getD i ⟨0, []⟩ = x ∧ x.at_ = p := by
  induction l generalizing ks with
  | nil => cases ks <;> simp [keptW, lastW] at h
  | cons y l ih =>
    cases ks with
    | nil => simp [keptW, lastW] at h
    | cons k ks =>
      unfold keptW at h
      have hl' : ks.length = l.length := by simpa using hl
      have hrec : lastW (keptW l ks) p = some x → ∃ i, i < (k :: ks).length ∧ (k :: ks).getD i false = true ∧ (y :: l).getD i ⟨0, []⟩ = x ∧ x.at_ = p := fun e => by
        obtain ⟨i, h1, h2, h3, h4⟩ := ih ks hl' e
        exact ⟨i + 1, by simp; omega, by simpa using h2, by simpa using h3, h4⟩
      cases k with
      | false => exact hrec h
      | true =>
        rw [if_pos rfl, lastW] at h
        cases hk : lastW (keptW l ks) p with
        | some z =>
          rw [hk] at h
          cases h
          exact hrec hk
        | none =>
          rw [hk] at h
          simp only at h
          by_cases e : y.at_ = p
          · rw [if_pos e] at h
            cases h
            exact ⟨0, by simp, rfl, rfl, e⟩
          · rw [if_neg e] at h
            cases h
/-- What a crash leaves of a block. -/
theorem crash_at {d : DiskL} {ks : List Bool} (hm : mayD d = true) (hl : ks.length = d.waits.length) (pn : Nat) (hp : pn < 256) :
    (crashD d ks).blocks.getD pn [] = d.blocks.getD pn [] ∨ ∃ i, i < ks.length ∧ ks.getD i false = true ∧ (d.waits.getD i ⟨0, []⟩).at_ = pn ∧ (d.waits.getD i ⟨0, []⟩).data = (crashD d ks).blocks.getD pn [] := by
  have e : errK d ks = 0 := by unfold errK; rw [hm, if_pos hl]; rfl
  obtain ⟨m1, m2, m3, m4⟩ := may_len hm
  have hc : (crashD d ks).blocks = putW d.blocks (keptW d.waits ks) := by unfold crashD; rw [if_pos e]
  rw [hc]
  have := put_seen d.blocks (keptW d.waits ks) pn (fun x hx => ⟨(m4 x (keptW_mem _ _ x hx)).1, by have := (m4 x (keptW_mem _ _ x hx)).2.1; omega⟩) (by omega) (by omega)
  rw [Int.toNat_natCast] at this
  rw [this]
  cases hk : lastW (keptW d.waits ks) pn with
  | none => exact .inl rfl
  | some x =>
    obtain ⟨i, h1, h2, h3, h4⟩ := lastW_kept _ _ _ hl x hk
    exact .inr ⟨i, h1, h2, by rw [h3, h4], by rw [h3]⟩

set_option maxRecDepth 100000 in
set_option maxHeartbeats 1000000 in
theorem devCrashes_walk (d : DiskL) (b u : Value) (v1 : Value) (ks : List Bool) (p : Int) (w : World) (h : DiskV w 0 w.heap.size b u d) (hv1 : Sl rBool w 0 w.heap.size v1 ks) (_hp : (Lit.int .i64 p).wf = true) :
    Calls Try.prog 13 #[.agg #[b, u], v1, .int .i64 p] w fun e w' => e = .returned (.bool true) ∧ Below w.heap.size w w' := by
  have hB := (Below.refl w.heap.size w).alloc (Nat.le_refl _) (.cells #[b, u] 39)
  have hst0 := (Below.refl w.heap.size w).alloc (Nat.le_refl _) (.cells #[b, u] 39)
  have hD : DR _ 0 w.heap.size b u d := (DR.mk h (Nat.le_refl _)).step hst0
  have hk := hv1.step hst0
  have hq := World.alloc_heap_new w (.cells #[b, u] 39)
  have h1 := fun V hh => great_any b u d V hh
  have h2 := fun V hh => dcheck_any b u d V hh
  have h3 := fun V v hh hv => dcrash_any b u d v ks V hh hv
  have h4 := fun V hh => dbar_any b u d V hh
  obtain ⟨ab, cb, rfl, g1, g2, -, -⟩ := h.1
  obtain ⟨au, cu, rfl, g1', g2', -, -⟩ := h.2
  obtain ⟨ak, ck, rfl, y1, y2, -, -⟩ := id hv1
  unfold maxLen at g2 g2' y2
  clear h hv1 hst0
  obtain ⟨V, hV⟩ : ∃ V, w.alloc (.cells #[.slice ab d.blocks.length cb, .slice au d.waits.length cu] 39) = V := ⟨_, rfl⟩
  rw [hV] at hB hD hq hk
  have HC := Lib.hid (And.intro h1 (And.intro h2 (And.intro h3 h4)))
  have HQ := Lib.hid (And.intro hq (And.intro hD (And.intro hk hB)))
  clear hB hD hq hk h1 h2 h3 h4
  go_enter Try.func13, Try.ntmps13
  go_upto_region 1 with (fail)
  clear hV
  go_wp2_with fail
  refine (alive3_any V).mono ?_
  rintro e w1 ⟨rfl, hst⟩
  obtain ⟨hq, hD, hk, hB⟩ := HQ.out
  clear HQ
  replace hq := (hst.block _ (Array.getElem?_eq_some_iff.1 hq).1).trans hq
  replace hD := hD.step hst
  replace hk := hk.step hst
  replace hB := below_step hB hB.size hst
  clear hst
  have HQ := Lib.hid (And.intro hq (And.intro hD (And.intro hk hB)))
  clear hq hD hk hB
  have c0 := blk_cell HQ.out.1 0
  have c1 := blk_cell HQ.out.1 1
  simp at c0 c1
  go_wp2_with fail
  refine (HC.out.1 w1 HQ.out.2.1.v0).mono ?_
  rintro e w2 ⟨g, rfl, hst, -⟩
  clear c0 c1
  obtain ⟨hq, hD, hk, hB⟩ := HQ.out
  clear HQ
  replace hq := (hst.block _ (Array.getElem?_eq_some_iff.1 hq).1).trans hq
  replace hD := hD.step hst
  replace hk := hk.step hst
  replace hB := below_step hB hB.size hst
  clear hst
  have HQ := Lib.hid (And.intro hq (And.intro hD (And.intro hk hB)))
  clear hq hD hk hB
  have c0 := blk_cell HQ.out.1 0
  have c1 := blk_cell HQ.out.1 1
  simp at c0 c1
  cases g
  case true =>
    go_wp2
    go_ret
    exact ⟨rfl, HQ.out.2.2.2⟩
  by_cases hl1 : 5000 < ks.length
  · have i1 : (5000 : Int) < ks.length := by omega
    go_wp2
    go_ret
    exact ⟨rfl, HQ.out.2.2.2⟩
  have dl1 : decide ((5000 : Int) < ks.length) = false := by simp; omega
  go_wp2_with fail
  refine (HC.out.2.1 w2 HQ.out.2.1.v0).mono ?_
  rintro e w3 ⟨rfl, hst⟩
  clear c0 c1
  obtain ⟨hq, hD, hk, hB⟩ := HQ.out
  clear HQ
  replace hq := (hst.block _ (Array.getElem?_eq_some_iff.1 hq).1).trans hq
  replace hD := hD.step hst
  replace hk := hk.step hst
  replace hB := below_step hB hB.size hst
  clear hst
  have HQ := Lib.hid (And.intro hq (And.intro hD (And.intro hk hB)))
  clear hq hD hk hB
  have c0 := blk_cell HQ.out.1 0
  have c1 := blk_cell HQ.out.1 1
  simp at c0 c1
  cases hmay : mayD d
  case false =>
    go_wp2
    go_ret
    exact ⟨rfl, HQ.out.2.2.2⟩
  have HM := Lib.hid hmay
  clear hmay
  by_cases hkl : ks.length = d.waits.length
  case neg =>
    have i2 : ¬ (ks.length : Int) = d.waits.length := by omega
    go_wp2
    go_ret
    exact ⟨rfl, HQ.out.2.2.2⟩
  have dl2 : ((ks.length : Int) != d.waits.length) = false := by simp; omega
  have HKL := Lib.hid hkl
  clear hkl
  by_cases hp1 : p < 0
  · go_wp2
    go_ret
    exact ⟨rfl, HQ.out.2.2.2⟩
  have dp1 : decide (p < 0) = false := by simp; omega
  by_cases hp2 : 255 < p
  · go_wp2
    go_ret
    exact ⟨rfl, HQ.out.2.2.2⟩
  have dp2 : decide (255 < p) = false := by simp; omega
  obtain ⟨pn, rfl⟩ : ∃ pn : Nat, p = pn := ⟨p.toNat, by omega⟩
  have hpn : pn < 256 := by omega
  have e1 : errK d ks = 0 := by unfold errK; rw [HM.out, if_pos HKL.out]; rfl
  have e2 : errC d = 0 := by unfold errC; rw [HM.out]; rfl
  have hcat := crash_at HM.out HKL.out pn hpn
  have hCw : (crashD d ks).waits = [] := by unfold crashD; rw [if_pos e1]
  have hCb : (crashD d ks).blocks.length = 256 := by unfold crashD; rw [if_pos e1]; simp only; rw [putW_length]; exact (may_len HM.out).1
  have hCt : (∀ x ∈ ks, x = true) → barD d = crashD d ks := fun h => by
    unfold crashD
    rw [if_pos e1, kept_true _ _ HKL.out h, (barD_may HM.out).1]
  have hCn : (∀ x ∈ ks, x = false) → DiskL.mk d.blocks [] = crashD d ks := fun h => by
    unfold crashD
    rw [if_pos e1, kept_nil _ _ h]
    rfl
  have k3 := HC.out.2.2.1
  have k4 := HC.out.2.2.2
  rw [e1] at k3
  rw [e2] at k4
  obtain ⟨C, hC⟩ : ∃ C, crashD d ks = C := ⟨_, rfl⟩
  rw [hC] at k3 hcat hCw hCb hCt hCn
  have HX := Lib.hid (And.intro k3 k4)
  have HN := Lib.hid (And.intro hcat (And.intro hCt (And.intro hCn (And.intro hCw hCb))))
  clear k3 k4 hcat hCt hCn hC e1 e2 hp1 hp2 dp1 dp2 hCw hCb
  have dp1 : decide ((pn : Int) < 0) = false := by simp
  have dp2 : decide ((255 : Int) < pn) = false := by simp; omega
  go_wp2_with fail
  refine (HX.out.1 w3 _ HQ.out.2.1.v0 HQ.out.2.2.1).mono ?_
  rintro e w4 ⟨b1, u1, rfl, hm⟩
  clear c0 c1
  obtain ⟨hq, hD, hk, hB⟩ := HQ.out
  clear HQ
  have hst := hm.below
  have hC := DR.of hm
  clear hm
  obtain ⟨a1, c1, rfl, -, -, -, -⟩ := hC.v.1
  obtain ⟨a2, c2, rfl, -, -, -, -⟩ := hC.v.2
  replace hq := (hst.block _ (Array.getElem?_eq_some_iff.1 hq).1).trans hq
  replace hD := hD.step hst
  replace hk := hk.step hst
  replace hB := below_step hB hB.size hst
  clear hst
  have HQ := Lib.hid (And.intro hq (And.intro hD (And.intro hk (And.intro hC hB))))
  clear hq hD hk hC hB
  go_upto_region 7 with (fail)
  obtain ⟨hq, hD, hk, hC, hB⟩ := HQ.out
  clear HQ
  have q8 := World.alloc_heap_new w4 (.cells #[.slice a1 C.blocks.length c1, .slice a2 C.waits.length c2] 39)
  have hst := (Below.refl w4.heap.size w4).alloc (Nat.le_refl _) (.cells #[.slice a1 C.blocks.length c1, .slice a2 C.waits.length c2] 39)
  replace hq := (hst.block _ (Array.getElem?_eq_some_iff.1 hq).1).trans hq
  replace hD := hD.step hst
  replace hk := hk.step hst
  replace hC := hC.step hst
  replace hB := below_step hB hB.size hst
  obtain ⟨w5, hw⟩ : ∃ v, w4.alloc (.cells #[.slice a1 C.blocks.length c1, .slice a2 C.waits.length c2] 39) = v := ⟨_, rfl⟩
  rw [hw] at q8 hq hD hk hC hB ⊢
  generalize hg : w4.heap.size = g8 at *
  clear hw hst hg
  have HQ := Lib.hid (And.intro hq (And.intro hD (And.intro hk (And.intro hC (And.intro q8 hB)))))
  clear hq hD hk hC q8 hB
  have c0 := blk_cell HQ.out.1 0
  have c1 := blk_cell HQ.out.1 1
  have m0 := blk_cell HQ.out.2.2.2.2.1 0
  have m1 := blk_cell HQ.out.2.2.2.2.1 1
  simp at c0 c1 m0 m1
  have n1 : (C.waits.length : Int) = 0 := by rw [HN.out.2.2.2.1]; rfl
  have n2 : (C.blocks.length : Int) = 256 := by have := HN.out.2.2.2.2; omega
  clear dp1 dp2
  have hpd : pn < d.blocks.length := by have := (may_len HM.out).1; omega
  have hpc : pn < C.blocks.length := by have := HN.out.2.2.2.2; omega
  obtain ⟨bd, od, kd, ed, -, -, zd1, zd, hbd⟩ := HQ.out.2.1.v0.1.at_ (by omega)
  injection ed with ea _ ec
  subst ea ec
  obtain ⟨bC, oC, kC, eC, -, -, zc1, zc, hbC⟩ := HQ.out.2.2.2.1.v0.1.at_ (by omega)
  injection eC with ea _ ec
  subst ea ec
  obtain ⟨xd, hxd, hyd⟩ := hbd pn (d.blocks.getD pn []) (get_l _ _ _ hpd)
  obtain ⟨xC, hxC, hyC⟩ := hbC pn (C.blocks.getD pn []) (get_l _ _ _ hpc)
  have hxd2 : w5.cell? ⟨bd, od + pn, none⟩ = some xd := by simpa [rBytes] using hxd
  have hxC2 : w5.cell? ⟨bC, oC + pn, none⟩ = some xC := by simpa [rBytes] using hxC
  have hN := HN.out.1
  obtain ⟨ld, hld⟩ : ∃ l, d.blocks.getD pn [] = l := ⟨_, rfl⟩
  obtain ⟨lC, hlC⟩ : ∃ l, C.blocks.getD pn [] = l := ⟨_, rfl⟩
  rw [hld, hlC] at hN
  rw [hld] at hyd
  rw [hlC] at hyC
  obtain ⟨ad, k1d, rfl, -, -⟩ := hyd.form rfl
  obtain ⟨aC, k1C, rfl, -, -⟩ := hyC.form rfl
  have v1 := fun nq => cv_of (w := w5.drewN nq) hyd
  have v2 := fun nq => cv_of (w := w5.drewN nq) hyC
  unfold maxLen at zd zc
  have HY := Lib.hid (And.intro hN (And.intro hyC (And.intro hyd hxC2)))
  clear hN hbd hbC hxd hxC hyd hyC hld hlC
  go_upto_region 9 with (fail)
  go_cut [10] (fun s wx => s = .bool (lC == ld) ∧ Below w5.heap.size w5 wx)
  case first =>
    go_quiet (fail)
    go_wp2
    go_meet
    exact ⟨rfl, below_dn _ _ _⟩
  case rest =>
  obtain ⟨rfl, hst⟩ := hcut
  obtain ⟨wx, hwx⟩ := named_w hst
  subst hwx
  clear v1 v2 hxd2 hxC2
  clear c0 c1 m0 m1
  obtain ⟨hq, hD, hk, hC, q8, hB⟩ := HQ.out
  clear HQ
  have hyC := HY.out.2.1
  have hxC := HY.out.2.2.2
  replace hq := (hst.block _ (Array.getElem?_eq_some_iff.1 hq).1).trans hq
  replace hD := hD.step hst
  replace hk := hk.step hst
  replace hC := hC.step hst
  replace q8 := (hst.block _ (Array.getElem?_eq_some_iff.1 q8).1).trans q8
  replace hyC := hyC.step hst
  replace hxC := (hst.cell (p := ⟨bC, oC + pn, none⟩) (cell_lt' hxC)).trans hxC
  replace hB := below_step hB hB.size hst
  clear hst
  have HQ := Lib.hid (And.intro hq (And.intro hD (And.intro hk (And.intro hC (And.intro q8 (And.intro hyC (And.intro hxC hB)))))))
  clear hq hD hk hC q8 hyC hxC hB
  have c0 := blk_cell HQ.out.1 0
  have c1 := blk_cell HQ.out.1 1
  have m0 := blk_cell HQ.out.2.2.2.2.1 0
  have m1 := blk_cell HQ.out.2.2.2.2.1 1
  simp at c0 c1 m0 m1
  obtain ⟨i0, hi0⟩ : ∃ i0, (lC == ld) = i0 := ⟨_, rfl⟩
  rw [hi0]
  have HI0 := Lib.hid hi0
  clear hi0
  go_wp2_with fail
  go_loopw [10, 11, 12, 13] (fun s10 s11 s12 s13 wr => ∃ (j : Nat) (bi be bn : Bool), j ≤ ks.length ∧ s10 = .bool bi ∧ s11 = .bool be ∧ s12 = .bool bn ∧ s13 = .int .i64 j ∧ (bi = true ↔ (i0 = true ∨ ∃ i, i < j ∧ ks.getD i false = true ∧ (d.waits.getD i ⟨0, []⟩).at_ = pn ∧ (d.waits.getD i ⟨0, []⟩).data = lC)) ∧ (be = true ↔ ∀ i, i < j → ks.getD i false = true) ∧ (bn = true ↔ ∀ i, i < j → ks.getD i false = false) ∧ Below wx.heap.size wx wr) (fun _ _ _ s13 _ => ks.length - (intOf s13).toNat)
  case atStart => exact ⟨0, i0, true, true, Nat.zero_le _, rfl, rfl, rfl, rfl, ⟨fun h => .inl h, fun h => h.elim id (fun ⟨i, hi, _⟩ => absurd hi (Nat.not_lt_zero _))⟩, ⟨fun _ i hi => absurd hi (Nat.not_lt_zero _), fun _ => rfl⟩, ⟨fun _ i hi => absurd hi (Nat.not_lt_zero _), fun _ => rfl⟩, Below.refl _ _⟩
  case round =>
  obtain ⟨j, bi, be, bn, hj, rfl, rfl, rfl, rfl, hbi, hbe, hbn, hBr⟩ := hrel
  clear c0 c1 m0 m1
  obtain ⟨hq, hD, hk, hC, q8, hyC, hxC, hB⟩ := HQ.out
  clear HQ
  have hst := hBr
  replace hq := (hst.block _ (Array.getElem?_eq_some_iff.1 hq).1).trans hq
  replace hD := hD.step hst
  replace hk := hk.step hst
  replace hC := hC.step hst
  replace q8 := (hst.block _ (Array.getElem?_eq_some_iff.1 q8).1).trans q8
  replace hyC := hyC.step hst
  replace hxC := (hst.cell (p := ⟨bC, oC + pn, none⟩) (cell_lt' hxC)).trans hxC
  replace hB := below_step hB hB.size hst
  clear hst
  have HQ := Lib.hid (And.intro hq (And.intro hD (And.intro hk (And.intro hC (And.intro q8 (And.intro hyC (And.intro hxC hB)))))))
  clear hq hD hk hC q8 hyC hxC hB
  have c0 := blk_cell HQ.out.1 0
  have c1 := blk_cell HQ.out.1 1
  have m0 := blk_cell HQ.out.2.2.2.2.1 0
  have m1 := blk_cell HQ.out.2.2.2.2.1 1
  simp at c0 c1 m0 m1
  by_cases hlt : j < ks.length
  · obtain ⟨kb, ko, kk, ek, -, -, -, zk, hke⟩ := HQ.out.2.2.1.at_ (by omega)
    injection ek with ea _ ec
    subst ea ec
    have hkc := hke j (ks.getD j false) (get_l _ _ _ hlt)
    have hjw : j < d.waits.length := by have := HKL.out; omega
    have hkc2 : wr.cell? ⟨kb, ko + j, none⟩ = some (.bool (ks.getD j false)) := by simpa [rBool] using hkc
    obtain ⟨bw, ow, kw, ew, -, -, -, zw, hbw⟩ := HQ.out.2.1.v0.2.at_ (by omega)
    injection ew with ea _ ec
    subst ea ec
    obtain ⟨f0, -, xw, f1, hyw⟩ := hbw j (d.waits.getD j ⟨0, []⟩) (get_l _ _ _ hjw)
    have z0 := fun nq => cv_of (w := wr.drewN nq) HQ.out.2.2.2.2.2.1
    have hxC3 := HQ.out.2.2.2.2.2.2.1
    obtain ⟨y, hy⟩ : ∃ y, d.waits.getD j ⟨0, []⟩ = y := ⟨_, rfl⟩
    rw [hy] at f0 hyw
    obtain ⟨xa, xd2⟩ := y
    simp [rWrite] at f0 f1
    simp only at hyw
    obtain ⟨ay, ky, rfl, -, -⟩ := hyw.form rfl
    have z1 := fun nq => cv_of (w := wr.drewN nq) hyw
    obtain ⟨kv, hkv⟩ : ∃ kv, ks.getD j false = kv := ⟨_, rfl⟩
    rw [hkv] at hkc2
    unfold maxLen at zk zw
    have HP := Lib.hid (And.intro hbi (And.intro hbe (And.intro hbn (And.intro hBr (And.intro hkv hy)))))
    clear hbi hbe hbn hBr hkv hy hbw hke hkc hyw
    go_upto_region 14 with (fail)
    go_cut [11] (fun s wx => s = .bool (be && kv) ∧ wx = wr)
    case first =>
      cases be <;> cases kv <;> (go_wp2; go_meet; exact ⟨rfl, rfl⟩)
    case rest =>
    obtain ⟨rfl, rfl⟩ := hcut
    obtain ⟨be2, hbe2⟩ : ∃ x, (be && kv) = x := ⟨_, rfl⟩
    rw [hbe2]
    have HBE := Lib.hid hbe2
    clear hbe2
    go_upto_region 15 with (fail)
    go_cut [12] (fun s wy => s = .bool (bn && !kv) ∧ wy = wc)
    case first =>
      cases bn <;> cases kv <;> (go_wp2; go_meet; exact ⟨rfl, rfl⟩)
    case rest =>
    obtain ⟨rfl, rfl⟩ := hcut
    obtain ⟨bn2, hbn2⟩ : ∃ x, (bn && !kv) = x := ⟨_, rfl⟩
    rw [hbn2]
    have HBN := Lib.hid hbn2
    clear hbn2
    go_upto_region 16 with (fail)
    have hREL : ∀ (b2 : Bool) (wz : World), (b2 = true ↔ (bi = true ∨ (kv = true ∧ xa = pn ∧ xd2 = lC))) → Below wc.heap.size wc wz → (b2 = true ↔ (i0 = true ∨ ∃ i, i < j + 1 ∧ ks.getD i false = true ∧ (d.waits.getD i ⟨0, []⟩).at_ = pn ∧ (d.waits.getD i ⟨0, []⟩).data = lC)) ∧ (be2 = true ↔ ∀ i, i < j + 1 → ks.getD i false = true) ∧ (bn2 = true ↔ ∀ i, i < j + 1 → ks.getD i false = false) ∧ Below wx.heap.size wx wz := by
      intro b2 wz hb2 hst
      obtain ⟨hbi, hbe, hbn, hBr, hkv, hy⟩ := HP.out
      have hlt2 : ∀ i, i < j + 1 → i < j ∨ i = j := fun i hi => Nat.lt_succ_iff_lt_or_eq.1 hi
      refine ⟨?_, ?_, ?_, below_step hBr hBr.size hst⟩
      · rw [hb2, hbi]
        constructor
        · rintro ((h | ⟨i, h1, h2⟩) | ⟨h1, h2, h3⟩)
          · exact .inl h
          · exact .inr ⟨i, by omega, h2⟩
          · exact .inr ⟨j, by omega, by rw [hkv]; exact h1, by rw [hy]; exact h2, by rw [hy]; exact h3⟩
        · rintro (h | ⟨i, h1, h2, h3, h4⟩)
          · exact .inl (.inl h)
          · rcases hlt2 i h1 with h | rfl
            · exact .inl (.inr ⟨i, h, h2, h3, h4⟩)
            · rw [hkv] at h2
              rw [hy] at h3 h4
              exact .inr ⟨h2, h3, h4⟩
      · rw [← HBE.out, Bool.and_eq_true, hbe]
        constructor
        · rintro ⟨h1, h2⟩ i hi
          rcases hlt2 i hi with h | rfl
          · exact h1 i h
          · rw [hkv]; exact h2
        · intro h
          exact ⟨fun i hi => h i (by omega), by rw [← hkv]; exact h j (by omega)⟩
      · rw [← HBN.out, Bool.and_eq_true, hbn]
        constructor
        · rintro ⟨h1, h2⟩ i hi
          rcases hlt2 i hi with h | rfl
          · exact h1 i h
          · rw [hkv]; simpa using h2
        · intro h
          exact ⟨fun i hi => h i (by omega), by rw [← hkv, h j (by omega)]; rfl⟩
    have HREL := Lib.hid hREL
    clear hREL
    cases bi
    case true =>
      go_wp2_with fail
      go_quiet (fail)
      go_wp2
      go_roundw
      case rel => exact ⟨j + 1, true, be2, bn2, by omega, rfl, rfl, rfl, by go_num, HREL.out _ _ (⟨fun _ => .inl (by trivial), fun _ => by trivial⟩) (below_dn _ _ _)⟩
      case measure => simp [intOf]; omega
    cases kv
    case false =>
      go_wp2_with fail
      go_quiet (fail)
      go_wp2
      go_roundw
      case rel => exact ⟨j + 1, false, be2, bn2, by omega, rfl, rfl, rfl, by go_num, HREL.out _ _ (⟨fun h => (by cases h), fun h => h.elim (fun h => (by cases h)) (fun h => (by cases h.1))⟩) (below_dn _ _ _)⟩
      case measure => simp [intOf]; omega
    by_cases hat : xa = (pn : Int)
    case neg =>
      have q1 : (xa == (pn : Int)) = false := by simp [hat]
      go_wp2_with fail
      go_quiet (fail)
      go_wp2
      go_roundw
      case rel => exact ⟨j + 1, false, be2, bn2, by omega, rfl, rfl, rfl, by go_num, HREL.out _ _ (⟨fun h => (by cases h), fun h => h.elim (fun h => (by cases h)) (fun h => absurd h.2.1 hat)⟩) (below_dn _ _ _)⟩
      case measure => simp [intOf]; omega
    subst hat
    go_wp2_with fail
    go_quiet (fail)
    go_wp2
    go_roundw
    case rel => exact ⟨j + 1, (xd2 == lC), be2, bn2, by omega, rfl, rfl, rfl, by go_num, HREL.out _ _ (⟨fun h => .inr ⟨by trivial, by trivial, by simpa using h⟩, fun h => h.elim (fun h => (by cases h)) (fun h => by simpa using h.2.2)⟩) (below_dn _ _ _)⟩
    case measure => simp [intOf]; omega
  obtain rfl : j = ks.length := by omega
  clear hj hlt
  have hall : ∀ b : Bool, (∀ i, i < ks.length → ks.getD i false = b) → ∀ x ∈ ks, x = b := fun b h x hx => by
    obtain ⟨i, hi⟩ := List.mem_iff_getElem?.1 hx
    have hil := (List.getElem?_eq_some_iff.1 hi).1
    have := h i hil
    rw [List.getD_eq_getElem?_getD, hi] at this
    exact this
  obtain rfl : bi = true := hbi.2 (by
    rcases HY.out.1 with h | ⟨i, h1, h2, h3, h4⟩
    · left
      rw [← HI0.out, h]
      simp
    · exact .inr ⟨i, h1, h2, h3, h4⟩)
  have HT := Lib.hid (show be = true → barD d = C from fun h => HN.out.2.1 (hall true (hbe.1 h)))
  have HF := Lib.hid (show bn = true → DiskL.mk d.blocks [] = C from fun h => HN.out.2.2.1 (hall false (hbn.1 h)))
  clear hbi hbe hbn hall hBr
  go_wp2_with fail
  refine (HX.out.2 wr HQ.out.2.1.v0).mono ?_
  rintro e w6 ⟨b5, u5, rfl, hm⟩
  clear c0 c1 m0 m1
  obtain ⟨hq, hD, hk, hC, q8, hyC, hxC, hB⟩ := HQ.out
  clear HQ
  have hst := hm.below
  have hE := DR.of hm
  clear hm
  obtain ⟨a5, c5, rfl, -, -, -, -⟩ := hE.v.1
  obtain ⟨a6, c6, rfl, -, -, -, -⟩ := hE.v.2
  replace hq := (hst.block _ (Array.getElem?_eq_some_iff.1 hq).1).trans hq
  replace hD := hD.step hst
  replace hk := hk.step hst
  replace hC := hC.step hst
  replace q8 := (hst.block _ (Array.getElem?_eq_some_iff.1 q8).1).trans q8
  replace hyC := hyC.step hst
  replace hxC := (hst.cell (p := ⟨bC, oC + pn, none⟩) (cell_lt' hxC)).trans hxC
  replace hB := below_step hB hB.size hst
  clear hst
  have HQ := Lib.hid (And.intro hq (And.intro hD (And.intro hk (And.intro hC (And.intro q8 (And.intro hyC (And.intro hxC (And.intro hE hB))))))))
  clear hq hD hk hC q8 hyC hxC hE hB
  obtain ⟨E, hE⟩ : ∃ E, barD d = E := ⟨_, rfl⟩
  rw [hE] at HQ HT ⊢
  clear hE
  go_upto_region 18 with (fail)
  obtain ⟨hq, hD, hk, hC, q8, hyC, hxC, hE, hB⟩ := HQ.out
  clear HQ
  have q14 := World.alloc_heap_new w6 (.cells #[.slice a5 E.blocks.length c5, .slice a6 E.waits.length c6] 39)
  have hst := (Below.refl w6.heap.size w6).alloc (Nat.le_refl _) (.cells #[.slice a5 E.blocks.length c5, .slice a6 E.waits.length c6] 39)
  replace hq := (hst.block _ (Array.getElem?_eq_some_iff.1 hq).1).trans hq
  replace hD := hD.step hst
  replace hk := hk.step hst
  replace hC := hC.step hst
  replace q8 := (hst.block _ (Array.getElem?_eq_some_iff.1 q8).1).trans q8
  replace hyC := hyC.step hst
  replace hxC := (hst.cell (p := ⟨bC, oC + pn, none⟩) (cell_lt' hxC)).trans hxC
  replace hE := hE.step hst
  replace hB := below_step hB hB.size hst
  obtain ⟨w7, hw⟩ : ∃ v, w6.alloc (.cells #[.slice a5 E.blocks.length c5, .slice a6 E.waits.length c6] 39) = v := ⟨_, rfl⟩
  rw [hw] at q14 hq hD hk hC q8 hyC hxC hE hB ⊢
  generalize hg : w6.heap.size = g14 at *
  clear hw hst hg
  have HQ := Lib.hid (And.intro hq (And.intro hD (And.intro hk (And.intro hC (And.intro q8 (And.intro hyC (And.intro hxC (And.intro hE (And.intro q14 hB)))))))))
  clear hq hD hk hC q8 hyC hxC hE q14 hB
  have c0 := blk_cell HQ.out.1 0
  have c1 := blk_cell HQ.out.1 1
  have m0 := blk_cell HQ.out.2.2.2.2.1 0
  have m1 := blk_cell HQ.out.2.2.2.2.1 1
  have s0 := blk_cell HQ.out.2.2.2.2.2.2.2.2.1 0
  have s1 := blk_cell HQ.out.2.2.2.2.2.2.2.2.1 1
  simp at c0 c1 m0 m1 s0 s1
  have s1 := fun (h : be = true) => dsame_any _ _ _ _ E C w7 HQ.out.2.2.2.2.2.2.2.1.v0 HQ.out.2.2.2.1.v0
  have s2 := fun (V : World) (hst : Below w7.heap.size w7 V) => dsame_any _ _ _ _ ⟨d.blocks, []⟩ C V ⟨(HQ.out.2.1.step hst).v0.1, Sl.nil_ _ _ _⟩ (HQ.out.2.2.2.1.step hst).v0
  have HS := Lib.hid (And.intro s1 s2)
  clear s1 s2
  have hBf := Lib.hid HQ.out.2.2.2.2.2.2.2.2.2
  cases be
  case false =>
    cases bn
    case false =>
      go_wp2
      go_ret
      exact ⟨rfl, hBf.out⟩
    go_wp2_with fail
    refine (HS.out.2 w7 (Below.refl _ _)).mono ?_
    rintro e z ⟨rfl, hst⟩
    rw [decide_eq_true (HF.out (by trivial))]
    have hfin := below_step hBf.out hBf.out.size hst
    go_wp2
    go_ret
    exact ⟨rfl, hfin⟩
  go_wp2_with fail
  refine (HS.out.1 (by trivial)).mono ?_
  rintro e z ⟨rfl, hst⟩
  rw [decide_eq_true (HT.out (by trivial))]
  have hfin := below_step hBf.out hBf.out.size hst
  clear c0 c1 m0 m1 s0 s1
  have x0 := (hst.cell (p := ⟨w.heap.size, 0, none⟩) (cell_lt' (blk_cell HQ.out.1 0))).trans (blk_cell HQ.out.1 0)
  have x1 := (hst.cell (p := ⟨g8, 0, none⟩) (cell_lt' (blk_cell HQ.out.2.2.2.2.1 0))).trans (blk_cell HQ.out.2.2.2.2.1 0)
  have x2 := (hst.cell (p := ⟨g8, 1, none⟩) (cell_lt' (blk_cell HQ.out.2.2.2.2.1 1))).trans (blk_cell HQ.out.2.2.2.2.1 1)
  simp at x0 x1 x2
  cases bn
  case false =>
    go_wp2
    go_ret
    exact ⟨rfl, hfin⟩
  have HST := Lib.hid hst
  clear hst
  go_wp2_with fail
  refine (HS.out.2 z HST.out).mono ?_
  rintro e z2 ⟨rfl, hst⟩
  rw [decide_eq_true (HF.out (by trivial))]
  have hfin2 := below_step hfin hfin.size hst
  go_wp2
  go_ret
  exact ⟨rfl, hfin2⟩
end Go.Proofs.Ytldidclnfkmonaa
