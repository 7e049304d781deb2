/- The walk of the statement ItemBack. -/
import Derived.Test.YtldidclnfkmonaaLawI4
import Derived.Deep.CutBlock
namespace Go.Proofs.Ytldidclnfkmonaa
open Go.RowKit

set_option maxRecDepth 100000 in
set_option maxHeartbeats 2000000 in
theorem itemBack_walk (x : ItemL) (v : Value) (vb : Value) (lb : List UInt8) (vc : Value) (lc : List UInt8) (w : World) (hv : Bytes w 0 w.heap.size v x.val) (hb : Bytes w 0 w.heap.size vb lb) (hc : Bytes w 0 w.heap.size vc lc) :
    Calls Try.prog 11 #[itemV x v, vb, vc] w fun e w' => e = .returned (.bool true) ∧ Below w.heap.size w w' := by
  have hB := (Below.refl w.heap.size w).alloc (Nat.le_refl _) (.cells #[bV x.key.kind, wV x.key.id, wV x.key.off, .int .i64 x.ref, v] 30)
  have hq := alloc_cells w #[bV x.key.kind, wV x.key.id, wV x.key.off, .int .i64 x.ref, v] 30
  have hv0 := hv.step hB
  have hb0 := hb.step hB
  have hc0 := hc.step hB
  obtain ⟨W, hW⟩ : ∃ W, w.alloc (.cells #[bV x.key.kind, wV x.key.id, wV x.key.off, .int .i64 x.ref, v] 30) = W := ⟨_, rfl⟩
  rw [hW] at hB hq hv0 hb0 hc0
  obtain ⟨a, c, rfl, g1, g2, -, -⟩ := hv
  obtain ⟨ab, cb, rfl, g3, g4, -, -⟩ := hb
  obtain ⟨ac, cc, rfl, g5, g6, -, -⟩ := hc
  unfold maxLen at g2 g4 g6
  have hwx := fun V h => iwrite_any x (.slice a x.val.length c) V h
  have hsm : ∀ V u, Bytes V 0 V.heap.size u x.val → Bytes V 0 V.heap.size (.slice a x.val.length c) x.val → Calls Try.prog 19 #[itemV x u, itemV x (.slice a x.val.length c)] V fun e w' => e = .returned (.bool true) ∧ Below V.heap.size V w' := fun V u h h' => by
    have h2 := isame_any x x u _ V h h'
    rw [decide_eq_true rfl] at h2
    exact h2
  have hrd := fun V => iread_any (.slice ac lc.length cc) lc V
  have hri := fun V r h => iread_any r (itemB x ++ lb) V h
  have hsz := fun V u h => isame_any (readI lc) zeroI u (.slice none 0 0) V h (Bytes.nil_ V 0 V.heap.size)
  have hwr := fun V u h => iwrite_any (readI lc) u V h
  have hlx : wrI x = if mayI x then itemB x else [] := rfl
  have hlr : wrI (readI lc) = if mayI (readI lc) then itemB (readI lc) else [] := rfl
  have hir := item_read lc
  have hix := fun h => read_item x h lb
  have hno : readOk lc = false → readI lc = zeroI ∧ readN lc = 0 := fun h => ⟨by unfold readI; rw [h]; rfl, by unfold readN; rw [h]; rfl⟩
  have hlb := fun h => (may_ref (x := x) h).2.2
  obtain ⟨E, hE⟩ : ∃ E, mayE (mayI x) = E := ⟨_, rfl⟩
  simp only [hE] at hwx
  have HE := Lib.hid hE
  clear hE
  have HS := Lib.hid (And.intro hwx (And.intro hsm (And.intro hrd (And.intro hri (And.intro hsz hwr)))))
  have HL := Lib.hid (And.intro hlx (And.intro hlr (And.intro hir (And.intro hix (And.intro hno (And.intro (itemB_length x) hlb))))))
  have HQ := Lib.hid (And.intro hq (And.intro hv0 (And.intro hb0 (And.intro hc0 (And.intro hB hW)))))
  clear hwx hsm hrd hri hsz hwr hlx hlr hir hix hno hq hB hW hv0 hb0 hc0 hlb
  obtain ⟨⟨k1, i1, o1⟩, r1, l1⟩ := x
  simp only [itemV, bV, wV] at *
  go_enter Try.func11, Try.ntmps11
  go_upto_region 1 with (fail)
  rw [HQ.out.2.2.2.2.2]
  go_wp2_with fail
  refine (alive5 _).mono ?_
  rintro e w1 ⟨rfl, hst⟩
  obtain ⟨q1, hv0, hb0, hc0, hB, _⟩ := HQ.out
  replace q1 := (hst.block w.heap.size (Array.getElem?_eq_some_iff.1 q1).1).trans q1
  replace hv0 := hv0.step hst
  replace hb0 := hb0.step hst
  replace hc0 := hc0.step hst
  replace hB := below_step hB hB.size hst
  clear hst
  clear HQ
  have HQ := Lib.hid (And.intro q1 (And.intro hv0 (And.intro hb0 (And.intro hc0 hB))))
  have d10 := blk_cell q1 0
  have d11 := blk_cell q1 1
  have d12 := blk_cell q1 2
  have d13 := blk_cell q1 3
  have d14 := blk_cell q1 4
  simp at d10 d11 d12 d13 d14
  clear q1 hv0 hb0 hc0 hB
  by_cases hb1 : 10000 < lb.length
  · go_wp2
    go_ret
    exact ⟨rfl, HQ.out.2.2.2.2⟩
  by_cases hb2 : 10000 < lc.length
  · go_wp2
    go_ret
    exact ⟨rfl, HQ.out.2.2.2.2⟩
  by_cases hb3 : 10000 < l1.length
  · go_wp2
    go_ret
    exact ⟨rfl, HQ.out.2.2.2.2⟩
  have e1 : (l1.length : Int) ≤ 10000 := by omega
  have e2 : (lb.length : Int) ≤ 10000 := by omega
  have e3 : (lc.length : Int) ≤ 10000 := by omega
  clear hb1 hb2 hb3
  go_wp2_with fail
  refine (HS.out.1 _ HQ.out.2.1).mono ?_
  rintro e w2 ⟨p, rfl, hp⟩
  obtain ⟨q1, hv0, hb0, hc0, hB⟩ := HQ.out
  have hst := hp.below
  replace q1 := (hst.block w.heap.size (Array.getElem?_eq_some_iff.1 q1).1).trans q1
  replace hv0 := hv0.step hst
  replace hb0 := hb0.step hst
  replace hc0 := hc0.step hst
  replace hB := below_step hB hB.size hst
  clear hst
  clear HQ d10 d11 d12 d13 d14
  have HQ := Lib.hid (And.intro q1 (And.intro hv0 (And.intro hb0 (And.intro hc0 hB))))
  have hpb := hp.bytes.all0
  clear hp q1 hv0 hb0 hc0 hB
  go_upto_if 40 with (fail)
  go_cut [7] (fun s wx => s = .bool true ∧ Below w2.heap.size w2 wx)
  case first =>
    obtain ⟨hlx, hlr, hir, hix, hno, hil, hlb⟩ := HL.out
    cases hm : mayI ⟨⟨k1, i1, o1⟩, r1, l1⟩
    · have e9 : E = 8 := by rw [← HE.out, hm]; rfl
      subst e9
      clear hlx hlr hir hix hno hpb hm hil hlb
      go_wp2
      go_meet
      exact ⟨rfl, Below.refl _ _⟩
    · have e10 : E = 0 := by rw [← HE.out, hm]; rfl
      subst e10
      have e9 : mayE true = 0 := rfl
      rw [hm, if_pos rfl] at hlx
      rw [hlx] at hpb
      obtain ⟨f1, f2, f3⟩ := hix hm
      have hri := HS.out.2.2.2.1
      rw [f1, f2, f3, e9] at hri
      have h12 : l1.length ≤ 12 := hlb hm
      replace hil : (itemB ⟨⟨k1, i1, o1⟩, r1, l1⟩).length = 12 + l1.length := hil
      have HH := Lib.hid (And.intro hri (And.intro hil (And.intro h12 hpb)))
      obtain ⟨pa, pc, rfl, p1, p2⟩ := hpb.form rfl
      have e8 : ((itemB ⟨⟨k1, i1, o1⟩, r1, l1⟩).length : Int) ≤ 30 := by rw [hil]; simp; omega
      unfold maxLen at p2
      clear hlx hlr hir hix hno hpb hm e9 hil hlb f1 f2 f3 hri h12
      generalize itemB ⟨⟨k1, i1, o1⟩, r1, l1⟩ = px at *
      go_wp2_with (first
        | (at_builtin; refine wpList_appB rfl (.const (.slice none 0 0)) (.tmp 42) 28 rfl w2.heap.size 5 Try.underlying28 info_u8 _ [] rfl (OwnB.nil_ _ _ _) 0 w2.heap.size _ px rfl HH.out.2.2.2 (by simp; omega) (Nat.le_refl _) ?_; intro s0 z0 n0 x0; rw [List.nil_append] at n0; have hb0 := HQ.out.2.2.1.step x0)
        | (at_builtin; refine wpList_appB rfl (.tmp 43) (.tmp 44) 28 rfl w2.heap.size 5 Try.underlying28 info_u8 _ px rfl n0 0 z0.heap.size _ lb rfl hb0 (by omega) x0.size ?_; intro s1 z1 n1 x1))
      have hst1 := x0.trans x1
      have hrow := n1.bytes.all0
      clear n0 n1 x0 x1 hb0
      refine (HH.out.1 _ _ hrow).mono ?_
      rintro e w3 ⟨u, rfl, hu⟩
      have hst := below_step hst1 hst1.size hu.below
      have hub := hu.bytes.all0
      obtain ⟨ua, uc, rfl, -, -⟩ := hub.form rfl
      have q1 := (hst.block w.heap.size (Array.getElem?_eq_some_iff.1 HQ.out.1).1).trans HQ.out.1
      have hv0 := HQ.out.2.1.step hst
      have hb3 := (Below.refl w3.heap.size w3).alloc (Nat.le_refl _) (.cells #[.int .u8 (k1.toNat : Int), .int .u32 (i1.toNat : Int), .int .u32 (o1.toNat : Int), .int .i64 r1, .slice ua l1.length uc] 30)
      have hsm := HS.out.2.1 _ (.slice ua l1.length uc) (hub.step hb3) (hv0.step hb3)
      have HX := Lib.hid (And.intro hsm (And.intro q1 (below_step hst hst.size hb3)))
      have q1 := (hb3.block w.heap.size (Array.getElem?_eq_some_iff.1 q1).1).trans q1
      have d10 := blk_cell q1 0
      have d11 := blk_cell q1 1
      have d12 := blk_cell q1 2
      have d13 := blk_cell q1 3
      have d14 := blk_cell q1 4
      simp at d10 d11 d12 d13 d14
      clear hst1 hrow hu hst hub q1 hv0 hb3 hsm
      simp only
      go_wp2_with fail
      refine HX.out.1.mono ?_
      rintro e w4 ⟨rfl, hb4⟩
      have hfin := below_step HX.out.2.2 HX.out.2.2.size hb4
      clear hb4 d10 d11 d12 d13 d14
      go_wp2
      go_meet
      exact ⟨rfl, hfin⟩
  case rest =>
  obtain ⟨rfl, hst⟩ := hcut
  obtain ⟨q1, hv0, hb0, hc0, hB⟩ := HQ.out
  replace q1 := (hst.block w.heap.size (Array.getElem?_eq_some_iff.1 q1).1).trans q1
  replace hv0 := hv0.step hst
  replace hb0 := hb0.step hst
  replace hc0 := hc0.step hst
  replace hB := below_step hB hB.size hst
  clear hst
  clear HQ q1 hv0 hb0 hpb
  have HQ := Lib.hid (And.intro hc0 hB)
  clear hc0 hB
  obtain ⟨hlx, hlr, hir, hix, hno, hil, hlb⟩ := HL.out
  obtain ⟨hs1, hs2, hrd, hs4, hsz, hwr⟩ := HS.out
  clear HL HS hlx hix hil hlb hs1 hs2 hs4
  cases hok : readOk lc
  · obtain ⟨f1, f2⟩ := hno hok
    have e9 : mayE false = 8 := rfl
    rw [f1, f2, hok, e9] at hrd
    rw [f1, decide_eq_true rfl] at hsz
    have HR := Lib.hid (And.intro hrd hsz)
    clear f1 f2 e9 hok hrd hsz hwr hlr hir hno
    go_wp2_with fail
    refine (HR.out.1 _ HQ.out.1).mono ?_
    rintro e w3 ⟨u, rfl, hu⟩
    have hB3 := below_step HQ.out.2 HQ.out.2.size hu.below
    have hub := hu.bytes.all0
    obtain ⟨ua, uc, rfl, -, -⟩ := hub.form (n := 0) rfl
    have hb3 := (Below.refl w3.heap.size w3).alloc (Nat.le_refl _) (.cells #[.int .u8 0, .int .u32 0, .int .u32 0, .int .i64 0, .slice ua 0 uc] 30)
    have hsz := HR.out.2 _ (.slice ua 0 uc) (hub.step hb3)
    have HX := Lib.hid (And.intro hsz (below_step hB3 hB3.size hb3))
    clear hu hub hb3 hsz hB3
    simp only [zeroI, UInt8.toNat_zero, UInt32.toNat_zero, Int.natCast_zero] at HX ⊢
    go_wp2_with fail
    refine HX.out.1.mono ?_
    rintro e w4 ⟨rfl, hb4⟩
    have hfin := below_step HX.out.2 HX.out.2.size hb4
    clear hb4
    go_wp2
    go_ret
    exact ⟨rfl, hfin⟩
  · obtain ⟨f1, f2, f3⟩ := hir hok
    have e9 : mayE true = 0 := rfl
    rw [hok, e9] at hrd
    rw [f1, if_pos rfl] at hlr
    rw [f1, e9, hlr, f2] at hwr
    have HR := Lib.hid (And.intro hrd hwr)
    clear e9 hok hrd hsz hwr hlr hir hno f1 f2
    generalize readI lc = y at *
    generalize readN lc = n at *
    obtain ⟨⟨k2, i2, o2⟩, r2, l2⟩ := y
    go_wp2_with fail
    refine (HR.out.1 _ HQ.out.1).mono ?_
    rintro e w3 ⟨u, rfl, hu⟩
    have hB3 := below_step HQ.out.2 HQ.out.2.size hu.below
    have hub := hu.bytes.all0
    have hc3 := HQ.out.1.step hu.below
    obtain ⟨ua, uc, rfl, -, -⟩ := hub.form rfl
    have hb3 := (Below.refl w3.heap.size w3).alloc (Nat.le_refl _) (.cells #[.int .u8 (k2.toNat : Int), .int .u32 (i2.toNat : Int), .int .u32 (o2.toNat : Int), .int .i64 r2, .slice ua l2.length uc] 30)
    have hwr := HR.out.2 _ (.slice ua l2.length uc) (hub.step hb3)
    have HX := Lib.hid (And.intro hwr (And.intro (below_step hB3 hB3.size hb3) (hc3.step hb3)))
    clear hu hub hb3 hwr hB3 hc3
    simp only at HX ⊢
    go_wp2_with fail
    refine HX.out.1.mono ?_
    rintro e w4 ⟨p4, rfl, hp4⟩
    have hfin := below_step HX.out.2.1 HX.out.2.1.size hp4.below
    have hpp := (HX.out.2.2.step hp4.below).pre n f3
    have k1 := fun nq => cv_of (w := w4.drewN nq) hp4.bytes
    have k2 := fun nq => cv_of (w := w4.drewN nq) hpp
    have s1 := fun W => run_preB ac lc.length cc n (by omega) W
    have f3' : (n : Int) ≤ (lc.length : Int) := by omega
    have HF := Lib.hid hfin
    clear hp4 hpp hfin
    generalize List.take n lc = tl at *
    go_wp2_with fail
    go_quiet (fail)
    go_wp2
    go_ret
    exact ⟨rfl, HF.out.trans (below_dn _ _ _)⟩
end Go.Proofs.Ytldidclnfkmonaa
