/- NodeCodes: the words and contracts, part 18. -/
import Derived.Test.YthealkfpflkipaaNodeCodesQ1
import Derived.Test.YthealkfpflkipaaNodeCodesQ2
import Derived.Test.YthealkfpflkipaaNodeCodesQ3
import Derived.Test.YthealkfpflkipaaNodeCodesQ4
import Derived.Test.YthealkfpflkipaaNodeCodesQ5
import Derived.Test.YthealkfpflkipaaNodeCodesQ6
import Derived.Test.YthealkfpflkipaaNodeCodesQ7
import Derived.Test.YthealkfpflkipaaNodeCodesQ8
import Derived.Test.YthealkfpflkipaaNodeCodesQ9
import Derived.Test.YthealkfpflkipaaNodeCodesQ10
import Derived.Test.YthealkfpflkipaaNodeCodesQ11
import Derived.Test.YthealkfpflkipaaNodeCodesQ12
import Derived.Test.YthealkfpflkipaaNodeCodesQ14
import Derived.Test.YthealkfpflkipaaNodeCodesQ15
import Derived.Test.YthealkfpflkipaaNodeCodesQ17
import Derived.WalkKit
import Derived.WalkLawsBesides
import Derived.WalkSpells
import Derived.Lib.Hide
import Derived.Laws.Rows
import Derived.Laws.AppendOwnNone
import Derived.Maps.AppendAt
import Derived.ProofKit
import Derived.Deep.Slices
import Derived.WideShapes
import Derived.RangeFuncNested
import Derived.RangeFuncBound
import Derived.RangeFuncCalls
import Derived.RangeFuncLeaves
import Derived.RangeFuncBox
import Derived.Shelf.Abstract
import Derived.Shelf.RegionOpen
import Derived.OwnWalkIn
import Derived.TacticsInMore
import Derived.LoopNIn
import Derived.LoopIn
import Derived.Lib.AppendZerosOnto
import Derived.Lib.SliceRun
import Derived.Lib.Walk
import Derived.Deep.LoopGhost
import Derived.Laws.CopyOwn
import Derived.Laws.CopyRow
import Derived.OrdersHeld
import Derived.Deep.QuietTactic
import Derived.BigQuiet
import Derived.StillTailTactics
import Derived.OpenShut
import Derived.Deep.DeepCutAuto
import Derived.Deep.RegionHeld
import Derived.Laws.MakeOwn
import Derived.KernelRfl
import Derived.BigFrameIn
namespace Go.Proofs.Ythealkfpflkipaa
open Go.RowKit

theorem cutE_run (b off n c i : Nat) (hin : i ≤ n) (hnc : n ≤ c) (hcm : c ≤ maxLen) : ∃ o2 : Nat,
    (∀ w, (Instr.sliceAt 22 (.slice (some ⟨b, off, none⟩) n c) (some (.int .i64 (i : Int))) none none).run Try.prog w = .ok (.slice (some ⟨b, o2, none⟩) (n - i) (c - i)) w) ∧
    ∀ W lo hi l, Bytes W lo hi (.slice (some ⟨b, off, none⟩) n c) l → l.length = n → Bytes W lo hi (.slice (some ⟨b, o2, none⟩) (n - i) (c - i)) (l.drop i) := by
  by_cases hc : i < c
  · exact ⟨off + i, cutS_run b off n c i hin hc hcm⟩
  · refine ⟨off, fun w => ?_, fun W lo hi l hb hl => ?_⟩
    · simp [go_sem]
      rw [if_pos hin, if_pos (by omega)]
    · have hd : l.drop i = [] := List.drop_eq_nil_of_le (by omega)
      rw [hd]
      exact ⟨some ⟨b, off, none⟩, c - i, by rw [show n - i = 0 by omega]; rfl, Nat.zero_le _, by omega, fun h => absurd h (Nat.lt_irrefl 0), fun h => by cases h⟩
theorem sam_law {lo : List UInt8} {x0 x1 x2 : UInt8} {its : List ItemL} {r : List UInt8} (hl : 3 ≤ lo.length) (h0 : lo.getD 0 0 = x0) (h1 : lo.getD 1 0 = x1) (h2 : lo.getD 2 0 = x2) (h : rdS (lo.drop 3) x2.toNat = some (its, r)) :
    samZ lo (bytesN ⟨(x1.toNat : Int), its⟩) = (x0 == 78 && maxL r == 0) := by
  have hlen := (rdS_len h).1
  have hj := rdS_join _ _ _ h
  simp only at hlen hj
  have hlo : lo = [x0, x1, x2] ++ lo.drop 3 := by
    match lo, hl with
    | a :: b :: c :: l, _ => simp at h0 h1 h2; subst h0 h1 h2; rfl
  have hb : bytesN ⟨(x1.toNat : Int), its⟩ = [78, x1, x2] ++ bodyN its := by
    unfold bytesN headN
    simp only [Int.toNat_natCast, hlen]
    simp
  rw [Bool.eq_iff_iff, samZ_iff, hb]
  constructor
  · rintro ⟨z, hz, hz0⟩
    rw [hlo, hj] at hz
    simp only [List.cons_append, List.nil_append, List.cons.injEq, true_and] at hz
    obtain ⟨e0, e1⟩ := hz
    have e2 := List.append_cancel_left e1
    subst e0 e2
    rw [Bool.and_eq_true, beq_iff_eq, beq_iff_eq]
    exact ⟨rfl, (maxL_zero _).2 hz0⟩
  · intro hh
    rw [Bool.and_eq_true, beq_iff_eq, beq_iff_eq] at hh
    refine ⟨r, ?_, (maxL_zero _).1 hh.2⟩
    rw [hlo, hj, hh.1]
    simp

set_option maxRecDepth 100000 in
set_option maxHeartbeats 4000000 in
/-- The reference's Read. -/
theorem rnread_any (v : Value) (l : List UInt8) (w : World) (hv : Bytes w 0 w.heap.size v l) :
    Calls Try.prog 26 #[v] w fun e w' => ∃ u, e = .returned (.tuple #[.agg #[.int .i64 (readNd l).level, u], .int .i64 (errNd l)]) ∧ Sl rItem w' w.heap.size w'.heap.size u (readNd l).items ∧ Below w.heap.size w w' := by
  have k1 := fun V hh => ropen_any v l V hh
  have hbad : errNd l ≠ 0 → readNd l = ⟨0, []⟩ := fun h => by unfold readNd; rw [if_neg h]
  have hst := (Below.refl w.heap.size w).alloc (Nat.le_refl _) (.cells #[.int .i64 0, .slice none 0 0] 54)
  have qr := LK.new w (.cells #[.int .i64 0, .slice none 0 0] 54)
  have hB : LW w _ := hst
  have hV0 := (LB.of hv (Nat.le_refl _)).step hst
  have sz_V : w.heap.size < (w.alloc (.cells #[.int .i64 0, .slice none 0 0] 54)).heap.size := by simp
  obtain ⟨av, cv, rfl, g1, g2⟩ := hv.form rfl
  obtain ⟨V, hV⟩ : ∃ V, w.alloc (.cells #[.int .i64 0, .slice none 0 0] 54) = V := ⟨_, rfl⟩
  rw [hV] at hB hV0 qr sz_V
  have hen : openE l = 0 → errNd l = (if okRd l then 0 else 8) := fun h => by unfold errNd; rw [if_pos h]
  have hen2 : openE l ≠ 0 → errNd l = openE l := fun h => by unfold errNd; rw [if_neg h]
  have hol : openE l = 0 → openL l = l.drop 4 ∧ l.length = 128 := fun h => by
    refine ⟨by unfold openL; rw [if_pos h], ?_⟩
    unfold openE at h
    by_cases hl : l.length = 128
    · exact hl
    · rw [if_neg hl] at h; cases h
  have hrd : errNd l = 0 → readNd l = ⟨(((openL l).getD 1 0).toNat : Int), ((rdAll l).getD ([], [])).1⟩ := fun h => by unfold readNd; rw [if_pos h]
  have hok : okRd l = (((openL l).getD 0 0 == 78) && decide (((openL l).getD 2 0).toNat ≤ 5) && (match rdAll l with
    | none => false
    | some s => mayN ⟨(((openL l).getD 1 0).toNat : Int), s.1⟩ && maxL s.2 == 0)) := rfl
  have hra : rdAll l = rdS ((openL l).drop 3) ((openL l).getD 2 0).toNat := rfl
  generalize errNd l = en at *
  generalize readNd l = rn at *
  generalize okRd l = okb at *
  generalize rdAll l = ra at *
  generalize openE l = eo at *
  generalize openL l = lo at *
  have HE := Lib.hid (And.intro hbad (And.intro hen (And.intro hen2 (And.intro hol (And.intro hrd (And.intro hok hra))))))
  have K1 := Lib.hid k1
  clear hbad hen hen2 hol hrd hok hra k1 hst hv
  have HQ := Lib.hid (And.intro qr (And.intro hV0 hB))
  clear qr hV0 hB
  go_enter Try.func26, Try.ntmps26
  go_upto_region 1 with (fail)
  clear hV
  go_wp2_with fail
  refine (K1.out _ HQ.out.2.1.v).mono ?_
  rintro e w1 ⟨ub, rfl, hm⟩
  obtain ⟨qr, hV0, hB⟩ := HQ.out
  clear HQ
  have hO := (LM.of hm).b
  have hst := hm.below
  clear hm
  have sz_w1 : V.heap.size ≤ w1.heap.size := hst.size
  replace qr := qr.step hst
  replace hV0 := hV0.step hst
  replace hB := hB.step hst
  clear hst
  have HQ := Lib.hid (And.intro qr (And.intro hV0 (And.intro hO hB)))
  clear qr hV0 hO hB
  by_cases he : eo = 0
  case neg =>
    have hee := HE.out.2.2.1 he
    have hrn := HE.out.1 (by rw [hee]; exact he)
    subst hee
    subst hrn
    have i1 : (en != 0) = true := by simp [he]
    have c_qr0 := LK.cell HQ.out.1 0
    have c_qr1 := LK.cell HQ.out.1 1
    have z_qr0 := LK.frozen HQ.out.1 0
    have z_qr1 := LK.frozen HQ.out.1 1
    simp at c_qr0 c_qr1
    have hBf := HQ.out.2.2.2
    obtain ⟨au, cu2, rfl, -, -⟩ := (HQ.out.2.2.1.v).form rfl
    go_wp2
    refine bodyPost_ret (v := .tuple #[.agg #[.int .i64 0, .slice none 0 0], .int .i64 en]) (by simp [results, Try.results26, go_sem, c_qr0, c_qr1]) rfl ⟨_, rfl, Sl.nil_ _ _ _, ?_⟩
    exact (Below.setCell hBf (p := ⟨w.heap.size, 0, none⟩) (Nat.le_refl _) _).setCell (p := ⟨w.heap.size, 1, none⟩) (Nat.le_refl _) _
  subst he
  obtain ⟨hlo, hl128⟩ := HE.out.2.2.2.1 rfl
  have hlol : lo.length = 124 := by rw [hlo]; simp; omega
  have hen := HE.out.2.1 rfl
  obtain ⟨bb, bo, cb, rfl, -, zb, zc1, zc2, hcell⟩ := HQ.out.2.2.1.v.at_n hlol (by omega)
  have d1 := hcell 1 (lo.getD 1 0) (by simp [hlol])
  have e2 : lo[2]? = some (lo.getD 2 0) := by simp [hlol]
  have hsam := fun (its : List ItemL) (r : List UInt8) => sam_law (lo := lo) (x0 := lo.getD 0 0) (x1 := lo.getD 1 0) (x2 := lo.getD 2 0) (its := its) (r := r) (by omega) rfl rfl rfl
  obtain ⟨x0, hx0⟩ : ∃ x, lo.getD 0 0 = x := ⟨_, rfl⟩
  obtain ⟨x1, hx1⟩ : ∃ x, lo.getD 1 0 = x := ⟨_, rfl⟩
  obtain ⟨x2, hx2⟩ : ∃ x, lo.getD 2 0 = x := ⟨_, rfl⟩
  rw [hx1] at d1
  rw [hx2] at e2
  rw [hx0, hx1, hx2] at hsam
  simp only [bV] at d1
  have hok := HE.out.2.2.2.2.2.1
  rw [hx0, hx1, hx2] at hok
  have hra := HE.out.2.2.2.2.2.2
  rw [hx2] at hra
  have hrn := HE.out.2.2.2.2.1
  rw [hx1] at hrn
  have hr0 := HE.out.1
  have b1 : (x1.toNat : Int) < 256 := by have := x1.toNat_lt; omega
  have b2 : (x2.toNat : Int) < 256 := by have := x2.toNat_lt; omega
  have HR := Lib.hid (And.intro hlol (And.intro hen (And.intro hok (And.intro hra (And.intro hrn (And.intro hr0 (And.intro hsam e2)))))))
  have hcm : cb ≤ maxLen := zc2
  unfold maxLen at zc2
  have hcut := cutS_run bb bo 124 cb 3 (by omega) (by omega) hcm
  have HCUT := Lib.hid hcut.2
  have s1 : ∀ W : World, (Instr.sliceAt 22 (.slice (some ⟨bb, bo, none⟩) 124 cb) (some (.int .i64 3)) none none).run Try.prog W = .ok (.slice (some ⟨bb, bo + 3, none⟩) 121 (cb - 3)) W := hcut.1
  clear hlo hl128 hlol hen hcell hx0 hx1 hx2 hok hra hrn hr0 HE hcut hcm hsam e2
  go_upto_region 5 with (fail)
  obtain ⟨qr, hV0, hO, hB⟩ := HQ.out
  clear HQ
  have hst := (Below.refl w1.heap.size w1).alloc (Nat.le_refl _) (.cells #[.int .i64 (x1.toNat : Int), .slice none 0 0] 54)
  have hlt : w1.heap.size < (w1.alloc (.cells #[.int .i64 (x1.toNat : Int), .slice none 0 0] 54)).heap.size := by simp
  have qn := LK.new w1 (.cells #[.int .i64 (x1.toNat : Int), .slice none 0 0] 54)
  replace qr := qr.step hst
  replace hV0 := hV0.step hst
  replace hO := hO.step hst
  replace hB := hB.step hst
  obtain ⟨w2, hw⟩ : ∃ v, w1.alloc (.cells #[.int .i64 (x1.toNat : Int), .slice none 0 0] 54) = v := ⟨_, rfl⟩
  rw [hw] at hlt qn qr hV0 hO hB ⊢
  clear hw hst
  have sz_w2 := hlt
  clear hlt
  have HQ := Lib.hid (And.intro qr (And.intro hV0 (And.intro hO (And.intro qn hB))))
  clear qr hV0 hO qn hB
  have c_qn0 := LK.cell HQ.out.2.2.2.1 0
  have c_qn1 := LK.cell HQ.out.2.2.2.1 1
  simp at c_qn0 c_qn1
  clear d1
  have hr3 := HCUT.out _ _ _ _ (Lv.get HQ.out.2.2.1) HR.out.1
  obtain ⟨qr, hV0, hO, qn, hB⟩ := HQ.out
  clear HQ
  have hRest := LB.of (V := w2) hr3 (by omega)
  have hW2 : LW w2 w2 := Below.refl _ _
  clear hr3
  clear hV0
  have HQ := Lib.hid (And.intro qr (And.intro hO (And.intro hRest (And.intro hW2 (And.intro qn hB)))))
  clear qr hO hRest hW2 qn hB
  have hbox := HQ.out.2.2.2.2.1
  have HB2 := Lib.hid hbox
  clear hbox
  go_wp2_with fail
  clear s1
  go_loopw [7, 8] (fun s i wr => ∃ (j : Nat) (its : List ItemL) (r : List UInt8) (ro rc : Nat) (ar : Option Addr) (cr : Nat), (j ≤ x2.toNat ∧ j ≤ 6) ∧ i = .int .i64 j ∧ rdS (lo.drop 3) j = some (its, r) ∧ s = .slice (some ⟨bb, ro, none⟩) r.length rc ∧ r.length ≤ rc ∧ rc ≤ 9223372036854775807 ∧ Bytes wr 0 w1.heap.size (.slice (some ⟨bb, ro, none⟩) r.length rc) r ∧ (its.length = j ∧ r.length ≤ 121) ∧ wr.heap[w1.heap.size]? = some (.cells #[.int .i64 (x1.toNat : Int), .slice ar its.length cr] 54 (0, 0)) ∧ OwnR rItemT w2.heap.size 85 w2.heap.size (boxS w1.heap.size 1) wr (.slice ar its.length cr) its ∧ Below w1.heap.size w2 wr) (fun _ i _ => x2.toNat - (intOf i).toNat)
  case atStart => exact ⟨0, [], lo.drop 3, bo + 3, cb - 3, none, 0, ⟨Nat.zero_le _, Nat.zero_le _⟩, rfl, rfl, by rw [List.length_drop, HR.out.1], by rw [List.length_drop, HR.out.1]; omega, by omega, by have := Bytes.more (Lv.get HQ.out.2.2.1) (Nat.zero_le _) (Nat.le_refl _); rw [List.length_drop, HR.out.1]; exact this, ⟨rfl, by rw [List.length_drop, HR.out.1]; omega⟩, HB2.out.blk, OwnR.nil_ _ _ _ _ _ _, Below.refl _ _⟩
  case round =>
  obtain ⟨j, its, r, ro, rc, ar, cr, ⟨hj, hj6⟩, rfl, hrd, rfl, hrc1, hrc2, hbr, ⟨hl1, hl3⟩, qbox, hown, hBr⟩ := hrel
  clear c_qn0 c_qn1
  have d2r := (hBr.cell (p := ⟨bb, bo + 2, none⟩) zb).trans (Bytes.cellAt HQ.out.2.1.v 2 x2 HR.out.2.2.2.2.2.2.2)
  simp only [bV] at d2r
  have qres := (hBr.block w.heap.size (by omega)).trans HQ.out.1.blk
  have hBw := Below.trans HQ.out.2.2.2.2.2 (hBr.mono (by omega))
  have HL1 := Lib.hid hl1
  clear hl1
  by_cases hlt : j < x2.toNat ∧ j ≤ 5
  · obtain ⟨hlt, h5⟩ := hlt
    have hb1 : Bytes wr 0 wr.heap.size (.slice (some ⟨bb, ro, none⟩) r.length rc) r := hbr.more (Nat.le_refl _) (by have := hBr.size; omega)
    have k_rd := rread_any _ r wr hb1
    simp only [itemV, bV, wV] at k_rd
    have hrdn : readOk r = false → rdS (lo.drop 3) (j + 1) = none := fun h => by rw [rdS, hrd]; simp [h]
    have hrdy : readOk r = true → rdS (lo.drop 3) (j + 1) = some (its ++ [readI r], r.drop (readN r)) := fun h => by rw [rdS, hrd]; simp [h]
    have hrn := fun h => readN_le (s := r) h
    have hrf : readOk r = true → (Lit.int .i64 (readI r).ref).wf = true := fun h => by
      have := may_ref (item_read r h).1
      exact WalkArith.wf_i64 (by omega)
    obtain ⟨x, hx⟩ : ∃ x, readI r = x := ⟨_, rfl⟩
    obtain ⟨N, hN⟩ : ∃ N, readN r = N := ⟨_, rfl⟩
    rw [hx] at k_rd hrdy hrf
    rw [hN] at k_rd hrdy hrn
    have KR := Lib.hid k_rd
    have HP := Lib.hid (And.intro hbr (And.intro qbox (And.intro hown (And.intro hBr (And.intro hrdn (And.intro hrdy (And.intro hrn (And.intro hrf (And.intro qres hBw)))))))))
    clear k_rd hbr qbox hown hBr hrdn hrdy hrn hrf qres hBw hx hN hrd hb1
    go_wp2_with fail
    refine KR.out.mono ?_
    rintro e z ⟨u, rfl, hm⟩
    obtain ⟨vn, hvn⟩ : ∃ vn, x.val.length = vn := ⟨_, rfl⟩
    obtain ⟨au, cu, rfl, -, -⟩ := hm.bytes.form hvn
    clear hvn d2r
    go_upto_region 10 with (fail)
    have hst2 := (Below.refl z.heap.size z).alloc (Nat.le_refl _) (.cells #[.int .u8 (x.key.kind.toNat : Int), .int .u32 (x.key.id.toNat : Int), .int .u32 (x.key.off.toNat : Int), .int .i64 x.ref, .slice au vn cu] 85)
    have qx := World.alloc_heap_new z (.cells #[.int .u8 (x.key.kind.toNat : Int), .int .u32 (x.key.id.toNat : Int), .int .u32 (x.key.off.toNat : Int), .int .i64 x.ref, .slice au vn cu] 85)
    have sz_z := hm.below.size
    have sz_z2 : z.heap.size < (z.alloc (.cells #[.int .u8 (x.key.kind.toNat : Int), .int .u32 (x.key.id.toNat : Int), .int .u32 (x.key.off.toNat : Int), .int .i64 x.ref, .slice au vn cu] 85)).heap.size := by simp
    obtain ⟨z2, hz2⟩ : ∃ v, z.alloc (.cells #[.int .u8 (x.key.kind.toNat : Int), .int .u32 (x.key.id.toNat : Int), .int .u32 (x.key.off.toNat : Int), .int .i64 x.ref, .slice au vn cu] 85) = v := ⟨_, rfl⟩
    rw [hz2] at hst2 qx sz_z2 ⊢
    clear hz2
    have szr := HP.out.2.2.2.1.size
    have qn2 := (hst2.block _ (by omega)).trans ((hm.below.block _ (by omega)).trans HP.out.2.1)
    have qr2 := (hst2.block w.heap.size (by omega)).trans ((hm.below.block _ (by omega)).trans HP.out.2.2.2.2.2.2.2.2.1)
    have hBw2 := below_step (below_step HP.out.2.2.2.2.2.2.2.2.2 (Below.size HP.out.2.2.2.2.2.2.2.2.2) hm.below) (by have := (Below.size HP.out.2.2.2.2.2.2.2.2.2); omega) hst2
    cases hok : readOk r
    case false =>
      have hkb : okb = false := by
        rw [HR.out.2.2.1, HR.out.2.2.2.1, rdS_none (HP.out.2.2.2.2.1 hok) x2.toNat (by omega)]
        simp
      have hen := HR.out.2.1
      rw [hkb] at hen
      simp only [Bool.false_eq_true, if_false] at hen
      subst hen
      have hrn := HR.out.2.2.2.2.2.1 (by decide)
      subst hrn
      have c_qr0 := blk_cell qr2 0
      have c_qr1 := blk_cell qr2 1
      simp at c_qr0 c_qr1
      have z_qr0 := blk_frozen qr2 0
      have z_qr1 := blk_frozen qr2 1
      have hBf := hBw2
      have me8 : mayE false = 8 := rfl
      rw [me8]
      clear hkb hok
      go_wp2
      refine bodyPost_ret (v := .tuple #[.agg #[.int .i64 0, .slice none 0 0], .int .i64 8]) (by simp [results, Try.results26, go_sem, c_qr0, c_qr1]) rfl ⟨_, rfl, Sl.nil_ _ _ _, ?_⟩
      exact (Below.setCell hBf (p := ⟨w.heap.size, 0, none⟩) (Nat.le_refl _) _).setCell (p := ⟨w.heap.size, 1, none⟩) (Nat.le_refl _) _
    have me0 : mayE true = 0 := rfl
    rw [me0]
    obtain ⟨hN1, hN2⟩ := HP.out.2.2.2.2.2.2.1 hok
    have hrdy := HP.out.2.2.2.2.2.1 hok
    have hrf := HP.out.2.2.2.2.2.2.2.1 hok
    obtain ⟨ro2, s2, hcut2⟩ := cutE_run bb ro r.length rc N (by omega) (by omega) (by unfold maxLen; omega)
    have hbr2 := hcut2 wr _ _ _ HP.out.1 rfl
    have y0 := blk_cell qn2 0
    have y1 := blk_cell qn2 1
    have yf := blk_frozen qn2 1
    have x_0 := blk_cell qx 0
    have x_1 := blk_cell qx 1
    have x_2 := blk_cell qx 2
    have x_3 := blk_cell qx 3
    have x_4 := blk_cell qx 4
    simp at y0 y1 x_0 x_1 x_2 x_3 x_4
    have hS0 : ∀ q, wr.heap.size ≤ q → boxS w1.heap.size 1 q = false := fun q hq => boxS_no (by omega)
    obtain ⟨hra, hrb⟩ := row_item1 HP.out.2.2.1 hS0 hm.below z2 hst2 hm.bytes hm.thawed (show w2.heap.size ≤ wr.heap.size from szr) hrf 85
    simp only [bV, wV] at hra hrb
    have hrl := HP.out.2.2.1.lt
    have HZ := Lib.hid (And.intro hra (And.intro hrb (And.intro hrdy (And.intro hbr2 (And.intro qn2 (And.intro qx (And.intro hst2 (And.intro hm.below (And.intro hrl hS0)))))))))
    clear hra hrb hrdy hrf hbr2 qn2 qx qr2 hst2 hBw2 hrl hS0 hm hcut2 hok me0
    go_wp2_with (at_builtin; have hSS : ∀ q, (z2.alloc (.cells #[.int .u8 (x.key.kind.toNat : Int), .int .u32 (x.key.id.toNat : Int), .int .u32 (x.key.off.toNat : Int), .int .i64 x.ref, .slice au vn cu] 85)).heap.size ≤ q → boxS w1.heap.size 1 q = false := (fun q hq => boxS_no (by rw [World.size_alloc] at hq; omega)); refine wpList_appR rItemT_ck rfl (.tmp 50) (.tmp 52) 52 rfl 85 (.agg #[.int .u8 0, .int .u32 0, .int .u32 0, .int .i64 0, .slice none 0 0]) 48 Try.underlying52 (by kernel_rfl) rfl (by decide) w2.heap.size w2.heap.size (boxS w1.heap.size 1) (.slice ar its.length cr) its [x] rfl HZ.out.1 hSS ⟨z2.heap.size, 0, none⟩ 1 [.int .u8 (x.key.kind.toNat : Int), .int .u32 (x.key.id.toNat : Int), .int .u32 (x.key.off.toNat : Int), .int .i64 x.ref, .slice au vn cu] rfl rfl (news_one #[.int .u8 (x.key.kind.toNat : Int), .int .u32 (x.key.id.toNat : Int), .int .u32 (x.key.off.toNat : Int), .int .i64 x.ref, .slice au vn cu] 85) (by intro u hu; simp at hu; rcases hu with rfl | rfl | rfl | rfl | rfl <;> rfl) HZ.out.2.1 (by have := HL1.out; show its.length + 1 ≤ 1000000; omega) (by decide) (by rw [World.size_alloc]; omega) ?_; clear hSS; intro a4 c4 z4 hown4 hB4 hf4; have hal1 : w1.heap.size < (z2.alloc (.cells #[.int .u8 (x.key.kind.toNat : Int), .int .u32 (x.key.id.toNat : Int), .int .u32 (x.key.off.toNat : Int), .int .i64 x.ref, .slice au vn cu] 85)).heap.size := (by rw [World.size_alloc]; omega); have k5 := ((hf4 _ hal1 (fun e => by have := (HZ.out.2.2.2.2.2.2.2.2.1 _ e).1; omega)).trans (Below.heap_alloc z2 _ _ (by omega))).trans HZ.out.2.2.2.2.1; rw [show (its ++ [x]).length = its.length + 1 by simp] at hown4 ⊢; clear y0 y1 yf x_0 x_1 x_2 x_3 x_4; have j1 := blk_cell k5 1; have jf := blk_frozen k5 1; simp at j1; have HO := Lib.hid (And.intro hown4 (And.intro hB4 k5)); clear hown4 hB4 k5 hf4 hal1)
    go_roundw
    case rel =>
      obtain ⟨hown4, hB4, k5⟩ := HO.out
      have hBa : Below w1.heap.size wr z := HZ.out.2.2.2.2.2.2.2.1.mono (by omega)
      have hBb : Below w1.heap.size z z2 := HZ.out.2.2.2.2.2.2.1.mono (by omega)
      have hBc := (hBa.trans hBb).alloc (by omega : w1.heap.size ≤ z2.heap.size) (.cells #[.int .u8 (x.key.kind.toNat : Int), .int .u32 (x.key.id.toNat : Int), .int .u32 (x.key.off.toNat : Int), .int .i64 x.ref, .slice au vn cu] 85)
      have hBd : Below w1.heap.size wr z4 := hBc.trans (hB4.mono (by omega))
      have hBn : Below w1.heap.size wr (z4.setCell ⟨w1.heap.size, 1, none⟩ (.slice a4 (its.length + 1) c4)) := hBd.setCell (p := ⟨w1.heap.size, 1, none⟩) (Nat.le_refl _) _
      have hls : (its ++ [x]).length = its.length + 1 := by simp
      have hld : (r.drop N).length = r.length - N := List.length_drop
      refine ⟨j + 1, its ++ [x], r.drop N, ro2, rc - N, a4, c4, ⟨by omega, by omega⟩, by go_num, HZ.out.2.2.1, by rw [hld], by omega, by omega, ?_, ⟨by rw [hls, HL1.out], by omega⟩, ?_, ?_, HP.out.2.2.2.1.trans hBn⟩
      · rw [hld]
        exact HZ.out.2.2.2.1.below hBn (Nat.le_refl _)
      · rw [hls]
        exact set_block k5 1 _
      · rw [hls]
        exact hown4.setS rItemT_ck ⟨w1.heap.size, 1, none⟩ _ (boxS_yes (Nat.le_refl _) (by show w1.heap.size < w1.heap.size + 1; omega))
    case measure => simp [intOf]; omega
  have hend : j = x2.toNat ∨ (j = 6 ∧ j < x2.toNat) := by omega
  have hsl := hown.sl rItemT_ck (lo' := w2.heap.size) (Nat.le_refl _) (Nat.le_refl _)
  have hsl1 := sl_itemT hsl
  have szr := hBr.size
  have k_m := fun V hh => rnmay_any ⟨(x1.toNat : Int), its⟩ (.slice ar its.length cr) V hh
  have k_t := fun V hh hm => rntold_any ⟨(x1.toNat : Int), its⟩ (.slice ar its.length cr) V hh hm
  have k_s := fun V u hh h2 => rnsam_any (.slice (some ⟨bb, bo, none⟩) 124 cb) u lo (bytesN ⟨(x1.toNat : Int), its⟩) V hh h2
  have hans : okb = (mayN ⟨(x1.toNat : Int), its⟩ && samZ lo (bytesN ⟨(x1.toNat : Int), its⟩)) := by
    rcases hend with rfl | ⟨rfl, h6⟩
    · by_cases h5 : x2.toNat ≤ 5
      · rw [HR.out.2.2.1, HR.out.2.2.2.1, hrd, HR.out.2.2.2.2.2.2.1 its r hrd]
        simp only [h5, decide_true, Bool.and_true]
        cases x0 == 78 <;> cases mayN ⟨(x1.toNat : Int), its⟩ <;> simp
      · have hm : mayN ⟨(x1.toNat : Int), its⟩ = false := by
          rw [Bool.eq_false_iff]
          intro e
          have := (mayN_all e).2.1
          have := HL1.out
          simp only at *
          omega
        rw [hm, HR.out.2.2.1]
        simp [h5]
    · have hm : mayN ⟨(x1.toNat : Int), its⟩ = false := by
        rw [Bool.eq_false_iff]
        intro e
        have := (mayN_all e).2.1
        have := HL1.out
        simp only at *
        omega
      rw [hm, HR.out.2.2.1]
      have h5 : ¬ x2.toNat ≤ 5 := by omega
      simp [h5]
  have hits : mayN ⟨(x1.toNat : Int), its⟩ = true → rdS (lo.drop 3) x2.toNat = some (its, r) := fun e => by
    have := (mayN_all e).2.1
    have := HL1.out
    simp only at *
    rcases hend with rfl | ⟨rfl, h6⟩
    · exact hrd
    · omega
  have hrn1 : en = 0 → mayN ⟨(x1.toNat : Int), its⟩ = true → rn = ⟨(x1.toNat : Int), its⟩ := fun h e => by
    rw [HR.out.2.2.2.2.1 h, HR.out.2.2.2.1, hits e]
    rfl
  obtain ⟨mn, hmn⟩ : ∃ mn, mayN ⟨(x1.toNat : Int), its⟩ = mn := ⟨_, rfl⟩
  obtain ⟨sz, hsz⟩ : ∃ q, samZ lo (bytesN ⟨(x1.toNat : Int), its⟩) = q := ⟨_, rfl⟩
  obtain ⟨bn, hbn⟩ : ∃ q, bytesN ⟨(x1.toNat : Int), its⟩ = q := ⟨_, rfl⟩
  rw [hmn] at k_m k_t hans hrn1
  rw [hsz] at hans k_s
  rw [hbn] at k_t k_s
  have hen := HR.out.2.1
  have hr0 := HR.out.2.2.2.2.2.1
  have HF := Lib.hid (And.intro hans (And.intro hrn1 (And.intro hen hr0)))
  have KW := Lib.hid (And.intro k_m (And.intro k_t k_s))
  have hOr := (LB.of (V := wr) ((Lv.get HQ.out.2.1).below hBr (Nat.le_refl _)) (by omega))
  have qn := LK.of qbox
  have qr2 := LK.of qres
  have S_i := LS.of hsl1 (Nat.le_refl _)
  have hB9 : LW w wr := hBw
  clear k_m k_t k_s hans hrn1 hits hen hr0 hrd hbr qbox qres hown hsl hsl1 hBr hBw hmn hsz hbn hlt
  have HQ := Lib.hid (And.intro qn (And.intro qr2 (And.intro hOr (And.intro S_i hB9))))
  clear qn qr2 hOr S_i hB9
  go_upto_region 7 with (fail)
  go_cut [37] (fun t wx => t = .bool false ∧ wr = wx)
  case first =>
    rcases hend with rfl | ⟨rfl, h6⟩
    · go_wp2
      go_meet
      exact ⟨rfl, rfl⟩
    · have i6 : (6 : Int) < x2.toNat := by omega
      go_wp2
      go_meet
      exact ⟨rfl, rfl⟩
  case rest =>
  obtain ⟨rfl, hwx⟩ := hcut
  subst hwx
  clear d2r hend
  have c_qn0 := LK.cell HQ.out.1 0
  have c_qn1 := LK.cell HQ.out.1 1
  simp at c_qn0 c_qn1
  go_wp2_with fail
  refine (KW.out.1 _ HQ.out.2.2.2.1.v).mono ?_
  rintro e w3 ⟨rfl, hst⟩
  clear c_qn0 c_qn1
  obtain ⟨qn, qr, hO, S_i, hB⟩ := HQ.out
  clear HQ
  have sz_w3 : wr.heap.size ≤ w3.heap.size := hst.size
  replace qn := qn.step hst
  replace qr := qr.step hst
  replace hO := hO.step hst
  replace S_i := S_i.step hst
  replace hB := hB.step hst
  clear hst
  have HQ := Lib.hid (And.intro qn (And.intro qr (And.intro hO (And.intro S_i hB))))
  clear qn qr hO S_i hB
  have c_qn0 := LK.cell HQ.out.1 0
  have c_qn1 := LK.cell HQ.out.1 1
  simp at c_qn0 c_qn1
  cases mn
  case false =>
    have hkb : okb = false := by
      rw [HF.out.1]
      rfl
    have hen := HF.out.2.2.1
    rw [hkb] at hen
    simp only [Bool.false_eq_true, if_false] at hen
    subst hen
    have hrn := HF.out.2.2.2 (by decide)
    subst hrn
    clear hkb
    clear c_qn0 c_qn1
    have c_qr0 := LK.cell HQ.out.2.1 0
    have c_qr1 := LK.cell HQ.out.2.1 1
    have z_qr0 := LK.frozen HQ.out.2.1 0
    have z_qr1 := LK.frozen HQ.out.2.1 1
    simp at c_qr0 c_qr1
    have hBf := HQ.out.2.2.2.2
    go_wp2
    refine bodyPost_ret (v := .tuple #[.agg #[.int .i64 0, .slice none 0 0], .int .i64 8]) (by simp [results, Try.results26, go_sem, c_qr0, c_qr1]) rfl ⟨_, rfl, Sl.nil_ _ _ _, ?_⟩
    exact (Below.setCell hBf (p := ⟨w.heap.size, 0, none⟩) (Nat.le_refl _) _).setCell (p := ⟨w.heap.size, 1, none⟩) (Nat.le_refl _) _
  go_wp2_with fail
  refine (KW.out.2.1 _ HQ.out.2.2.2.1.v (by trivial)).mono ?_
  rintro e w4 ⟨tb, rfl, hm⟩
  clear c_qn0 c_qn1
  obtain ⟨qn, qr, hO, S_i, hB⟩ := HQ.out
  clear HQ
  have B_t := (LM.of hm).b
  have hst := hm.below
  obtain ⟨ta, tc, rfl, -, -⟩ := hm.bytes.form rfl
  clear hm
  have sz_w4 : w3.heap.size ≤ w4.heap.size := hst.size
  replace qn := qn.step hst
  replace qr := qr.step hst
  replace hO := hO.step hst
  replace S_i := S_i.step hst
  replace hB := hB.step hst
  clear hst
  have HQ := Lib.hid (And.intro qn (And.intro qr (And.intro hO (And.intro S_i (And.intro B_t hB)))))
  clear qn qr hO S_i B_t hB
  have c_qn0 := LK.cell HQ.out.1 0
  have c_qn1 := LK.cell HQ.out.1 1
  simp at c_qn0 c_qn1
  go_wp2_with fail
  refine (KW.out.2.2 _ _ HQ.out.2.2.1.v HQ.out.2.2.2.2.1.v).mono ?_
  rintro e w5 ⟨rfl, hst⟩
  clear c_qn0 c_qn1
  obtain ⟨qn, qr, hO, S_i, B_t, hB⟩ := HQ.out
  clear HQ
  have sz_w5 : w4.heap.size ≤ w5.heap.size := hst.size
  replace qn := qn.step hst
  replace qr := qr.step hst
  replace hO := hO.step hst
  replace S_i := S_i.step hst
  replace B_t := B_t.step hst
  replace hB := hB.step hst
  clear hst
  have HQ := Lib.hid (And.intro qn (And.intro qr (And.intro hO (And.intro S_i (And.intro B_t hB)))))
  clear qn qr hO S_i B_t hB
  have c_qn0 := LK.cell HQ.out.1 0
  have c_qn1 := LK.cell HQ.out.1 1
  simp at c_qn0 c_qn1
  cases sz
  case false =>
    have hkb : okb = false := by
      rw [HF.out.1]
      rfl
    have hen := HF.out.2.2.1
    rw [hkb] at hen
    simp only [Bool.false_eq_true, if_false] at hen
    subst hen
    have hrn := HF.out.2.2.2 (by decide)
    subst hrn
    clear hkb
    clear c_qn0 c_qn1
    have c_qr0 := LK.cell HQ.out.2.1 0
    have c_qr1 := LK.cell HQ.out.2.1 1
    have z_qr0 := LK.frozen HQ.out.2.1 0
    have z_qr1 := LK.frozen HQ.out.2.1 1
    simp at c_qr0 c_qr1
    have hBf := HQ.out.2.2.2.2.2
    go_wp2
    refine bodyPost_ret (v := .tuple #[.agg #[.int .i64 0, .slice none 0 0], .int .i64 8]) (by simp [results, Try.results26, go_sem, c_qr0, c_qr1]) rfl ⟨_, rfl, Sl.nil_ _ _ _, ?_⟩
    exact (Below.setCell hBf (p := ⟨w.heap.size, 0, none⟩) (Nat.le_refl _) _).setCell (p := ⟨w.heap.size, 1, none⟩) (Nat.le_refl _) _
  have hkb : okb = true := by rw [HF.out.1]; rfl
  have hen := HF.out.2.2.1
  rw [hkb] at hen
  simp only [if_true] at hen
  subst hen
  have hrn := HF.out.2.1 rfl (by trivial)
  subst hrn
  clear hkb
  clear c_qn0 c_qn1
  have c_qr0 := LK.cell HQ.out.2.1 0
  have c_qr1 := LK.cell HQ.out.2.1 1
  have z_qr0 := LK.frozen HQ.out.2.1 0
  have z_qr1 := LK.frozen HQ.out.2.1 1
  have c_qn0 := LK.cell HQ.out.1 0
  have c_qn1 := LK.cell HQ.out.1 1
  simp at c_qr0 c_qr1 c_qn0 c_qn1
  have hBf := HQ.out.2.2.2.2.2
  have hS := HQ.out.2.2.2.1
  go_wp2
  refine bodyPost_ret (v := .tuple #[.agg #[.int .i64 (x1.toNat : Int), .slice ar its.length cr], .int .i64 0]) (by simp [results, Try.results26, go_sem, c_qr0, c_qr1]) rfl ⟨_, rfl, ?_, (Below.setCell hBf (p := ⟨w.heap.size, 0, none⟩) (Nat.le_refl _) _).setCell (p := ⟨w.heap.size, 1, none⟩) (Nat.le_refl _) _⟩
  have hk2 : ∀ x, x ≠ w.heap.size → ((w5.setCell ⟨w.heap.size, 0, none⟩ (.int .i64 (x1.toNat : Int))).setCell ⟨w.heap.size, 1, none⟩ (.slice ar its.length cr)).heap[x]? = w5.heap[x]? := fun x h => (set_other _ _ _ _ x h).trans (set_other w5 _ _ _ x h)
  have hsx : ((w5.setCell ⟨w.heap.size, 0, none⟩ (.int .i64 (x1.toNat : Int))).setCell ⟨w.heap.size, 1, none⟩ (.slice ar its.length cr)).heap.size = w5.heap.size := by simp only [World.size_setCell]
  have hSo := Lv.get (hS.out (n0 := w.heap.size) (h0 := w.heap.size + 1) (Nat.le_of_eq hsx.symm) (fun x _ h => hk2 x (by omega)) (by omega))
  exact hSo.more (by omega) (by rw [hsx]; omega)
end Go.Proofs.Ythealkfpflkipaa

namespace Go.Proofs.Ythealkfpflkipaa
open Go.RowKit

set_option maxRecDepth 100000 in
set_option maxHeartbeats 2000000 in
theorem rsitems_any (v u : Value) (l m : List ItemL) (w : World) (hv : Sl rItem w 0 w.heap.size v l) (hu : Sl rItem w 0 w.heap.size u m) :
    Calls Try.prog 62 #[v, u] w fun e w' => e = .returned (.bool (decide (l = m))) ∧ Below w.heap.size w w' := by
  have HV := Lib.hid hv
  have HU := Lib.hid hu
  obtain ⟨av, cv, rfl, g1, g2, -, -⟩ := hv
  obtain ⟨au, cu, rfl, g3, g4, -, -⟩ := hu
  obtain ⟨r, hr⟩ : ∃ r, decide (l = m) = r := ⟨_, rfl⟩
  rw [hr]
  have HR := Lib.hid hr
  clear hr
  go_enter Try.func62, Try.ntmps62
  by_cases hl : l.length = m.length
  case neg =>
    obtain rfl : r = false := by
      rw [← HR.out]
      exact decide_eq_false (fun e => hl (by rw [e]))
    have i1 : ¬ (l.length : Int) = m.length := by omega
    go_wp2
    go_ret
    exact ⟨rfl, Below.refl _ _⟩
  have i1 : ((l.length : Int) != m.length) = false := by simp; omega
  have HL := Lib.hid hl
  have hlm : l.length ≤ m.length := by omega
  clear hl
  go_wp2_with fail
  go_loopw [5] (fun i wr => ∃ k : Nat, k ≤ l.length ∧ i = .int .i64 k ∧ Below w.heap.size w wr ∧ ∀ j, j < k → l.getD j nokI = m.getD j nokI) (fun i _ => l.length - (intOf i).toNat)
  case atStart => exact ⟨0, Nat.zero_le _, rfl, Below.refl _ _, fun j hj => absurd hj (Nat.not_lt_zero _)⟩
  case round =>
  obtain ⟨k, hk, rfl, hB, hall⟩ := hrel
  by_cases hlt : k < l.length
  · obtain ⟨b1, o1, c1, e1, -, hz1, -, z3, hb1⟩ := HV.out.at_ (by omega)
    injection e1 with ea _ ec
    subst ea ec
    obtain ⟨b2, o2, c2, e2, -, hz2, -, z3', hb2⟩ := HU.out.at_ (by omega)
    injection e2 with ea _ ec
    subst ea ec
    obtain ⟨f0, f1, f2, f3, -, x, f4, hxb⟩ := hb1 k (l.getD k nokI) (get_l _ _ _ hlt)
    obtain ⟨h0, h1, h2, h3, -, y, h4, hyb⟩ := hb2 k (m.getD k nokI) (get_l _ _ _ (by omega))
    obtain ⟨X, hX⟩ : ∃ X, l.getD k nokI = X := ⟨_, rfl⟩
    obtain ⟨Y, hY⟩ : ∃ Y, m.getD k nokI = Y := ⟨_, rfl⟩
    rw [hX] at f0 f1 f2 f3 hxb
    rw [hY] at h0 h1 h2 h3 hyb
    obtain ⟨xn, hxn⟩ : ∃ xn, X.val.length = xn := ⟨_, rfl⟩
    obtain ⟨yn, hyn⟩ : ∃ yn, Y.val.length = yn := ⟨_, rfl⟩
    obtain ⟨a1, k1, rfl, -, -⟩ := hxb.form hxn
    obtain ⟨a2, k2, rfl, -, -⟩ := hyb.form hyn
    have hz1b : b1 < wr.heap.size := Nat.lt_of_lt_of_le hz1 hB.size
    have hz2b : b2 < wr.heap.size := Nat.lt_of_lt_of_le hz2 hB.size
    have hn5 : rItem.n = 5 := rfl
    rw [hn5] at f0 f1 f2 f3 f4 h0 h1 h2 h3 h4
    simp only [bV, wV, Nat.add_zero] at f0 f1 f2 f3 f4 h0 h1 h2 h3 h4
    replace f0 := fun X => ((aft_below wr X).cell (p := ⟨b1, o1 + k * 5, none⟩) hz1b).trans ((hB.cell (p := ⟨b1, o1 + k * 5, none⟩) hz1).trans f0)
    replace f1 := fun X => ((aft_below wr X).cell (p := ⟨b1, o1 + k * 5 + 1, none⟩) hz1b).trans ((hB.cell (p := ⟨b1, o1 + k * 5 + 1, none⟩) hz1).trans f1)
    replace f2 := fun X => ((aft_below wr X).cell (p := ⟨b1, o1 + k * 5 + 2, none⟩) hz1b).trans ((hB.cell (p := ⟨b1, o1 + k * 5 + 2, none⟩) hz1).trans f2)
    replace f3 := fun X => ((aft_below wr X).cell (p := ⟨b1, o1 + k * 5 + 3, none⟩) hz1b).trans ((hB.cell (p := ⟨b1, o1 + k * 5 + 3, none⟩) hz1).trans f3)
    replace f4 := fun X => ((aft_below wr X).cell (p := ⟨b1, o1 + k * 5 + 4, none⟩) hz1b).trans ((hB.cell (p := ⟨b1, o1 + k * 5 + 4, none⟩) hz1).trans f4)
    replace h0 := fun X => ((aft_below wr X).cell (p := ⟨b2, o2 + k * 5, none⟩) hz2b).trans ((hB.cell (p := ⟨b2, o2 + k * 5, none⟩) hz2).trans h0)
    replace h1 := fun X => ((aft_below wr X).cell (p := ⟨b2, o2 + k * 5 + 1, none⟩) hz2b).trans ((hB.cell (p := ⟨b2, o2 + k * 5 + 1, none⟩) hz2).trans h1)
    replace h2 := fun X => ((aft_below wr X).cell (p := ⟨b2, o2 + k * 5 + 2, none⟩) hz2b).trans ((hB.cell (p := ⟨b2, o2 + k * 5 + 2, none⟩) hz2).trans h2)
    replace h3 := fun X => ((aft_below wr X).cell (p := ⟨b2, o2 + k * 5 + 3, none⟩) hz2b).trans ((hB.cell (p := ⟨b2, o2 + k * 5 + 3, none⟩) hz2).trans h3)
    replace h4 := fun X => ((aft_below wr X).cell (p := ⟨b2, o2 + k * 5 + 4, none⟩) hz2b).trans ((hB.cell (p := ⟨b2, o2 + k * 5 + 4, none⟩) hz2).trans h4)
    have hkm : k < m.length := by omega
    have j1 : ¬ (l.length : Int) ≤ k := by omega
    have j2 : ¬ (m.length : Int) ≤ k := by omega
    unfold maxLen at z3 z3'
    have hxb' := hxb.below hB (Nat.le_refl _)
    have hyb' := hyb.below hB (Nat.le_refl _)
    have hBs := hB.size
    have hxw : Bytes wr 0 wr.heap.size _ _ := hxb'.more (Nat.le_refl 0) hBs
    have hyw : Bytes wr 0 wr.heap.size _ _ := hyb'.more (Nat.le_refl 0) hBs
    have HP := Lib.hid (And.intro hall (And.intro hB (And.intro hxw (And.intro hyw (And.intro hX hY)))))
    clear hall hB hxb hyb hxb' hyb' hX hY hb1 hb2 hxn hyn hn5 hxw hyw
    have ks := fun V hh h2 => rsame_any X Y (.slice a1 xn k1) (.slice a2 yn k2) V hh h2
    simp only [itemV, bV, wV] at ks
    have KS := Lib.hid ks
    clear ks
    go_upto_region 6 with (fail)
    refine wp_region_held_drew (S := Cls wr) (by kernel_rfl) (Cls.drew wr) (fun hCl => ?_)
    refine wpAnyH_seg (fuel := 2) (by kernel_rfl) (fun _ d _ _ _ h => by cases d <;> exact h) hCl [0, 1, 2, 3, 4, 5, 6, 7] _ _ _ (by kernel_rfl) (by kernel_rfl) ?_
    simp only [opsOf_cons, opsOf_nil, consOp_some, List.getElem?_toArray, List.getElem?_cons_succ, List.getElem?_cons_zero]
    repeat (first | go_big_quiet_step (fail) | quiet_step (fail))
    refine wpQuiet_nil ?_
    refine wpAnyH_each (fuel := 1) [8] (by kernel_rfl) (by simp) (by kernel_rfl) ?_
    refine Each.cons _ rfl (fun K' hK => ?_) Each.nil
    go_simp
    refine (KS.out _ (HP.out.2.2.1.step hCl.below) (HP.out.2.2.2.1.step hCl.below)).mono ?_
    rintro e z1 ⟨rfl, hb⟩
    have hst := below_step hCl.below hCl.below.size hb
    clear hb
    have hCl := Cls.of hst
    refine hK.out (Cls wr) (fun _ h => h) hCl ?_
    clear hK K'
    refine wpAnyH_seg (fuel := 0) (by kernel_rfl) (fun _ d _ _ _ h => by cases d <;> exact h) hCl [9] _ _ _ (by kernel_rfl) (by kernel_rfl) ?_
    simp only [opsOf_cons, opsOf_nil, consOp_some, List.getElem?_toArray, List.getElem?_cons_succ, List.getElem?_cons_zero]
    repeat (first | go_big_quiet_step (fail) | quiet_step (fail))
    refine wpQuiet_nil ?_
    refine wpAnyH_done (by kernel_rfl) ?_ _
    have hfin := below_step HP.out.2.1 HP.out.2.1.size hst
    clear hst f0 f1 f2 f3 f4 h0 h1 h2 h3 h4
    by_cases he : X = Y
    · rw [decide_eq_true he]
      have HE := Lib.hid (show l.getD k nokI = m.getD k nokI by rw [HP.out.2.2.2.2.1, HP.out.2.2.2.2.2, he])
      clear he
      go_wp2
      go_roundw
      case rel => exact ⟨k + 1, by omega, by go_num, hfin, fun j hj => by
        rcases Nat.lt_succ_iff_lt_or_eq.1 hj with hj | rfl
        · exact HP.out.1 j hj
        · exact HE.out⟩
      case measure => simp [intOf]; omega
    · rw [decide_eq_false he]
      obtain rfl : r = false := by
        rw [← HR.out]
        exact decide_eq_false (fun e => he (by rw [← HP.out.2.2.2.2.1, ← HP.out.2.2.2.2.2, e]))
      clear he
      go_wp2
      go_ret
      exact ⟨rfl, hfin⟩
  obtain rfl : k = l.length := by omega
  obtain rfl : r = true := by
    rw [← HR.out]
    exact decide_eq_true (ext_getD l m nokI HL.out hall)
  clear hall
  go_wp2
  go_ret
  exact ⟨rfl, hB⟩

set_option maxRecDepth 100000 in
set_option maxHeartbeats 2000000 in
/-- Same, of nodes. -/
theorem rnsame_any (n m : NodeL) (v u : Value) (w : World) (h : Sl rItem w 0 w.heap.size v n.items) (h' : Sl rItem w 0 w.heap.size u m.items) :
    Calls Try.prog 29 #[.agg #[.int .i64 n.level, v], .agg #[.int .i64 m.level, u]] w fun e w' => e = .returned (.bool (decide (n = m))) ∧ Below w.heap.size w w' := by
  have hst := ((Below.refl w.heap.size w).alloc (Nat.le_refl _) (.cells #[.int .i64 n.level, v] 54)).alloc (by simp) (.cells #[.int .i64 m.level, u] 54)
  have hq := two_new w (.cells #[.int .i64 n.level, v] 54) (.cells #[.int .i64 m.level, u] 54)
  have k1 := rsitems_any v u n.items m.items _ (h.step hst) (h'.step hst)
  obtain ⟨av, cv, rfl, g1, g2, -, -⟩ := h
  obtain ⟨au, cu, rfl, g1', g2', -, -⟩ := h'
  obtain ⟨V, hV⟩ : ∃ V, (w.alloc (.cells #[.int .i64 n.level, .slice av n.items.length cv] 54)).alloc (.cells #[.int .i64 m.level, .slice au m.items.length cu] 54) = V := ⟨_, rfl⟩
  rw [hV] at hst hq k1
  have c0 := blk_cell hq.1 0
  have c1 := blk_cell hq.1 1
  have c2 := blk_cell hq.2 0
  have c3 := blk_cell hq.2 1
  simp at c0 c1 c2 c3
  have hnm : decide (n = m) = (decide (n.level = m.level) && decide (n.items = m.items)) := by
    cases n
    cases m
    simp [Bool.decide_and]
  rw [hnm]
  have K1 := Lib.hid k1
  obtain ⟨bi, hbi⟩ : ∃ bi, decide (n.items = m.items) = bi := ⟨_, rfl⟩
  rw [hbi] at K1 ⊢
  clear k1 hbi hq hnm
  have HB := Lib.hid hst
  clear hst
  by_cases hl : n.level = m.level
  · have e1 : (n.level == m.level) = true := by simp [hl]
    rw [decide_eq_true hl]
    clear hl
    go_enter Try.func29, Try.ntmps29
    go_wp2_with fail
    refine K1.out.mono ?_
    rintro e w1 ⟨rfl, hst⟩
    go_wp2
    go_ret
    exact ⟨by simp, below_step HB.out HB.out.size hst⟩
  · have e1 : (n.level == m.level) = false := by simp [hl]
    rw [decide_eq_false hl]
    clear hl
    go_enter Try.func29, Try.ntmps29
    go_wp2
    go_ret
    exact ⟨by simp, HB.out⟩
end Go.Proofs.Ythealkfpflkipaa

