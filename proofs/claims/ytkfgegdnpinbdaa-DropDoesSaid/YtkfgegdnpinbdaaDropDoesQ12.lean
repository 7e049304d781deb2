/- DropDoes: the words and contracts, part 12. -/
import Derived.Test.YtkfgegdnpinbdaaDropDoesQ1
import Derived.Test.YtkfgegdnpinbdaaDropDoesQ2
import Derived.Test.YtkfgegdnpinbdaaDropDoesQ3
import Derived.Test.YtkfgegdnpinbdaaDropDoesQ4
import Derived.Test.YtkfgegdnpinbdaaDropDoesQ5
import Derived.Test.YtkfgegdnpinbdaaDropDoesQ6
import Derived.Test.YtkfgegdnpinbdaaDropDoesQ7
import Derived.Test.YtkfgegdnpinbdaaDropDoesQ8
import Derived.Test.YtkfgegdnpinbdaaDropDoesQ9
import Derived.Test.YtkfgegdnpinbdaaDropDoesQ10
import Derived.Test.YtkfgegdnpinbdaaDropDoesQ11
import Derived.WalkKit
import Derived.WalkLawsBesides
import Derived.WalkSpells
import Derived.Lib.Hide
import Derived.Laws.Rows
import Derived.Laws.AppendOwnNone
import Derived.Maps.AppendAt
import Derived.ProofKit
import Derived.Deep.Slices
import Derived.WideShapes
import Derived.RangeFuncNested
import Derived.RangeFuncBound
import Derived.RangeFuncCalls
import Derived.RangeFuncLeaves
import Derived.RangeFuncBox
import Derived.Shelf.Abstract
import Derived.Shelf.RegionOpen
import Derived.OwnWalkIn
import Derived.TacticsInMore
import Derived.LoopNIn
import Derived.LoopIn
import Derived.Lib.AppendZerosOnto
import Derived.Lib.SliceRun
import Derived.Lib.Walk
import Derived.Deep.LoopGhost
import Derived.Laws.CopyOwn
import Derived.Laws.CopyRow
import Derived.OrdersHeld
import Derived.Deep.QuietTactic
import Derived.BigQuiet
import Derived.StillTailTactics
import Derived.OpenShut
import Derived.Deep.DeepCutAuto
import Derived.Deep.RegionHeld
import Derived.Laws.MakeOwn
import Derived.KernelRfl
import Derived.BigFrameIn
namespace Go.Proofs.Ytkfgegdnpinbdaa
open Go.RowKit

theorem cutE_run (b off n c i : Nat) (hin : i ≤ n) (hnc : n ≤ c) (hcm : c ≤ maxLen) : ∃ o2 : Nat,
    (∀ w, (Instr.sliceAt 26 (.slice (some ⟨b, off, none⟩) n c) (some (.int .i64 (i : Int))) none none).run Try.prog w = .ok (.slice (some ⟨b, o2, none⟩) (n - i) (c - i)) w) ∧
    ∀ W lo hi l, Bytes W lo hi (.slice (some ⟨b, off, none⟩) n c) l → l.length = n → Bytes W lo hi (.slice (some ⟨b, o2, none⟩) (n - i) (c - i)) (l.drop i) := by
  by_cases hc : i < c
  · exact ⟨off + i, cutS_run b off n c i hin hc hcm⟩
  · refine ⟨off, fun w => ?_, fun W lo hi l hb hl => ?_⟩
    · simp [go_sem]
      rw [if_pos hin, if_pos (by omega)]
    · have hd : l.drop i = [] := List.drop_eq_nil_of_le (by omega)
      rw [hd]
      exact ⟨some ⟨b, off, none⟩, c - i, by rw [show n - i = 0 by omega]; rfl, Nat.zero_le _, by omega, fun h => absurd h (Nat.lt_irrefl 0), fun h => by cases h⟩
theorem sam_law {lo : List UInt8} {x0 x1 x2 : UInt8} {its : List ItemL} {r : List UInt8} (hl : 3 ≤ lo.length) (h0 : lo.getD 0 0 = x0) (h1 : lo.getD 1 0 = x1) (h2 : lo.getD 2 0 = x2) (h : rdS (lo.drop 3) x2.toNat = some (its, r)) :
    samZ lo (bytesN ⟨(x1.toNat : Int), its⟩) = (x0 == 78 && maxL r == 0) := by
  have hlen := (rdS_len h).1
  have hj := rdS_join _ _ _ h
  simp only at hlen hj
  have hlo : lo = [x0, x1, x2] ++ lo.drop 3 := by
    match lo, hl with
    | a :: b :: c :: l, _ => simp at h0 h1 h2; subst h0 h1 h2; rfl
  have hb : bytesN ⟨(x1.toNat : Int), its⟩ = [78, x1, x2] ++ bodyN its := by
    unfold bytesN headN
    simp only [Int.toNat_natCast, hlen]
    simp
  rw [Bool.eq_iff_iff, samZ_iff, hb]
  constructor
  · rintro ⟨z, hz, hz0⟩
    rw [hlo, hj] at hz
    simp only [List.cons_append, List.nil_append, List.cons.injEq, true_and] at hz
    obtain ⟨e0, e1⟩ := hz
    have e2 := List.append_cancel_left e1
    subst e0 e2
    rw [Bool.and_eq_true, beq_iff_eq, beq_iff_eq]
    exact ⟨rfl, (maxL_zero _).2 hz0⟩
  · intro hh
    rw [Bool.and_eq_true, beq_iff_eq, beq_iff_eq] at hh
    refine ⟨r, ?_, (maxL_zero _).1 hh.2⟩
    rw [hlo, hj, hh.1]
    simp

set_option maxRecDepth 100000 in
set_option maxHeartbeats 4000000 in
/-- The reference's Read. -/
theorem rnread_any (v : Value) (l : List UInt8) (w : World) (hv : Bytes w 0 w.heap.size v l) :
    Calls Try.prog 85 #[v] w fun e w' => ∃ u, e = .returned (.tuple #[.agg #[.int .i64 (readNd l).level, u], .int .i64 (errNd l)]) ∧ Sl rItem w' w.heap.size w'.heap.size u (readNd l).items ∧ Below w.heap.size w w' := by
  have k1 := fun V hh => ropen_any v l V hh
  have hbad : errNd l ≠ 0 → readNd l = ⟨0, []⟩ := fun h => by unfold readNd; rw [if_neg h]
  have hst := (Below.refl w.heap.size w).alloc (Nat.le_refl _) (.cells #[.int .i64 0, .slice none 0 0] 47)
  have qr := LK.new w (.cells #[.int .i64 0, .slice none 0 0] 47)
  have hB : LW w _ := hst
  have hV0 := (LB.of hv (Nat.le_refl _)).step hst
  have sz_V : w.heap.size < (w.alloc (.cells #[.int .i64 0, .slice none 0 0] 47)).heap.size := by simp
  obtain ⟨av, cv, rfl, g1, g2⟩ := hv.form rfl
  obtain ⟨V, hV⟩ : ∃ V, w.alloc (.cells #[.int .i64 0, .slice none 0 0] 47) = V := ⟨_, rfl⟩
  rw [hV] at hB hV0 qr sz_V
  have hen : openE l = 0 → errNd l = (if okRd l then 0 else 8) := fun h => by unfold errNd; rw [if_pos h]
  have hen2 : openE l ≠ 0 → errNd l = openE l := fun h => by unfold errNd; rw [if_neg h]
  have hol : openE l = 0 → openL l = l.drop 4 ∧ l.length = 128 := fun h => by
    refine ⟨by unfold openL; rw [if_pos h], ?_⟩
    unfold openE at h
    by_cases hl : l.length = 128
    · exact hl
    · rw [if_neg hl] at h; cases h
  have hrd : errNd l = 0 → readNd l = ⟨(((openL l).getD 1 0).toNat : Int), ((rdAll l).getD ([], [])).1⟩ := fun h => by unfold readNd; rw [if_pos h]
  have hok : okRd l = (((openL l).getD 0 0 == 78) && decide (((openL l).getD 2 0).toNat ≤ 5) && (match rdAll l with
    | none => false
    | some s => mayN ⟨(((openL l).getD 1 0).toNat : Int), s.1⟩ && maxL s.2 == 0)) := rfl
  have hra : rdAll l = rdS ((openL l).drop 3) ((openL l).getD 2 0).toNat := rfl
  generalize errNd l = en at *
  generalize readNd l = rn at *
  generalize okRd l = okb at *
  generalize rdAll l = ra at *
  generalize openE l = eo at *
  generalize openL l = lo at *
  have HE := Lib.hid (And.intro hbad (And.intro hen (And.intro hen2 (And.intro hol (And.intro hrd (And.intro hok hra))))))
  have K1 := Lib.hid k1
  clear hbad hen hen2 hol hrd hok hra k1 hst hv
  have HQ := Lib.hid (And.intro qr (And.intro hV0 hB))
  clear qr hV0 hB
  go_enter Try.func85, Try.ntmps85
  go_upto_region 1 with (fail)
  clear hV
  go_wp2_with fail
  refine (K1.out _ HQ.out.2.1.v).mono ?_
  rintro e w1 ⟨ub, rfl, hm⟩
  obtain ⟨qr, hV0, hB⟩ := HQ.out
  clear HQ
  have hO := (LM.of hm).b
  have hst := hm.below
  clear hm
  have sz_w1 : V.heap.size ≤ w1.heap.size := hst.size
  replace qr := qr.step hst
  replace hV0 := hV0.step hst
  replace hB := hB.step hst
  clear hst
  have HQ := Lib.hid (And.intro qr (And.intro hV0 (And.intro hO hB)))
  clear qr hV0 hO hB
  by_cases he : eo = 0
  case neg =>
    have hee := HE.out.2.2.1 he
    have hrn := HE.out.1 (by rw [hee]; exact he)
    subst hee
    subst hrn
    have i1 : (en != 0) = true := by simp [he]
    have c_qr0 := LK.cell HQ.out.1 0
    have c_qr1 := LK.cell HQ.out.1 1
    have z_qr0 := LK.frozen HQ.out.1 0
    have z_qr1 := LK.frozen HQ.out.1 1
    simp at c_qr0 c_qr1
    have hBf := HQ.out.2.2.2
    obtain ⟨au, cu2, rfl, -, -⟩ := (HQ.out.2.2.1.v).form rfl
    go_wp2
    refine bodyPost_ret (v := .tuple #[.agg #[.int .i64 0, .slice none 0 0], .int .i64 en]) (by simp [results, Try.results85, go_sem, c_qr0, c_qr1]) rfl ⟨_, rfl, Sl.nil_ _ _ _, ?_⟩
    exact (Below.setCell hBf (p := ⟨w.heap.size, 0, none⟩) (Nat.le_refl _) _).setCell (p := ⟨w.heap.size, 1, none⟩) (Nat.le_refl _) _
  subst he
  obtain ⟨hlo, hl128⟩ := HE.out.2.2.2.1 rfl
  have hlol : lo.length = 124 := by rw [hlo]; simp; omega
  have hen := HE.out.2.1 rfl
  obtain ⟨bb, bo, cb, rfl, -, zb, zc1, zc2, hcell⟩ := HQ.out.2.2.1.v.at_n hlol (by omega)
  have d1 := hcell 1 (lo.getD 1 0) (by simp [hlol])
  have e2 : lo[2]? = some (lo.getD 2 0) := by simp [hlol]
  have hsam := fun (its : List ItemL) (r : List UInt8) => sam_law (lo := lo) (x0 := lo.getD 0 0) (x1 := lo.getD 1 0) (x2 := lo.getD 2 0) (its := its) (r := r) (by omega) rfl rfl rfl
  obtain ⟨x0, hx0⟩ : ∃ x, lo.getD 0 0 = x := ⟨_, rfl⟩
  obtain ⟨x1, hx1⟩ : ∃ x, lo.getD 1 0 = x := ⟨_, rfl⟩
  obtain ⟨x2, hx2⟩ : ∃ x, lo.getD 2 0 = x := ⟨_, rfl⟩
  rw [hx1] at d1
  rw [hx2] at e2
  rw [hx0, hx1, hx2] at hsam
  simp only [bV] at d1
  have hok := HE.out.2.2.2.2.2.1
  rw [hx0, hx1, hx2] at hok
  have hra := HE.out.2.2.2.2.2.2
  rw [hx2] at hra
  have hrn := HE.out.2.2.2.2.1
  rw [hx1] at hrn
  have hr0 := HE.out.1
  have b1 : (x1.toNat : Int) < 256 := by have := x1.toNat_lt; omega
  have b2 : (x2.toNat : Int) < 256 := by have := x2.toNat_lt; omega
  have HR := Lib.hid (And.intro hlol (And.intro hen (And.intro hok (And.intro hra (And.intro hrn (And.intro hr0 (And.intro hsam e2)))))))
  have hcm : cb ≤ maxLen := zc2
  unfold maxLen at zc2
  have hcut := cutS_run bb bo 124 cb 3 (by omega) (by omega) hcm
  have HCUT := Lib.hid hcut.2
  have s1 : ∀ W : World, (Instr.sliceAt 26 (.slice (some ⟨bb, bo, none⟩) 124 cb) (some (.int .i64 3)) none none).run Try.prog W = .ok (.slice (some ⟨bb, bo + 3, none⟩) 121 (cb - 3)) W := hcut.1
  clear hlo hl128 hlol hen hcell hx0 hx1 hx2 hok hra hrn hr0 HE hcut hcm hsam e2
  go_upto_region 5 with (fail)
  obtain ⟨qr, hV0, hO, hB⟩ := HQ.out
  clear HQ
  have hst := (Below.refl w1.heap.size w1).alloc (Nat.le_refl _) (.cells #[.int .i64 (x1.toNat : Int), .slice none 0 0] 47)
  have hlt : w1.heap.size < (w1.alloc (.cells #[.int .i64 (x1.toNat : Int), .slice none 0 0] 47)).heap.size := by simp
  have qn := LK.new w1 (.cells #[.int .i64 (x1.toNat : Int), .slice none 0 0] 47)
  replace qr := qr.step hst
  replace hV0 := hV0.step hst
  replace hO := hO.step hst
  replace hB := hB.step hst
  obtain ⟨w2, hw⟩ : ∃ v, w1.alloc (.cells #[.int .i64 (x1.toNat : Int), .slice none 0 0] 47) = v := ⟨_, rfl⟩
  rw [hw] at hlt qn qr hV0 hO hB ⊢
  clear hw hst
  have sz_w2 := hlt
  clear hlt
  have HQ := Lib.hid (And.intro qr (And.intro hV0 (And.intro hO (And.intro qn hB))))
  clear qr hV0 hO qn hB
  have c_qn0 := LK.cell HQ.out.2.2.2.1 0
  have c_qn1 := LK.cell HQ.out.2.2.2.1 1
  simp at c_qn0 c_qn1
  clear d1
  have hr3 := HCUT.out _ _ _ _ (Lv.get HQ.out.2.2.1) HR.out.1
  obtain ⟨qr, hV0, hO, qn, hB⟩ := HQ.out
  clear HQ
  have hRest := LB.of (V := w2) hr3 (by omega)
  have hW2 : LW w2 w2 := Below.refl _ _
  clear hr3
  clear hV0
  have HQ := Lib.hid (And.intro qr (And.intro hO (And.intro hRest (And.intro hW2 (And.intro qn hB)))))
  clear qr hO hRest hW2 qn hB
  have hbox := HQ.out.2.2.2.2.1
  have HB2 := Lib.hid hbox
  clear hbox
  go_wp2_with fail
  clear s1
  go_loopw [7, 8] (fun s i wr => ∃ (j : Nat) (its : List ItemL) (r : List UInt8) (ro rc : Nat) (ar : Option Addr) (cr : Nat), (j ≤ x2.toNat ∧ j ≤ 6) ∧ i = .int .i64 j ∧ rdS (lo.drop 3) j = some (its, r) ∧ s = .slice (some ⟨bb, ro, none⟩) r.length rc ∧ r.length ≤ rc ∧ rc ≤ 9223372036854775807 ∧ Bytes wr 0 w1.heap.size (.slice (some ⟨bb, ro, none⟩) r.length rc) r ∧ (its.length = j ∧ r.length ≤ 121) ∧ wr.heap[w1.heap.size]? = some (.cells #[.int .i64 (x1.toNat : Int), .slice ar its.length cr] 47 (0, 0)) ∧ OwnR rItemT w2.heap.size 97 w2.heap.size (boxS w1.heap.size 1) wr (.slice ar its.length cr) its ∧ Below w1.heap.size w2 wr) (fun _ i _ => x2.toNat - (intOf i).toNat)
  case atStart => exact ⟨0, [], lo.drop 3, bo + 3, cb - 3, none, 0, ⟨Nat.zero_le _, Nat.zero_le _⟩, rfl, rfl, by rw [List.length_drop, HR.out.1], by rw [List.length_drop, HR.out.1]; omega, by omega, by have := Bytes.more (Lv.get HQ.out.2.2.1) (Nat.zero_le _) (Nat.le_refl _); rw [List.length_drop, HR.out.1]; exact this, ⟨rfl, by rw [List.length_drop, HR.out.1]; omega⟩, HB2.out.blk, OwnR.nil_ _ _ _ _ _ _, Below.refl _ _⟩
  case round =>
  obtain ⟨j, its, r, ro, rc, ar, cr, ⟨hj, hj6⟩, rfl, hrd, rfl, hrc1, hrc2, hbr, ⟨hl1, hl3⟩, qbox, hown, hBr⟩ := hrel
  clear c_qn0 c_qn1
  have d2r := (hBr.cell (p := ⟨bb, bo + 2, none⟩) zb).trans (Bytes.cellAt HQ.out.2.1.v 2 x2 HR.out.2.2.2.2.2.2.2)
  simp only [bV] at d2r
  have qres := (hBr.block w.heap.size (by omega)).trans HQ.out.1.blk
  have hBw := Below.trans HQ.out.2.2.2.2.2 (hBr.mono (by omega))
  have HL1 := Lib.hid hl1
  clear hl1
  by_cases hlt : j < x2.toNat ∧ j ≤ 5
  · obtain ⟨hlt, h5⟩ := hlt
    have hb1 : Bytes wr 0 wr.heap.size (.slice (some ⟨bb, ro, none⟩) r.length rc) r := hbr.more (Nat.le_refl _) (by have := hBr.size; omega)
    have k_rd := rread_any _ r wr hb1
    simp only [itemV, bV, wV] at k_rd
    have hrdn : readOk r = false → rdS (lo.drop 3) (j + 1) = none := fun h => by rw [rdS, hrd]; simp [h]
    have hrdy : readOk r = true → rdS (lo.drop 3) (j + 1) = some (its ++ [readI r], r.drop (readN r)) := fun h => by rw [rdS, hrd]; simp [h]
    have hrn := fun h => readN_le (s := r) h
    have hrf : readOk r = true → (Lit.int .i64 (readI r).ref).wf = true := fun h => by
      have := may_ref (item_read r h).1
      exact WalkArith.wf_i64 (by omega)
    obtain ⟨x, hx⟩ : ∃ x, readI r = x := ⟨_, rfl⟩
    obtain ⟨N, hN⟩ : ∃ N, readN r = N := ⟨_, rfl⟩
    rw [hx] at k_rd hrdy hrf
    rw [hN] at k_rd hrdy hrn
    have KR := Lib.hid k_rd
    have HP := Lib.hid (And.intro hbr (And.intro qbox (And.intro hown (And.intro hBr (And.intro hrdn (And.intro hrdy (And.intro hrn (And.intro hrf (And.intro qres hBw)))))))))
    clear k_rd hbr qbox hown hBr hrdn hrdy hrn hrf qres hBw hx hN hrd hb1
    go_wp2_with fail
    refine KR.out.mono ?_
    rintro e z ⟨u, rfl, hm⟩
    obtain ⟨vn, hvn⟩ : ∃ vn, x.val.length = vn := ⟨_, rfl⟩
    obtain ⟨au, cu, rfl, -, -⟩ := hm.bytes.form hvn
    clear hvn d2r
    go_upto_region 10 with (fail)
    have hst2 := (Below.refl z.heap.size z).alloc (Nat.le_refl _) (.cells #[.int .u8 (x.key.kind.toNat : Int), .int .u32 (x.key.id.toNat : Int), .int .u32 (x.key.off.toNat : Int), .int .i64 x.ref, .slice au vn cu] 97)
    have qx := World.alloc_heap_new z (.cells #[.int .u8 (x.key.kind.toNat : Int), .int .u32 (x.key.id.toNat : Int), .int .u32 (x.key.off.toNat : Int), .int .i64 x.ref, .slice au vn cu] 97)
    have sz_z := hm.below.size
    have sz_z2 : z.heap.size < (z.alloc (.cells #[.int .u8 (x.key.kind.toNat : Int), .int .u32 (x.key.id.toNat : Int), .int .u32 (x.key.off.toNat : Int), .int .i64 x.ref, .slice au vn cu] 97)).heap.size := by simp
    obtain ⟨z2, hz2⟩ : ∃ v, z.alloc (.cells #[.int .u8 (x.key.kind.toNat : Int), .int .u32 (x.key.id.toNat : Int), .int .u32 (x.key.off.toNat : Int), .int .i64 x.ref, .slice au vn cu] 97) = v := ⟨_, rfl⟩
    rw [hz2] at hst2 qx sz_z2 ⊢
    clear hz2
    have szr := HP.out.2.2.2.1.size
    have qn2 := (hst2.block _ (by omega)).trans ((hm.below.block _ (by omega)).trans HP.out.2.1)
    have qr2 := (hst2.block w.heap.size (by omega)).trans ((hm.below.block _ (by omega)).trans HP.out.2.2.2.2.2.2.2.2.1)
    have hBw2 := below_step (below_step HP.out.2.2.2.2.2.2.2.2.2 (Below.size HP.out.2.2.2.2.2.2.2.2.2) hm.below) (by have := (Below.size HP.out.2.2.2.2.2.2.2.2.2); omega) hst2
    cases hok : readOk r
    case false =>
      have hkb : okb = false := by
        rw [HR.out.2.2.1, HR.out.2.2.2.1, rdS_none (HP.out.2.2.2.2.1 hok) x2.toNat (by omega)]
        simp
      have hen := HR.out.2.1
      rw [hkb] at hen
      simp only [Bool.false_eq_true, if_false] at hen
      subst hen
      have hrn := HR.out.2.2.2.2.2.1 (by decide)
      subst hrn
      have c_qr0 := blk_cell qr2 0
      have c_qr1 := blk_cell qr2 1
      simp at c_qr0 c_qr1
      have z_qr0 := blk_frozen qr2 0
      have z_qr1 := blk_frozen qr2 1
      have hBf := hBw2
      have me8 : mayE false = 8 := rfl
      rw [me8]
      clear hkb hok
      go_wp2
      refine bodyPost_ret (v := .tuple #[.agg #[.int .i64 0, .slice none 0 0], .int .i64 8]) (by simp [results, Try.results85, go_sem, c_qr0, c_qr1]) rfl ⟨_, rfl, Sl.nil_ _ _ _, ?_⟩
      exact (Below.setCell hBf (p := ⟨w.heap.size, 0, none⟩) (Nat.le_refl _) _).setCell (p := ⟨w.heap.size, 1, none⟩) (Nat.le_refl _) _
    have me0 : mayE true = 0 := rfl
    rw [me0]
    obtain ⟨hN1, hN2⟩ := HP.out.2.2.2.2.2.2.1 hok
    have hrdy := HP.out.2.2.2.2.2.1 hok
    have hrf := HP.out.2.2.2.2.2.2.2.1 hok
    obtain ⟨ro2, s2, hcut2⟩ := cutE_run bb ro r.length rc N (by omega) (by omega) (by unfold maxLen; omega)
    have hbr2 := hcut2 wr _ _ _ HP.out.1 rfl
    have y0 := blk_cell qn2 0
    have y1 := blk_cell qn2 1
    have yf := blk_frozen qn2 1
    have x_0 := blk_cell qx 0
    have x_1 := blk_cell qx 1
    have x_2 := blk_cell qx 2
    have x_3 := blk_cell qx 3
    have x_4 := blk_cell qx 4
    simp at y0 y1 x_0 x_1 x_2 x_3 x_4
    have hS0 : ∀ q, wr.heap.size ≤ q → boxS w1.heap.size 1 q = false := fun q hq => boxS_no (by omega)
    obtain ⟨hra, hrb⟩ := row_item1 HP.out.2.2.1 hS0 hm.below z2 hst2 hm.bytes hm.thawed (show w2.heap.size ≤ wr.heap.size from szr) hrf 97
    simp only [bV, wV] at hra hrb
    have hrl := HP.out.2.2.1.lt
    have HZ := Lib.hid (And.intro hra (And.intro hrb (And.intro hrdy (And.intro hbr2 (And.intro qn2 (And.intro qx (And.intro hst2 (And.intro hm.below (And.intro hrl hS0)))))))))
    clear hra hrb hrdy hrf hbr2 qn2 qx qr2 hst2 hBw2 hrl hS0 hm hcut2 hok me0
    go_wp2_with (at_builtin; have hSS : ∀ q, (z2.alloc (.cells #[.int .u8 (x.key.kind.toNat : Int), .int .u32 (x.key.id.toNat : Int), .int .u32 (x.key.off.toNat : Int), .int .i64 x.ref, .slice au vn cu] 97)).heap.size ≤ q → boxS w1.heap.size 1 q = false := (fun q hq => boxS_no (by rw [World.size_alloc] at hq; omega)); refine wpList_appR rItemT_ck rfl (.tmp 50) (.tmp 52) 45 rfl 97 (.agg #[.int .u8 0, .int .u32 0, .int .u32 0, .int .i64 0, .slice none 0 0]) 48 Try.underlying45 (by kernel_rfl) rfl (by decide) w2.heap.size w2.heap.size (boxS w1.heap.size 1) (.slice ar its.length cr) its [x] rfl HZ.out.1 hSS ⟨z2.heap.size, 0, none⟩ 1 [.int .u8 (x.key.kind.toNat : Int), .int .u32 (x.key.id.toNat : Int), .int .u32 (x.key.off.toNat : Int), .int .i64 x.ref, .slice au vn cu] rfl rfl (news_one #[.int .u8 (x.key.kind.toNat : Int), .int .u32 (x.key.id.toNat : Int), .int .u32 (x.key.off.toNat : Int), .int .i64 x.ref, .slice au vn cu] 97) (by intro u hu; simp at hu; rcases hu with rfl | rfl | rfl | rfl | rfl <;> rfl) HZ.out.2.1 (by have := HL1.out; show its.length + 1 ≤ 1000000; omega) (by decide) (by rw [World.size_alloc]; omega) ?_; clear hSS; intro a4 c4 z4 hown4 hB4 hf4; have hal1 : w1.heap.size < (z2.alloc (.cells #[.int .u8 (x.key.kind.toNat : Int), .int .u32 (x.key.id.toNat : Int), .int .u32 (x.key.off.toNat : Int), .int .i64 x.ref, .slice au vn cu] 97)).heap.size := (by rw [World.size_alloc]; omega); have k5 := ((hf4 _ hal1 (fun e => by have := (HZ.out.2.2.2.2.2.2.2.2.1 _ e).1; omega)).trans (Below.heap_alloc z2 _ _ (by omega))).trans HZ.out.2.2.2.2.1; rw [show (its ++ [x]).length = its.length + 1 by simp] at hown4 ⊢; clear y0 y1 yf x_0 x_1 x_2 x_3 x_4; have j1 := blk_cell k5 1; have jf := blk_frozen k5 1; simp at j1; have HO := Lib.hid (And.intro hown4 (And.intro hB4 k5)); clear hown4 hB4 k5 hf4 hal1)
    go_roundw
    case rel =>
      obtain ⟨hown4, hB4, k5⟩ := HO.out
      have hBa : Below w1.heap.size wr z := HZ.out.2.2.2.2.2.2.2.1.mono (by omega)
      have hBb : Below w1.heap.size z z2 := HZ.out.2.2.2.2.2.2.1.mono (by omega)
      have hBc := (hBa.trans hBb).alloc (by omega : w1.heap.size ≤ z2.heap.size) (.cells #[.int .u8 (x.key.kind.toNat : Int), .int .u32 (x.key.id.toNat : Int), .int .u32 (x.key.off.toNat : Int), .int .i64 x.ref, .slice au vn cu] 97)
      have hBd : Below w1.heap.size wr z4 := hBc.trans (hB4.mono (by omega))
      have hBn : Below w1.heap.size wr (z4.setCell ⟨w1.heap.size, 1, none⟩ (.slice a4 (its.length + 1) c4)) := hBd.setCell (p := ⟨w1.heap.size, 1, none⟩) (Nat.le_refl _) _
      have hls : (its ++ [x]).length = its.length + 1 := by simp
      have hld : (r.drop N).length = r.length - N := List.length_drop
      refine ⟨j + 1, its ++ [x], r.drop N, ro2, rc - N, a4, c4, ⟨by omega, by omega⟩, by go_num, HZ.out.2.2.1, by rw [hld], by omega, by omega, ?_, ⟨by rw [hls, HL1.out], by omega⟩, ?_, ?_, HP.out.2.2.2.1.trans hBn⟩
      · rw [hld]
        exact HZ.out.2.2.2.1.below hBn (Nat.le_refl _)
      · rw [hls]
        exact set_block k5 1 _
      · rw [hls]
        exact hown4.setS rItemT_ck ⟨w1.heap.size, 1, none⟩ _ (boxS_yes (Nat.le_refl _) (by show w1.heap.size < w1.heap.size + 1; omega))
    case measure => simp [intOf]; omega
  have hend : j = x2.toNat ∨ (j = 6 ∧ j < x2.toNat) := by omega
  have hsl := hown.sl rItemT_ck (lo' := w2.heap.size) (Nat.le_refl _) (Nat.le_refl _)
  have hsl1 := sl_itemT hsl
  have szr := hBr.size
  have k_m := fun V hh => rnmay_any ⟨(x1.toNat : Int), its⟩ (.slice ar its.length cr) V hh
  have k_t := fun V hh hm => rntold_any ⟨(x1.toNat : Int), its⟩ (.slice ar its.length cr) V hh hm
  have k_s := fun V u hh h2 => rnsam_any (.slice (some ⟨bb, bo, none⟩) 124 cb) u lo (bytesN ⟨(x1.toNat : Int), its⟩) V hh h2
  have hans : okb = (mayN ⟨(x1.toNat : Int), its⟩ && samZ lo (bytesN ⟨(x1.toNat : Int), its⟩)) := by
    rcases hend with rfl | ⟨rfl, h6⟩
    · by_cases h5 : x2.toNat ≤ 5
      · rw [HR.out.2.2.1, HR.out.2.2.2.1, hrd, HR.out.2.2.2.2.2.2.1 its r hrd]
        simp only [h5, decide_true, Bool.and_true]
        cases x0 == 78 <;> cases mayN ⟨(x1.toNat : Int), its⟩ <;> simp
      · have hm : mayN ⟨(x1.toNat : Int), its⟩ = false := by
          rw [Bool.eq_false_iff]
          intro e
          have := (mayN_all e).2.1
          have := HL1.out
          simp only at *
          omega
        rw [hm, HR.out.2.2.1]
        simp [h5]
    · have hm : mayN ⟨(x1.toNat : Int), its⟩ = false := by
        rw [Bool.eq_false_iff]
        intro e
        have := (mayN_all e).2.1
        have := HL1.out
        simp only at *
        omega
      rw [hm, HR.out.2.2.1]
      have h5 : ¬ x2.toNat ≤ 5 := by omega
      simp [h5]
  have hits : mayN ⟨(x1.toNat : Int), its⟩ = true → rdS (lo.drop 3) x2.toNat = some (its, r) := fun e => by
    have := (mayN_all e).2.1
    have := HL1.out
    simp only at *
    rcases hend with rfl | ⟨rfl, h6⟩
    · exact hrd
    · omega
  have hrn1 : en = 0 → mayN ⟨(x1.toNat : Int), its⟩ = true → rn = ⟨(x1.toNat : Int), its⟩ := fun h e => by
    rw [HR.out.2.2.2.2.1 h, HR.out.2.2.2.1, hits e]
    rfl
  obtain ⟨mn, hmn⟩ : ∃ mn, mayN ⟨(x1.toNat : Int), its⟩ = mn := ⟨_, rfl⟩
  obtain ⟨sz, hsz⟩ : ∃ q, samZ lo (bytesN ⟨(x1.toNat : Int), its⟩) = q := ⟨_, rfl⟩
  obtain ⟨bn, hbn⟩ : ∃ q, bytesN ⟨(x1.toNat : Int), its⟩ = q := ⟨_, rfl⟩
  rw [hmn] at k_m k_t hans hrn1
  rw [hsz] at hans k_s
  rw [hbn] at k_t k_s
  have hen := HR.out.2.1
  have hr0 := HR.out.2.2.2.2.2.1
  have HF := Lib.hid (And.intro hans (And.intro hrn1 (And.intro hen hr0)))
  have KW := Lib.hid (And.intro k_m (And.intro k_t k_s))
  have hOr := (LB.of (V := wr) ((Lv.get HQ.out.2.1).below hBr (Nat.le_refl _)) (by omega))
  have qn := LK.of qbox
  have qr2 := LK.of qres
  have S_i := LS.of hsl1 (Nat.le_refl _)
  have hB9 : LW w wr := hBw
  clear k_m k_t k_s hans hrn1 hits hen hr0 hrd hbr qbox qres hown hsl hsl1 hBr hBw hmn hsz hbn hlt
  have HQ := Lib.hid (And.intro qn (And.intro qr2 (And.intro hOr (And.intro S_i hB9))))
  clear qn qr2 hOr S_i hB9
  go_upto_region 7 with (fail)
  go_cut [37] (fun t wx => t = .bool false ∧ wr = wx)
  case first =>
    rcases hend with rfl | ⟨rfl, h6⟩
    · go_wp2
      go_meet
      exact ⟨rfl, rfl⟩
    · have i6 : (6 : Int) < x2.toNat := by omega
      go_wp2
      go_meet
      exact ⟨rfl, rfl⟩
  case rest =>
  obtain ⟨rfl, hwx⟩ := hcut
  subst hwx
  clear d2r hend
  have c_qn0 := LK.cell HQ.out.1 0
  have c_qn1 := LK.cell HQ.out.1 1
  simp at c_qn0 c_qn1
  go_wp2_with fail
  refine (KW.out.1 _ HQ.out.2.2.2.1.v).mono ?_
  rintro e w3 ⟨rfl, hst⟩
  clear c_qn0 c_qn1
  obtain ⟨qn, qr, hO, S_i, hB⟩ := HQ.out
  clear HQ
  have sz_w3 : wr.heap.size ≤ w3.heap.size := hst.size
  replace qn := qn.step hst
  replace qr := qr.step hst
  replace hO := hO.step hst
  replace S_i := S_i.step hst
  replace hB := hB.step hst
  clear hst
  have HQ := Lib.hid (And.intro qn (And.intro qr (And.intro hO (And.intro S_i hB))))
  clear qn qr hO S_i hB
  have c_qn0 := LK.cell HQ.out.1 0
  have c_qn1 := LK.cell HQ.out.1 1
  simp at c_qn0 c_qn1
  cases mn
  case false =>
    have hkb : okb = false := by
      rw [HF.out.1]
      rfl
    have hen := HF.out.2.2.1
    rw [hkb] at hen
    simp only [Bool.false_eq_true, if_false] at hen
    subst hen
    have hrn := HF.out.2.2.2 (by decide)
    subst hrn
    clear hkb
    clear c_qn0 c_qn1
    have c_qr0 := LK.cell HQ.out.2.1 0
    have c_qr1 := LK.cell HQ.out.2.1 1
    have z_qr0 := LK.frozen HQ.out.2.1 0
    have z_qr1 := LK.frozen HQ.out.2.1 1
    simp at c_qr0 c_qr1
    have hBf := HQ.out.2.2.2.2
    go_wp2
    refine bodyPost_ret (v := .tuple #[.agg #[.int .i64 0, .slice none 0 0], .int .i64 8]) (by simp [results, Try.results85, go_sem, c_qr0, c_qr1]) rfl ⟨_, rfl, Sl.nil_ _ _ _, ?_⟩
    exact (Below.setCell hBf (p := ⟨w.heap.size, 0, none⟩) (Nat.le_refl _) _).setCell (p := ⟨w.heap.size, 1, none⟩) (Nat.le_refl _) _
  go_wp2_with fail
  refine (KW.out.2.1 _ HQ.out.2.2.2.1.v (by trivial)).mono ?_
  rintro e w4 ⟨tb, rfl, hm⟩
  clear c_qn0 c_qn1
  obtain ⟨qn, qr, hO, S_i, hB⟩ := HQ.out
  clear HQ
  have B_t := (LM.of hm).b
  have hst := hm.below
  obtain ⟨ta, tc, rfl, -, -⟩ := hm.bytes.form rfl
  clear hm
  have sz_w4 : w3.heap.size ≤ w4.heap.size := hst.size
  replace qn := qn.step hst
  replace qr := qr.step hst
  replace hO := hO.step hst
  replace S_i := S_i.step hst
  replace hB := hB.step hst
  clear hst
  have HQ := Lib.hid (And.intro qn (And.intro qr (And.intro hO (And.intro S_i (And.intro B_t hB)))))
  clear qn qr hO S_i B_t hB
  have c_qn0 := LK.cell HQ.out.1 0
  have c_qn1 := LK.cell HQ.out.1 1
  simp at c_qn0 c_qn1
  go_wp2_with fail
  refine (KW.out.2.2 _ _ HQ.out.2.2.1.v HQ.out.2.2.2.2.1.v).mono ?_
  rintro e w5 ⟨rfl, hst⟩
  clear c_qn0 c_qn1
  obtain ⟨qn, qr, hO, S_i, B_t, hB⟩ := HQ.out
  clear HQ
  have sz_w5 : w4.heap.size ≤ w5.heap.size := hst.size
  replace qn := qn.step hst
  replace qr := qr.step hst
  replace hO := hO.step hst
  replace S_i := S_i.step hst
  replace B_t := B_t.step hst
  replace hB := hB.step hst
  clear hst
  have HQ := Lib.hid (And.intro qn (And.intro qr (And.intro hO (And.intro S_i (And.intro B_t hB)))))
  clear qn qr hO S_i B_t hB
  have c_qn0 := LK.cell HQ.out.1 0
  have c_qn1 := LK.cell HQ.out.1 1
  simp at c_qn0 c_qn1
  cases sz
  case false =>
    have hkb : okb = false := by
      rw [HF.out.1]
      rfl
    have hen := HF.out.2.2.1
    rw [hkb] at hen
    simp only [Bool.false_eq_true, if_false] at hen
    subst hen
    have hrn := HF.out.2.2.2 (by decide)
    subst hrn
    clear hkb
    clear c_qn0 c_qn1
    have c_qr0 := LK.cell HQ.out.2.1 0
    have c_qr1 := LK.cell HQ.out.2.1 1
    have z_qr0 := LK.frozen HQ.out.2.1 0
    have z_qr1 := LK.frozen HQ.out.2.1 1
    simp at c_qr0 c_qr1
    have hBf := HQ.out.2.2.2.2.2
    go_wp2
    refine bodyPost_ret (v := .tuple #[.agg #[.int .i64 0, .slice none 0 0], .int .i64 8]) (by simp [results, Try.results85, go_sem, c_qr0, c_qr1]) rfl ⟨_, rfl, Sl.nil_ _ _ _, ?_⟩
    exact (Below.setCell hBf (p := ⟨w.heap.size, 0, none⟩) (Nat.le_refl _) _).setCell (p := ⟨w.heap.size, 1, none⟩) (Nat.le_refl _) _
  have hkb : okb = true := by rw [HF.out.1]; rfl
  have hen := HF.out.2.2.1
  rw [hkb] at hen
  simp only [if_true] at hen
  subst hen
  have hrn := HF.out.2.1 rfl (by trivial)
  subst hrn
  clear hkb
  clear c_qn0 c_qn1
  have c_qr0 := LK.cell HQ.out.2.1 0
  have c_qr1 := LK.cell HQ.out.2.1 1
  have z_qr0 := LK.frozen HQ.out.2.1 0
  have z_qr1 := LK.frozen HQ.out.2.1 1
  have c_qn0 := LK.cell HQ.out.1 0
  have c_qn1 := LK.cell HQ.out.1 1
  simp at c_qr0 c_qr1 c_qn0 c_qn1
  have hBf := HQ.out.2.2.2.2.2
  have hS := HQ.out.2.2.2.1
  go_wp2
  refine bodyPost_ret (v := .tuple #[.agg #[.int .i64 (x1.toNat : Int), .slice ar its.length cr], .int .i64 0]) (by simp [results, Try.results85, go_sem, c_qr0, c_qr1]) rfl ⟨_, rfl, ?_, (Below.setCell hBf (p := ⟨w.heap.size, 0, none⟩) (Nat.le_refl _) _).setCell (p := ⟨w.heap.size, 1, none⟩) (Nat.le_refl _) _⟩
  have hk2 : ∀ x, x ≠ w.heap.size → ((w5.setCell ⟨w.heap.size, 0, none⟩ (.int .i64 (x1.toNat : Int))).setCell ⟨w.heap.size, 1, none⟩ (.slice ar its.length cr)).heap[x]? = w5.heap[x]? := fun x h => (set_other _ _ _ _ x h).trans (set_other w5 _ _ _ x h)
  have hsx : ((w5.setCell ⟨w.heap.size, 0, none⟩ (.int .i64 (x1.toNat : Int))).setCell ⟨w.heap.size, 1, none⟩ (.slice ar its.length cr)).heap.size = w5.heap.size := by simp only [World.size_setCell]
  have hSo := Lv.get (hS.out (n0 := w.heap.size) (h0 := w.heap.size + 1) (Nat.le_of_eq hsx.symm) (fun x _ h => hk2 x (by omega)) (by omega))
  exact hSo.more (by omega) (by rw [hsx]; omega)
end Go.Proofs.Ytkfgegdnpinbdaa

namespace Go.Proofs.Ytkfgegdnpinbdaa
open Go.RowKit

/-- A store that may be. -/
def mayS (s : StoreL) : Bool := mayD s.disk && (mayT s.now && mayT s.last)
def errS (s : StoreL) : Int := if mayS s then 0 else 8
def noS : StoreL := ⟨⟨[], []⟩, [], []⟩
/-- The four slices of a store. -/
def StoreV (w : World) (lo hi : Nat) (b u x y : Value) (s : StoreL) : Prop := DiskV w lo hi b u s.disk ∧ Bytes w lo hi x s.now ∧ Bytes w lo hi y s.last
/-- The same, and it may be written. -/
def StoreT (w : World) (lo hi : Nat) (b u x y : Value) (s : StoreL) : Prop := DiskT w lo hi b u s.disk ∧ (Bytes w lo hi x s.now ∧ Thawed w x) ∧ (Bytes w lo hi y s.last ∧ Thawed w y)
section
variable {w w' V V' : World} {lo hi : Nat} {b u x y : Value} {s : StoreL}
theorem StoreT.v (h : StoreT w lo hi b u x y s) : StoreV w lo hi b u x y s := ⟨h.1.v, h.2.1.1, h.2.2.1⟩
theorem StoreV.more {lo' hi' : Nat} (h : StoreV w lo hi b u x y s) (h1 : lo' ≤ lo) (h2 : hi ≤ hi') : StoreV w lo' hi' b u x y s := ⟨DiskV.more h.1 h1 h2, h.2.1.more h1 h2, h.2.2.more h1 h2⟩
theorem StoreV.keep (h : StoreV w lo hi b u x y s) (hk : Kp lo hi w w') : StoreV w' lo hi b u x y s := ⟨⟨Sl.keep h.1.1 hk, Sl.keep h.1.2 hk⟩, h.2.1.kept hk, h.2.2.kept hk⟩
theorem StoreT.more {lo' hi' : Nat} (h : StoreT w lo hi b u x y s) (h1 : lo' ≤ lo) (h2 : hi ≤ hi') : StoreT w lo' hi' b u x y s := ⟨DiskT.more h.1 h1 h2, ⟨h.2.1.1.more h1 h2, h.2.1.2⟩, ⟨h.2.2.1.more h1 h2, h.2.2.2⟩⟩
theorem StoreT.keep (h : StoreT w lo hi b u x y s) (hk : Kp lo hi w w') : StoreT w' lo hi b u x y s := ⟨h.1.kept hk, ⟨h.2.1.1.kept hk, thawed_kept h.2.1.1 h.2.1.2 hk⟩, ⟨h.2.2.1.kept hk, thawed_kept h.2.2.1 h.2.2.2 hk⟩⟩
/-- A store in new memory. -/
structure MadeS (w w' : World) (b u x y : Value) (s : StoreL) : Prop where
  store : StoreT w' w.heap.size w'.heap.size b u x y s
  below : Below w.heap.size w w'
theorem MadeS.nil_ (h : Below w.heap.size w w') : MadeS w w' (.slice none 0 0) (.slice none 0 0) (.slice none 0 0) (.slice none 0 0) noS :=
  ⟨⟨(MadeD.nil_ h).disk, ⟨(MadeB.nil_ h).bytes, (MadeB.nil_ h).thawed⟩, ⟨(MadeB.nil_ h).bytes, (MadeB.nil_ h).thawed⟩⟩, h⟩
theorem MadeS.v0 (h : MadeS w w' b u x y s) : StoreV w' 0 w'.heap.size b u x y s := h.store.v.more (Nat.zero_le _) (Nat.le_refl _)
/-- A store that lies from lo on, below hi, for as long as this stays. -/
def LO (lo hi : Nat) (b u x y : Value) (s : StoreL) (V : World) : Prop := Lv lo hi (fun W => StoreV W lo hi b u x y s) V
theorem LO.of (h : StoreV V lo hi b u x y s) (hh : hi ≤ V.heap.size) : LO lo hi b u x y s V := Lv.mk' hh fun _ hk => h.keep hk
theorem LO.v (h : LO lo hi b u x y s V) : StoreV V 0 V.heap.size b u x y s := (Lv.get h).more (Nat.zero_le _) (Lv.hi_le h)
theorem LO.d (h : LO lo hi b u x y s V) : DiskV V 0 V.heap.size b u s.disk := h.v.1
theorem LO.n (h : LO lo hi b u x y s V) : Bytes V 0 V.heap.size x s.now := h.v.2.1
theorem LO.l (h : LO lo hi b u x y s V) : Bytes V 0 V.heap.size y s.last := h.v.2.2
theorem LO.step (h : LO lo hi b u x y s V) (hb : Below V.heap.size V V') : LO lo hi b u x y s V' := Lv.step h hb
theorem LO.out {n0 h0 : Nat} (h : LO lo hi b u x y s V) (hs : V.heap.size ≤ V'.heap.size) (hf : ∀ x, x < V.heap.size → (x < n0 ∨ h0 ≤ x) → V'.heap[x]? = V.heap[x]?) (hd : hi ≤ n0 ∨ h0 ≤ lo) : LO lo hi b u x y s V' := Lv.out h hs hf hd
/-- The same, and it may be written. -/
def LP (lo hi : Nat) (b u x y : Value) (s : StoreL) (V : World) : Prop := Lv lo hi (fun W => StoreT W lo hi b u x y s) V
theorem LP.of (h : MadeS V V' b u x y s) : LP V.heap.size V'.heap.size b u x y s V' := Lv.mk' (Nat.le_refl _) fun _ hk => h.store.keep hk
theorem LP.t (h : LP lo hi b u x y s V) : StoreT V lo hi b u x y s := Lv.get h
theorem LP.o (h : LP lo hi b u x y s V) : LO lo hi b u x y s V := Lv.imp h fun _ k => k.v
theorem LP.v (h : LP lo hi b u x y s V) : StoreV V 0 V.heap.size b u x y s := h.o.v
theorem LP.d (h : LP lo hi b u x y s V) : DiskV V 0 V.heap.size b u s.disk := h.v.1
theorem LP.n (h : LP lo hi b u x y s V) : Bytes V 0 V.heap.size x s.now := h.v.2.1
theorem LP.l (h : LP lo hi b u x y s V) : Bytes V 0 V.heap.size y s.last := h.v.2.2
theorem LP.step (h : LP lo hi b u x y s V) (hb : Below V.heap.size V V') : LP lo hi b u x y s V' := Lv.step h hb
theorem LP.out {n0 h0 : Nat} (h : LP lo hi b u x y s V) (hs : V.heap.size ≤ V'.heap.size) (hf : ∀ x, x < V.heap.size → (x < n0 ∨ h0 ≤ x) → V'.heap[x]? = V.heap[x]?) (hd : hi ≤ n0 ∨ h0 ≤ lo) : LP lo hi b u x y s V' := Lv.out h hs hf hd
end
/-- A store elsewhere turns nothing between lo and hi. -/
theorem kp_at {lo hi r : Nat} (z : World) (i : Nat) (a : Value) (h : r < lo ∨ hi ≤ r) : Kp lo hi z (z.setCell ⟨r, i, none⟩ a) := fun b o h1 h2 =>
  ⟨heap_cell (set_other z r i a b (by omega)) o, heap_frozen (set_other z r i a b (by omega)) o⟩
theorem kp_four {lo hi r : Nat} (z : World) (a b c d : Value) (h : r < lo ∨ hi ≤ r) : Kp lo hi z ((((z.setCell ⟨r, 0, none⟩ a).setCell ⟨r, 1, none⟩ b).setCell ⟨r, 2, none⟩ c).setCell ⟨r, 3, none⟩ d) :=
  (((kp_at z 0 a h).trans (kp_at _ 1 b h)).trans (kp_at _ 2 c h)).trans (kp_at _ 3 d h)
theorem below_four {n r : Nat} (z : World) (a b c d : Value) (h : n ≤ r) : Below n z ((((z.setCell ⟨r, 0, none⟩ a).setCell ⟨r, 1, none⟩ b).setCell ⟨r, 2, none⟩ c).setCell ⟨r, 3, none⟩ d) :=
  ((((Below.refl n z).setCell (p := ⟨r, 0, none⟩) h a).setCell (p := ⟨r, 1, none⟩) h b).setCell (p := ⟨r, 2, none⟩) h c).setCell (p := ⟨r, 3, none⟩) h d
theorem StoreT.nil_ (w : World) (lo hi : Nat) : StoreT w lo hi (.slice none 0 0) (.slice none 0 0) (.slice none 0 0) (.slice none 0 0) noS :=
  ⟨DiskT.nil_ w lo hi, ⟨Bytes.nil_ _ _ _, Thawed.nil_ _⟩, ⟨Bytes.nil_ _ _ _, Thawed.nil_ _⟩⟩
/-- A store that lies behind lo; stores between w and lo do not touch it. -/
structure MadeL (w z : World) (lo : Nat) (b u x y : Value) (s : StoreL) : Prop where
  store : StoreT z lo z.heap.size b u x y s
  below : Below w.heap.size w z
theorem MadeL.set {w z : World} {lo : Nat} {b u x y : Value} {s : StoreL} (h : MadeL w z lo b u x y s) (r i : Nat) (a : Value) (h1 : w.heap.size ≤ r) (h2 : r < lo) : MadeL w (z.setCell ⟨r, i, none⟩ a) lo b u x y s :=
  ⟨by have := h.store.keep (kp_at z i a (lo := lo) (hi := z.heap.size) (.inl h2)); rwa [World.size_setCell], h.below.setCell (p := ⟨r, i, none⟩) h1 a⟩
theorem MadeL.made {w z : World} {lo : Nat} {b u x y : Value} {s : StoreL} (h : MadeL w z lo b u x y s) (h1 : w.heap.size ≤ lo) : MadeS w z b u x y s := ⟨h.store.more h1 (Nat.le_refl _), h.below⟩
theorem MadeL.nil_ {w z : World} (lo : Nat) (h : Below w.heap.size w z) : MadeL w z lo (.slice none 0 0) (.slice none 0 0) (.slice none 0 0) (.slice none 0 0) noS := ⟨StoreT.nil_ _ _ _, h⟩
theorem MadeL.four {w z : World} {lo : Nat} {b u x y : Value} {s : StoreL} (h : MadeL w z lo b u x y s) (r : Nat) (a1 a2 a3 a4 : Value) (h1 : w.heap.size ≤ r) (h2 : r < lo) :
    MadeL w ((((z.setCell ⟨r, 0, none⟩ a1).setCell ⟨r, 1, none⟩ a2).setCell ⟨r, 2, none⟩ a3).setCell ⟨r, 3, none⟩ a4) lo b u x y s :=
  (((h.set r 0 a1 h1 h2).set r 1 a2 h1 h2).set r 2 a3 h1 h2).set r 3 a4 h1 h2
end Go.Proofs.Ytkfgegdnpinbdaa

namespace Go.Proofs.Ytkfgegdnpinbdaa
open Go.RowKit

/-- May block i be taken? -/
def noneAt (s : StoreL) (i : Nat) : Bool := decide (8 ≤ i) && (s.now.getD i 0 == 0 && s.last.getD i 0 == 0)
def freeN (s : StoreL) (k : Nat) : List Nat := (List.range k).filter (noneAt s)
def freeS (s : StoreL) : List Nat := freeN s 256
def intsOf (l : List Nat) : List Int := l.map Int.ofNat
theorem freeN_succ (s : StoreL) (k : Nat) : freeN s (k + 1) = if noneAt s k then freeN s k ++ [k] else freeN s k := by
  unfold freeN
  rw [List.range_succ, List.filter_append]
  cases h : noneAt s k <;> simp [h]
theorem freeN_eight (s : StoreL) : freeN s 8 = [] := by
  unfold freeN
  rw [List.filter_eq_nil_iff]
  intro i hi
  have := List.mem_range.1 hi
  unfold noneAt
  rw [decide_eq_false (by omega)]
  simp
theorem freeN_mem {s : StoreL} {k i : Nat} : i ∈ freeN s k ↔ i < k ∧ noneAt s i = true := by
  unfold freeN
  rw [List.mem_filter, List.mem_range]
theorem noneAt_iff {s : StoreL} {i : Nat} : noneAt s i = true ↔ 8 ≤ i ∧ s.now.getD i 0 = 0 ∧ s.last.getD i 0 = 0 := by
  unfold noneAt
  simp
theorem freeS_nodup (s : StoreL) : (freeS s).Nodup := List.Pairwise.filter _ List.nodup_range
/-- The first ones that are free are those of all. -/
theorem freeN_pre {s : StoreL} {k : Nat} (hk : k ≤ 256) : ∃ r, freeS s = freeN s k ++ r := by
  have : ∀ j, ∃ r, freeN s (k + j) = freeN s k ++ r := by
    intro j
    induction j with
    | zero => exact ⟨[], by simp⟩
    | succ j ih =>
      obtain ⟨r, hr⟩ := ih
      rw [show k + (j + 1) = (k + j) + 1 by omega, freeN_succ, hr]
      split
      · exact ⟨r ++ [k + j], by simp⟩
      · exact ⟨r, rfl⟩
  obtain ⟨r, hr⟩ := this (256 - k)
  rw [show k + (256 - k) = 256 by omega] at hr
  exact ⟨r, hr⟩
theorem free_take {s s' : StoreL} {p : Nat} {r : List Nat} (h : freeS s = p :: r) (hn : s'.now = s.now.set p 1) (hl : s'.last = s.last) (h256 : s.now.length = 256) : freeS s' = r := by
  have hnd := freeS_nodup s
  have hp := (freeN_mem.1 (show p ∈ freeN s 256 by rw [show freeN s 256 = p :: r from h]; exact List.mem_cons_self ..))
  have e : freeS s' = (freeS s).filter (fun i => i != p) := by
    unfold freeS freeN
    rw [List.filter_filter]
    apply List.filter_congr
    intro i hi
    have hi := List.mem_range.1 hi
    unfold noneAt
    rw [hn, hl]
    by_cases hip : p = i
    · subst hip
      rw [cgetD_set_self _ _ _ (by omega)]
      simp
    · rw [bget_set_ne _ _ _ _ hip]
      rw [show (i != p) = true by simp; omega]
      simp
  rw [e, h]
  rw [h] at hnd
  rw [List.nodup_cons] at hnd
  rw [List.filter_cons, if_neg (by simp), List.filter_eq_self]
  intro a ha
  simp
  intro e
  subst e
  exact hnd.1 ha
/-- What no count was turned from nought is as free. -/
theorem free_same {s s' : StoreL} (hn : ∀ i, i < 256 → (s'.now.getD i 0 = 0 ↔ s.now.getD i 0 = 0)) (hl : s'.last = s.last) : freeS s' = freeS s := by
  unfold freeS freeN
  apply List.filter_congr
  intro i hi
  have hi := List.mem_range.1 hi
  rw [Bool.eq_iff_iff, noneAt_iff, noneAt_iff, hn i hi, hl]

def errTk (s : StoreL) (b : List UInt8) : Int := if mayS s then (if b.length = 128 then (match freeS s with | [] => 9 | p :: _ => errW s.disk p b) else 3) else 8
def headS (s : StoreL) : Nat := (freeS s).headD 0
def atTk (s : StoreL) (b : List UInt8) : Int := if errTk s b = 0 then headS s else 0
def takeS (s : StoreL) (b : List UInt8) : StoreL := if errTk s b = 0 then ⟨writeD s.disk (headS s) b, s.now.set (headS s) 1, s.last⟩ else noS
def errAs (s : StoreL) (p : Int) : Int := if mayS s then (if p < 8 ∨ 256 ≤ p then 2 else if s.now.getD p.toNat 0 = 0 then 6 else 0) else 8
def errSh (s : StoreL) (p : Int) : Int := if errAs s p ≠ 0 then errAs s p else if s.now.getD p.toNat 0 = 255 then 70 else 0
def shareS (s : StoreL) (p : Int) : StoreL := if errSh s p = 0 then ⟨s.disk, s.now.set p.toNat (s.now.getD p.toNat 0 + 1), s.last⟩ else noS

theorem mayS_iff {s : StoreL} : mayS s = true ↔ mayD s.disk = true ∧ mayT s.now = true ∧ mayT s.last = true := by
  unfold mayS
  simp
theorem errAs_zero {s : StoreL} {p : Int} (h : errAs s p = 0) : mayS s = true ∧ 8 ≤ p ∧ p < 256 ∧ s.now.getD p.toNat 0 ≠ 0 := by
  unfold errAs at h
  split at h
  · rename_i hm
    split at h
    · cases h
    · split at h
      · cases h
      · rename_i h1 h2
        exact ⟨hm, by omega, by omega, h2⟩
  · cases h
theorem errSh_zero {s : StoreL} {p : Int} (h : errSh s p = 0) : errAs s p = 0 ∧ s.now.getD p.toNat 0 ≠ 255 := by
  unfold errSh at h
  split at h
  · rename_i hn
    exact absurd h hn
  · rename_i hn
    split at h
    · cases h
    · rename_i h2
      exact ⟨by simpa using hn, h2⟩
theorem errTk_zero {s : StoreL} {b : List UInt8} (h : errTk s b = 0) : mayS s = true ∧ b.length = 128 ∧ (∃ r, freeS s = headS s :: r) ∧ errW s.disk (headS s) b = 0 := by
  unfold errTk at h
  split at h
  · rename_i hm
    split at h
    · rename_i hl
      unfold headS
      split at h
      · cases h
      · rename_i p r hf
        rw [hf]
        exact ⟨hm, hl, ⟨r, rfl⟩, h⟩
    · cases h
  · cases h
theorem head_free {s : StoreL} {r : List Nat} (h : freeS s = headS s :: r) : 8 ≤ headS s ∧ headS s < 256 ∧ s.now.getD (headS s) 0 = 0 ∧ s.last.getD (headS s) 0 = 0 := by
  have := freeN_mem.1 (show headS s ∈ freeN s 256 by rw [show freeN s 256 = headS s :: r from h]; exact List.mem_cons_self ..)
  have h2 := noneAt_iff.1 this.2
  exact ⟨h2.1, this.1, h2.2.1, h2.2.2⟩
/-- All that is so of a store of which a block was taken. -/
theorem take_is {s : StoreL} {b : List UInt8} (h : errTk s b = 0) :
    takeS s b = ⟨⟨s.disk.blocks, s.disk.waits ++ [⟨(headS s : Int), b⟩]⟩, s.now.set (headS s) 1, s.last⟩ ∧ mayS (takeS s b) = true ∧ atTk s b = headS s ∧ freeS s = headS s :: freeS (takeS s b) := by
  obtain ⟨hm, hl, ⟨r, hr⟩, hw⟩ := errTk_zero h
  obtain ⟨p1, p2, p3, p4⟩ := head_free hr
  obtain ⟨m1, m2, m3⟩ := mayS_iff.1 hm
  obtain ⟨w1, w2⟩ := write_may hw
  have e : takeS s b = ⟨writeD s.disk (headS s) b, s.now.set (headS s) 1, s.last⟩ := by unfold takeS; rw [if_pos h]
  have hf : freeS (takeS s b) = r := by
    refine free_take hr ?_ ?_ (mayT_len m2) <;> rw [e]
  refine ⟨by rw [e, w1], ?_, by unfold atTk; rw [if_pos h], by rw [hf]; exact hr⟩
  rw [e]
  exact mayS_iff.2 ⟨w2, by rw [mayT_set _ _ _ p1]; exact m2, m3⟩
theorem share_is {s : StoreL} {p : Int} (h : errSh s p = 0) :
    shareS s p = ⟨s.disk, s.now.set p.toNat (s.now.getD p.toNat 0 + 1), s.last⟩ ∧ mayS (shareS s p) = true ∧ 8 ≤ p ∧ p < 256 ∧ s.now.getD p.toNat 0 ≠ 0 ∧ (s.now.getD p.toNat 0 + 1).toNat = (s.now.getD p.toNat 0).toNat + 1 ∧ freeS (shareS s p) = freeS s := by
  obtain ⟨h1, h2⟩ := errSh_zero h
  obtain ⟨hm, h8, h9, hn⟩ := errAs_zero h1
  obtain ⟨m1, m2, m3⟩ := mayS_iff.1 hm
  have e : shareS s p = ⟨s.disk, s.now.set p.toNat (s.now.getD p.toNat 0 + 1), s.last⟩ := by unfold shareS; rw [if_pos h]
  have h256 := mayT_len m2
  refine ⟨e, ?_, h8, h9, hn, u8_up h2, ?_⟩
  · rw [e]
    exact mayS_iff.2 ⟨m1, by rw [mayT_set _ _ _ (by omega)]; exact m2, m3⟩
  · rw [e]
    refine free_same (fun i hi => ?_) rfl
    by_cases hip : p.toNat = i
    · subst hip
      show (s.now.set p.toNat (s.now.getD p.toNat 0 + 1)).getD p.toNat 0 = 0 ↔ _
      rw [cgetD_set_self _ _ _ (by omega)]
      exact ⟨fun h => absurd h (u8_up0 h2), fun h => absurd h hn⟩
    · show (s.now.set p.toNat (s.now.getD p.toNat 0 + 1)).getD i 0 = 0 ↔ _
      rw [bget_set_ne _ _ _ _ hip]
end Go.Proofs.Ytkfgegdnpinbdaa

namespace Go.Proofs.Ytkfgegdnpinbdaa
open Go.RowKit

set_option maxRecDepth 100000 in
set_option maxHeartbeats 1000000 in
theorem scheck_any (b_s u_s x_s y_s : Value) (s : StoreL) (w : World) (h_s : StoreV w 0 w.heap.size b_s u_s x_s y_s s) :
    Calls Try.prog 18 #[.agg #[b_s, u_s, x_s, y_s]] w fun e w' => e = .returned (.int .i64 (errS s)) ∧ Below w.heap.size w w' := by
  obtain ⟨ab_s, cb_s, rfl, gb_s, gc_s, -, -⟩ := h_s.1.1
  obtain ⟨au_s, cu_s, rfl, gu_s, gv_s, -, -⟩ := h_s.1.2
  obtain ⟨ax_s, cx_s, rfl, gx_s, gz_s⟩ := h_s.2.1.form rfl
  obtain ⟨ay_s, cy_s, rfl, gy_s, gw_s⟩ := h_s.2.2.form rfl
  unfold maxLen at gc_s gv_s gz_s gw_s
  have hst := ((Below.refl w.heap.size w).alloc (Nat.le_refl _) (.cells #[.slice ab_s s.disk.blocks.length cb_s, .slice au_s s.disk.waits.length cu_s, .slice ax_s s.now.length cx_s, .slice ay_s s.last.length cy_s] 28))
  have q_s := LK.new w (.cells #[.slice ab_s s.disk.blocks.length cb_s, .slice au_s s.disk.waits.length cu_s, .slice ax_s s.now.length cx_s, .slice ay_s s.last.length cy_s] 28)
  have hB : LW w _ := hst
  have O_s := (LO.of h_s (Nat.le_refl _)).step hst
  have sz_V : w.heap.size + 0 < (w.alloc (.cells #[.slice ab_s s.disk.blocks.length cb_s, .slice au_s s.disk.waits.length cu_s, .slice ax_s s.now.length cx_s, .slice ay_s s.last.length cy_s] 28)).heap.size := by simp
  obtain ⟨V, hV⟩ : ∃ V, (w.alloc (.cells #[.slice ab_s s.disk.blocks.length cb_s, .slice au_s s.disk.waits.length cu_s, .slice ax_s s.now.length cx_s, .slice ay_s s.last.length cy_s] 28)) = V := ⟨_, rfl⟩
  rw [hV] at sz_V q_s O_s hB
  clear hst h_s
  have HQ := Lib.hid (And.intro q_s (And.intro O_s hB))
  clear q_s O_s hB
  have c_q_s0 := LK.cell HQ.out.1 0
  have c_q_s1 := LK.cell HQ.out.1 1
  have c_q_s2 := LK.cell HQ.out.1 2
  have c_q_s3 := LK.cell HQ.out.1 3
  simp at c_q_s0 c_q_s1 c_q_s2 c_q_s3
  obtain ⟨md, hmd⟩ : ∃ b, mayD s.disk = b := ⟨_, rfl⟩
  obtain ⟨mn, hmn⟩ : ∃ b, mayT s.now = b := ⟨_, rfl⟩
  obtain ⟨ml, hml⟩ : ∃ b, mayT s.last = b := ⟨_, rfl⟩
  have hE : errS s = if md && (mn && ml) then 0 else 8 := by unfold errS mayS; rw [hmd, hmn, hml]
  obtain ⟨es, hes⟩ : ∃ e, errS s = e := ⟨_, rfl⟩
  rw [hes] at hE ⊢
  have k_d := fun V b u hh => dcheck_any b u s.disk V hh
  have k_n := fun V v hh => ccheck_any v s.now V hh
  have k_l := fun V v hh => ccheck_any v s.last V hh
  rw [hmd] at k_d
  rw [hmn] at k_n
  rw [hml] at k_l
  have HE := Lib.hid hE
  clear hE hes hmd hmn hml
  have HC := Lib.hid (And.intro k_d (And.intro k_n k_l))
  clear k_d k_n k_l
  go_enter Try.func18, Try.ntmps18
  go_upto_region 1 with (fail)
  clear hV
  go_wp2_with fail
  refine (HC.out.1 _ _ _ HQ.out.2.1.d).mono ?_
  rintro e w1 ⟨rfl, hst⟩
  clear c_q_s0 c_q_s1 c_q_s2 c_q_s3
  obtain ⟨q_s, O_s, hB⟩ := HQ.out
  clear HQ
  have sz_w1 : V.heap.size ≤ w1.heap.size := hst.size
  replace q_s := q_s.step hst
  replace O_s := O_s.step hst
  replace hB := hB.step hst
  clear hst
  have HQ := Lib.hid (And.intro q_s (And.intro O_s hB))
  clear q_s O_s hB
  have c_q_s0 := LK.cell HQ.out.1 0
  have c_q_s1 := LK.cell HQ.out.1 1
  have c_q_s2 := LK.cell HQ.out.1 2
  have c_q_s3 := LK.cell HQ.out.1 3
  simp at c_q_s0 c_q_s1 c_q_s2 c_q_s3
  cases md
  case false =>
    obtain rfl : es = 8 := HE.out
    simp only [Bool.false_eq_true, if_false]
    go_wp2
    go_ret
    exact ⟨rfl, HQ.out.2.2⟩
  case true =>
  simp only [if_true]
  go_wp2_with fail
  refine (HC.out.2.1 _ _ HQ.out.2.1.n).mono ?_
  rintro e w0 ⟨rfl, hw0⟩
  rw [hw0]
  clear hw0 w0
  cases mn
  case false =>
    obtain rfl : es = 8 := HE.out
    simp only [Bool.false_eq_true, if_false]
    go_wp2
    go_ret
    exact ⟨rfl, HQ.out.2.2⟩
  case true =>
  simp only [if_true]
  go_wp2_with fail
  refine (HC.out.2.2 _ _ HQ.out.2.1.l).mono ?_
  rintro e w0 ⟨rfl, hw0⟩
  rw [hw0]
  clear hw0 w0
  cases ml
  case false =>
    obtain rfl : es = 8 := HE.out
    simp only [Bool.false_eq_true, if_false]
    go_wp2
    go_ret
    exact ⟨rfl, HQ.out.2.2⟩
  case true =>
  obtain rfl : es = 0 := HE.out
  simp only [if_true]
  go_wp2
  go_ret
  exact ⟨rfl, HQ.out.2.2⟩

theorem dtwin_made (b u : Value) (d : DiskL) (w : World) (h : DiskV w 0 w.heap.size b u d) (hn1 : d.blocks.length ≤ 100000) (hn2 : d.waits.length ≤ 100000) (hT : (datD d).flatten.length ≤ 100000000) :
    Calls Try.prog 59 #[.agg #[b, u]] w fun e w' => ∃ b' u', e = .returned (.agg #[b', u']) ∧ MadeD w w' b' u' d :=
  (dtwin_any b u d w h hn1 hn2 hT).mono fun _ _ ⟨_, _, _, _, he, ht, hb⟩ => ⟨_, _, he, ⟨ht.disk hT hn1 hn2, hb⟩⟩
/-- A store that is not too great to be copied. -/
structure FewS (s : StoreL) : Prop where
  b : s.disk.blocks.length ≤ 100000
  w : s.disk.waits.length ≤ 100000
  f : (datD s.disk).flatten.length ≤ 100000000
  n : s.now.length ≤ 1000000000
  l : s.last.length ≤ 1000000000
theorem FewS.of_may {s : StoreL} (h : mayS s = true) : FewS s := by
  obtain ⟨m1, m2, m3⟩ := mayS_iff.1 h
  obtain ⟨a1, a2, a3, a4⟩ := may_len m1
  have := mayT_len m2
  have := mayT_len m3
  exact ⟨by omega, by omega, dat_le (by omega) (by omega) (fun x hx => Nat.le_of_eq (a3 x hx)) (fun x hx => Nat.le_of_eq (a4 x hx).2.2), by omega, by omega⟩

set_option maxRecDepth 100000 in
set_option maxHeartbeats 1000000 in
theorem stwin_any (b_s u_s x_s y_s : Value) (s : StoreL) (w : World) (h_s : StoreV w 0 w.heap.size b_s u_s x_s y_s s) (hf : FewS s) :
    Calls Try.prog 23 #[.agg #[b_s, u_s, x_s, y_s]] w fun e w' => ∃ b u x y, e = .returned (.agg #[b, u, x, y]) ∧ MadeS w w' b u x y s := by
  obtain ⟨ab_s, cb_s, rfl, gb_s, gc_s, -, -⟩ := h_s.1.1
  obtain ⟨au_s, cu_s, rfl, gu_s, gv_s, -, -⟩ := h_s.1.2
  obtain ⟨ax_s, cx_s, rfl, gx_s, gz_s⟩ := h_s.2.1.form rfl
  obtain ⟨ay_s, cy_s, rfl, gy_s, gw_s⟩ := h_s.2.2.form rfl
  unfold maxLen at gc_s gv_s gz_s gw_s
  have hst := (((Below.refl w.heap.size w).alloc (Nat.le_refl _) (.cells #[.slice ab_s s.disk.blocks.length cb_s, .slice au_s s.disk.waits.length cu_s, .slice ax_s s.now.length cx_s, .slice ay_s s.last.length cy_s] 28)).alloc (by simp) (.cells #[.slice none 0 0, .slice none 0 0, .slice none 0 0, .slice none 0 0] 28))
  have hq := two_new w (.cells #[.slice ab_s s.disk.blocks.length cb_s, .slice au_s s.disk.waits.length cu_s, .slice ax_s s.now.length cx_s, .slice ay_s s.last.length cy_s] 28) (.cells #[.slice none 0 0, .slice none 0 0, .slice none 0 0, .slice none 0 0] 28)
  have q_s := LK.of hq.1
  have q_r := LK.of hq.2
  have hB : LW w _ := hst
  have O_s := (LO.of h_s (Nat.le_refl _)).step hst
  have sz_V : w.heap.size + 1 < ((w.alloc (.cells #[.slice ab_s s.disk.blocks.length cb_s, .slice au_s s.disk.waits.length cu_s, .slice ax_s s.now.length cx_s, .slice ay_s s.last.length cy_s] 28)).alloc (.cells #[.slice none 0 0, .slice none 0 0, .slice none 0 0, .slice none 0 0] 28)).heap.size := by simp
  obtain ⟨V, hV⟩ : ∃ V, ((w.alloc (.cells #[.slice ab_s s.disk.blocks.length cb_s, .slice au_s s.disk.waits.length cu_s, .slice ax_s s.now.length cx_s, .slice ay_s s.last.length cy_s] 28)).alloc (.cells #[.slice none 0 0, .slice none 0 0, .slice none 0 0, .slice none 0 0] 28)) = V := ⟨_, rfl⟩
  rw [hV] at sz_V q_s q_r O_s hB
  clear hst h_s hq
  have HQ := Lib.hid (And.intro q_s (And.intro q_r (And.intro O_s hB)))
  clear q_s q_r O_s hB
  have c_q_s0 := LK.cell HQ.out.1 0
  have c_q_s1 := LK.cell HQ.out.1 1
  have c_q_s2 := LK.cell HQ.out.1 2
  have c_q_s3 := LK.cell HQ.out.1 3
  have c_q_r0 := LK.cell HQ.out.2.1 0
  have c_q_r1 := LK.cell HQ.out.2.1 1
  have c_q_r2 := LK.cell HQ.out.2.1 2
  have c_q_r3 := LK.cell HQ.out.2.1 3
  simp at c_q_s0 c_q_s1 c_q_s2 c_q_s3 c_q_r0 c_q_r1 c_q_r2 c_q_r3
  obtain ⟨f1, f2, f3, f4, f5⟩ := hf
  have k_d := fun V b u hh => dtwin_made b u s.disk V hh f1 f2 f3
  have k_n := fun V v hh => bclone_any v s.now V hh f4
  have k_l := fun V v hh => bclone_any v s.last V hh f5
  clear f1 f2 f3 f4 f5
  have HC := Lib.hid (And.intro k_d (And.intro k_n k_l))
  clear k_d k_n k_l
  go_enter Try.func23, Try.ntmps23
  go_upto_region 1 with (fail)
  clear hV
  clear c_q_s0 c_q_s1 c_q_s2 c_q_s3 c_q_r0 c_q_r1 c_q_r2 c_q_r3
  obtain ⟨Pr, hPr⟩ : ∃ Pr : World → Prop, ∀ X, Pr X ↔ Below V.heap.size V X := ⟨_, fun _ => Iff.rfl⟩
  have hp0 : Pr V.drew := (hPr _).2 (Below.refl _ V).drew
  have x0 := fun X => LK.cell (HQ.out.1.step ((hPr _).1 (selW_pr hp0 X))) 0
  have x1 := fun X => LK.cell (HQ.out.1.step ((hPr _).1 (selW_pr hp0 X))) 1
  have x2 := fun X => LK.cell (HQ.out.1.step ((hPr _).1 (selW_pr hp0 X))) 2
  have x3 := fun X => LK.cell (HQ.out.1.step ((hPr _).1 (selW_pr hp0 X))) 3
  simp at x0 x1 x2 x3
  refine wp_region_L (S := Kl Pr V.drew) 10 (by kernel_rfl) (Kl.of hp0) (fun hCl => ?_)
  refine wpAnyL_seg (fuel := 5) (by kernel_rfl) (fun _ d _ _ _ h => by cases d <;> exact h) hCl [0, 1, 3, 4, 6, 7] _ _ _ (by kernel_rfl) (by kernel_rfl) (by kernel_rfl) (by kernel_rfl) ?_
  simp only [opsOf_cons, opsOf_nil, consOp_some, List.getElem?_toArray, List.getElem?_cons_succ, List.getElem?_cons_zero]
  repeat (first | go_big_quiet_step (fail) | quiet_step (fail))
  refine wpQuiet_nil ?_
  refine wpAnyL_each (fuel := 4) [2] (by kernel_rfl) (by simp) (by kernel_rfl) ?_
  refine EachL.cons _ rfl (fun K' hK => ?_) EachL.nil
  go_simp
  refine (HC.out.1 _ _ _ (HQ.out.2.2.1.step (Below.refl _ V).drew).d).mono ?_
  rintro e z1 ⟨b1, u1, rfl, hm1⟩
  obtain ⟨ab_r, cb_r, rfl, -, -, -, -⟩ := hm1.v0.1
  obtain ⟨au_r, cu_r, rfl, -, -, -, -⟩ := hm1.v0.2
  have hst1 : Below V.heap.size V z1 := (Below.refl _ V).drew.trans hm1.below
  have hst := (hPr _).2 hst1
  have HM1 := Lib.hid (And.intro hm1 hst1)
  clear hm1 hst1
  have hCl : Kl Pr V.drew _ := Kl.of hst
  refine hK.out (.inr hCl) ?_
  clear hK K'
  refine wpAnyL_each (fuel := 3) [5] (by kernel_rfl) (by simp) (by kernel_rfl) ?_
  refine EachL.cons _ rfl (fun K' hK => ?_) EachL.nil
  go_simp
  refine (HC.out.2.1 _ _ (HQ.out.2.2.1.step HM1.out.2).n).mono ?_
  rintro e z2 ⟨x1v, rfl, hm2⟩
  obtain ⟨ax_r, cx_r, rfl, -, -⟩ := hm2.bytes.form rfl
  have hst2 := below_step HM1.out.2 HM1.out.2.size hm2.below
  have hst := (hPr _).2 hst2
  have HM2 := Lib.hid (And.intro hm2 hst2)
  clear hm2 hst2
  have hCl : Kl Pr V.drew _ := Kl.of hst
  refine hK.out (.inr hCl) ?_
  clear hK K'
  refine wpAnyL_each (fuel := 2) [8] (by kernel_rfl) (by simp) (by kernel_rfl) ?_
  refine EachL.cons _ rfl (fun K' hK => ?_) EachL.nil
  go_simp
  refine (HC.out.2.2 _ _ (HQ.out.2.2.1.step HM2.out.2).l).mono ?_
  rintro e z3 ⟨y1v, rfl, hm3⟩
  obtain ⟨ay_r, cy_r, rfl, -, -⟩ := hm3.bytes.form rfl
  have hst3 := below_step HM2.out.2 HM2.out.2.size hm3.below
  have hst := (hPr _).2 hst3
  have r0 := LK.cell (HQ.out.2.1.step hst3) 0
  have r1 := LK.cell (HQ.out.2.1.step hst3) 1
  have r2 := LK.cell (HQ.out.2.1.step hst3) 2
  have r3 := LK.cell (HQ.out.2.1.step hst3) 3
  simp at r0 r1 r2 r3
  have s0 := LK.frozen (HQ.out.2.1.step hst3) 0
  have s1 := LK.frozen (HQ.out.2.1.step hst3) 1
  have s2 := LK.frozen (HQ.out.2.1.step hst3) 2
  have s3 := LK.frozen (HQ.out.2.1.step hst3) 3
  have HM3 := Lib.hid (And.intro hm3 hst3)
  clear hm3 hst3
  have hCl : Kl Pr V.drew _ := Kl.of hst
  refine hK.out (.inr hCl) ?_
  clear hK K'
  refine wpAnyL_each (fuel := 1) [9] (by kernel_rfl) (by simp) (by kernel_rfl) ?_
  refine EachL.cons _ rfl (fun K' hK => ?_) EachL.nil
  go_simp
  have hst := (hPr _).2 HM3.out.2
  have hCl : Kl Pr V.drew _ := Kl.of hst
  refine hK.out (.inr hCl) ?_
  clear hK K'
  refine wpAnyL_each (fuel := 0) [10] (by kernel_rfl) (by simp) (by kernel_rfl) ?_
  refine EachL.cons _ rfl (fun K' hK => ?_) EachL.nil
  go_simp
  refine hK.out (.inl rfl) ?_
  clear hK K'
  refine wpAnyL_done (by kernel_rfl) ?_ _
  clear x0 x1 x2 x3
  go_wp2
  refine bodyPost_ret (v := .agg #[.slice ab_r s.disk.blocks.length cb_r, .slice au_r s.disk.waits.length cu_r, .slice ax_r s.now.length cx_r, .slice ay_r s.last.length cy_r]) (by simp [results, Try.results23, go_sem, r0, r1, r2, r3]) rfl ⟨_, _, _, _, rfl, ?_⟩
  obtain ⟨hm1, h1⟩ := HM1.out
  obtain ⟨hm2, h2⟩ := HM2.out
  obtain ⟨hm3, h3⟩ := HM3.out
  have g1 := hm1.below.size
  have g2 := hm2.below.size
  have g3 := hm3.below.size
  have gV : w.heap.size + 1 < V.heap.size := sz_V
  have hv : V.heap.size ≤ z1.heap.size := h1.size
  have hd := (hm1.disk.below (hm2.below.trans (hm3.below.mono g2)) (Nat.le_refl _))
  have hn := hm2.bytes.below hm3.below (Nat.le_refl _)
  have ht := thawed_below hm2.bytes hm2.thawed hm3.below (Nat.le_refl _)
  have hs : StoreT z3 (w.heap.size + 2) z3.heap.size (.slice ab_r s.disk.blocks.length cb_r) (.slice au_r s.disk.waits.length cu_r) (.slice ax_r s.now.length cx_r) (.slice ay_r s.last.length cy_r) s := ⟨DiskT.more hd (by show w.heap.size + 2 ≤ V.heap.size; omega) (by omega), ⟨hn.more (by omega) (by omega), ht⟩, ⟨hm3.bytes.more (by omega) (Nat.le_refl _), hm3.thawed⟩⟩
  have hsz : ∀ a b c d : Value, ((((z3.setCell ⟨w.heap.size + 1, 0, none⟩ a).setCell ⟨w.heap.size + 1, 1, none⟩ b).setCell ⟨w.heap.size + 1, 2, none⟩ c).setCell ⟨w.heap.size + 1, 3, none⟩ d).heap.size = z3.heap.size := fun a b c d => by simp only [World.size_setCell]
  refine ⟨(hs.keep (kp_four z3 _ _ _ _ (.inl (Nat.lt_succ_self _)))).more (by omega) (by rw [hsz]; exact Nat.le_refl _), ?_⟩
  exact Below.trans (LW.step HQ.out.2.2.2 h3) (below_four z3 _ _ _ _ (Nat.le_succ _))

end Go.Proofs.Ytkfgegdnpinbdaa

namespace Go.Proofs.Ytkfgegdnpinbdaa
open Go.RowKit

/-- A store that is not great. -/
def SmallS (s : StoreL) : Prop := (s.disk.blocks.length ≤ 300 ∧ s.disk.waits.length ≤ 5000 ∧ (datD s.disk).flatten.length ≤ 800000) ∧ s.now.length ≤ 10000 ∧ s.last.length ≤ 10000
theorem SmallS.few {s : StoreL} (h : SmallS s) : FewS s := by
  obtain ⟨⟨h1, h2, h3⟩, h4, h5⟩ := h
  exact ⟨by omega, by omega, by omega, by omega, by omega⟩

set_option maxRecDepth 100000 in
set_option maxHeartbeats 1000000 in
theorem great8_any (b_s u_s x_s y_s : Value) (s : StoreL) (w : World) (h_s : StoreV w 0 w.heap.size b_s u_s x_s y_s s) :
    Calls Try.prog 5 #[.agg #[b_s, u_s, x_s, y_s]] w fun e w' => ∃ g, e = .returned (.bool g) ∧ Below w.heap.size w w' ∧ (g = false → SmallS s) := by
  obtain ⟨ab_s, cb_s, rfl, gb_s, gc_s, -, -⟩ := h_s.1.1
  obtain ⟨au_s, cu_s, rfl, gu_s, gv_s, -, -⟩ := h_s.1.2
  obtain ⟨ax_s, cx_s, rfl, gx_s, gz_s⟩ := h_s.2.1.form rfl
  obtain ⟨ay_s, cy_s, rfl, gy_s, gw_s⟩ := h_s.2.2.form rfl
  unfold maxLen at gc_s gv_s gz_s gw_s
  have hst := ((Below.refl w.heap.size w).alloc (Nat.le_refl _) (.cells #[.slice ab_s s.disk.blocks.length cb_s, .slice au_s s.disk.waits.length cu_s, .slice ax_s s.now.length cx_s, .slice ay_s s.last.length cy_s] 28))
  have q_s := LK.new w (.cells #[.slice ab_s s.disk.blocks.length cb_s, .slice au_s s.disk.waits.length cu_s, .slice ax_s s.now.length cx_s, .slice ay_s s.last.length cy_s] 28)
  have hB : LW w _ := hst
  have O_s := (LO.of h_s (Nat.le_refl _)).step hst
  have sz_V : w.heap.size + 0 < (w.alloc (.cells #[.slice ab_s s.disk.blocks.length cb_s, .slice au_s s.disk.waits.length cu_s, .slice ax_s s.now.length cx_s, .slice ay_s s.last.length cy_s] 28)).heap.size := by simp
  obtain ⟨V, hV⟩ : ∃ V, (w.alloc (.cells #[.slice ab_s s.disk.blocks.length cb_s, .slice au_s s.disk.waits.length cu_s, .slice ax_s s.now.length cx_s, .slice ay_s s.last.length cy_s] 28)) = V := ⟨_, rfl⟩
  rw [hV] at sz_V q_s O_s hB
  clear hst h_s
  have HQ := Lib.hid (And.intro q_s (And.intro O_s hB))
  clear q_s O_s hB
  have c_q_s0 := LK.cell HQ.out.1 0
  have c_q_s1 := LK.cell HQ.out.1 1
  have c_q_s2 := LK.cell HQ.out.1 2
  have c_q_s3 := LK.cell HQ.out.1 3
  simp at c_q_s0 c_q_s1 c_q_s2 c_q_s3
  have k_g := fun V b u hh => great_any b u s.disk V hh
  have HC := Lib.hid (k_g)
  clear k_g
  go_enter Try.func5, Try.ntmps5
  go_upto_region 1 with (fail)
  clear hV
  go_wp2_with fail
  refine (HC.out _ _ _ HQ.out.2.1.d).mono ?_
  rintro e w1 ⟨g, rfl, hst, hg⟩
  clear c_q_s0 c_q_s1 c_q_s2 c_q_s3
  obtain ⟨q_s, O_s, hB⟩ := HQ.out
  clear HQ
  have sz_w1 : V.heap.size ≤ w1.heap.size := hst.size
  replace q_s := q_s.step hst
  replace O_s := O_s.step hst
  replace hB := hB.step hst
  clear hst
  have HQ := Lib.hid (And.intro q_s (And.intro O_s hB))
  clear q_s O_s hB
  have c_q_s0 := LK.cell HQ.out.1 0
  have c_q_s1 := LK.cell HQ.out.1 1
  have c_q_s2 := LK.cell HQ.out.1 2
  have c_q_s3 := LK.cell HQ.out.1 3
  simp at c_q_s0 c_q_s1 c_q_s2 c_q_s3
  cases g
  case true =>
    go_wp2
    go_ret
    exact ⟨true, rfl, HQ.out.2.2, fun h => by cases h⟩
  have hg := hg rfl
  have HG := Lib.hid hg
  clear hg
  by_cases h1 : 10000 < s.now.length
  · have i1 : (10000 : Int) < s.now.length := by omega
    go_wp2
    go_ret
    exact ⟨true, rfl, HQ.out.2.2, fun h => by cases h⟩
  have i1 : decide ((10000 : Int) < s.now.length) = false := by simp; omega
  by_cases h2 : 10000 < s.last.length
  · have i2 : (10000 : Int) < s.last.length := by omega
    go_wp2
    go_ret
    exact ⟨true, rfl, HQ.out.2.2, fun h => by cases h⟩
  have i2 : decide ((10000 : Int) < s.last.length) = false := by simp; omega
  go_wp2
  go_ret
  exact ⟨false, rfl, HQ.out.2.2, fun _ => ⟨HG.out, by omega, by omega⟩⟩

theorem errAs_cases (s : StoreL) (p : Int) : (errS s = 8 ∧ errAs s p = 8) ∨ (errS s = 0 ∧ mayS s = true ∧ ((p < 8 ∧ errAs s p = 2) ∨ (256 ≤ p ∧ errAs s p = 2) ∨
    ∃ pn : Nat, p = pn ∧ 8 ≤ pn ∧ pn < 256 ∧ ((s.now.getD pn 0 = 0 ∧ errAs s p = 6) ∨ (s.now.getD pn 0 ≠ 0 ∧ errAs s p = 0)))) := by
  unfold errS errAs
  cases hm : mayS s with
  | false => exact .inl ⟨rfl, rfl⟩
  | true =>
    refine .inr ⟨rfl, rfl, ?_⟩
    rw [if_pos rfl]
    by_cases h1 : p < 8
    · exact .inl ⟨h1, by rw [if_pos (.inl h1)]⟩
    by_cases h2 : 256 ≤ p
    · exact .inr (.inl ⟨h2, by rw [if_pos (.inr h2)]⟩)
    obtain ⟨pn, rfl⟩ : ∃ pn : Nat, p = pn := ⟨p.toNat, by omega⟩
    refine .inr (.inr ⟨pn, rfl, by omega, by omega, ?_⟩)
    rw [if_neg (by omega), Int.toNat_natCast]
    by_cases h3 : s.now.getD pn 0 = 0
    · exact .inl ⟨h3, by rw [if_pos h3]⟩
    · exact .inr ⟨h3, by rw [if_neg h3]⟩
theorem u8_nz {x : UInt8} (h : x ≠ 0) : ¬ (x.toNat : Int) = 0 := fun e => h (u8_inj (by show x.toNat = 0; omega))

end Go.Proofs.Ytkfgegdnpinbdaa

