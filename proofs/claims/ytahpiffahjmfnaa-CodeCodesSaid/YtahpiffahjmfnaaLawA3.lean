/- The walk of CodeCodes. -/
import Derived.Test.YtahpiffahjmfnaaLawA1
import Derived.Test.YtahpiffahjmfnaaReg
import Derived.Deep.RegionHeld
namespace Go.Proofs.Ytahpiffahjmfnaa
open Go.RowKit

def cvt (v : Value) (l : List UInt8) (w : World) : Prop := (convert 22 9 v).run Try.prog w = .ok (.string ⟨l.toArray⟩) w
theorem cvt_of {w : World} {lo hi : Nat} {v : Value} {l : List UInt8} (h : Bytes w lo hi v l) : (convert 22 9 v).run Try.prog w = .ok (.string ⟨l.toArray⟩) w :=
  conv_bytes (P := Try.prog) h 22 9 5 Try.underlying22 Try.underlying5 Try.underlying9

/-- The reference's Two, both ways. -/
theorem rtwo_any (n : Int) (w : World) : Calls Try.prog 21 #[.int .i64 n] w fun e w' => ∃ v l te, e = .returned (.tuple #[v, .int .i64 te]) ∧ MadeB w w' v l ∧
    ((te = 0 ∧ 0 ≤ n ∧ n < 65536 ∧ l = twoL n.toNat) ∨ (te = 2 ∧ l = [] ∧ (n < 0 ∨ 65536 ≤ n))) := by
  by_cases h : 0 ≤ n ∧ n < 65536
  · obtain ⟨k, rfl⟩ := Int.eq_ofNat_of_zero_le h.1
    exact (rtwo_yes k w (by omega)).mono fun e w' ⟨v, he, hm⟩ => ⟨v, _, 0, he, hm, .inl ⟨rfl, h.1, h.2, rfl⟩⟩
  · exact (rtwo_no n w h).mono fun e w' ⟨he, hw⟩ => ⟨_, [], 2, he, by subst hw; exact MadeB.nil_ (Below.refl _ _), .inr ⟨rfl, rfl, by omega⟩⟩

set_option maxHeartbeats 4000000 in
set_option maxRecDepth 100000 in
theorem codeCodes_walk (n m : Int) (v : Value) (l : List UInt8) (at_ : Int) (w : World) (_wn : (Lit.int .i64 n).wf = true) (wm : (Lit.int .u32 m).wf = true) (hI : Bytes w 0 w.heap.size v l) (_wa : (Lit.int .i64 at_).wf = true) :
    Calls Try.prog 7 #[.int .i64 n, .int .u32 m, v, .int .i64 at_] w fun e w' => e = .returned (.bool true) ∧ Below w.heap.size w w' := by
  obtain ⟨a0, a1⟩ := bounds_u32 wm
  obtain ⟨m, rfl⟩ := Int.eq_ofNat_of_zero_le a0
  clear wm a0
  have hlm := hI.len_le
  unfold maxLen at hlm
  by_cases hl : 10000 < l.length
  · obtain ⟨a, c, rfl, g1, g2, g3, _⟩ := hI
    clear g3
    go_enter Try.func7, Try.ntmps7
    go_wp2
    go_ret
    exact ⟨rfl, Below.refl _ _⟩
  · obtain ⟨a, c, rfl, g1, g2, g3, g4⟩ := id hI
    clear g3 g4
    go_enter Try.func7, Try.ntmps7
    go_wp2_with (at_builtin; refine wpList_appB rfl _ _ 22 rfl w.heap.size 5 Try.underlying22 info_u8 _ [] rfl (OwnB.nil_ _ _ _) 0 w.heap.size _ l rfl hI (by simp; omega) (Nat.le_refl _) ?_; intro ov w1 hown hB1)
    -- GEN
    have hB := hB1
    have hs := hB1.size
    have ho : Bytes w1 0 w1.heap.size ov l := hown.bytes.all0
    have hi : Bytes w1 0 w1.heap.size _ l := hI.step hB1
    clear hown hB1
    refine (two_any n _).mono ?_
    rintro e w2 ⟨pv, pl, te, rfl, hm, hte⟩
    have hst := hm.below
    replace hB := below_step hB hs hst
    replace hs := Nat.le_trans hs hst.size
    replace ho := ho.step hst
    replace hi := hi.step hst
    have hp := hm.bytes.all0
    clear hm hst
    have Hte := Lib.hid hte
    clear hte
    go_wp2_with fail
    refine (rtwo_any n _).mono ?_
    rintro e w3 ⟨qv, ql, tf, rfl, hm, htf⟩
    have hst := hm.below
    replace hB := below_step hB hs hst
    replace hs := Nat.le_trans hs hst.size
    replace ho := ho.step hst
    replace hi := hi.step hst
    replace hp := hp.step hst
    have hq := hm.bytes.all0
    clear hm hst
    have Htf := Lib.hid htf
    clear htf
    have hpq : pl = ql ∧ te = tf := by
      rcases Hte.out with ⟨rfl, h1, h2, rfl⟩ | ⟨rfl, rfl, h1⟩ <;> rcases Htf.out with ⟨rfl, h3, h4, rfl⟩ | ⟨rfl, rfl, h3⟩ <;> first | exact ⟨rfl, rfl⟩ | omega
    obtain ⟨rfl, rfl⟩ := hpq
    clear Hte Htf
    have hc := fun W h => getTwo_any ov l at_ W h
    have hd := fun W h => rgetTwo_any _ l at_ W (h : Bytes W 0 W.heap.size (.slice a l.length c) l)
    generalize getN l at_ 2 = n2 at *
    generalize getE l at_ 2 = e2 at *
    have Hc := Lib.hid hc
    have Hd := Lib.hid hd
    clear hc hd
    go_wp2_with fail
    refine (Hc.out _ ho).mono ?_
    rintro e w4 ⟨rfl, hb⟩
    have hst := hb
    replace hB := below_step hB hs hst
    replace hs := Nat.le_trans hs hst.size
    replace ho := ho.step hst
    replace hi := hi.step hst
    replace hp := hp.step hst
    replace hq := hq.step hst
    clear hb Hc hst
    go_wp2_with fail
    refine (Hd.out _ hi).mono ?_
    rintro e w5 ⟨rfl, rfl⟩
    clear Hd
    have hc := fun W h => getFour_any ov l at_ W h
    have hd := fun W h => rgetFour_any _ l at_ W (h : Bytes W 0 W.heap.size (.slice a l.length c) l)
    generalize getN l at_ 4 = n4 at *
    generalize getE l at_ 4 = e4 at *
    have Hc := Lib.hid hc
    have Hd := Lib.hid hd
    clear hc hd
    go_wp2_with fail
    refine (Hc.out _ ho).mono ?_
    rintro e w5 ⟨rfl, hb⟩
    have hst := hb
    replace hB := below_step hB hs hst
    replace hs := Nat.le_trans hs hst.size
    replace ho := ho.step hst
    replace hi := hi.step hst
    replace hp := hp.step hst
    replace hq := hq.step hst
    clear hb Hc hst
    go_wp2_with fail
    refine (Hd.out _ hi).mono ?_
    rintro e w6 ⟨rfl, rfl⟩
    clear Hd
    go_wp2_with fail
    have cp := fun (W : World) => cvt_of (hp.step (aft_below w5 W))
    have cq := fun (W : World) => cvt_of (hq.step (aft_below w5 W))
    have co := fun (W : World) => cvt_of (ho.step (aft_below w5 W))
    have ci := fun (W : World) => cvt_of (hi.step (aft_below w5 W))
    clear hI
    refine wp_region_held_drew (S := Cls w5) (by kernel_rfl) (Cls.drew w5) (fun hCl => ?_)
    refine wpAnyH_seg (fuel := 34) (by kernel_rfl) (fun _ d _ _ _ h => by cases d <;> exact h) hCl [0, 1, 2, 3, 4, 5, 6, 7, 8, 9, 10, 11, 14] _ _ _ (by kernel_rfl) (by kernel_rfl) ?_
    simp only [opsOf_cons, opsOf_nil, consOp_some, List.getElem?_toArray, List.getElem?_cons_succ, List.getElem?_cons_zero]
    repeat (first | go_big_quiet_step (fail) | quiet_step (fail))
    refine wpQuiet_nil ?_
    refine wpAnyH_each (fuel := 33) [12] (by kernel_rfl) (by simp) (by kernel_rfl) ?_
    refine Each.cons _ rfl (fun K' hK => ?_) Each.nil
    go_simp
    refine (four_any m _ (by omega)).mono ?_
    rintro e w8 ⟨v8, rfl, hm⟩
    have hst : Below w5.heap.size w5 w8 := (Below.refl w5.heap.size w5).drew.trans hm.below
    have hc8 := hm.bytes.all0
    clear hm
    replace hB := below_step hB hs hst
    replace hs := Nat.le_trans hs hst.size
    replace hp := hp.step hst
    replace cp := fun (W : World) => cvt_of (hp.step (aft_below w8 W))
    replace hq := hq.step hst
    replace cq := fun (W : World) => cvt_of (hq.step (aft_below w8 W))
    replace ho := ho.step hst
    replace co := fun (W : World) => cvt_of (ho.step (aft_below w8 W))
    replace hi := hi.step hst
    replace ci := fun (W : World) => cvt_of (hi.step (aft_below w8 W))
    have c8 := fun (W : World) => cvt_of (hc8.step (aft_below w8 W))
    refine hK.out (Cls w8) (Cls.sub hst) (Cls.refl w8) ?_
    have hCl := Cls.refl w8
    clear hK K'
    refine wpAnyH_seg (fuel := 32) (by kernel_rfl) (fun _ d _ _ _ h => by cases d <;> exact h) hCl [13] _ _ _ (by kernel_rfl) (by kernel_rfl) ?_
    simp only [opsOf_cons, opsOf_nil, consOp_some, List.getElem?_toArray, List.getElem?_cons_succ, List.getElem?_cons_zero]
    repeat (first | go_big_quiet_step (fail) | quiet_step (fail))
    refine wpQuiet_nil ?_
    refine wpAnyH_each (fuel := 31) [15] (by kernel_rfl) (by simp) (by kernel_rfl) ?_
    refine Each.cons _ rfl (fun K' hK => ?_) Each.nil
    go_simp
    refine (rfour_any m _ (by omega)).mono ?_
    rintro e w9 ⟨v9, rfl, hm⟩
    have hst : Below w8.heap.size w8 w9 := hm.below
    have hc9 := hm.bytes.all0
    clear hm
    replace hB := below_step hB hs hst
    replace hs := Nat.le_trans hs hst.size
    replace hp := hp.step hst
    replace cp := fun (W : World) => cvt_of (hp.step (aft_below w9 W))
    replace hq := hq.step hst
    replace cq := fun (W : World) => cvt_of (hq.step (aft_below w9 W))
    replace ho := ho.step hst
    replace co := fun (W : World) => cvt_of (ho.step (aft_below w9 W))
    replace hi := hi.step hst
    replace ci := fun (W : World) => cvt_of (hi.step (aft_below w9 W))
    replace hc8 := hc8.step hst
    replace c8 := fun (W : World) => cvt_of (hc8.step (aft_below w9 W))
    have c9 := fun (W : World) => cvt_of (hc9.step (aft_below w9 W))
    refine hK.out (Cls w9) (Cls.sub hst) (Cls.refl w9) ?_
    have hCl := Cls.refl w9
    clear hK K'
    refine wpAnyH_seg (fuel := 0) (by kernel_rfl) (fun _ d _ _ _ h => by cases d <;> exact h) hCl [16, 17, 18, 19, 20, 21, 22, 23, 24, 25, 26, 27, 28, 29, 30, 31, 32, 33, 34, 35, 36, 37, 38, 39, 40, 41, 42, 43, 44, 45, 46] _ _ _ (by kernel_rfl) (by kernel_rfl) ?_
    simp only [opsOf_cons, opsOf_nil, consOp_some, List.getElem?_toArray, List.getElem?_cons_succ, List.getElem?_cons_zero]
    repeat (first | go_big_quiet_step (fail) | quiet_step (fail))
    refine wpQuiet_nil ?_
    refine wpAnyH_done (by kernel_rfl) ?_ _
    go_wp2
    go_ret
    exact ⟨rfl, hB⟩
end Go.Proofs.Ytahpiffahjmfnaa
