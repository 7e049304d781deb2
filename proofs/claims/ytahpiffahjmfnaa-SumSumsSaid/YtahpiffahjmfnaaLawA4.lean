/- The walk of CodeBack. -/
import Derived.Test.YtahpiffahjmfnaaLawA2
import Derived.Test.YtahpiffahjmfnaaReg
import Derived.Deep.RegionHeld
namespace Go.Proofs.Ytahpiffahjmfnaa
open Go.RowKit

theorem get_mid (a b c : List UInt8) : getN (a ++ b ++ c) (a.length : Int) b.length = numOf b ∧ getE (a ++ b ++ c) (a.length : Int) b.length = 0 := by
  have h : 0 ≤ (a.length : Int) ∧ (a.length : Int).toNat + b.length ≤ (a ++ b ++ c).length := by simp
  unfold getN getE
  rw [if_pos h, if_pos h]
  exact ⟨by simp, rfl⟩
theorem two_of (l : List UInt8) (k : Nat) (h : k + 2 ≤ l.length) : twoL (numOf ((l.drop k).take 2)) = (l.drop k).take 2 := by
  have hk : (l.drop k).length = l.length - k := by simp
  match (l.drop k), hk with
  | a :: b :: r, _ =>
    have ha := a.toNat_lt
    have hb := b.toNat_lt
    simp only [List.take_succ_cons, List.take_zero, numOf, twoL, List.cons.injEq, and_true]
    refine ⟨?_, ?_⟩ <;> (apply UInt8.toNat_inj.1; simp only [UInt8.toNat_ofNat']; omega)
  | [], hk => simp at hk; omega
  | [a], hk => simp at hk; omega
theorem four_of (l : List UInt8) (k : Nat) (h : k + 4 ≤ l.length) : fourL (numOf ((l.drop k).take 4)) = (l.drop k).take 4 := by
  have hk : (l.drop k).length = l.length - k := by simp
  match (l.drop k), hk with
  | a :: b :: c :: d :: r, _ =>
    have ha := a.toNat_lt
    have hb := b.toNat_lt
    have hc := c.toNat_lt
    have hd := d.toNat_lt
    simp only [List.take_succ_cons, List.take_zero, numOf, fourL, List.cons.injEq, and_true]
    refine ⟨?_, ?_, ?_, ?_⟩ <;> (apply UInt8.toNat_inj.1; simp only [UInt8.toNat_ofNat']; omega)
  | [], hk => simp at hk; omega
  | [a], hk => simp at hk; omega
  | [a, b], hk => simp at hk; omega
  | [a, b, c], hk => simp at hk; omega
theorem get_yes' (l : List UInt8) (k many : Nat) (h : k + many ≤ l.length) : getN l (k : Int) many = numOf ((l.drop k).take many) ∧ getE l (k : Int) many = 0 := by
  have h' : 0 ≤ (k : Int) ∧ (k : Int).toNat + many ≤ l.length := by omega
  unfold getN getE
  rw [if_pos h', if_pos h']
  simp
theorem get_no' (l : List UInt8) (at_ : Int) (many : Nat) (h : at_ < 0 ∨ (0 ≤ at_ ∧ (l.length : Int) - many < at_)) : getN l at_ many = 0 ∧ getE l at_ many = 8 := by
  have h' : ¬ (0 ≤ at_ ∧ at_.toNat + many ≤ l.length) := by omega
  unfold getN getE
  rw [if_neg h', if_neg h']
  exact ⟨rfl, rfl⟩
def cvt (v : Value) (l : List UInt8) (w : World) : Prop := (convert 22 9 v).run Try.prog w = .ok (.string ⟨l.toArray⟩) w
theorem cvt_of {w : World} {lo hi : Nat} {v : Value} {l : List UInt8} (h : Bytes w lo hi v l) : (convert 22 9 v).run Try.prog w = .ok (.string ⟨l.toArray⟩) w :=
  conv_bytes (P := Try.prog) h 22 9 5 Try.underlying22 Try.underlying5 Try.underlying9

set_option maxHeartbeats 4000000 in
set_option maxRecDepth 100000 in
theorem codeBack_long (n m : Int) (v : Value) (la : List UInt8) (u : Value) (lb : List UInt8) (at_ : Int) (w : World) (_wn : (Lit.int .i64 n).wf = true) (wm : (Lit.int .u32 m).wf = true) (hv : Bytes w 0 w.heap.size v la) (hu : Bytes w 0 w.heap.size u lb) (_wa : (Lit.int .i64 at_).wf = true) (hl : 10000 < la.length ∨ (la.length ≤ 10000 ∧ 10000 < lb.length)) :
    Calls Try.prog 8 #[.int .i64 n, .int .u32 m, v, u, .int .i64 at_] w fun e w' => e = .returned (.bool true) ∧ Below w.heap.size w w' := by
  obtain ⟨a0, a1⟩ := bounds_u32 wm
  obtain ⟨m, rfl⟩ := Int.eq_ofNat_of_zero_le a0
  clear wm a0
  obtain ⟨a, c, rfl, g1, g2, g3, g4⟩ := id hv
  obtain ⟨b, d, rfl, g5, g6, g7, g8⟩ := id hu
  clear g3 g4 g7 g8
  unfold maxLen at g2 g6
  clear hv hu
  rcases hl with hl | ⟨hl, hl2⟩
  all_goals
    go_enter Try.func8, Try.ntmps8
    go_wp2_with fail
    refine (alive1 _).mono ?_
    rintro e w1 ⟨rfl, hb1⟩
    go_wp2
    go_ret
    exact ⟨rfl, hb1⟩

set_option maxHeartbeats 4000000 in
set_option maxRecDepth 100000 in
theorem codeBack_yes (n : Nat) (m : Int) (v : Value) (la : List UInt8) (u : Value) (lb : List UInt8) (at_ : Int) (w : World) (wm : (Lit.int .u32 m).wf = true) (hv : Bytes w 0 w.heap.size v la) (hu : Bytes w 0 w.heap.size u lb) (_wa : (Lit.int .i64 at_).wf = true) (hl : la.length ≤ 10000) (hl2 : lb.length ≤ 10000) (hn : n < 65536) :
    Calls Try.prog 8 #[.int .i64 n, .int .u32 m, v, u, .int .i64 at_] w fun e w' => e = .returned (.bool true) ∧ Below w.heap.size w w' := by
  obtain ⟨a0, a1⟩ := bounds_u32 wm
  obtain ⟨m, rfl⟩ := Int.eq_ofNat_of_zero_le a0
  clear wm a0
  obtain ⟨a, c, rfl, g1, g2, g3, g4⟩ := id hv
  obtain ⟨b, d, rfl, g5, g6, g7, g8⟩ := id hu
  clear g3 g4 g7 g8
  unfold maxLen at g2 g6
  go_enter Try.func8, Try.ntmps8
  have hB := Below.refl w.heap.size w
  have hs := Nat.le_refl w.heap.size
  go_wp2_with fail
  refine (alive1 _).mono ?_
  rintro e w1 ⟨rfl, hb⟩
  have hst := hb
  replace hB := below_step hB hs hst
  replace hs := Nat.le_trans hs hst.size
  replace hv := hv.step hst
  replace hu := hu.step hst
  clear hb hst
  go_wp2_with fail
  refine (two_yes n _ (by omega)).mono ?_
  rintro e w2 ⟨bv, rfl, hm⟩
  have hst := hm.below
  replace hB := below_step hB hs hst
  replace hs := Nat.le_trans hs hst.size
  replace hv := hv.step hst
  replace hu := hu.step hst
  have ht := hm.bytes.all0
  clear hm hst
  go_wp2_with (first | (at_builtin; refine wpList_appB rfl (.const (.slice none 0 0)) (.tmp 43) 22 rfl w2.heap.size 5 Try.underlying22 info_u8 _ ([]) rfl (OwnB.nil_ _ _ _) 0 w2.heap.size _ (la) rfl hv (by simp; omega) (Nat.le_refl _) ?_; intro o0 z0 n0 x0; have y0 := x0) | (at_builtin; refine wpList_appB rfl (.tmp 44) (.tmp 45) 22 rfl w2.heap.size 5 Try.underlying22 info_u8 _ (([]) ++ la) rfl (n0) 0 w2.heap.size _ (twoL n) rfl (ht.below y0 (Nat.le_refl _)) (by simp [twoL]; omega) y0.size ?_; intro o1 z1 n1 x1; have y1 := y0.trans x1) | (at_builtin; refine wpList_appB rfl (.tmp 46) (.tmp 47) 22 rfl w2.heap.size 5 Try.underlying22 info_u8 _ ((([]) ++ la) ++ twoL n) rfl (n1) 0 w2.heap.size _ (lb) rfl (hu.below y1 (Nat.le_refl _)) (by simp [twoL]; omega) y1.size ?_; intro o2 z2 n2 x2; have y2 := y1.trans x2))
  have hst := y2
  replace hB := below_step hB hs hst
  replace hs := Nat.le_trans hs hst.size
  have hk := n2.bytes.all0
  replace hv := hv.step hst
  replace hu := hu.step hst
  replace ht := ht.step hst
  clear n0 n1 n2 x0 x1 x2 y0 y1 y2 hst
  have hc := getTwo_any _ _ (la.length : Int) _ hk
  have hgm := get_mid ([] ++ la) (twoL n) lb
  simp only [List.nil_append, show (twoL n).length = 2 from rfl, numOf_twoL n (by omega)] at hgm hc
  rw [hgm.1, hgm.2] at hc
  obtain ⟨ta, tc, rfl, _, _, _⟩ := id ht
  clear hgm hk ht
  have htl : (twoL n).length = 2 := rfl
  rw [htl]
  clear htl
  refine (hc).mono ?_
  rintro e w3 ⟨rfl, hb⟩
  have hst := hb
  replace hB := below_step hB hs hst
  replace hs := Nat.le_trans hs hst.size
  replace hv := hv.step hst
  replace hu := hu.step hst
  clear hst hb hc
  go_wp2_with fail
  refine (four_any m _ (by omega)).mono ?_
  rintro e w4 ⟨cv, rfl, hm⟩
  have hst := hm.below
  replace hB := below_step hB hs hst
  replace hs := Nat.le_trans hs hst.size
  replace hv := hv.step hst
  replace hu := hu.step hst
  have ht := hm.bytes.all0
  clear hm hst
  go_wp2_with (first | (at_builtin; refine wpList_appB rfl (.const (.slice none 0 0)) (.tmp 69) 22 rfl w4.heap.size 5 Try.underlying22 info_u8 _ ([]) rfl (OwnB.nil_ _ _ _) 0 w4.heap.size _ (la) rfl hv (by simp; omega) (Nat.le_refl _) ?_; intro o0 z0 n0 x0; have y0 := x0) | (at_builtin; refine wpList_appB rfl (.tmp 70) (.tmp 71) 22 rfl w4.heap.size 5 Try.underlying22 info_u8 _ (([]) ++ la) rfl (n0) 0 w4.heap.size _ (fourL m) rfl (ht.below y0 (Nat.le_refl _)) (by simp [fourL]; omega) y0.size ?_; intro o1 z1 n1 x1; have y1 := y0.trans x1) | (at_builtin; refine wpList_appB rfl (.tmp 72) (.tmp 73) 22 rfl w4.heap.size 5 Try.underlying22 info_u8 _ ((([]) ++ la) ++ fourL m) rfl (n1) 0 w4.heap.size _ (lb) rfl (hu.below y1 (Nat.le_refl _)) (by simp [fourL]; omega) y1.size ?_; intro o2 z2 n2 x2; have y2 := y1.trans x2))
  have hst := y2
  replace hB := below_step hB hs hst
  replace hs := Nat.le_trans hs hst.size
  have hk := n2.bytes.all0
  replace hv := hv.step hst
  replace hu := hu.step hst
  replace ht := ht.step hst
  clear n0 n1 n2 x0 x1 x2 y0 y1 y2 hst
  have hc := getFour_any _ _ (la.length : Int) _ hk
  have hgm := get_mid ([] ++ la) (fourL m) lb
  simp only [List.nil_append, show (fourL m).length = 4 from rfl, numOf_fourL m (by omega)] at hgm hc
  rw [hgm.1, hgm.2] at hc
  obtain ⟨tb, td, rfl, _, _, _⟩ := id ht
  clear hgm hk ht
  have htl : (fourL m).length = 4 := rfl
  rw [htl]
  clear htl
  refine (hc).mono ?_
  rintro e w5 ⟨rfl, hb⟩
  have hst := hb
  replace hB := below_step hB hs hst
  replace hs := Nat.le_trans hs hst.size
  replace hv := hv.step hst
  replace hu := hu.step hst
  clear hst hb hc
  have HU := hu
  have hq2 := getN_lt lb at_ 2
  have hq4 := getN_lt lb at_ 4
  simp only [show (256 : Nat) ^ 2 = 65536 by decide] at hq2
  simp only [show (256 : Nat) ^ 4 = 4294967296 by decide] at hq4
  go_wp2_with fail
  refine (getTwo_any _ lb at_ _ hu).mono ?_
  rintro e v1 ⟨rfl, hb⟩
  have hst := hb
  replace hB := below_step hB hs hst
  replace hs := Nat.le_trans hs hst.size
  replace hv := hv.step hst
  replace hu := hu.step hst
  clear hst hb HU
  by_cases h2 : 0 ≤ at_ ∧ at_.toNat + 2 ≤ lb.length
  · obtain ⟨k, rfl⟩ := Int.eq_ofNat_of_zero_le h2.1
    simp only [Int.toNat_natCast] at h2
    have h2k := h2.2
    clear h2
    have e2 := get_yes' lb k 2 h2k
    have htw := two_of lb k h2k
    rw [e2.1, e2.2]
    rw [e2.1] at hq2
    obtain ⟨bb, off, d, hbe, _, _, _, _, _⟩ := hu.at_ (by omega)
    cases hbe
    clear e2
    have hcut2 := hu.cut k 2 (d - k) h2k (by omega) (by unfold maxLen; omega)
    rw [← htw] at hcut2
    generalize numOf ((lb.drop k).take 2) = q2 at *
    have Htw := Lib.hid htw
    clear htw
    go_wp2_with fail
    refine (two_yes q2 _ (by omega)).mono ?_
    rintro e v2 ⟨dv, rfl, hm⟩
    have hst := hm.below
    replace hB := below_step hB hs hst
    replace hs := Nat.le_trans hs hst.size
    replace hv := hv.step hst
    replace hu := hu.step hst
    replace hcut2 := hcut2.step hst
    have hd := hm.bytes.all0
    clear hst hm
    have c1 := fun nq => cvt_of (w := v2.drewN nq) hd
    have c2 := fun nq => cvt_of (w := v2.drewN nq) hcut2
    clear hd hcut2
    go_wp2_with fail
    have f1 : IntKind.i64.wrap ((k : Int) + 2) = (k : Int) + 2 := IntWalk.i64_in _ (by omega)
    have f2 : IntKind.i64.wrap ((lb.length : Int) - 2) = (lb.length : Int) - 2 := IntWalk.i64_in _ (by omega)
    have f3 : ((k : Int) + 2).toNat = k + 2 := by omega
    have f4 : (k : Int) ≤ (lb.length : Int) - 2 := by omega
    have f5 : ¬ d = k := by omega
    have f6 : (k : Int) + 2 ≤ (d : Int) := by omega
    have f7 : (0 : Int) ≤ (k : Int) + 2 := by omega
    have f8 : (k : Int) ≤ (k : Int) + 2 := by omega
    have f9 : k + 2 - k = 2 := by omega
    go_quiet (fail)
    clear c1 c2 f1 f2 f3 f4 f5 f6 f7 f8 f9
    have hst := below_drewN (Below.refl v2.heap.size v2) nq
    replace hB := below_step hB hs hst
    replace hs := Nat.le_trans hs hst.size
    replace hv := hv.step hst
    replace hu := hu.step hst
    clear hst
    by_cases h4 : k + 4 ≤ lb.length
    · have e4 := get_yes' lb k 4 h4
      have htw := four_of lb k h4
      have hc := getFour_any _ lb (k : Int) _ hu
      rw [e4.1, e4.2] at hc
      rw [e4.1] at hq4
      clear e4
      have hcut4 := hu.cut k 4 (d - k) h4 (by omega) (by unfold maxLen; omega)
      rw [← htw] at hcut4
      generalize numOf ((lb.drop k).take 4) = q4 at *
      have Htw4 := Lib.hid htw
      clear htw
      go_wp2_with fail
      refine hc.mono ?_
      rintro e v3 ⟨rfl, hb⟩
      have hst := hb
      replace hB := below_step hB hs hst
      replace hs := Nat.le_trans hs hst.size
      replace hu := hu.step hst
      replace hcut4 := hcut4.step hst
      clear hst hb hc hv
      have c4 := fun (W : World) => cvt_of (hcut4.step (aft_below v3 W))
      have f1 : IntKind.i64.wrap ((k : Int) + 4) = (k : Int) + 4 := IntWalk.i64_in _ (by omega)
      have f2 : IntKind.i64.wrap ((lb.length : Int) - 4) = (lb.length : Int) - 4 := IntWalk.i64_in _ (by omega)
      have f3 : ((k : Int) + 4).toNat = k + 4 := by omega
      have f4 : (k : Int) ≤ (lb.length : Int) - 4 := by omega
      have f5 : ¬ d = k := by omega
      have f6 : (k : Int) + 4 ≤ (d : Int) := by omega
      have f7 : (0 : Int) ≤ (k : Int) + 4 := by omega
      have f8 : (k : Int) ≤ (k : Int) + 4 := by omega
      have f9 : k + 4 - k = 4 := by omega
      have f10 : decide ((k : Int) < 0) = false := by simp
      have f11 : decide ((lb.length : Int) - 4 < (k : Int)) = false := by simp; omega
      go_wp2_with fail
      refine wp_region_held_drew (S := Cls v3) (by kernel_rfl) (Cls.drew v3) (fun hCl => ?_)
      refine wpAnyH_seg (fuel := 5) (by kernel_rfl) (fun _ d _ _ _ h => by cases d <;> exact h) hCl [0, 1, 2, 3, 4, 5, 6, 7, 8, 9, 10, 11, 12, 13, 16, 17, 18, 19, 20, 21] _ _ _ (by kernel_rfl) (by kernel_rfl) ?_
      simp only [opsOf_cons, opsOf_nil, consOp_some, List.getElem?_toArray, List.getElem?_cons_succ, List.getElem?_cons_zero]
      repeat (first | go_big_quiet_step (fail) | quiet_step (fail))
      refine wpQuiet_nil ?_
      refine wpAnyH_each (fuel := 4) [14] (by kernel_rfl) (by simp) (by kernel_rfl) ?_
      refine Each.cons _ rfl (fun K' hK => ?_) Each.nil
      go_simp
      refine (four_any q4 _ (by omega)).mono ?_
      rintro e v9 ⟨dv9, rfl, hm9⟩
      have hst : Below v3.heap.size v3 v9 := (Below.refl v3.heap.size v3).drew.trans hm9.below
      have c9 := fun (W : World) => cvt_of (hm9.bytes.step (aft_below v9 W))
      have c4 := fun (W : World) => cvt_of ((hcut4.step hst).step (aft_below v9 W))
      refine hK.out (Cls v9) (Cls.sub hst) (Cls.refl v9) ?_
      have hCl := Cls.refl v9
      clear hK K'
      refine wpAnyH_seg (fuel := 0) (by kernel_rfl) (fun _ d _ _ _ h => by cases d <;> exact h) hCl [15, 22, 23, 24] _ _ _ (by kernel_rfl) (by kernel_rfl) ?_
      simp only [opsOf_cons, opsOf_nil, consOp_some, List.getElem?_toArray, List.getElem?_cons_succ, List.getElem?_cons_zero]
      repeat (first | go_big_quiet_step (fail) | quiet_step (fail))
      refine wpQuiet_nil ?_
      refine wpAnyH_done (by kernel_rfl) ?_ _
      go_wp2
      go_ret
      exact ⟨rfl, below_step hB hs hst⟩
    · have e4 := get_no' lb (k : Int) 4 (by omega)
      have hc := getFour_any _ lb (k : Int) _ hu
      rw [e4.1, e4.2] at hc
      clear e4 hq4
      go_wp2_with fail
      refine hc.mono ?_
      rintro e v3 ⟨rfl, hb⟩
      have hend := below_step hB hs hb
      go_wp2_with fail
      go_quiet (fail)
      go_wp2
      go_ret
      exact ⟨rfl, below_drewN hend nq⟩
  · have e2 := get_no' lb at_ 2 (by omega)
    have e4 := get_no' lb at_ 4 (by omega)
    rw [e2.1, e2.2]
    clear e2 hq2
    go_wp2_with fail
    have hc := getFour_any _ lb at_ _ hu
    rw [e4.1, e4.2] at hc
    clear e4 hq4
    refine hc.mono ?_
    rintro e v2 ⟨rfl, hb⟩
    have hend := below_step hB hs hb
    go_wp2_with fail
    go_quiet (fail)
    go_wp2
    go_ret
    exact ⟨rfl, below_drewN hend nq⟩


set_option maxHeartbeats 4000000 in
set_option maxRecDepth 100000 in
theorem codeBack_no (n m : Int) (v : Value) (la : List UInt8) (u : Value) (lb : List UInt8) (at_ : Int) (w : World) (_wn : (Lit.int .i64 n).wf = true) (wm : (Lit.int .u32 m).wf = true) (hv : Bytes w 0 w.heap.size v la) (hu : Bytes w 0 w.heap.size u lb) (_wa : (Lit.int .i64 at_).wf = true) (hl : la.length ≤ 10000) (hl2 : lb.length ≤ 10000) (hn : ¬ (0 ≤ n ∧ n < 65536)) :
    Calls Try.prog 8 #[.int .i64 n, .int .u32 m, v, u, .int .i64 at_] w fun e w' => e = .returned (.bool true) ∧ Below w.heap.size w w' := by
  obtain ⟨a0, a1⟩ := bounds_u32 wm
  obtain ⟨m, rfl⟩ := Int.eq_ofNat_of_zero_le a0
  clear wm a0
  obtain ⟨a, c, rfl, g1, g2, g3, g4⟩ := id hv
  obtain ⟨b, d, rfl, g5, g6, g7, g8⟩ := id hu
  clear g3 g4 g7 g8
  unfold maxLen at g2 g6
  go_enter Try.func8, Try.ntmps8
  have hB := Below.refl w.heap.size w
  have hs := Nat.le_refl w.heap.size
  go_wp2_with fail
  refine (alive1 _).mono ?_
  rintro e w1 ⟨rfl, hb⟩
  have hst := hb
  replace hB := below_step hB hs hst
  replace hs := Nat.le_trans hs hst.size
  replace hv := hv.step hst
  replace hu := hu.step hst
  clear hb hst
  go_wp2_with fail
  refine (two_no n _ hn).mono ?_
  rintro e w2 ⟨rfl, rfl⟩
  go_wp2_with fail
  refine (four_any m _ (by omega)).mono ?_
  rintro e w2 ⟨cv, rfl, hm⟩
  have hst := hm.below
  replace hB := below_step hB hs hst
  replace hs := Nat.le_trans hs hst.size
  replace hv := hv.step hst
  replace hu := hu.step hst
  have ht := hm.bytes.all0
  clear hm hst
  go_wp2_with (first | (at_builtin; refine wpList_appB rfl (.const (.slice none 0 0)) (.tmp 69) 22 rfl w2.heap.size 5 Try.underlying22 info_u8 _ ([]) rfl (OwnB.nil_ _ _ _) 0 w2.heap.size _ (la) rfl hv (by simp; omega) (Nat.le_refl _) ?_; intro o0 z0 n0 x0; have y0 := x0) | (at_builtin; refine wpList_appB rfl (.tmp 70) (.tmp 71) 22 rfl w2.heap.size 5 Try.underlying22 info_u8 _ (([]) ++ la) rfl (n0) 0 w2.heap.size _ (fourL m) rfl (ht.below y0 (Nat.le_refl _)) (by simp [fourL]; omega) y0.size ?_; intro o1 z1 n1 x1; have y1 := y0.trans x1) | (at_builtin; refine wpList_appB rfl (.tmp 72) (.tmp 73) 22 rfl w2.heap.size 5 Try.underlying22 info_u8 _ ((([]) ++ la) ++ fourL m) rfl (n1) 0 w2.heap.size _ (lb) rfl (hu.below y1 (Nat.le_refl _)) (by simp [fourL]; omega) y1.size ?_; intro o2 z2 n2 x2; have y2 := y1.trans x2))
  have hst := y2
  replace hB := below_step hB hs hst
  replace hs := Nat.le_trans hs hst.size
  have hk := n2.bytes.all0
  replace hv := hv.step hst
  replace hu := hu.step hst
  replace ht := ht.step hst
  clear n0 n1 n2 x0 x1 x2 y0 y1 y2 hst
  have hc := getFour_any _ _ (la.length : Int) _ hk
  have hgm := get_mid ([] ++ la) (fourL m) lb
  simp only [List.nil_append, show (fourL m).length = 4 from rfl, numOf_fourL m (by omega)] at hgm hc
  rw [hgm.1, hgm.2] at hc
  obtain ⟨tb, td, rfl, _, _, _⟩ := id ht
  clear hgm hk ht
  have htl : (fourL m).length = 4 := rfl
  rw [htl]
  clear htl
  refine (hc).mono ?_
  rintro e w3 ⟨rfl, hb⟩
  have hst := hb
  replace hB := below_step hB hs hst
  replace hs := Nat.le_trans hs hst.size
  replace hv := hv.step hst
  replace hu := hu.step hst
  clear hst hb hc
  have HU := hu
  have hq2 := getN_lt lb at_ 2
  have hq4 := getN_lt lb at_ 4
  simp only [show (256 : Nat) ^ 2 = 65536 by decide] at hq2
  simp only [show (256 : Nat) ^ 4 = 4294967296 by decide] at hq4
  go_wp2_with fail
  refine (getTwo_any _ lb at_ _ hu).mono ?_
  rintro e v1 ⟨rfl, hb⟩
  have hst := hb
  replace hB := below_step hB hs hst
  replace hs := Nat.le_trans hs hst.size
  replace hv := hv.step hst
  replace hu := hu.step hst
  clear hst hb HU
  by_cases h2 : 0 ≤ at_ ∧ at_.toNat + 2 ≤ lb.length
  · obtain ⟨k, rfl⟩ := Int.eq_ofNat_of_zero_le h2.1
    simp only [Int.toNat_natCast] at h2
    have h2k := h2.2
    clear h2
    have e2 := get_yes' lb k 2 h2k
    have htw := two_of lb k h2k
    rw [e2.1, e2.2]
    rw [e2.1] at hq2
    obtain ⟨bb, off, d, hbe, _, _, _, _, _⟩ := hu.at_ (by omega)
    cases hbe
    clear e2
    have hcut2 := hu.cut k 2 (d - k) h2k (by omega) (by unfold maxLen; omega)
    rw [← htw] at hcut2
    generalize numOf ((lb.drop k).take 2) = q2 at *
    have Htw := Lib.hid htw
    clear htw
    go_wp2_with fail
    refine (two_yes q2 _ (by omega)).mono ?_
    rintro e v2 ⟨dv, rfl, hm⟩
    have hst := hm.below
    replace hB := below_step hB hs hst
    replace hs := Nat.le_trans hs hst.size
    replace hv := hv.step hst
    replace hu := hu.step hst
    replace hcut2 := hcut2.step hst
    have hd := hm.bytes.all0
    clear hst hm
    have c1 := fun nq => cvt_of (w := v2.drewN nq) hd
    have c2 := fun nq => cvt_of (w := v2.drewN nq) hcut2
    clear hd hcut2
    go_wp2_with fail
    have f1 : IntKind.i64.wrap ((k : Int) + 2) = (k : Int) + 2 := IntWalk.i64_in _ (by omega)
    have f2 : IntKind.i64.wrap ((lb.length : Int) - 2) = (lb.length : Int) - 2 := IntWalk.i64_in _ (by omega)
    have f3 : ((k : Int) + 2).toNat = k + 2 := by omega
    have f4 : (k : Int) ≤ (lb.length : Int) - 2 := by omega
    have f5 : ¬ d = k := by omega
    have f6 : (k : Int) + 2 ≤ (d : Int) := by omega
    have f7 : (0 : Int) ≤ (k : Int) + 2 := by omega
    have f8 : (k : Int) ≤ (k : Int) + 2 := by omega
    have f9 : k + 2 - k = 2 := by omega
    go_quiet (fail)
    clear c1 c2 f1 f2 f3 f4 f5 f6 f7 f8 f9
    have hst := below_drewN (Below.refl v2.heap.size v2) nq
    replace hB := below_step hB hs hst
    replace hs := Nat.le_trans hs hst.size
    replace hv := hv.step hst
    replace hu := hu.step hst
    clear hst
    by_cases h4 : k + 4 ≤ lb.length
    · have e4 := get_yes' lb k 4 h4
      have htw := four_of lb k h4
      have hc := getFour_any _ lb (k : Int) _ hu
      rw [e4.1, e4.2] at hc
      rw [e4.1] at hq4
      clear e4
      have hcut4 := hu.cut k 4 (d - k) h4 (by omega) (by unfold maxLen; omega)
      rw [← htw] at hcut4
      generalize numOf ((lb.drop k).take 4) = q4 at *
      have Htw4 := Lib.hid htw
      clear htw
      go_wp2_with fail
      refine hc.mono ?_
      rintro e v3 ⟨rfl, hb⟩
      have hst := hb
      replace hB := below_step hB hs hst
      replace hs := Nat.le_trans hs hst.size
      replace hu := hu.step hst
      replace hcut4 := hcut4.step hst
      clear hst hb hc hv
      have c4 := fun (W : World) => cvt_of (hcut4.step (aft_below v3 W))
      have f1 : IntKind.i64.wrap ((k : Int) + 4) = (k : Int) + 4 := IntWalk.i64_in _ (by omega)
      have f2 : IntKind.i64.wrap ((lb.length : Int) - 4) = (lb.length : Int) - 4 := IntWalk.i64_in _ (by omega)
      have f3 : ((k : Int) + 4).toNat = k + 4 := by omega
      have f4 : (k : Int) ≤ (lb.length : Int) - 4 := by omega
      have f5 : ¬ d = k := by omega
      have f6 : (k : Int) + 4 ≤ (d : Int) := by omega
      have f7 : (0 : Int) ≤ (k : Int) + 4 := by omega
      have f8 : (k : Int) ≤ (k : Int) + 4 := by omega
      have f9 : k + 4 - k = 4 := by omega
      have f10 : decide ((k : Int) < 0) = false := by simp
      have f11 : decide ((lb.length : Int) - 4 < (k : Int)) = false := by simp; omega
      go_wp2_with fail
      refine wp_region_held_drew (S := Cls v3) (by kernel_rfl) (Cls.drew v3) (fun hCl => ?_)
      refine wpAnyH_seg (fuel := 5) (by kernel_rfl) (fun _ d _ _ _ h => by cases d <;> exact h) hCl [0, 1, 2, 3, 4, 5, 6, 7, 8, 9, 10, 11, 12, 13, 16, 17, 18, 19, 20, 21] _ _ _ (by kernel_rfl) (by kernel_rfl) ?_
      simp only [opsOf_cons, opsOf_nil, consOp_some, List.getElem?_toArray, List.getElem?_cons_succ, List.getElem?_cons_zero]
      repeat (first | go_big_quiet_step (fail) | quiet_step (fail))
      refine wpQuiet_nil ?_
      refine wpAnyH_each (fuel := 4) [14] (by kernel_rfl) (by simp) (by kernel_rfl) ?_
      refine Each.cons _ rfl (fun K' hK => ?_) Each.nil
      go_simp
      refine (four_any q4 _ (by omega)).mono ?_
      rintro e v9 ⟨dv9, rfl, hm9⟩
      have hst : Below v3.heap.size v3 v9 := (Below.refl v3.heap.size v3).drew.trans hm9.below
      have c9 := fun (W : World) => cvt_of (hm9.bytes.step (aft_below v9 W))
      have c4 := fun (W : World) => cvt_of ((hcut4.step hst).step (aft_below v9 W))
      refine hK.out (Cls v9) (Cls.sub hst) (Cls.refl v9) ?_
      have hCl := Cls.refl v9
      clear hK K'
      refine wpAnyH_seg (fuel := 0) (by kernel_rfl) (fun _ d _ _ _ h => by cases d <;> exact h) hCl [15, 22, 23, 24] _ _ _ (by kernel_rfl) (by kernel_rfl) ?_
      simp only [opsOf_cons, opsOf_nil, consOp_some, List.getElem?_toArray, List.getElem?_cons_succ, List.getElem?_cons_zero]
      repeat (first | go_big_quiet_step (fail) | quiet_step (fail))
      refine wpQuiet_nil ?_
      refine wpAnyH_done (by kernel_rfl) ?_ _
      go_wp2
      go_ret
      exact ⟨rfl, below_step hB hs hst⟩
    · have e4 := get_no' lb (k : Int) 4 (by omega)
      have hc := getFour_any _ lb (k : Int) _ hu
      rw [e4.1, e4.2] at hc
      clear e4 hq4
      go_wp2_with fail
      refine hc.mono ?_
      rintro e v3 ⟨rfl, hb⟩
      have hend := below_step hB hs hb
      go_wp2_with fail
      go_quiet (fail)
      go_wp2
      go_ret
      exact ⟨rfl, below_drewN hend nq⟩
  · have e2 := get_no' lb at_ 2 (by omega)
    have e4 := get_no' lb at_ 4 (by omega)
    rw [e2.1, e2.2]
    clear e2 hq2
    go_wp2_with fail
    have hc := getFour_any _ lb at_ _ hu
    rw [e4.1, e4.2] at hc
    clear e4 hq4
    refine hc.mono ?_
    rintro e v2 ⟨rfl, hb⟩
    have hend := below_step hB hs hb
    go_wp2_with fail
    go_quiet (fail)
    go_wp2
    go_ret
    exact ⟨rfl, below_drewN hend nq⟩


theorem codeBack_walk (n m : Int) (v : Value) (la : List UInt8) (u : Value) (lb : List UInt8) (at_ : Int) (w : World) (_wn : (Lit.int .i64 n).wf = true) (wm : (Lit.int .u32 m).wf = true) (hv : Bytes w 0 w.heap.size v la) (hu : Bytes w 0 w.heap.size u lb) (_wa : (Lit.int .i64 at_).wf = true) :
    Calls Try.prog 8 #[.int .i64 n, .int .u32 m, v, u, .int .i64 at_] w fun e w' => e = .returned (.bool true) ∧ Below w.heap.size w w' := by
  by_cases h1 : 10000 < la.length
  · exact codeBack_long n m v la u lb at_ w _wn wm hv hu _wa (.inl h1)
  by_cases h2 : 10000 < lb.length
  · exact codeBack_long n m v la u lb at_ w _wn wm hv hu _wa (.inr ⟨by omega, h2⟩)
  by_cases h3 : 0 ≤ n ∧ n < 65536
  · obtain ⟨k, rfl⟩ := Int.eq_ofNat_of_zero_le h3.1
    exact codeBack_yes k m v la u lb at_ w wm hv hu _wa (by omega) (by omega) (by omega)
  · exact codeBack_no n m v la u lb at_ w _wn wm hv hu _wa (by omega) (by omega) h3
end Go.Proofs.Ytahpiffahjmfnaa
