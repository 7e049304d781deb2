/- The walk of the statement CountApart. -/
import Derived.Test.YtfdogefoodljaaaLawC2
namespace Go.Proofs.Ytfdogefoodljaaa
open Go.RowKit

/-- What a turn answers, told apart. -/
theorem errT_cases {l : List UInt8} (hm : mayT l = true) (p : Int) (e : UInt8) :
    (errT l p e = 2 ∧ p < 8) ∨ (errT l p e = 2 ∧ 8 ≤ p ∧ 256 ≤ p) ∨ (errT l p e = 70 ∧ 8 ≤ p ∧ p < 256 ∧ l.getD p.toNat 0 = e) ∨ (errT l p e = 0 ∧ 8 ≤ p ∧ p < 256 ∧ l.getD p.toNat 0 ≠ e) := by
  unfold errT
  rw [if_pos hm]
  by_cases h1 : p < 8
  · exact .inl ⟨if_pos (.inl h1), h1⟩
  · by_cases h2 : 256 ≤ p
    · exact .inr (.inl ⟨if_pos (.inr h2), by omega, h2⟩)
    · rw [if_neg (by omega)]
      by_cases h3 : l.getD p.toNat 0 = e
      · exact .inr (.inr (.inl ⟨if_pos h3, by omega, by omega, h3⟩))
      · exact .inr (.inr (.inr ⟨if_neg h3, by omega, by omega, h3⟩))
theorem outT_no {l : List UInt8} {p : Int} {b e : UInt8} (h : errT l p e ≠ 0) : outT l p b e = [] := if_neg h
theorem outT_len {l : List UInt8} {p : Int} {b e : UInt8} (h : errT l p e = 0) : (outT l p b e).length = 256 := by
  obtain ⟨h1, _⟩ := errT_zero.1 h
  unfold outT
  rw [if_pos h, List.length_set]
  exact mayT_len h1

set_option maxRecDepth 100000 in
set_option maxHeartbeats 1000000 in
theorem countApart_walk (v : Value) (l : List UInt8) (p q : Int) (w : World) (hv : Bytes w 0 w.heap.size v l) (_wp : (Lit.int .i64 p).wf = true) (_wq : (Lit.int .i64 q).wf = true) :
    Calls Try.prog 4 #[v, .int .i64 p, .int .i64 q] w fun e w' => e = .returned (.bool true) ∧ Below w.heap.size w w' := by
  have hck := fun W h => ccheck_any v l W h
  have hu := fun W h => cup_any v l p W h
  have hd := fun W h => cdown_any v l q W h
  have hu2 := fun U W h => cup_any U (outT l q 255 0) p W h
  have hd2 := fun U W h => cdown_any U (outT l p 1 255) q W h
  obtain ⟨a, c, hve, g1, g2⟩ := hv.form rfl
  subst hve
  unfold maxLen at g2
  have her : (mayT l = true ∧ (if mayT l = true then (0 : Int) else 8) = 0) ∨ (if mayT l = true then (0 : Int) else 8) = 8 := by
    by_cases h : mayT l = true
    · exact .inl ⟨h, if_pos h⟩
    · exact .inr (if_neg h)
  generalize (if mayT l = true then (0 : Int) else 8) = er at *
  have HE := Lib.hid her
  clear her
  generalize hou : outT l p 1 255 = xl at *
  generalize hov : outT l q 255 0 = yl at *
  generalize hoe : errT l p 255 = e1 at *
  generalize hof : errT l q 0 = e2 at *
  generalize hoe3 : errT yl p 255 = e3 at *
  generalize hoe4 : errT xl q 0 = e4 at *
  generalize hou3 : outT yl p 1 255 = ul at *
  generalize hou4 : outT xl q 255 0 = vl at *
  have HO := Lib.hid (And.intro hou (And.intro hov (And.intro hoe (And.intro hof (And.intro hoe3 (And.intro hoe4 (And.intro hou3 hou4)))))))
  clear hou hov hoe hof hoe3 hoe4 hou3 hou4
  have HC := Lib.hid (And.intro hck (And.intro hu (And.intro hd (And.intro hu2 hd2))))
  clear hck hu hd hu2 hd2
  go_enter Try.func4, Try.ntmps4
  go_wp2_with fail
  refine (alive7 _).mono ?_
  rintro e w1 ⟨rfl, hb1⟩
  replace hv := hv.step hb1
  by_cases h0 : 10000 < l.length
  · have i1 : (10000 : Int) < l.length := by omega
    go_wp2
    go_ret
    exact ⟨rfl, hb1⟩
  have i1 : decide ((10000 : Int) < l.length) = false := by simp; omega
  clear h0
  go_wp2_with fail
  refine (HC.out.1 w1 hv).mono ?_
  rintro e w2 ⟨rfl, rfl⟩
  rcases HE.out with ⟨hm, rfl⟩ | rfl
  case inr =>
    go_wp2
    go_ret
    exact ⟨rfl, hb1⟩
  have hl := mayT_len hm
  clear HE
  rw [hl] at hv HC g1 ⊢
  have HM := Lib.hid (And.intro hm hl)
  clear hl hm i1
  go_wp2_with fail
  refine (HC.out.2.1 w2 hv).mono ?_
  rintro e w3 ⟨x, rfl, hm3⟩
  have hv3 := hv.step hm3.below
  have hB3 := below_step hb1 hb1.size hm3.below
  go_wp2_with fail
  refine (HC.out.2.2.1 w3 hv3).mono ?_
  rintro e w4 ⟨y, rfl, hm4⟩
  have hv4 := hv3.step hm4.below
  have hx4 := hm3.bytes.all0.step hm4.below
  have hy4 := hm4.bytes.all0
  have hB4 := below_step hB3 hB3.size hm4.below
  clear hm3 hm4 hv hv3 hB3
  go_upto_region 6 with (fail)
  obtain ⟨b, off, c', e', -, -, -, hc', hcell⟩ := hv4.at_n HM.out.2 (by omega)
  injection e' with ea _ ec
  subst ea ec
  unfold maxLen at hc'
  have hpc := errT_cases HM.out.1 p 255
  have hqc := errT_cases HM.out.1 q 0
  rw [HO.out.2.2.1] at hpc
  rw [HO.out.2.2.2.1] at hqc
  have hx0 : e1 ≠ 0 → xl = [] := fun h => by rw [← HO.out.1]; exact outT_no (by rw [HO.out.2.2.1]; exact h)
  have hy0 : e2 ≠ 0 → yl = [] := fun h => by rw [← HO.out.2.1]; exact outT_no (by rw [HO.out.2.2.2.1]; exact h)
  have hx1 : e1 = 0 → xl.length = 256 := fun h => by rw [← HO.out.1]; exact outT_len (by rw [HO.out.2.2.1]; exact h)
  have hy1 : e2 = 0 → yl.length = 256 := fun h => by rw [← HO.out.2.1]; exact outT_len (by rw [HO.out.2.2.2.1]; exact h)
  have hend : e1 = 0 → e2 = 0 → e3 = 0 ∧ e4 = 0 ∧ ul = vl ∧ (p = q → vl = l) := fun h1 h2 => by
    have h := apart (l := l) (p := p) (q := q) (by rw [HO.out.2.2.1]; exact h1) (by rw [HO.out.2.2.2.1]; exact h2)
    rw [HO.out.1, HO.out.2.1, HO.out.2.2.2.2.1, HO.out.2.2.2.2.2.1, HO.out.2.2.2.2.2.2.1, HO.out.2.2.2.2.2.2.2] at h
    exact ⟨h.2.1, h.1, h.2.2.1.symm, h.2.2.2⟩
  have HE := Lib.hid hend
  have HV := Lib.hid (And.intro hv4 (And.intro hx4 hy4))
  obtain ⟨ax, cx, rfl, -, -⟩ := hx4.form rfl
  obtain ⟨ay, cy, rfl, -, -⟩ := hy4.form rfl
  have HX := Lib.hid (And.intro (And.intro hx0 hx1) (And.intro hy0 hy1))
  have hcell' : ∀ i, i < 256 → w4.cell? ⟨b, off + i, none⟩ = some (bV (l.getD i 0)) := fun i hi => hcell i _ (get_some _ _ (by rw [HM.out.2]; exact hi))
  have HL := Lib.hid hcell'
  have HQ := Lib.hid hqc
  have HB := Lib.hid hB4
  clear hx0 hx1 hy0 hy1 hend HO hx4 hy4 hv4 hcell hcell' hqc hB4 hb1 HM
  rcases hpc with ⟨rfl, hp⟩ | ⟨rfl, hp, gp⟩ | ⟨rfl, hp, gp, zp⟩ | ⟨rfl, hp, gp, zp⟩
  · have hq0 := HQ.out
    have dp1 : decide ((8 : Int) ≤ p) = false := by simp; omega
    have hxl := HX.out.1.1 (by omega)
    subst hxl
    rcases hq0 with ⟨rfl, hq⟩ | ⟨rfl, hq, gq⟩ | ⟨rfl, hq, gq, zq⟩ | ⟨rfl, hq, gq, zq⟩
    · have dq1 : decide ((8 : Int) ≤ q) = false := by simp; omega
      have hyl := HX.out.2.1 (by omega)
      subst hyl
      clear HX HQ HL
      go_wp2
      go_ret
      exact ⟨rfl, HB.out⟩
    · have dq1 : decide ((8 : Int) ≤ q) = true := by simp; omega
      have dq2 : decide (q < 256) = false := by simp; omega
      have hyl := HX.out.2.1 (by omega)
      subst hyl
      clear HX HQ HL
      go_wp2
      go_ret
      exact ⟨rfl, HB.out⟩
    · obtain ⟨qn, rfl⟩ : ∃ n : Nat, q = n := ⟨q.toNat, by omega⟩
      have dq1 : decide ((8 : Int) ≤ (qn : Int)) = true := by simp; omega
      have dq2 : decide ((qn : Int) < 256) = true := by simp; omega
      have mq1 : min (qn : Int) 255 = qn := by omega
      have mq2 : max (0 : Int) (qn : Int) = qn := by omega
      have cq := HL.out qn (by omega)
      rw [Int.toNat_natCast] at zq
      simp only [bV] at cq
      obtain ⟨s, hs⟩ : ∃ s, l.getD qn 0 = s := ⟨_, rfl⟩
      rw [hs] at cq zq
      clear hs
      subst zq
      have dq3 : decide ((0 : Int) < ((0 : UInt8).toNat : Int)) = false := by decide
      have hyl := HX.out.2.1 (by omega)
      subst hyl
      clear HX HQ HL
      go_wp2
      go_ret
      exact ⟨rfl, HB.out⟩
    · obtain ⟨qn, rfl⟩ : ∃ n : Nat, q = n := ⟨q.toNat, by omega⟩
      have dq1 : decide ((8 : Int) ≤ (qn : Int)) = true := by simp; omega
      have dq2 : decide ((qn : Int) < 256) = true := by simp; omega
      have mq1 : min (qn : Int) 255 = qn := by omega
      have mq2 : max (0 : Int) (qn : Int) = qn := by omega
      have cq := HL.out qn (by omega)
      rw [Int.toNat_natCast] at zq
      simp only [bV] at cq
      obtain ⟨s, hs⟩ : ∃ s, l.getD qn 0 = s := ⟨_, rfl⟩
      rw [hs] at cq zq
      clear hs
      have dq3 : decide ((0 : Int) < (s.toNat : Int)) = true := by have : s.toNat ≠ 0 := fun e => zq (u8_inj e); simp; omega
      have dq4 : decide (0 < s.toNat) = true := by have : s.toNat ≠ 0 := fun e => zq (u8_inj e); simp; omega
      have hyl := HX.out.2.2 rfl
      rw [hyl]
      clear HX HQ HL
      go_wp2
      go_ret
      exact ⟨rfl, HB.out⟩
  · have hq0 := HQ.out
    have dp1 : decide ((8 : Int) ≤ p) = true := by simp; omega
    have dp2 : decide (p < 256) = false := by simp; omega
    have hxl := HX.out.1.1 (by omega)
    subst hxl
    rcases hq0 with ⟨rfl, hq⟩ | ⟨rfl, hq, gq⟩ | ⟨rfl, hq, gq, zq⟩ | ⟨rfl, hq, gq, zq⟩
    · have dq1 : decide ((8 : Int) ≤ q) = false := by simp; omega
      have hyl := HX.out.2.1 (by omega)
      subst hyl
      clear HX HQ HL
      go_wp2
      go_ret
      exact ⟨rfl, HB.out⟩
    · have dq1 : decide ((8 : Int) ≤ q) = true := by simp; omega
      have dq2 : decide (q < 256) = false := by simp; omega
      have hyl := HX.out.2.1 (by omega)
      subst hyl
      clear HX HQ HL
      go_wp2
      go_ret
      exact ⟨rfl, HB.out⟩
    · obtain ⟨qn, rfl⟩ : ∃ n : Nat, q = n := ⟨q.toNat, by omega⟩
      have dq1 : decide ((8 : Int) ≤ (qn : Int)) = true := by simp; omega
      have dq2 : decide ((qn : Int) < 256) = true := by simp; omega
      have mq1 : min (qn : Int) 255 = qn := by omega
      have mq2 : max (0 : Int) (qn : Int) = qn := by omega
      have cq := HL.out qn (by omega)
      rw [Int.toNat_natCast] at zq
      simp only [bV] at cq
      obtain ⟨s, hs⟩ : ∃ s, l.getD qn 0 = s := ⟨_, rfl⟩
      rw [hs] at cq zq
      clear hs
      subst zq
      have dq3 : decide ((0 : Int) < ((0 : UInt8).toNat : Int)) = false := by decide
      have hyl := HX.out.2.1 (by omega)
      subst hyl
      clear HX HQ HL
      go_wp2
      go_ret
      exact ⟨rfl, HB.out⟩
    · obtain ⟨qn, rfl⟩ : ∃ n : Nat, q = n := ⟨q.toNat, by omega⟩
      have dq1 : decide ((8 : Int) ≤ (qn : Int)) = true := by simp; omega
      have dq2 : decide ((qn : Int) < 256) = true := by simp; omega
      have mq1 : min (qn : Int) 255 = qn := by omega
      have mq2 : max (0 : Int) (qn : Int) = qn := by omega
      have cq := HL.out qn (by omega)
      rw [Int.toNat_natCast] at zq
      simp only [bV] at cq
      obtain ⟨s, hs⟩ : ∃ s, l.getD qn 0 = s := ⟨_, rfl⟩
      rw [hs] at cq zq
      clear hs
      have dq3 : decide ((0 : Int) < (s.toNat : Int)) = true := by have : s.toNat ≠ 0 := fun e => zq (u8_inj e); simp; omega
      have dq4 : decide (0 < s.toNat) = true := by have : s.toNat ≠ 0 := fun e => zq (u8_inj e); simp; omega
      have hyl := HX.out.2.2 rfl
      rw [hyl]
      clear HX HQ HL
      go_wp2
      go_ret
      exact ⟨rfl, HB.out⟩
  · have hq0 := HQ.out
    obtain ⟨pn, rfl⟩ : ∃ n : Nat, p = n := ⟨p.toNat, by omega⟩
    have dp1 : decide ((8 : Int) ≤ (pn : Int)) = true := by simp; omega
    have dp2 : decide ((pn : Int) < 256) = true := by simp; omega
    have mp1 : min (pn : Int) 255 = pn := by omega
    have mp2 : max (0 : Int) (pn : Int) = pn := by omega
    have cp := HL.out pn (by omega)
    rw [Int.toNat_natCast] at zp
    simp only [bV] at cp
    obtain ⟨t, ht⟩ : ∃ t, l.getD pn 0 = t := ⟨_, rfl⟩
    rw [ht] at cp zp
    clear ht
    subst zp
    have dp3 : decide (((255 : UInt8).toNat : Int) < 255) = false := by decide
    have hxl := HX.out.1.1 (by omega)
    subst hxl
    rcases hq0 with ⟨rfl, hq⟩ | ⟨rfl, hq, gq⟩ | ⟨rfl, hq, gq, zq⟩ | ⟨rfl, hq, gq, zq⟩
    · have dq1 : decide ((8 : Int) ≤ q) = false := by simp; omega
      have hyl := HX.out.2.1 (by omega)
      subst hyl
      clear HX HQ HL
      go_wp2
      go_ret
      exact ⟨rfl, HB.out⟩
    · have dq1 : decide ((8 : Int) ≤ q) = true := by simp; omega
      have dq2 : decide (q < 256) = false := by simp; omega
      have hyl := HX.out.2.1 (by omega)
      subst hyl
      clear HX HQ HL
      go_wp2
      go_ret
      exact ⟨rfl, HB.out⟩
    · obtain ⟨qn, rfl⟩ : ∃ n : Nat, q = n := ⟨q.toNat, by omega⟩
      have dq1 : decide ((8 : Int) ≤ (qn : Int)) = true := by simp; omega
      have dq2 : decide ((qn : Int) < 256) = true := by simp; omega
      have mq1 : min (qn : Int) 255 = qn := by omega
      have mq2 : max (0 : Int) (qn : Int) = qn := by omega
      have cq := HL.out qn (by omega)
      rw [Int.toNat_natCast] at zq
      simp only [bV] at cq
      obtain ⟨s, hs⟩ : ∃ s, l.getD qn 0 = s := ⟨_, rfl⟩
      rw [hs] at cq zq
      clear hs
      subst zq
      have dq3 : decide ((0 : Int) < ((0 : UInt8).toNat : Int)) = false := by decide
      have hyl := HX.out.2.1 (by omega)
      subst hyl
      clear HX HQ HL
      go_wp2
      go_ret
      exact ⟨rfl, HB.out⟩
    · obtain ⟨qn, rfl⟩ : ∃ n : Nat, q = n := ⟨q.toNat, by omega⟩
      have dq1 : decide ((8 : Int) ≤ (qn : Int)) = true := by simp; omega
      have dq2 : decide ((qn : Int) < 256) = true := by simp; omega
      have mq1 : min (qn : Int) 255 = qn := by omega
      have mq2 : max (0 : Int) (qn : Int) = qn := by omega
      have cq := HL.out qn (by omega)
      rw [Int.toNat_natCast] at zq
      simp only [bV] at cq
      obtain ⟨s, hs⟩ : ∃ s, l.getD qn 0 = s := ⟨_, rfl⟩
      rw [hs] at cq zq
      clear hs
      have dq3 : decide ((0 : Int) < (s.toNat : Int)) = true := by have : s.toNat ≠ 0 := fun e => zq (u8_inj e); simp; omega
      have dq4 : decide (0 < s.toNat) = true := by have : s.toNat ≠ 0 := fun e => zq (u8_inj e); simp; omega
      have hyl := HX.out.2.2 rfl
      rw [hyl]
      clear HX HQ HL
      go_wp2
      go_ret
      exact ⟨rfl, HB.out⟩
  · have hq0 := HQ.out
    obtain ⟨pn, rfl⟩ : ∃ n : Nat, p = n := ⟨p.toNat, by omega⟩
    have dp1 : decide ((8 : Int) ≤ (pn : Int)) = true := by simp; omega
    have dp2 : decide ((pn : Int) < 256) = true := by simp; omega
    have mp1 : min (pn : Int) 255 = pn := by omega
    have mp2 : max (0 : Int) (pn : Int) = pn := by omega
    have cp := HL.out pn (by omega)
    rw [Int.toNat_natCast] at zp
    simp only [bV] at cp
    obtain ⟨t, ht⟩ : ∃ t, l.getD pn 0 = t := ⟨_, rfl⟩
    rw [ht] at cp zp
    clear ht
    have dp3 : decide ((t.toNat : Int) < 255) = true := by have := UInt8.toNat_lt t; have : t.toNat ≠ 255 := fun e => zp (u8_inj e); simp; omega
    have hxl := HX.out.1.2 rfl
    rw [hxl]
    rcases hq0 with ⟨rfl, hq⟩ | ⟨rfl, hq, gq⟩ | ⟨rfl, hq, gq, zq⟩ | ⟨rfl, hq, gq, zq⟩
    · have dq1 : decide ((8 : Int) ≤ q) = false := by simp; omega
      have hyl := HX.out.2.1 (by omega)
      subst hyl
      clear HX HQ HL
      go_wp2
      go_ret
      exact ⟨rfl, HB.out⟩
    · have dq1 : decide ((8 : Int) ≤ q) = true := by simp; omega
      have dq2 : decide (q < 256) = false := by simp; omega
      have hyl := HX.out.2.1 (by omega)
      subst hyl
      clear HX HQ HL
      go_wp2
      go_ret
      exact ⟨rfl, HB.out⟩
    · obtain ⟨qn, rfl⟩ : ∃ n : Nat, q = n := ⟨q.toNat, by omega⟩
      have dq1 : decide ((8 : Int) ≤ (qn : Int)) = true := by simp; omega
      have dq2 : decide ((qn : Int) < 256) = true := by simp; omega
      have mq1 : min (qn : Int) 255 = qn := by omega
      have mq2 : max (0 : Int) (qn : Int) = qn := by omega
      have cq := HL.out qn (by omega)
      rw [Int.toNat_natCast] at zq
      simp only [bV] at cq
      obtain ⟨s, hs⟩ : ∃ s, l.getD qn 0 = s := ⟨_, rfl⟩
      rw [hs] at cq zq
      clear hs
      subst zq
      have dq3 : decide ((0 : Int) < ((0 : UInt8).toNat : Int)) = false := by decide
      have hyl := HX.out.2.1 (by omega)
      subst hyl
      clear HX HQ HL
      go_wp2
      go_ret
      exact ⟨rfl, HB.out⟩
    · obtain ⟨qn, rfl⟩ : ∃ n : Nat, q = n := ⟨q.toNat, by omega⟩
      have dq1 : decide ((8 : Int) ≤ (qn : Int)) = true := by simp; omega
      have dq2 : decide ((qn : Int) < 256) = true := by simp; omega
      have mq1 : min (qn : Int) 255 = qn := by omega
      have mq2 : max (0 : Int) (qn : Int) = qn := by omega
      have cq := HL.out qn (by omega)
      rw [Int.toNat_natCast] at zq
      simp only [bV] at cq
      obtain ⟨s, hs⟩ : ∃ s, l.getD qn 0 = s := ⟨_, rfl⟩
      rw [hs] at cq zq
      clear hs
      have dq3 : decide ((0 : Int) < (s.toNat : Int)) = true := by have : s.toNat ≠ 0 := fun e => zq (u8_inj e); simp; omega
      have dq4 : decide (0 < s.toNat) = true := by have : s.toNat ≠ 0 := fun e => zq (u8_inj e); simp; omega
      have hyl := HX.out.2.2 rfl
      rw [hyl]
      clear HX HQ HL
      rw [hxl, hyl] at HV
      obtain ⟨r1, r2, r3, r4⟩ := HE.out rfl rfl
      subst r1 r2 r3
      have HR := Lib.hid r4
      clear r4 HE hxl hyl
      go_wp2_with fail
      clear cp cq dp1 dp2 dp3 dq1 dq2 dq3 dq4 mp1 mp2 mq1 mq2 zp zq
      refine (HC.out.2.2.2.2 _ _ HV.out.2.1).mono ?_
      rintro e w5 ⟨u5, rfl, hm5⟩
      have hy5 := HV.out.2.2.step hm5.below
      have hl5 := HV.out.1.step hm5.below
      go_wp2_with fail
      refine (HC.out.2.2.2.1 _ _ hy5).mono ?_
      rintro e w6 ⟨u6, rfl, hm6⟩
      have hB6 := below_step HB.out HB.out.size (below_step hm5.below hm5.below.size hm6.below)
      have f5 := cv_of (hm5.bytes.step hm6.below)
      have f6 := cv_of hm6.bytes
      have f7 := cv_of (hl5.step hm6.below)
      clear hm5 hm6 hy5 hl5 HC HV HB
      by_cases hpq : pn = qn
      · have hvl := HR.out (by rw [hpq])
        subst hvl
        have n1 : ((pn : Int) != qn) = false := by simp; omega
        go_wp2
        go_ret
        exact ⟨rfl, hB6⟩
      · have n1 : ((pn : Int) != qn) = true := by simp; omega
        go_wp2
        go_ret
        exact ⟨rfl, hB6⟩

end Go.Proofs.Ytfdogefoodljaaa
