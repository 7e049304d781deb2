/- DropDoes: the words and contracts, part 21. -/
import Derived.Test.YtkfgegdnpinbdaaDropDoesQ1
import Derived.Test.YtkfgegdnpinbdaaDropDoesQ2
import Derived.Test.YtkfgegdnpinbdaaDropDoesQ3
import Derived.Test.YtkfgegdnpinbdaaDropDoesQ4
import Derived.Test.YtkfgegdnpinbdaaDropDoesQ5
import Derived.Test.YtkfgegdnpinbdaaDropDoesQ6
import Derived.Test.YtkfgegdnpinbdaaDropDoesQ7
import Derived.Test.YtkfgegdnpinbdaaDropDoesQ8
import Derived.Test.YtkfgegdnpinbdaaDropDoesQ9
import Derived.Test.YtkfgegdnpinbdaaDropDoesQ10
import Derived.Test.YtkfgegdnpinbdaaDropDoesQ11
import Derived.Test.YtkfgegdnpinbdaaDropDoesQ12
import Derived.Test.YtkfgegdnpinbdaaDropDoesQ13
import Derived.Test.YtkfgegdnpinbdaaDropDoesQ14
import Derived.Test.YtkfgegdnpinbdaaDropDoesQ15
import Derived.Test.YtkfgegdnpinbdaaDropDoesQ16
import Derived.Test.YtkfgegdnpinbdaaDropDoesQ17
import Derived.Test.YtkfgegdnpinbdaaDropDoesQ18
import Derived.Test.YtkfgegdnpinbdaaDropDoesQ19
import Derived.Test.YtkfgegdnpinbdaaDropDoesQ20
import Derived.WalkKit
import Derived.WalkLawsBesides
import Derived.WalkSpells
import Derived.Lib.Hide
import Derived.Laws.Rows
import Derived.Laws.AppendOwnNone
import Derived.Maps.AppendAt
import Derived.RangeFuncNested
import Derived.RangeFuncBound
import Derived.RangeFuncCalls
import Derived.RangeFuncLeaves
import Derived.RangeFuncBox
import Derived.Shelf.Abstract
import Derived.Shelf.RegionOpen
import Derived.OwnWalkIn
import Derived.TacticsInMore
import Derived.LoopNIn
import Derived.LoopIn
import Derived.ProofKit
import Derived.Deep.Slices
import Derived.WideShapes
import Derived.OrdersHeld
import Derived.Deep.QuietTactic
import Derived.BigQuiet
import Derived.StillTailTactics
import Derived.OpenShut
import Derived.Lib.SliceRun
import Derived.Lib.AppendZerosOnto
import Derived.Lib.Walk
import Derived.Deep.LoopGhost
import Derived.Laws.CopyOwn
import Derived.Deep.DeepCutAuto
import Derived.Laws.CopyRow
import Derived.Laws.MakeOwn
import Derived.Deep.RegionHeld
import Derived.KernelRfl
import Derived.BigFrameIn
import Derived.OrdersIn
import Derived.Sort.CutIn
import Derived.ArgAppend
namespace Go.Proofs.Ytkfgegdnpinbdaa
open Go.RowKit

set_option linter.unusedSimpArgs false
theorem u8_dn {x : UInt8} (h : x ≠ 0) : ((x + 255).toNat : Int) = (x.toNat : Int) - 1 ∧ IntKind.u8.wrap ((x.toNat : Int) - 1) = (x.toNat : Int) - 1 := by
  have h1 := x.toNat_lt
  have h2 : x.toNat ≠ 0 := fun e => h (UInt8.toNat_inj.1 (by rw [e]; rfl))
  refine ⟨?_, by rw [IntKind.wrap_u8]; omega⟩
  rw [UInt8.toNat_add]
  have : (255 : UInt8).toNat = 255 := rfl
  rw [this]
  omega
set_option maxRecDepth 100000 in
set_option maxHeartbeats 2000000 in
theorem rdasked9_any (b_s u_s x_s y_s : Value) (s : StoreL) (p : Int) (w : World) (h_s : StoreV w 0 w.heap.size b_s u_s x_s y_s s) :
    Calls Try.prog 70 #[.agg #[b_s, u_s, x_s, y_s], .int .i64 p] w fun e w' => e = .returned (.int .i64 (errAs s p)) ∧ Below w.heap.size w w' := by
  obtain ⟨ab_s, cb_s, rfl, gb_s, gc_s, -, -⟩ := h_s.1.1
  obtain ⟨au_s, cu_s, rfl, gu_s, gv_s, -, -⟩ := h_s.1.2
  obtain ⟨ax_s, cx_s, rfl, gx_s, gz_s⟩ := h_s.2.1.form rfl
  obtain ⟨ay_s, cy_s, rfl, gy_s, gw_s⟩ := h_s.2.2.form rfl
  unfold maxLen at gc_s gv_s gz_s gw_s
  have hst := ((Below.refl w.heap.size w).alloc (Nat.le_refl _) (.cells #[.slice ab_s s.disk.blocks.length cb_s, .slice au_s s.disk.waits.length cu_s, .slice ax_s s.now.length cx_s, .slice ay_s s.last.length cy_s] 28))
  have q_s := LK.new w (.cells #[.slice ab_s s.disk.blocks.length cb_s, .slice au_s s.disk.waits.length cu_s, .slice ax_s s.now.length cx_s, .slice ay_s s.last.length cy_s] 28)
  have hB : LW w _ := hst
  have O_s := (LO.of h_s (Nat.le_refl _)).step hst
  have sz_V : w.heap.size + 0 < (w.alloc (.cells #[.slice ab_s s.disk.blocks.length cb_s, .slice au_s s.disk.waits.length cu_s, .slice ax_s s.now.length cx_s, .slice ay_s s.last.length cy_s] 28)).heap.size := by simp
  obtain ⟨V, hV⟩ : ∃ V, (w.alloc (.cells #[.slice ab_s s.disk.blocks.length cb_s, .slice au_s s.disk.waits.length cu_s, .slice ax_s s.now.length cx_s, .slice ay_s s.last.length cy_s] 28)) = V := ⟨_, rfl⟩
  rw [hV] at sz_V q_s O_s hB
  clear hst h_s
  have HQ := Lib.hid (And.intro q_s (And.intro O_s hB))
  clear q_s O_s hB
  have c_q_s0 := LK.cell HQ.out.1 0
  have c_q_s1 := LK.cell HQ.out.1 1
  have c_q_s2 := LK.cell HQ.out.1 2
  have c_q_s3 := LK.cell HQ.out.1 3
  simp at c_q_s0 c_q_s1 c_q_s2 c_q_s3
  have hE := errAs_cases s p
  have hes : errS s = if mayS s then 0 else 8 := rfl
  have k_c := fun V b u x y hh => rsmay_any b u x y s V hh
  have htl : mayS s = true → s.now.length = 256 := fun hm => mayT_len (mayS_iff.1 hm).2.1
  generalize errAs s p = ea at *
  rw [hes] at hE
  clear hes
  generalize mayS s = m1 at *
  have HE := Lib.hid (And.intro hE htl)
  clear hE htl
  have HC := Lib.hid (k_c)
  clear k_c
  go_enter Try.func70, Try.ntmps70
  go_upto_region 1 with (fail)
  clear hV
  go_wp2_with fail
  refine (HC.out _ _ _ _ _ HQ.out.2.1.v).mono ?_
  rintro e w1 ⟨rfl, hst⟩
  clear c_q_s0 c_q_s1 c_q_s2 c_q_s3
  obtain ⟨q_s, O_s, hB⟩ := HQ.out
  clear HQ
  have sz_w1 : V.heap.size ≤ w1.heap.size := hst.size
  replace q_s := q_s.step hst
  replace O_s := O_s.step hst
  replace hB := hB.step hst
  clear hst
  have HQ := Lib.hid (And.intro q_s (And.intro O_s hB))
  clear q_s O_s hB
  have c_q_s0 := LK.cell HQ.out.1 0
  have c_q_s1 := LK.cell HQ.out.1 1
  have c_q_s2 := LK.cell HQ.out.1 2
  have c_q_s3 := LK.cell HQ.out.1 3
  simp at c_q_s0 c_q_s1 c_q_s2 c_q_s3
  rcases HE.out.1 with ⟨h1, rfl⟩ | ⟨-, rfl, h2⟩
  · cases m1
    case true => cases h1
    case false =>
      go_wp2
      go_ret
      exact ⟨rfl, HQ.out.2.2⟩
  rcases h2 with ⟨h2, rfl⟩ | ⟨h2, rfl⟩ | ⟨pn, rfl, h8, h9, h2⟩
  · skip
    go_wp2
    go_ret
    exact ⟨rfl, HQ.out.2.2⟩
  · have i1 : ¬ p < 8 := by omega
    go_wp2
    go_ret
    exact ⟨rfl, HQ.out.2.2⟩
  have htl := HE.out.2 rfl
  clear HE
  obtain ⟨bn, on_, cn, e1, -, zn, zn1, zn2, hcn⟩ := HQ.out.2.1.n.at_n htl (by omega)
  injection e1 with e1 e3 e2
  subst e1 e2
  have cq := hcn pn (s.now.getD pn 0) (get_l _ _ _ (by omega))
  unfold maxLen at zn2
  have iq : ¬ (s.now.length : Int) ≤ (pn : Int) := by omega
  have iq2 : (pn : Int) < s.now.length := by omega
  generalize s.now.getD pn 0 = x at *
  simp only [bV] at cq
  have HTL := Lib.hid htl
  clear htl hcn
  rcases h2 with ⟨rfl, rfl⟩ | ⟨hx, rfl⟩
  · skip
    go_wp2
    go_ret
    exact ⟨rfl, HQ.out.2.2⟩
  · have ix : ((x.toNat : Int) == 0) = false := by
      rw [beq_eq_false_iff_ne]
      exact u8_nz hx
    clear hx
    go_wp2
    go_ret
    exact ⟨rfl, HQ.out.2.2⟩

/-- A table with one less at a place. -/
def dnT (l : List UInt8) (q : Nat) : List UInt8 := if l.getD q 0 = 0 then [] else l.set q (l.getD q 0 + 255)
set_option maxRecDepth 100000 in
set_option maxHeartbeats 1000000 in
theorem rdnless_any (v : Value) (l : List UInt8) (q : Nat) (w : World) (hv : Bytes w 0 w.heap.size v l) (hl : l.length = 256) (hq : q < 256) :
    Calls Try.prog 121 #[v, .int .i64 (q : Int)] w fun e w' => ∃ u, e = .returned (.tuple #[u, .bool (decide (l.getD q 0 ≠ 0))]) ∧ MadeB w w' u (dnT l q) := by
  have hd : dnT l q = if l.getD q 0 = 0 then [] else l.set q (l.getD q 0 + 255) := rfl
  rw [hd]
  clear hd
  have kw := fun V v x hh => rwitht_any v l q x V hh hl hq
  have HV := Lib.hid hv
  obtain ⟨bn, on_, cn, e1, -, zn, zn1, zn2, hcn⟩ := hv.at_n hl (by omega)
  have cq := hcn q (l.getD q 0) (get_l _ _ _ (by omega))
  subst e1
  unfold maxLen at zn2
  simp only [bV] at cq kw
  obtain ⟨x, hx⟩ : ∃ x, l.getD q 0 = x := ⟨_, rfl⟩
  rw [hx] at cq ⊢
  have KW := Lib.hid kw
  have iq : ¬ (256 : Int) ≤ (q : Int) := by omega
  have iq2 : (q : Int) < 256 := by omega
  have HL := Lib.hid (And.intro hl hx)
  clear kw hl hx hv hcn
  go_enter Try.func121, Try.ntmps121
  by_cases h0 : x = 0
  case pos =>
    subst h0
    go_wp2
    go_ret2
    exact ⟨_, rfl, MadeB.nil_ (Below.refl _ _)⟩
  have ix : ((x.toNat : Int) == 0) = false := by
    rw [beq_eq_false_iff_ne]
    exact u8_nz h0
  obtain ⟨i5, i6⟩ := u8_dn h0
  have k5 := fun V v hh => KW.out V v (x + 255) hh
  rw [i5] at k5
  have K5 := Lib.hid k5
  have H0 := Lib.hid h0
  clear i5 k5 h0
  go_wp2_with fail
  refine (K5.out _ _ HV.out).mono ?_
  rintro e z ⟨u, rfl, hm⟩
  have HM := Lib.hid hm
  obtain ⟨au, cu, rfl, -, -⟩ := hm.bytes.form rfl
  clear hm cq
  go_wp2
  go_ret2
  refine ⟨.slice au l.length cu, ?_, ?_⟩
  · rfl
  · have hm := HM.out
    simpa using hm

set_option maxRecDepth 100000 in
set_option maxHeartbeats 2000000 in
theorem rloose_any (b_s u_s x_s y_s : Value) (s : StoreL) (p : Int) (w : World) (h_s : StoreV w 0 w.heap.size b_s u_s x_s y_s s) :
    Calls Try.prog 31 #[.agg #[b_s, u_s, x_s, y_s], .int .i64 p] w fun e w' => ∃ b' u' x' y', e = .returned (.tuple #[.agg #[b', u', x', y'], .int .i64 (errAs s p)]) ∧ StoreV w' 0 w'.heap.size b' u' x' y' (loosS s p) ∧ Below w.heap.size w w' := by
  obtain ⟨ab_s, cb_s, rfl, gb_s, gc_s, -, -⟩ := h_s.1.1
  obtain ⟨au_s, cu_s, rfl, gu_s, gv_s, -, -⟩ := h_s.1.2
  obtain ⟨ax_s, cx_s, rfl, gx_s, gz_s⟩ := h_s.2.1.form rfl
  obtain ⟨ay_s, cy_s, rfl, gy_s, gw_s⟩ := h_s.2.2.form rfl
  unfold maxLen at gc_s gv_s gz_s gw_s
  have hst := (((Below.refl w.heap.size w).alloc (Nat.le_refl _) (.cells #[.slice ab_s s.disk.blocks.length cb_s, .slice au_s s.disk.waits.length cu_s, .slice ax_s s.now.length cx_s, .slice ay_s s.last.length cy_s] 28)).alloc (by simp) (.cells #[.slice none 0 0, .slice none 0 0, .slice none 0 0, .slice none 0 0] 28))
  have hq := two_new w (.cells #[.slice ab_s s.disk.blocks.length cb_s, .slice au_s s.disk.waits.length cu_s, .slice ax_s s.now.length cx_s, .slice ay_s s.last.length cy_s] 28) (.cells #[.slice none 0 0, .slice none 0 0, .slice none 0 0, .slice none 0 0] 28)
  have q_s := LK.of hq.1
  have q_r := LK.of hq.2
  have hB : LW w _ := hst
  have O_s := (LO.of h_s (Nat.le_refl _)).step hst
  have sz_V : w.heap.size + 1 < ((w.alloc (.cells #[.slice ab_s s.disk.blocks.length cb_s, .slice au_s s.disk.waits.length cu_s, .slice ax_s s.now.length cx_s, .slice ay_s s.last.length cy_s] 28)).alloc (.cells #[.slice none 0 0, .slice none 0 0, .slice none 0 0, .slice none 0 0] 28)).heap.size := by simp
  obtain ⟨V, hV⟩ : ∃ V, ((w.alloc (.cells #[.slice ab_s s.disk.blocks.length cb_s, .slice au_s s.disk.waits.length cu_s, .slice ax_s s.now.length cx_s, .slice ay_s s.last.length cy_s] 28)).alloc (.cells #[.slice none 0 0, .slice none 0 0, .slice none 0 0, .slice none 0 0] 28)) = V := ⟨_, rfl⟩
  rw [hV] at sz_V q_s q_r O_s hB
  clear hst h_s hq
  have HQ := Lib.hid (And.intro q_s (And.intro q_r (And.intro O_s hB)))
  clear q_s q_r O_s hB
  have c_q_s0 := LK.cell HQ.out.1 0
  have c_q_s1 := LK.cell HQ.out.1 1
  have c_q_s2 := LK.cell HQ.out.1 2
  have c_q_s3 := LK.cell HQ.out.1 3
  have c_q_r0 := LK.cell HQ.out.2.1 0
  have c_q_r1 := LK.cell HQ.out.2.1 1
  have c_q_r2 := LK.cell HQ.out.2.1 2
  have c_q_r3 := LK.cell HQ.out.2.1 3
  simp at c_q_s0 c_q_s1 c_q_s2 c_q_s3 c_q_r0 c_q_r1 c_q_r2 c_q_r3
  have hsh : loosS s p = if errAs s p = 0 then ⟨s.disk, s.now.set p.toNat (s.now.getD p.toNat 0 + 255), s.last⟩ else noS := rfl
  have hz := fun h => errAs_zero (s := s) (p := p) h
  have hl : mayS s = true → s.now.length = 256 := fun hm => mayT_len (mayS_iff.1 hm).2.1
  have k_a := fun V b u x y hh => rdasked9_any b u x y s p V hh
  generalize loosS s p = ss at *
  generalize errAs s p = ea at *
  have HE := Lib.hid (And.intro hsh (And.intro hz hl))
  clear hsh hz hl
  have HC := Lib.hid (k_a)
  clear k_a
  go_enter Try.func31, Try.ntmps31
  go_upto_region 1 with (fail)
  clear hV
  go_wp2_with fail
  refine (HC.out _ _ _ _ _ HQ.out.2.2.1.v).mono ?_
  rintro e w1 ⟨rfl, hst⟩
  clear c_q_s0 c_q_s1 c_q_s2 c_q_s3 c_q_r0 c_q_r1 c_q_r2 c_q_r3
  obtain ⟨q_s, q_r, O_s, hB⟩ := HQ.out
  clear HQ
  have sz_w1 : V.heap.size ≤ w1.heap.size := hst.size
  replace q_s := q_s.step hst
  replace q_r := q_r.step hst
  replace O_s := O_s.step hst
  replace hB := hB.step hst
  clear hst
  have HQ := Lib.hid (And.intro q_s (And.intro q_r (And.intro O_s hB)))
  clear q_s q_r O_s hB
  have c_q_s0 := LK.cell HQ.out.1 0
  have c_q_s1 := LK.cell HQ.out.1 1
  have c_q_s2 := LK.cell HQ.out.1 2
  have c_q_s3 := LK.cell HQ.out.1 3
  have c_q_r0 := LK.cell HQ.out.2.1 0
  have c_q_r1 := LK.cell HQ.out.2.1 1
  have c_q_r2 := LK.cell HQ.out.2.1 2
  have c_q_r3 := LK.cell HQ.out.2.1 3
  simp at c_q_s0 c_q_s1 c_q_s2 c_q_s3 c_q_r0 c_q_r1 c_q_r2 c_q_r3
  by_cases he : ea = 0
  case neg =>
    obtain ⟨h2, -⟩ := HE.out
    rw [if_neg he] at h2
    subst h2
    have i1 : (ea != 0) = true := by simp [he]
    clear c_q_s0 c_q_s1 c_q_s2 c_q_s3 c_q_r0 c_q_r1 c_q_r2 c_q_r3
    have c_q_s0 := LK.cell HQ.out.1 0
    have c_q_s1 := LK.cell HQ.out.1 1
    have c_q_s2 := LK.cell HQ.out.1 2
    have c_q_s3 := LK.cell HQ.out.1 3
    have c_q_r0 := LK.cell HQ.out.2.1 0
    have c_q_r1 := LK.cell HQ.out.2.1 1
    have c_q_r2 := LK.cell HQ.out.2.1 2
    have c_q_r3 := LK.cell HQ.out.2.1 3
    have z_q_r0 := LK.frozen HQ.out.2.1 0
    have z_q_r1 := LK.frozen HQ.out.2.1 1
    have z_q_r2 := LK.frozen HQ.out.2.1 2
    have z_q_r3 := LK.frozen HQ.out.2.1 3
    simp at c_q_s0 c_q_s1 c_q_s2 c_q_s3 c_q_r0 c_q_r1 c_q_r2 c_q_r3
    have hBf := HQ.out.2.2.2
    go_wp2
    refine bodyPost_ret (v := .tuple #[.agg #[.slice none 0 0, .slice none 0 0, .slice none 0 0, .slice none 0 0], .int .i64 ea]) (by simp [results, Try.results31, go_sem, c_q_r0, c_q_r1, c_q_r2, c_q_r3]) rfl ⟨_, _, _, _, rfl, nil_four hBf (Nat.le_succ _) _ _ _ _⟩
  subst he
  obtain ⟨h2, h3, h4⟩ := HE.out
  obtain ⟨hm, p8, p9, hn0⟩ := h3 rfl
  replace h4 := h4 hm
  rw [if_pos rfl] at h2
  clear HE h3 hm
  obtain ⟨q, rfl⟩ : ∃ q : Nat, p = q := ⟨p.toNat, by omega⟩
  rw [Int.toNat_natCast] at h2 hn0
  have q8 : 8 ≤ q := by omega
  have q9 : q < 256 := by omega
  clear p8 p9
  obtain ⟨bn, on_, cn, e1, -, zn, zn1, zn2, hcn⟩ := HQ.out.2.2.1.n.at_n h4 (by omega)
  injection e1 with e1 e3 e2
  subst e1 e2
  unfold maxLen at zn2
  have iq : ¬ (s.now.length : Int) ≤ (q : Int) := by omega
  have iq2 : (q : Int) < s.now.length := by omega
  have S_c : Lv 0 w.heap.size (fun W => W.cell? ⟨bn, on_ + q, none⟩ = some (bV (s.now.getD q 0))) w1 := Lv.imp HQ.out.2.2.1 fun W hW => by
    obtain ⟨b1, o1, c1, e1, -, y1, y2, y3, hc⟩ := hW.2.1.at_n h4 (by omega)
    injection e1 with e1 e2 e3
    injection e1 with e1
    injection e1 with e4 e5
    subst e4 e5
    exact hc q _ (get_l _ _ _ (by omega))
  simp only [bV] at S_c
  generalize s.now.getD q 0 = x at *
  have HSS := Lib.hid (And.intro h2 h4)
  obtain ⟨hxa, i6⟩ := u8_dn hn0
  have k5 := fun V v hh => rwitht_any v s.now q (x + 255) V hh HSS.out.2 q9
  simp only [bV, hxa] at k5
  have K5 := Lib.hid k5
  clear h2 h4 hcn e3 hn0 hxa k5
  obtain ⟨q_s, q_r, O_s, hB⟩ := HQ.out
  clear HQ
  have HQ := Lib.hid (And.intro q_s (And.intro q_r (And.intro O_s (And.intro S_c hB))))
  clear q_s q_r O_s S_c hB
  clear c_q_s0 c_q_s1 c_q_s2 c_q_s3 c_q_r0 c_q_r1 c_q_r2 c_q_r3
  have c_q_s0 := LK.cell HQ.out.1 0
  have c_q_s1 := LK.cell HQ.out.1 1
  have c_q_s2 := LK.cell HQ.out.1 2
  have c_q_s3 := LK.cell HQ.out.1 3
  have c_q_r0 := LK.cell HQ.out.2.1 0
  have c_q_r1 := LK.cell HQ.out.2.1 1
  have c_q_r2 := LK.cell HQ.out.2.1 2
  have c_q_r3 := LK.cell HQ.out.2.1 3
  simp at c_q_s0 c_q_s1 c_q_s2 c_q_s3 c_q_r0 c_q_r1 c_q_r2 c_q_r3
  go_upto_region 4 with (fail)
  clear c_q_s0 c_q_s1 c_q_s2 c_q_s3 c_q_r0 c_q_r1 c_q_r2 c_q_r3
  obtain ⟨Pr, hPr⟩ : ∃ Pr : World → Prop, ∀ X, Pr X ↔ Below w1.heap.size w1 X := ⟨_, fun _ => Iff.rfl⟩
  have hp0 : Pr w1.drew := (hPr _).2 (Below.refl _ w1).drew
  have x0 := fun X => LK.cell (HQ.out.1.step ((hPr _).1 (selW_pr hp0 X))) 0
  have x1 := fun X => LK.cell (HQ.out.1.step ((hPr _).1 (selW_pr hp0 X))) 1
  have x2 := fun X => LK.cell (HQ.out.1.step ((hPr _).1 (selW_pr hp0 X))) 2
  have x3 := fun X => LK.cell (HQ.out.1.step ((hPr _).1 (selW_pr hp0 X))) 3
  simp at x0 x1 x2 x3
  have xc := fun X => Lv.get (Lv.step HQ.out.2.2.2.1 ((hPr _).1 (selW_pr hp0 X)))
  refine wp_region_L (S := Kl Pr w1.drew) 11 (by kernel_rfl) (Kl.of hp0) (fun hCl => ?_)
  refine wpAnyL_seg (fuel := 3) (by kernel_rfl) (fun _ d _ _ _ h => by cases d <;> exact h) hCl [0, 1, 2, 3, 4, 5, 6, 7, 8] _ _ _ (by kernel_rfl) (by kernel_rfl) (by kernel_rfl) (by kernel_rfl) ?_
  simp only [opsOf_cons, opsOf_nil, consOp_some, List.getElem?_toArray, List.getElem?_cons_succ, List.getElem?_cons_zero]
  repeat (first | go_big_quiet_step (fail) | quiet_step (fail))
  refine wpQuiet_nil ?_
  refine wpAnyL_each (fuel := 2) [9] (by kernel_rfl) (by simp) (by kernel_rfl) ?_
  refine EachL.cons _ rfl (fun K' hK => ?_) EachL.nil
  go_simp
  refine (K5.out _ _ (HQ.out.2.2.1.step (Below.refl _ w1).drew).n).mono ?_
  rintro e z5 ⟨u1, rfl, hg⟩
  obtain ⟨ax_n, cx_n, rfl, -, -⟩ := hg.bytes.form rfl
  have hst4 : Below w1.heap.size w1 z5 := (Below.refl _ w1).drew.trans hg.below
  have hst := (hPr _).2 hst4
  have HG := Lib.hid (And.intro hg hst4)
  clear hg hst4
  have hCl : Kl Pr w1.drew _ := Kl.of hst
  refine hK.out (.inr hCl) ?_
  clear hK K'
  refine wpAnyL_seg (fuel := 1) (by kernel_rfl) (fun _ d _ _ _ h => by cases d <;> exact h) hCl [10] _ _ _ (by kernel_rfl) (by kernel_rfl) (by kernel_rfl) (by kernel_rfl) ?_
  simp only [opsOf_cons, opsOf_nil, consOp_some, List.getElem?_toArray, List.getElem?_cons_succ, List.getElem?_cons_zero]
  repeat (first | go_big_quiet_step (fail) | quiet_step (fail))
  refine wpQuiet_nil ?_
  refine wpAnyL_each (fuel := 0) [11] (by kernel_rfl) (by simp) (by kernel_rfl) ?_
  refine EachL.cons _ rfl (fun K' hK => ?_) EachL.nil
  have r0 := LK.cell (HQ.out.1.step HG.out.2) 0
  have r1 := LK.cell (HQ.out.1.step HG.out.2) 1
  have r2 := LK.cell (HQ.out.1.step HG.out.2) 2
  have r3 := LK.cell (HQ.out.1.step HG.out.2) 3
  simp at r0 r1 r2 r3
  have s0 := LK.frozen (HQ.out.1.step HG.out.2) 0
  have s1 := LK.frozen (HQ.out.1.step HG.out.2) 1
  have s2 := LK.frozen (HQ.out.1.step HG.out.2) 2
  have s3 := LK.frozen (HQ.out.1.step HG.out.2) 3
  go_simp
  refine hK.out (.inl rfl) ?_
  clear hK K'
  refine wpAnyL_done (by kernel_rfl) ?_ _
  clear x0 x1 x2 x3 xc r0 r1 r2 r3 s0 s1 s2 s3
  obtain ⟨q_s, q_r, O_s, S_c, hB⟩ := HQ.out
  clear HQ
  have B_n := LM.of HG.out.1
  change LM w1.heap.size _ _ _ _ at B_n
  simp only [List.length_set] at B_n
  have hst := HG.out.2
  have sz_z5 : w1.heap.size ≤ z5.heap.size := hst.size
  replace q_s := q_s.step hst
  replace q_r := q_r.step hst
  replace O_s := O_s.step hst
  replace S_c := S_c.step hst
  replace hB := hB.step hst
  clear hst hCl
  have HQ := Lib.hid (And.intro q_s (And.intro q_r (And.intro O_s (And.intro S_c (And.intro B_n hB)))))
  clear q_s q_r O_s S_c B_n hB
  obtain ⟨q_s, q_r, O_s, S_c, B_n, hB⟩ := HQ.out
  clear HQ
  have hcb := LK.blk q_s
  have hF : LK (w.heap.size) (.cells #[.slice ab_s s.disk.blocks.length cb_s, .slice au_s s.disk.waits.length cu_s, .slice ax_n s.now.length cx_n, .slice ay_s s.last.length cy_s] 28) (z5.setCell ⟨w.heap.size, 2, none⟩ (.slice ax_n s.now.length cx_n)) := LK.of (set_block hcb 2 _)
  have hbel : Below (w.heap.size) z5 (z5.setCell ⟨w.heap.size, 2, none⟩ (.slice ax_n s.now.length cx_n)) := (Below.refl _ z5).setCell (p := ⟨w.heap.size, 2, none⟩) (Nat.le_refl _) _
  have hfr : ∀ x, x < z5.heap.size → (x < w.heap.size ∨ w.heap.size + 1 ≤ x) → (z5.setCell ⟨w.heap.size, 2, none⟩ (.slice ax_n s.now.length cx_n)).heap[x]? = z5.heap[x]? := fun x _ h => (set_other _ _ _ _ _ (by omega))
  have hs4 : (z5.setCell ⟨w.heap.size, 2, none⟩ (.slice ax_n s.now.length cx_n)).heap.size = z5.heap.size := by simp only [World.size_setCell]
  replace q_r := q_r.out (Nat.le_of_eq hs4.symm) hfr (by omega)
  replace O_s := O_s.out (Nat.le_of_eq hs4.symm) hfr (by omega)
  replace S_c := S_c.out (Nat.le_of_eq hs4.symm) hfr (by omega)
  replace B_n := B_n.out (Nat.le_of_eq hs4.symm) hfr (by omega)
  replace hB := hB.outB hbel (by omega)
  replace q_s := hF
  obtain ⟨w2, hw⟩ : ∃ v, (z5.setCell ⟨w.heap.size, 2, none⟩ (.slice ax_n s.now.length cx_n)) = v := ⟨_, rfl⟩
  rw [hw] at hs4 q_s q_r O_s S_c B_n hB ⊢
  have sz_w2 := Nat.le_of_eq hs4
  have sy_w2 := Nat.le_of_eq hs4.symm
  clear hw hF hbel hfr hcb hs4
  have HQ := Lib.hid (And.intro q_s (And.intro q_r (And.intro O_s (And.intro S_c (And.intro B_n hB)))))
  clear q_s q_r O_s S_c B_n hB
  have c_q_s0 := LK.cell HQ.out.1 0
  have c_q_s1 := LK.cell HQ.out.1 1
  have c_q_s2 := LK.cell HQ.out.1 2
  have c_q_s3 := LK.cell HQ.out.1 3
  have c_q_r0 := LK.cell HQ.out.2.1 0
  have c_q_r1 := LK.cell HQ.out.2.1 1
  have c_q_r2 := LK.cell HQ.out.2.1 2
  have c_q_r3 := LK.cell HQ.out.2.1 3
  simp at c_q_s0 c_q_s1 c_q_s2 c_q_s3 c_q_r0 c_q_r1 c_q_r2 c_q_r3
  clear c_q_s0 c_q_s1 c_q_s2 c_q_s3 c_q_r0 c_q_r1 c_q_r2 c_q_r3
  have c_q_s0 := LK.cell HQ.out.1 0
  have c_q_s1 := LK.cell HQ.out.1 1
  have c_q_s2 := LK.cell HQ.out.1 2
  have c_q_s3 := LK.cell HQ.out.1 3
  have c_q_r0 := LK.cell HQ.out.2.1 0
  have c_q_r1 := LK.cell HQ.out.2.1 1
  have c_q_r2 := LK.cell HQ.out.2.1 2
  have c_q_r3 := LK.cell HQ.out.2.1 3
  have z_q_r0 := LK.frozen HQ.out.2.1 0
  have z_q_r1 := LK.frozen HQ.out.2.1 1
  have z_q_r2 := LK.frozen HQ.out.2.1 2
  have z_q_r3 := LK.frozen HQ.out.2.1 3
  simp at c_q_s0 c_q_s1 c_q_s2 c_q_s3 c_q_r0 c_q_r1 c_q_r2 c_q_r3
  have szr := LK.lt HQ.out.2.1
  have hO := HQ.out.2.2.1
  have hBn := HQ.out.2.2.2.2.1
  have hBf := HQ.out.2.2.2.2.2
  have HF := Lib.hid (And.intro hO (And.intro hBn hBf))
  clear hO hBn hBf
  go_wp2
  refine bodyPost_ret (v := .tuple #[.agg #[.slice ab_s s.disk.blocks.length cb_s, .slice au_s s.disk.waits.length cu_s, .slice ax_n s.now.length cx_n, .slice ay_s s.last.length cy_s], .int .i64 0]) (by simp [results, Try.results31, go_sem, c_q_r0, c_q_r1, c_q_r2, c_q_r3]) rfl ⟨_, _, _, _, rfl, ?_⟩
  rw [HSS.out.1]
  obtain ⟨hO, hBn, hBf⟩ := HF.out
  obtain ⟨hs, hf⟩ := four_frame w2 (w.heap.size + 1) (.slice ab_s s.disk.blocks.length cb_s) (.slice au_s s.disk.waits.length cu_s) (.slice ax_n s.now.length cx_n) (.slice ay_s s.last.length cy_s)
  have hO2 := hO.out (Nat.le_of_eq hs.symm) hf (.inl (Nat.le_succ _))
  have hB2 := hBn.out (Nat.le_of_eq hs.symm) hf (.inr (by omega))
  exact ⟨⟨hO2.v.1, hB2.v, hO2.v.2.2⟩, Below.trans hBf (below_four w2 _ _ _ _ (Nat.le_succ _))⟩

end Go.Proofs.Ytkfgegdnpinbdaa

namespace Go.Proofs.Ytkfgegdnpinbdaa
open Go.RowKit

/-- Items left, one behind the other. -/
def leftL (f : List UInt8 → Nat → Option (List UInt8)) : List UInt8 → List ItemL → Option (List UInt8)
  | now, [] => some now
  | now, y :: l => if y.ref = 0 then leftL f now l else (f now y.ref.toNat).bind fun n => leftL f n l
def dnO (now : List UInt8) (q : Nat) : Option (List UInt8) := if now.getD q 0 = 0 then none else some (now.set q (now.getD q 0 + 255))
/-- Counts behind a node is left. -/
def leftR (s : StoreL) : Nat → List UInt8 → Nat → Int → Option (List UInt8)
  | 0, _, _, _ => none
  | k + 1, now, p, lv =>
    if now.getD p 0 = 0 then none
    else if 1 < (now.getD p 0).toNat then some (now.set p (now.getD p 0 + 255))
    else if isR s p = false ∨ (0 ≤ lv ∧ (rdR s p).level ≠ lv) then none
    else leftL (fun n q => if (rdR s p).level = 0 then dnO n q else leftR s k n q ((rdR s p).level - 1)) (now.set p (now.getD p 0 + 255)) (rdR s p).items
theorem leftL_app (f : List UInt8 → Nat → Option (List UInt8)) : ∀ (l m : List ItemL) (now : List UInt8), leftL f now (l ++ m) = (leftL f now l).bind fun n => leftL f n m
  | [], _, _ => rfl
  | y :: l, m, now => by
    rw [List.cons_append, leftL, leftL]
    split
    · exact leftL_app f l m now
    · cases f now y.ref.toNat with
      | none => rfl
      | some n => exact leftL_app f l m n
theorem leftL_dn : ∀ (l : List ItemL) (now : List UInt8), leftL dnO now l = looseA now l
  | [], _ => rfl
  | y :: l, now => by
    rw [leftL, looseA]
    split
    · exact leftL_dn l now
    · unfold dnO
      split
      · rfl
      · exact leftL_dn l _
theorem leftL_sum {f : List UInt8 → Nat → Option (List UInt8)} (hf : ∀ n q n', f n q = some n' → sumC n' ≤ sumC n) : ∀ (l : List ItemL) (now now' : List UInt8), leftL f now l = some now' → sumC now' ≤ sumC now
  | [], _, _, h => by cases h; exact Nat.le_refl _
  | y :: l, now, now', h => by
    rw [leftL] at h
    split at h
    · exact leftL_sum hf l _ _ h
    · cases e : f now y.ref.toNat with
      | none => rw [e] at h; cases h
      | some n =>
        rw [e] at h
        exact Nat.le_trans (leftL_sum hf l _ _ h) (hf _ _ _ e)
theorem dnO_sum (n : List UInt8) (q : Nat) (n' : List UInt8) (h : dnO n q = some n') : sumC n' ≤ sumC n := by
  unfold dnO at h
  split at h
  · cases h
  · rename_i h0
    cases h
    have := sumC_dn h0
    omega
theorem leftR_sum (s : StoreL) : ∀ (k : Nat) (now : List UInt8) (p : Nat) (lv : Int) (now' : List UInt8), leftR s k now p lv = some now' → sumC now' < sumC now
  | 0, _, _, _, _, h => by cases h
  | k + 1, now, p, lv, now', h => by
    rw [leftR] at h
    split at h
    · cases h
    · rename_i h0
      have h1 := sumC_dn h0
      split at h
      · cases h
        omega
      · split at h
        · cases h
        · have := leftL_sum (fun n q n' e => by
            split at e
            · exact dnO_sum _ _ _ e
            · exact Nat.le_of_lt (leftR_sum s k _ _ _ _ e)) _ _ _ h
          omega
theorem u8_one {x : UInt8} (h0 : x ≠ 0) (h1 : ¬ 1 < x.toNat) : x + 255 = 0 := by
  have h2 : x.toNat ≠ 0 := fun e => h0 (UInt8.toNat_inj.1 (by rw [e]; rfl))
  have h3 : x.toNat = 1 := by omega
  have : x = 1 := UInt8.toNat_inj.1 (by rw [h3]; rfl)
  subst this
  rfl
/-- What the program does with its stack is what the document says. -/
theorem lvF_left (s : StoreL) : ∀ (k : Nat) (lv : Int), (0 ≤ lv ∧ lv.toNat < k) ∨ (lv < 0 ∧ 7 ≤ k) → ∀ (K p : Nat) (now : List UInt8) (st : List (Nat × Int)), 8 ≤ p → p < 256 → sumC now < K →
    lvF s.disk s.now K now ((p, lv) :: st) = (leftR s k now p lv).bind fun n => lvF s.disk s.now K n st
  | 0, lv, hk, _, _, _, _, _, _, _ => by omega
  | k + 1, lv, hk, K, p, now, st, h8, h9, hK => by
    obtain ⟨K', rfl⟩ : ∃ K', K = K' + 1 := ⟨K - 1, by omega⟩
    rw [lvF, leftR]
    dsimp only
    by_cases h0 : now.getD p 0 = 0
    · rw [if_pos h0, if_pos h0]; rfl
    rw [if_neg h0, if_neg h0]
    have hdn := sumC_dn h0
    by_cases h1 : 1 < (now.getD p 0).toNat
    · rw [if_pos h1, if_pos h1]
      exact lvF_any _ _ _ _ _ _ (by omega) (by omega)
    rw [if_neg h1, if_neg h1]
    have hz : now.set p 0 = now.set p (now.getD p 0 + 255) := by rw [u8_one h0 h1]
    rw [hz]
    have hiff : (errNd (seenD s.disk p) ≠ 0 ∨ s.now.getD p 0 = 0 ∨ (0 ≤ lv ∧ (readNd (seenD s.disk p)).level ≠ lv)) ↔ (isR s p = false ∨ (0 ≤ lv ∧ (rdR s p).level ≠ lv)) := by
      by_cases hn : s.now.getD p 0 = 0
      · obtain ⟨a, -⟩ := isR_no (s := s) (p := (p : Int)) (.inr (.inr (by simpa using hn)))
        exact ⟨fun _ => .inl a, fun _ => .inr (.inl hn)⟩
      · obtain ⟨a, b⟩ := isR_nat h8 h9 hn
        rw [a, b]
        constructor
        · rintro (h | h | h)
          · exact .inl (decide_eq_false h)
          · exact absurd h hn
          · exact .inr h
        · rintro (h | h)
          · exact .inl (of_decide_eq_false h)
          · exact .inr (.inr h)
    by_cases hb : isR s p = false ∨ (0 ≤ lv ∧ (rdR s p).level ≠ lv)
    · rw [if_pos hb, if_pos (hiff.2 hb)]; rfl
    rw [if_neg hb, if_neg (fun h => hb (hiff.1 h))]
    have hn : s.now.getD p 0 ≠ 0 := fun e => hb (.inl (isR_no (s := s) (p := (p : Int)) (.inr (.inr (by simpa using e)))).1)
    obtain ⟨a, b⟩ := isR_nat h8 h9 hn
    have he : errNd (seenD s.disk p) = 0 := by
      apply Classical.byContradiction
      intro h
      exact hb (.inl (by rw [a]; exact decide_eq_false h))
    have hN := (back2 he).1
    rw [b]
    rw [b] at hb
    generalize readNd (seenD s.disk p) = n at *
    obtain ⟨⟨hl0, hl6⟩, -⟩ := mayN_all hN
    have hll : n.level = lv ∨ lv < 0 := by
      by_cases h : 0 ≤ lv
      · refine .inl (Classical.byContradiction fun e => hb (.inr ⟨h, e⟩))
      · exact .inr (by omega)
    by_cases hL : 0 < n.level
    · rw [if_pos hL]
      have hne : ¬ n.level = 0 := by omega
      have hin : ∀ (its : List ItemL) (now : List UInt8), (∀ y ∈ its, 8 ≤ y.ref ∧ y.ref < 256) → sumC now < K' →
          lvF s.disk s.now K' now (its.map (fun y => (y.ref.toNat, n.level - 1)) ++ st) = (leftL (fun m q => if n.level = 0 then dnO m q else leftR s k m q (n.level - 1)) now its).bind fun m => lvF s.disk s.now (K' + 1) m st := by
        intro its
        induction its with
        | nil => exact fun now _ h => lvF_any _ _ _ _ _ _ h (by omega)
        | cons y its ih =>
          intro now hy h
          obtain ⟨y8, y9⟩ := hy y (List.mem_cons_self ..)
          rw [List.map_cons, List.cons_append, lvF_left s k (n.level - 1) (.inl ⟨by omega, by omega⟩) K' _ now _ (by omega) (by omega) h, leftL, if_neg (by omega : ¬ y.ref = 0), if_neg hne]
          cases e : leftR s k now y.ref.toNat (n.level - 1) with
          | none => rfl
          | some m =>
            have := leftR_sum s k _ _ _ _ e
            exact ih m (fun z hz => hy z (List.mem_cons_of_mem _ hz)) (by omega)
      exact hin _ _ (mayN_above hN hL) (by omega)
    · rw [if_neg hL]
      have h00 : n.level = 0 := by omega
      have hfn : (fun (m : List UInt8) (q : Nat) => if n.level = 0 then dnO m q else leftR s k m q (n.level - 1)) = dnO := by
        funext m q
        rw [if_pos h00]
      rw [hfn, leftL_dn]
      cases e : looseA (now.set p (now.getD p 0 + 255)) n.items with
      | none => rfl
      | some m =>
        have := looseA_sum e
        exact lvF_any _ _ _ _ _ _ (by omega) (by omega)
theorem lvS_left {s : StoreL} {p : Nat} (h8 : 8 ≤ p) (h9 : p < 256) : lvS s p = leftR s 7 s.now p (-1) := by
  unfold lvS
  rw [lvF_left s 7 (-1) (.inr ⟨by decide, by decide⟩) _ p _ [] h8 h9 (Nat.lt_succ_self _)]
  cases leftR s 7 s.now p (-1) with
  | none => rfl
  | some n => rfl
end Go.Proofs.Ytkfgegdnpinbdaa

namespace Go.Proofs.Ytkfgegdnpinbdaa
open Go.RowKit

set_option linter.unusedSimpArgs false
theorem MadeB.back {w V z : World} {u : Value} {l : List UInt8} (h : MadeB V z u l) (hB : Below w.heap.size w V) : MadeB w z u l := ⟨h.bytes.more hB.size (Nat.le_refl _), h.thawed, below_step hB hB.size h.below⟩
theorem MadeB.on {w z z' : World} {u : Value} {l : List UInt8} (h : MadeB w z u l) (hb : Below z.heap.size z z') : MadeB w z' u l :=
  have hk : Kp w.heap.size z.heap.size z z' := fun b o _ h2 => ⟨hb.cell (p := ⟨b, o, none⟩) h2, hb.frozen (p := ⟨b, o, none⟩) h2⟩
  ⟨(h.bytes.kept hk).more (Nat.le_refl _) hb.size, thawed_kept h.bytes h.thawed hk, below_step h.below h.below.size hb⟩
theorem dnO_len {n : List UInt8} {q : Nat} {n' : List UInt8} (h : dnO n q = some n') : n'.length = n.length := by
  unfold dnO at h
  split at h
  · cases h
  · cases h; simp
theorem leftL_len {f : List UInt8 → Nat → Option (List UInt8)} (hf : ∀ n q n', f n q = some n' → n'.length = n.length) : ∀ (l : List ItemL) (now now' : List UInt8), leftL f now l = some now' → now'.length = now.length
  | [], _, _, h => by cases h; rfl
  | y :: l, now, now', h => by
    rw [leftL] at h
    split at h
    · exact leftL_len hf l _ _ h
    · cases e : f now y.ref.toNat with
      | none => rw [e] at h; cases h
      | some n =>
        rw [e] at h
        exact (leftL_len hf l _ _ h).trans (hf _ _ _ e)
theorem leftR_len (s : StoreL) : ∀ (k : Nat) (now : List UInt8) (p : Nat) (lv : Int) (now' : List UInt8), leftR s k now p lv = some now' → now'.length = now.length
  | 0, _, _, _, _, h => by cases h
  | k + 1, now, p, lv, now', h => by
    rw [leftR] at h
    split at h
    · cases h
    · split at h
      · cases h
        simp
      · split at h
        · cases h
        · have := leftL_len (fun n q n' e => by
            split at e
            · exact dnO_len e
            · exact leftR_len s k _ _ _ _ e) _ _ _ h
          rw [this, List.length_set]
theorem leftL_next (f : List UInt8 → Nat → Option (List UInt8)) (now : List UInt8) (l : List ItemL) (j : Nat) (hj : j < l.length) :
    leftL f now (l.take (j + 1)) = (leftL f now (l.take j)).bind fun n => if (l.getD j nokI).ref = 0 then some n else f n (l.getD j nokI).ref.toNat := by
  have h1 : l.take (j + 1) = l.take j ++ [l.getD j nokI] := by rw [List.take_add_one, List.getD_eq_getElem?_getD, List.getElem?_eq_getElem hj]; rfl
  rw [h1, leftL_app]
  cases leftL f now (l.take j) with
  | none => rfl
  | some n =>
    show leftL f n [l.getD j nokI] = _
    rw [leftL]
    show _ = if (l.getD j nokI).ref = 0 then some n else f n (l.getD j nokI).ref.toNat
    by_cases h : (l.getD j nokI).ref = 0
    · rw [if_pos h, if_pos h]; rfl
    · rw [if_neg h, if_neg h]
      cases f n (l.getD j nokI).ref.toNat <;> rfl
theorem leftL_stop (f : List UInt8 → Nat → Option (List UInt8)) (now : List UInt8) (l : List ItemL) (j : Nat) (h : leftL f now (l.take j) = none) : leftL f now l = none := by
  rw [← List.take_append_drop j l, leftL_app, h]
  rfl
theorem dnless_any (v : Value) (l : List UInt8) (q : Nat) (w : World) (hv : Bytes w 0 w.heap.size v l) (hl : l.length = 256) (hq : q < 256) :
    Calls Try.prog 121 #[v, .int .i64 (q : Int)] w fun e w' => ∃ u, e = .returned (.tuple #[u, .bool (dnO l q).isSome]) ∧ MadeB w w' u ((dnO l q).getD []) := by
  refine (rdnless_any v l q w hv hl hq).mono ?_
  rintro e z ⟨u, rfl, hm⟩
  refine ⟨u, ?_, ?_⟩
  · unfold dnO
    by_cases h : l.getD q 0 = 0
    · rw [if_pos h, show decide (l.getD q 0 ≠ 0) = false from decide_eq_false (fun hh => hh h)]; rfl
    · rw [if_neg h, show decide (l.getD q 0 ≠ 0) = true from decide_eq_true h]; rfl
  · unfold dnO
    unfold dnT at hm
    by_cases h : l.getD q 0 = 0
    · rw [if_pos h] at hm ⊢; exact hm
    · rw [if_neg h] at hm ⊢; exact hm
theorem rdR_may {s : StoreL} {p : Int} (h : isR s p = true) : mayN (rdR s p) = true := by
  unfold rdR
  rw [if_pos h]
  unfold isR at h
  rw [decide_eq_true_eq] at h
  obtain ⟨-, -, h⟩ := h
  unfold nodeB
  rw [if_pos h]
  unfold errBn at h
  split at h
  · cases h
  · split at h
    · rename_i he; exact (back2 he).1
    · cases h
theorem mayN_ref {n : NodeL} (h : mayN n = true) {j : Nat} (hj : j < n.items.length) : (n.items.getD j nokI).ref = 0 ∨ (8 ≤ (n.items.getD j nokI).ref ∧ (n.items.getD j nokI).ref < 256) := by
  refine mayN_refs h _ ?_
  rw [List.getD_eq_getElem?_getD, List.getElem?_eq_getElem hj]
  exact List.getElem_mem hj

set_option maxRecDepth 100000 in
set_option maxHeartbeats 4000000 in
theorem rleft_step (b_s u_s x_s y_s : Value) (s : StoreL) (v_n : Value) (n : List UInt8) (p : Int) (lv : Int) (w : World) (h_s : StoreV w 0 w.heap.size b_s u_s x_s y_s s) (h_n : Bytes w 0 w.heap.size v_n n) (hm : mayS s = true) (hnl : n.length = 256) (h8 : 8 ≤ p) (h9 : p < 256) (k : Nat) (ih : ∀ (lv : Int), 0 ≤ lv → lv.toNat < k → ∀ (b u x y v : Value) (now : List UInt8) (q : Nat) (V : World), StoreV V 0 V.heap.size b u x y s → Bytes V 0 V.heap.size v now → now.length = 256 → 8 ≤ q → q < 256 → Calls Try.prog 104 #[.agg #[b, u, x, y], v, .int .i64 (q : Int), .int .i64 lv] V fun e w' => ∃ u, e = .returned (.tuple #[u, .bool (leftR s k now q lv).isSome]) ∧ MadeB V w' u ((leftR s k now q lv).getD [])) (hc : (0 ≤ lv ∧ lv.toNat < k + 1) ∨ (lv < 0 ∧ 7 ≤ k + 1)) :
    Calls Try.prog 104 #[.agg #[b_s, u_s, x_s, y_s], v_n, .int .i64 p, .int .i64 lv] w fun e w' => ∃ u, e = .returned (.tuple #[u, .bool (leftR s (k + 1) n p.toNat lv).isSome]) ∧ MadeB w w' u ((leftR s (k + 1) n p.toNat lv).getD []) := by
  obtain ⟨ab_s, cb_s, rfl, gb_s, gc_s, -, -⟩ := h_s.1.1
  obtain ⟨au_s, cu_s, rfl, gu_s, gv_s, -, -⟩ := h_s.1.2
  obtain ⟨ax_s, cx_s, rfl, gx_s, gz_s⟩ := h_s.2.1.form rfl
  obtain ⟨ay_s, cy_s, rfl, gy_s, gw_s⟩ := h_s.2.2.form rfl
  unfold maxLen at gc_s gv_s gz_s gw_s
  obtain ⟨a_n, c_n, rfl, g_n, gm_n⟩ := h_n.form rfl
  unfold maxLen at gm_n
  have hst := ((Below.refl w.heap.size w).alloc (Nat.le_refl _) (.cells #[.slice ab_s s.disk.blocks.length cb_s, .slice au_s s.disk.waits.length cu_s, .slice ax_s s.now.length cx_s, .slice ay_s s.last.length cy_s] 28))
  have q_s := LK.new w (.cells #[.slice ab_s s.disk.blocks.length cb_s, .slice au_s s.disk.waits.length cu_s, .slice ax_s s.now.length cx_s, .slice ay_s s.last.length cy_s] 28)
  have hB : LW w _ := hst
  have O_s := (LO.of h_s (Nat.le_refl _)).step hst
  have B_n := (LB.of h_n (Nat.le_refl _)).step hst
  have sz_V : w.heap.size + 0 < (w.alloc (.cells #[.slice ab_s s.disk.blocks.length cb_s, .slice au_s s.disk.waits.length cu_s, .slice ax_s s.now.length cx_s, .slice ay_s s.last.length cy_s] 28)).heap.size := by simp
  obtain ⟨V, hV⟩ : ∃ V, (w.alloc (.cells #[.slice ab_s s.disk.blocks.length cb_s, .slice au_s s.disk.waits.length cu_s, .slice ax_s s.now.length cx_s, .slice ay_s s.last.length cy_s] 28)) = V := ⟨_, rfl⟩
  rw [hV] at sz_V q_s O_s B_n hB
  clear hst h_s h_n
  have HQ := Lib.hid (And.intro q_s (And.intro O_s (And.intro B_n hB)))
  clear q_s O_s B_n hB
  have c_q_s0 := LK.cell HQ.out.1 0
  have c_q_s1 := LK.cell HQ.out.1 1
  have c_q_s2 := LK.cell HQ.out.1 2
  have c_q_s3 := LK.cell HQ.out.1 3
  simp at c_q_s0 c_q_s1 c_q_s2 c_q_s3
  obtain ⟨q, rfl⟩ : ∃ q : Nat, p = q := ⟨p.toNat, by omega⟩
  have q8 : 8 ≤ q := by omega
  have q9 : q < 256 := by omega
  clear h8 h9
  rw [Int.toNat_natCast]
  have hE : leftR s (k + 1) n q lv = if n.getD q 0 = 0 then none else if 1 < (n.getD q 0).toNat then some (n.set q (n.getD q 0 + 255)) else if isR s q = false ∨ (0 ≤ lv ∧ (rdR s q).level ≠ lv) then none else leftL (fun m z => if (rdR s q).level = 0 then dnO m z else leftR s k m z ((rdR s q).level - 1)) (n.set q (n.getD q 0 + 255)) (rdR s q).items := rfl
  have hmay := rdR_may (s := s) (p := (q : Int))
  have k_d := fun (l : List UInt8) (z : Nat) V v hh hl hz => rdnless_any v l z V hh hl hz
  have k_r := fun V b u x y hh => rsread_any b u x y s (q : Int) V hh hm
  obtain ⟨R, hR⟩ : ∃ R, leftR s (k + 1) n q lv = R := ⟨_, rfl⟩
  rw [hR] at hE ⊢
  clear hR
  obtain ⟨f, hf⟩ : ∃ f, (fun (m : List UInt8) (z : Nat) => if (rdR s q).level = 0 then dnO m z else leftR s k m z ((rdR s q).level - 1)) = f := ⟨_, rfl⟩
  rw [hf] at hE
  have hf0 : (rdR s q).level = 0 → f = dnO := fun h => by rw [← hf]; funext m z; rw [if_pos h]
  have hf1 : (rdR s q).level ≠ 0 → ∀ m z, f m z = leftR s k m z ((rdR s q).level - 1) := fun h m z => by rw [← hf]; exact if_neg h
  clear hf
  generalize rdR s q = nd at *
  generalize isR s q = ir at *
  have hflen : ∀ m z m', f m z = some m' → m'.length = m.length := fun m z m' h => by
    by_cases h0 : nd.level = 0
    · rw [hf0 h0] at h; exact dnO_len h
    · rw [hf1 h0] at h; exact leftR_len s k _ _ _ _ h
  have HE := Lib.hid (And.intro hE (And.intro hmay (And.intro hf0 (And.intro hf1 (And.intro hflen hnl)))))
  have HIH := Lib.hid ih
  have HC0 := Lib.hid hc
  clear hE hmay hf0 hf1 hflen ih hc hm
  obtain ⟨bn, on_, cn, e1, -, zn, zn1, zn2, hcn⟩ := HQ.out.2.2.1.v.at_n hnl (by omega)
  have cq := hcn q (n.getD q 0) (get_l _ _ _ (by omega))
  injection e1 with e1 e3 e2
  subst e1 e2
  clear hcn e3
  unfold maxLen at zn2
  obtain ⟨x, hx⟩ : ∃ x, n.getD q 0 = x := ⟨_, rfl⟩
  have S_c : Lv 0 w.heap.size (fun W => W.cell? ⟨bn, on_ + q, none⟩ = some (bV (n.getD q 0))) V := Lv.imp HQ.out.2.2.1 fun W hW => by
    obtain ⟨b1, o1, c1, e1, -, y1, y2, y3, hc⟩ := hW.at_n hnl (by omega)
    injection e1 with e1 e2 e3
    injection e1 with e1
    injection e1 with e4 e5
    subst e4 e5
    exact hc q _ (get_l _ _ _ (by omega))
  rw [hx] at S_c
  simp only [bV] at S_c
  clear cq
  have iq : ¬ (n.length : Int) ≤ (q : Int) := by omega
  have iq2 : (q : Int) < n.length := by omega
  have hd : dnT n q = if n.getD q 0 = 0 then [] else n.set q (n.getD q 0 + 255) := rfl
  rw [hx] at hd
  have HX := Lib.hid (And.intro hx hd)
  clear hx hd hnl
  have HC := Lib.hid (And.intro k_d k_r)
  clear k_d k_r
  obtain ⟨q_s, O_s, B_n, hB⟩ := HQ.out
  clear HQ
  have HQ := Lib.hid (And.intro q_s (And.intro O_s (And.intro B_n (And.intro S_c hB))))
  clear q_s O_s B_n S_c hB
  clear c_q_s0 c_q_s1 c_q_s2 c_q_s3
  have c_q_s0 := LK.cell HQ.out.1 0
  have c_q_s1 := LK.cell HQ.out.1 1
  have c_q_s2 := LK.cell HQ.out.1 2
  have c_q_s3 := LK.cell HQ.out.1 3
  simp at c_q_s0 c_q_s1 c_q_s2 c_q_s3
  go_enter Try.func104, Try.ntmps104
  go_upto_region 1 with (fail)
  clear hV
  have kd := HC.out.1 n q V _ HQ.out.2.2.1.v HE.out.2.2.2.2.2 q9
  rw [HX.out.1, HX.out.2] at kd
  have hR := HE.out.1
  rw [HX.out.1] at hR
  by_cases h0 : x = 0
  case pos =>
    rw [if_pos h0] at hR kd
    rw [show decide (x ≠ 0) = false by simp [h0]] at kd
    subst hR
    have KD := Lib.hid kd
    clear kd
    go_wp2_with fail
    refine (KD.out).mono ?_
    rintro e w1 ⟨u1, rfl, hm⟩
    clear c_q_s0 c_q_s1 c_q_s2 c_q_s3
    obtain ⟨q_s, O_s, B_n, S_c, hB⟩ := HQ.out
    clear HQ
    have hst := hm.below
    have HMU := Lib.hid (hm.back hB)
    obtain ⟨au, cu, rfl, -, -⟩ := hm.bytes.form rfl
    clear hm
    have sz_w1 : V.heap.size ≤ w1.heap.size := hst.size
    replace q_s := q_s.step hst
    replace O_s := O_s.step hst
    replace B_n := B_n.step hst
    replace S_c := S_c.step hst
    replace hB := hB.step hst
    clear hst
    have HQ := Lib.hid (And.intro q_s (And.intro O_s (And.intro B_n (And.intro S_c hB))))
    clear q_s O_s B_n S_c hB
    have c_q_s0 := LK.cell HQ.out.1 0
    have c_q_s1 := LK.cell HQ.out.1 1
    have c_q_s2 := LK.cell HQ.out.1 2
    have c_q_s3 := LK.cell HQ.out.1 3
    simp at c_q_s0 c_q_s1 c_q_s2 c_q_s3
    go_wp2
    go_ret2
    exact ⟨_, rfl, HMU.out⟩
  rw [if_neg h0] at hR kd
  rw [show decide (x ≠ 0) = true by simp [h0]] at kd
  obtain ⟨M, hM⟩ : ∃ M, n.set q (x + 255) = M := ⟨_, rfl⟩
  have hMl : M.length = 256 := by rw [← hM, List.length_set]; exact HE.out.2.2.2.2.2
  rw [hM] at hR kd
  clear hM
  have KD := Lib.hid kd
  have HR := Lib.hid (And.intro hR hMl)
  clear kd hR hMl
  go_wp2_with fail
  refine (KD.out).mono ?_
  rintro e w1 ⟨u1, rfl, hm⟩
  clear c_q_s0 c_q_s1 c_q_s2 c_q_s3
  obtain ⟨q_s, O_s, B_n, S_c, hB⟩ := HQ.out
  clear HQ
  have hst := hm.below
  have B_u := LM.of hm
  have HMU := Lib.hid (hm.back hB)
  obtain ⟨au, cu, rfl, -, -⟩ := hm.bytes.form rfl
  clear hm
  have sz_w1 : V.heap.size ≤ w1.heap.size := hst.size
  replace q_s := q_s.step hst
  replace O_s := O_s.step hst
  replace B_n := B_n.step hst
  replace S_c := S_c.step hst
  replace hB := hB.step hst
  clear hst
  have HQ := Lib.hid (And.intro q_s (And.intro O_s (And.intro B_n (And.intro S_c (And.intro B_u hB)))))
  clear q_s O_s B_n S_c B_u hB
  have c_q_s0 := LK.cell HQ.out.1 0
  have c_q_s1 := LK.cell HQ.out.1 1
  have c_q_s2 := LK.cell HQ.out.1 2
  have c_q_s3 := LK.cell HQ.out.1 3
  simp at c_q_s0 c_q_s1 c_q_s2 c_q_s3
  have cq := Lv.get HQ.out.2.2.2.1
  by_cases h1 : 1 < x.toNat
  case pos =>
    have hR := HR.out.1
    rw [if_pos h1] at hR
    subst hR
    have i1 : decide ((1 : Int) < (x.toNat : Int)) = true := by simp; omega
    have i2 : (1 : Int) < (x.toNat : Int) := by omega
    go_wp2
    go_ret2
    exact ⟨_, rfl, HMU.out⟩
  have hR := HR.out.1
  rw [if_neg h1] at hR
  have i2 : ¬ (1 : Int) < (x.toNat : Int) := by omega
  have HR2 := Lib.hid hR
  clear hR
  go_wp2_with fail
  refine (HC.out.2 _ _ _ _ _ HQ.out.2.1.v).mono ?_
  rintro e w2 ⟨v2, rfl, hS, hst⟩
  clear c_q_s0 c_q_s1 c_q_s2 c_q_s3
  obtain ⟨q_s, O_s, B_n, S_c, B_u, hB⟩ := HQ.out
  clear HQ
  have S_v := LS.of hS (Nat.le_refl _)
  obtain ⟨av, cv, rfl, -, -, -, -⟩ := id hS
  replace HMU := Lib.hid (HMU.out.on hst)
  clear hS cq i2 h1 h0
  have sz_w2 : w1.heap.size ≤ w2.heap.size := hst.size
  replace q_s := q_s.step hst
  replace O_s := O_s.step hst
  replace B_n := B_n.step hst
  replace S_c := S_c.step hst
  replace B_u := B_u.step hst
  replace hB := hB.step hst
  clear hst
  have HQ := Lib.hid (And.intro q_s (And.intro O_s (And.intro B_n (And.intro S_c (And.intro B_u (And.intro S_v hB))))))
  clear q_s O_s B_n S_c B_u S_v hB
  have c_q_s0 := LK.cell HQ.out.1 0
  have c_q_s1 := LK.cell HQ.out.1 1
  have c_q_s2 := LK.cell HQ.out.1 2
  have c_q_s3 := LK.cell HQ.out.1 3
  simp at c_q_s0 c_q_s1 c_q_s2 c_q_s3
  go_upto_region 5 with (fail)
  clear c_q_s0 c_q_s1 c_q_s2 c_q_s3
  obtain ⟨q_s, O_s, B_n, S_c, B_u, S_v, hB⟩ := HQ.out
  clear HQ
  have hst := (Below.refl w2.heap.size w2).alloc (Nat.le_refl _) (.cells #[.int .i64 nd.level, .slice av nd.items.length cv] 47)
  have hlt : w2.heap.size < (w2.alloc (.cells #[.int .i64 nd.level, .slice av nd.items.length cv] 47)).heap.size := by simp
  have q_d := LK.new w2 (.cells #[.int .i64 nd.level, .slice av nd.items.length cv] 47)
  replace q_s := q_s.step hst
  replace O_s := O_s.step hst
  replace B_n := B_n.step hst
  replace S_c := S_c.step hst
  replace B_u := B_u.step hst
  replace S_v := S_v.step hst
  replace hB := hB.step hst
  obtain ⟨w3, hw⟩ : ∃ v, w2.alloc (.cells #[.int .i64 nd.level, .slice av nd.items.length cv] 47) = v := ⟨_, rfl⟩
  rw [hw] at hlt q_d q_s O_s B_n S_c B_u S_v hB ⊢
  clear hw hst
  have sz_w3 := hlt
  clear hlt
  have HQ := Lib.hid (And.intro q_s (And.intro O_s (And.intro B_n (And.intro S_c (And.intro B_u (And.intro S_v (And.intro q_d hB)))))))
  clear q_s O_s B_n S_c B_u S_v q_d hB
  have c_q_s0 := LK.cell HQ.out.1 0
  have c_q_s1 := LK.cell HQ.out.1 1
  have c_q_s2 := LK.cell HQ.out.1 2
  have c_q_s3 := LK.cell HQ.out.1 3
  have c_q_d0 := LK.cell HQ.out.2.2.2.2.2.2.1 0
  have c_q_d1 := LK.cell HQ.out.2.2.2.2.2.2.1 1
  simp at c_q_s0 c_q_s1 c_q_s2 c_q_s3 c_q_d0 c_q_d1
  skip
  cases ir
  case false =>
    have hR := HR2.out
    rw [if_pos (.inl rfl)] at hR
    subst hR
    have hBf := HQ.out.2.2.2.2.2.2.2
    go_wp2
    go_ret2
    exact ⟨_, rfl, MadeB.nil_ hBf⟩
  have hmay := HE.out.2.1 (by trivial)
  by_cases hb : 0 ≤ lv ∧ nd.level ≠ lv
  case pos =>
    have hR := HR2.out
    rw [if_pos (.inr hb)] at hR
    obtain ⟨hb1, hb2⟩ := hb
    have i1 : ¬ lv < 0 := by omega
    have i2 : (nd.level != lv) = true := by simp [hb2]
    have i3 : decide (0 ≤ lv) = true := decide_eq_true hb1
    subst hR
    have hBf := HQ.out.2.2.2.2.2.2.2
    go_wp2
    go_ret2
    exact ⟨_, rfl, MadeB.nil_ hBf⟩
  have hR := HR2.out
  rw [if_neg (by rintro (h | h); exact Bool.noConfusion h; exact hb h)] at hR
  have HR3 := Lib.hid hR
  clear hR HR2
  go_cut [50] (fun t wx => t = .bool false ∧ w3 = wx)
  case first =>
    by_cases hlv : 0 ≤ lv
    · have hle : nd.level = lv := Classical.byContradiction fun e => hb ⟨hlv, e⟩
      have i2 : (nd.level != lv) = false := by simp [hle]
      have i3 : decide (0 ≤ lv) = true := decide_eq_true hlv
      clear hb
      go_wp2
      go_meet
      exact ⟨rfl, rfl⟩
    · have i3 : decide (0 ≤ lv) = false := decide_eq_false hlv
      clear hb
      go_wp2
      go_meet
      exact ⟨rfl, rfl⟩
  case rest =>
  obtain ⟨rfl, hwx⟩ := hcut
  subst hwx
  obtain ⟨⟨hl0, hl6⟩, hl5, -⟩ := mayN_all hmay
  have hwf : (Lit.int .i64 nd.level).wf = true := WalkArith.wf_i64 (by omega)
  have hrf := fun j hj => mayN_ref hmay (j := j) hj
  have hk : nd.level ≠ 0 → 0 ≤ nd.level - 1 ∧ (nd.level - 1).toNat < k := fun h => by
    have h1 := HC0.out
    have h2 : nd.level = lv ∨ lv < 0 := by
      by_cases h : 0 ≤ lv
      · exact .inl (Classical.byContradiction fun e => hb ⟨h, e⟩)
      · exact .inr (by omega)
    omega
  have hqs := HQ.out.1
  have hO := HQ.out.2.1
  have hS := HQ.out.2.2.2.2.2.1
  have hqd := HQ.out.2.2.2.2.2.2.1
  have hBf := HQ.out.2.2.2.2.2.2.2
  have hmu : MadeB w w3 (.slice au M.length cu) M := ⟨(HQ.out.2.2.2.2.1.m.1).more (by omega) (Lv.hi_le HQ.out.2.2.2.2.1), HQ.out.2.2.2.2.1.m.2, hBf⟩
  have HW := Lib.hid (And.intro hqs (And.intro hO (And.intro hS (And.intro hqd (And.intro hBf (And.intro hmu (And.intro hrf hk)))))))
  clear hqs hO hS hqd hBf hmu hrf hk hb hmay HMU KD
  clear c_q_s0 c_q_s1 c_q_s2 c_q_s3 c_q_d0 c_q_d1
  go_wp2_with fail
  go_loopw [10, 11, 14] (fun o b i wr => ∃ (j : Nat) (cur : Option (List UInt8)) (a : Option Addr) (c : Nat), j ≤ nd.items.length ∧ i = .int .i64 j ∧ leftL f M (nd.items.take j) = cur ∧ b = .bool cur.isSome ∧ o = (.slice a (cur.getD []).length c) ∧ MadeB w wr (.slice a (cur.getD []).length c) (cur.getD []) ∧ (∀ m, cur = some m → m.length = 256) ∧ Below w3.heap.size w3 wr) (fun _ _ i _ => nd.items.length - (intOf i).toNat)
  case atStart => exact ⟨0, some M, au, cu, Nat.zero_le _, rfl, rfl, rfl, rfl, HW.out.2.2.2.2.2.1, fun m h => by cases h; exact HR.out.2, Below.refl _ _⟩
  case round =>
  obtain ⟨j, cur, a, c, hj, rfl, hcur, rfl, rfl, hmu, hml, hBr⟩ := hrel
  have qd := HW.out.2.2.2.1.step hBr
  have d0 := LK.cell qd 0
  have d1 := LK.cell qd 1
  have qs := HW.out.1.step hBr
  have s0 := LK.cell qs 0
  have s1 := LK.cell qs 1
  have s2 := LK.cell qs 2
  have s3 := LK.cell qs 3
  simp at d0 d1 s0 s1 s2 s3
  clear qd qs
  have hBw : Below w.heap.size w wr := below_step HW.out.2.2.2.2.1 (Below.size HW.out.2.2.2.2.1) hBr
  by_cases hlt : j < nd.items.length
  case neg =>
    obtain rfl : j = nd.items.length := by omega
    rw [List.take_length] at hcur
    have hR := HR3.out
    rw [hcur] at hR
    subst hR
    have HM := Lib.hid hmu
    clear hmu hml hBr hBw hcur
    go_wp2
    go_ret2
    exact ⟨_, rfl, HM.out⟩
  cases cur
  case none =>
    have hR := HR3.out
    rw [leftL_stop f M _ j hcur] at hR
    subst hR
    have HM := Lib.hid hmu
    clear hmu hml hBr hBw hcur
    go_wp2
    go_ret2
    exact ⟨_, rfl, HM.out⟩
  case some m =>
  obtain ⟨bi, oi, ci, e1, -, zi, yi, xi, hci⟩ := (HW.out.2.2.1.step hBr).v.at_ (by omega)
  injection e1 with e1 el e2
  subst e1 e2
  clear el
  obtain ⟨-, -, -, g3, -⟩ := hci j (nd.items.getD j nokI) (by rw [List.getD_eq_getElem?_getD, List.getElem?_eq_getElem hlt]; rfl)
  unfold maxLen at xi
  have g3b : wr.cell? ⟨bi, oi + j * 5 + 3, none⟩ = some (.int .i64 (nd.items.getD j nokI).ref) := g3
  clear hci g3
  have hnx := leftL_next f M nd.items j hlt
  rw [hcur] at hnx
  have hrr := HW.out.2.2.2.2.2.2.1 j hlt
  generalize (nd.items.getD j nokI).ref = r at *
  have hm256 := hml m rfl
  have HP := Lib.hid (And.intro hmu (And.intro hBr (And.intro hBw (And.intro hnx (And.intro hm256 hml)))))
  clear hmu hBr hBw hnx hcur hm256 hml
  skip
  by_cases r0 : r = 0
  case pos =>
    subst r0
    go_wp2
    go_roundw
    case rel =>
      obtain ⟨hmu, hBr, hBw, hnx, hm256, hml⟩ := HP.out
      exact ⟨j + 1, some m, a, c, by omega, by go_num, hnx.trans (show (if (0 : Int) = 0 then some m else f m (Int.toNat 0)) = some m from if_pos rfl), rfl, rfl, hmu, hml, hBr⟩
    case measure => simp [intOf]; omega
  obtain ⟨z, rfl⟩ : ∃ z : Nat, r = z := ⟨r.toNat, by omega⟩
  have z8 : 8 ≤ z := by omega
  have z9 : z < 256 := by omega
  have i1 : ((z : Int) == 0) = false := by simp; omega
  clear hrr
  have hB0 : Bytes wr 0 wr.heap.size (.slice a m.length c) m := HP.out.1.bytes.more (Nat.zero_le _) (Nat.le_refl _)
  have hrel : ∀ (z2 : World) (u : Value), MadeB wr z2 u ((f m z).getD []) → ∀ a2 c2, u = .slice a2 ((f m z).getD []).length c2 → ∃ (j2 : Nat) (cur : Option (List UInt8)) (a : Option Addr) (c : Nat), j2 ≤ nd.items.length ∧ Value.int .i64 ((j : Int) + 1) = .int .i64 j2 ∧ leftL f M (nd.items.take j2) = cur ∧ Value.bool (f m z).isSome = .bool cur.isSome ∧ u = (.slice a (cur.getD []).length c) ∧ MadeB w z2 (.slice a (cur.getD []).length c) (cur.getD []) ∧ (∀ m, cur = some m → m.length = 256) ∧ Below w3.heap.size w3 z2 := fun z2 u hm a2 c2 hu => by
    obtain ⟨hmu, hBr, hBw, hnx, hm256, hml⟩ := HP.out
    refine ⟨j + 1, f m z, a2, c2, by omega, by go_num, ?_, rfl, hu, hu ▸ hm.back hBw, fun m2 h2 => (HE.out.2.2.2.2.1 _ _ _ h2).trans hm256, below_step hBr hBr.size hm.below⟩
    rw [hnx]
    show (if (z : Int) = 0 then some m else f m (z : Int).toNat) = _
    rw [if_neg (by omega), Int.toNat_natCast]
  have HRL := Lib.hid hrel
  clear hrel
  by_cases hL : nd.level = 0
  case pos =>
    have hf := HE.out.2.2.1 hL
    have kc := dnless_any (.slice a m.length c) m z wr hB0 HP.out.2.2.2.2.1 z9
    rw [← hf] at kc
    have KC := Lib.hid kc
    clear kc hf hB0
    have i2 : (nd.level == 0) = true := by simp [hL]
    have HLL := Lib.hid hL
    clear hL
    go_wp2_with fail
    refine KC.out.mono ?_
    rintro e z2 ⟨u, rfl, hm⟩
    obtain ⟨a2, c2, rfl, -, -⟩ := hm.bytes.form rfl
    have HM := Lib.hid hm
    clear hm
    go_wp2
    go_roundw
    case rel => exact HRL.out _ _ HM.out _ _ rfl
    case measure => simp [intOf]; omega
  obtain ⟨hk0, hk1⟩ := HW.out.2.2.2.2.2.2.2 hL
  have hf := HE.out.2.2.2.1 hL m z
  have kc := HIH.out (nd.level - 1) hk0 hk1 _ _ _ _ _ m z wr (HW.out.2.1.step HP.out.2.1).v hB0 HP.out.2.2.2.2.1 z8 z9
  rw [← hf] at kc
  have KC := Lib.hid kc
  clear kc hf hB0 hk0 hk1
  have i2 : (nd.level == 0) = false := by simp [hL]
  have HLL := Lib.hid hL
  clear hL
  go_wp2_with fail
  refine KC.out.mono ?_
  rintro e z2 ⟨u, rfl, hm⟩
  obtain ⟨a2, c2, rfl, -, -⟩ := hm.bytes.form rfl
  have HM := Lib.hid hm
  clear hm
  go_wp2
  go_roundw
  case rel => exact HRL.out _ _ HM.out _ _ rfl
  case measure => simp [intOf]; omega

/-- The reference's left. -/
theorem rleft_any (s : StoreL) (hm : mayS s = true) : ∀ (k : Nat) (lv : Int), (0 ≤ lv ∧ lv.toNat < k) ∨ (lv < 0 ∧ 7 ≤ k) → ∀ (b u x y v : Value) (now : List UInt8) (q : Nat) (V : World), StoreV V 0 V.heap.size b u x y s → Bytes V 0 V.heap.size v now → now.length = 256 → 8 ≤ q → q < 256 →
    Calls Try.prog 104 #[.agg #[b, u, x, y], v, .int .i64 (q : Int), .int .i64 lv] V fun e w' => ∃ z, e = .returned (.tuple #[z, .bool (leftR s k now q lv).isSome]) ∧ MadeB V w' z ((leftR s k now q lv).getD [])
  | 0, lv, hk, _, _, _, _, _, _, _, _, _, _, _, _, _ => by omega
  | k + 1, lv, hk, b, u, x, y, v, now, q, V, h1, h2, h3, h4, h5 => by
    have h := rleft_step b u x y s v now (q : Int) lv V h1 h2 hm h3 (by omega) (by omega) k (fun lv' g1 g2 => rleft_any s hm k lv' (.inl ⟨g1, g2⟩)) hk
    rw [Int.toNat_natCast] at h
    exact h
end Go.Proofs.Ytkfgegdnpinbdaa

