/- DropDoes: the words and contracts, part 11. -/
import Derived.Test.YtkfgegdnpinbdaaDropDoesQ1
import Derived.Test.YtkfgegdnpinbdaaDropDoesQ2
import Derived.Test.YtkfgegdnpinbdaaDropDoesQ3
import Derived.Test.YtkfgegdnpinbdaaDropDoesQ4
import Derived.Test.YtkfgegdnpinbdaaDropDoesQ5
import Derived.Test.YtkfgegdnpinbdaaDropDoesQ6
import Derived.Test.YtkfgegdnpinbdaaDropDoesQ7
import Derived.Test.YtkfgegdnpinbdaaDropDoesQ8
import Derived.Test.YtkfgegdnpinbdaaDropDoesQ10
import Derived.WalkKit
import Derived.WalkLawsBesides
import Derived.WalkSpells
import Derived.Lib.Hide
import Derived.Laws.Rows
import Derived.Laws.AppendOwnNone
import Derived.Maps.AppendAt
import Derived.ProofKit
import Derived.Deep.Slices
import Derived.WideShapes
import Derived.RangeFuncNested
import Derived.RangeFuncBound
import Derived.RangeFuncCalls
import Derived.RangeFuncLeaves
import Derived.RangeFuncBox
import Derived.Shelf.Abstract
import Derived.Shelf.RegionOpen
import Derived.OwnWalkIn
import Derived.TacticsInMore
import Derived.LoopNIn
import Derived.LoopIn
import Derived.Lib.AppendZerosOnto
import Derived.Lib.SliceRun
import Derived.Lib.Walk
import Derived.Deep.LoopGhost
import Derived.Laws.CopyOwn
import Derived.Laws.CopyRow
import Derived.OrdersHeld
import Derived.Deep.QuietTactic
import Derived.BigQuiet
import Derived.StillTailTactics
import Derived.OpenShut
import Derived.Deep.DeepCutAuto
import Derived.Deep.RegionHeld
import Derived.Laws.MakeOwn
import Derived.KernelRfl
import Derived.BigFrameIn
namespace Go.Proofs.Ytkfgegdnpinbdaa
open Go.RowKit

/-- An item that may be written. -/
def rItemT : Rd ItemL where
  n := 5
  R w lo hi x f := f 0 = some (bV x.key.kind) ∧ f 1 = some (wV x.key.id) ∧ f 2 = some (wV x.key.off) ∧ f 3 = some (.int .i64 x.ref) ∧ (Lit.int .i64 x.ref).wf = true ∧ ∃ v, f 4 = some v ∧ Bytes w lo hi v x.val ∧ Thawed w v
  keep hk h := by obtain ⟨g0, g1, g2, g3, g4, v, h1, h2, h3⟩ := h; exact ⟨g0, g1, g2, g3, g4, v, h1, h2.kept hk, thawed_kept h2 h3 hk⟩
  more h1 h2 h := by obtain ⟨g0, g1, g2, g3, g4, v, k1, k2, k3⟩ := h; exact ⟨g0, g1, g2, g3, g4, v, k1, k2.more h1 h2, k3⟩
  ext he h := by
    obtain ⟨g0, g1, g2, g3, g4, v, k1, k2⟩ := h
    exact ⟨(he 0 (by decide)) ▸ g0, (he 1 (by decide)) ▸ g1, (he 2 (by decide)) ▸ g2, (he 3 (by decide)) ▸ g3, g4, v, (he 4 (by decide)) ▸ k1, k2⟩
theorem rItemT_ck : RdCK rItemT := fun hc hg h => by obtain ⟨g0, g1, g2, g3, g4, v, h1, h2, h3⟩ := h; exact ⟨hg _ _ g0, hg _ _ g1, hg _ _ g2, hg _ _ g3, g4, v, hg _ _ h1, h2.ck hc, thawed_ck hc h2 h3⟩
theorem sl_itemT {w : World} {lo hi : Nat} {v : Value} {l : List ItemL} (h : Sl rItemT w lo hi v l) : Sl rItem w lo hi v l := h.imp rfl fun x f hh => by
  obtain ⟨g0, g1, g2, g3, g4, v, k1, k2, -⟩ := hh
  exact ⟨g0, g1, g2, g3, g4, v, k1, k2⟩
/-- What a call made: items in new memory that may be written. -/
structure MadeN (w w' : World) (v : Value) (l : List ItemL) : Prop where
  items : Sl rItemT w' w.heap.size w'.heap.size v l
  row : ∀ g o, v.ownBlock = some g → w'.frozen? ⟨g, o, none⟩ = false
  below : Below w.heap.size w w'
theorem MadeN.nil_ {w w' : World} (h : Below w.heap.size w w') : MadeN w w' (.slice none 0 0) [] := ⟨Sl.nil_ _ _ _, fun g o h => (by cases h), h⟩
theorem MadeN.v0 {w w' : World} {v : Value} {l : List ItemL} (h : MadeN w w' v l) : Sl rItem w' 0 w'.heap.size v l := (sl_itemT h.items).all0
theorem row_item1 {base : Nat} {T : TypeId} {lo : Nat} {S : Nat → Bool} {wr z : World} {v u : Value} {kl : List ItemL} {x : ItemL} (h : OwnR rItemT base T lo S wr v kl) (hS : ∀ k, wr.heap.size ≤ k → S k = false)
    (hB : Below wr.heap.size wr z) (z2 : World) (hB2 : Below z.heap.size z z2) (hb : Bytes z wr.heap.size z.heap.size u x.val) (ht : Thawed z u) (hlo : lo ≤ wr.heap.size) (hp : (Lit.int .i64 x.ref).wf = true) (T2 : TypeId) :
    OwnR rItemT base T lo S (z2.alloc (.cells #[bV x.key.kind, wV x.key.id, wV x.key.off, .int .i64 x.ref, u] T2)) v kl ∧ ∀ j y, [x][j]? = some y → rItemT.R (hideW (z2.alloc (.cells #[bV x.key.kind, wV x.key.id, wV x.key.off, .int .i64 x.ref, u] T2)) (andOwn S v)) lo (z2.alloc (.cells #[bV x.key.kind, wV x.key.id, wV x.key.off, .int .i64 x.ref, u] T2)).heap.size y (fun i => [bV x.key.kind, wV x.key.id, wV x.key.off, .int .i64 x.ref, u][j * rItemT.n + i]?) := by
  have hs2 := hB2.size
  refine ⟨((h.step rItemT_ck hB).step rItemT_ck hB2).alloc rItemT_ck _, fun j y hj => ?_⟩
  cases j with
  | zero =>
    cases hj
    have hkp : Kp wr.heap.size z.heap.size z (hideW (z2.alloc (.cells #[bV x.key.kind, wV x.key.id, wV x.key.off, .int .i64 x.ref, u] T2)) (andOwn S v)) := hideW_kp fun k h1 h2 => ⟨andOwn_of (hS k (by omega)) (fun e => by have := (h.lt k e).2; omega), (Below.heap_alloc z2 _ k (by omega)).trans (hB2.block k h2)⟩
    exact ⟨rfl, rfl, rfl, rfl, hp, u, rfl, (hb.kept hkp).more (by omega) (by simp; omega), thawed_kept hb ht hkp⟩
  | succ j => simp at hj
theorem cutS_run (b off n c i : Nat) (hin : i ≤ n) (hic : i < c) (hcm : c ≤ maxLen) :
    (∀ w, (Instr.sliceAt 26 (.slice (some ⟨b, off, none⟩) n c) (some (.int .i64 (i : Int))) none none).run Try.prog w = .ok (.slice (some ⟨b, off + i, none⟩) (n - i) (c - i)) w) ∧
    ∀ W lo hi l, Bytes W lo hi (.slice (some ⟨b, off, none⟩) n c) l → l.length = n → Bytes W lo hi (.slice (some ⟨b, off + i, none⟩) (n - i) (c - i)) (l.drop i) := by
  refine ⟨fun w => ?_, fun W lo hi l hb hl => ?_⟩
  · simp [go_sem]
    rw [if_pos hin, if_neg (by omega)]
  · have h1 := hb.cut i (n - i) (c - i) (by omega) (by obtain ⟨a, c', e, h2, -⟩ := hb; cases e; omega) (by omega)
    rwa [List.take_of_length_le (by simp; omega)] at h1
def rdS (r : List UInt8) : Nat → Option (List ItemL × List UInt8)
  | 0 => some ([], r)
  | k + 1 => match rdS r k with
    | none => none
    | some s => if readOk s.2 then some (s.1 ++ [readI s.2], s.2.drop (readN s.2)) else none
theorem rdS_none {r : List UInt8} {k : Nat} (h : rdS r k = none) : ∀ m, k ≤ m → rdS r m = none := by
  intro m hm
  induction m with
  | zero => obtain rfl : k = 0 := by omega
            exact h
  | succ m ih =>
    rcases Nat.lt_or_ge k (m + 1) with h1 | h1
    · rw [rdS, ih (by omega)]
    · obtain rfl : k = m + 1 := by omega
      exact h
theorem readN_le {s : List UInt8} (h : readOk s = true) : readN s ≤ 24 ∧ readN s ≤ s.length := by
  obtain ⟨h1, h2, h3⟩ := item_read s h
  have h4 := itemB_len' h1
  rw [h2, List.length_take] at h4
  omega
theorem rdS_len {r : List UInt8} : ∀ {k : Nat} {s : List ItemL × List UInt8}, rdS r k = some s → s.1.length = k ∧ s.2.length ≤ r.length ∧ r.length ≤ s.2.length + 24 * k
  | 0, s, h => by cases h; exact ⟨rfl, Nat.le_refl _, Nat.le_add_right _ _⟩
  | k + 1, s, h => by
    rw [rdS] at h
    cases h0 : rdS r k with
    | none => rw [h0] at h; cases h
    | some t =>
      rw [h0] at h
      simp only at h
      split at h
      · rename_i hr
        cases h
        obtain ⟨a1, a2, a3⟩ := rdS_len h0
        have := readN_le hr
        simp only [List.length_append, List.length_cons, List.length_nil, List.length_drop]
        omega
      · cases h
def rdAll (l : List UInt8) : Option (List ItemL × List UInt8) := rdS ((openL l).drop 3) ((openL l).getD 2 0).toNat
def okRd (l : List UInt8) : Bool := ((openL l).getD 0 0 == 78) && decide (((openL l).getD 2 0).toNat ≤ 5) && (match rdAll l with
  | none => false
  | some s => mayN ⟨(((openL l).getD 1 0).toNat : Int), s.1⟩ && maxL s.2 == 0)
def errNd (l : List UInt8) : Int := if openE l = 0 then (if okRd l then 0 else 8) else openE l
def readNd (l : List UInt8) : NodeL := if errNd l = 0 then ⟨(((openL l).getD 1 0).toNat : Int), ((rdAll l).getD ([], [])).1⟩ else ⟨0, []⟩

set_option maxRecDepth 100000 in
set_option maxHeartbeats 4000000 in
/-- node.Read. -/
theorem nread_any (v : Value) (l : List UInt8) (w : World) (hv : Bytes w 0 w.heap.size v l) :
    Calls Try.prog 46 #[v] w fun e w' => ∃ u, e = .returned (.tuple #[.agg #[.int .i64 (readNd l).level, u], .int .i64 (errNd l)]) ∧ MadeN w w' u (readNd l).items := by
  have k1 := fun V hh => open_any v l V hh
  have hbad : errNd l ≠ 0 → readNd l = ⟨0, []⟩ := fun h => by unfold readNd; rw [if_neg h]
  have hst := (Below.refl w.heap.size w).alloc (Nat.le_refl _) (.cells #[.int .i64 0, .slice none 0 0] 47)
  have qr := LK.new w (.cells #[.int .i64 0, .slice none 0 0] 47)
  have hB : LW w _ := hst
  have hV0 := (LB.of hv (Nat.le_refl _)).step hst
  have sz_V : w.heap.size < (w.alloc (.cells #[.int .i64 0, .slice none 0 0] 47)).heap.size := by simp
  obtain ⟨av, cv, rfl, g1, g2⟩ := hv.form rfl
  obtain ⟨V, hV⟩ : ∃ V, w.alloc (.cells #[.int .i64 0, .slice none 0 0] 47) = V := ⟨_, rfl⟩
  rw [hV] at hB hV0 qr sz_V
  have hen : openE l = 0 → errNd l = (if okRd l then 0 else 8) := fun h => by unfold errNd; rw [if_pos h]
  have hen2 : openE l ≠ 0 → errNd l = openE l := fun h => by unfold errNd; rw [if_neg h]
  have hol : openE l = 0 → openL l = l.drop 4 ∧ l.length = 128 := fun h => by
    refine ⟨by unfold openL; rw [if_pos h], ?_⟩
    unfold openE at h
    by_cases hl : l.length = 128
    · exact hl
    · rw [if_neg hl] at h; cases h
  have hrd : errNd l = 0 → readNd l = ⟨(((openL l).getD 1 0).toNat : Int), ((rdAll l).getD ([], [])).1⟩ := fun h => by unfold readNd; rw [if_pos h]
  have hok : okRd l = (((openL l).getD 0 0 == 78) && decide (((openL l).getD 2 0).toNat ≤ 5) && (match rdAll l with
    | none => false
    | some s => mayN ⟨(((openL l).getD 1 0).toNat : Int), s.1⟩ && maxL s.2 == 0)) := rfl
  have hra : rdAll l = rdS ((openL l).drop 3) ((openL l).getD 2 0).toNat := rfl
  generalize errNd l = en at *
  generalize readNd l = rn at *
  generalize okRd l = okb at *
  generalize rdAll l = ra at *
  generalize openE l = eo at *
  generalize openL l = lo at *
  have HE := Lib.hid (And.intro hbad (And.intro hen (And.intro hen2 (And.intro hol (And.intro hrd (And.intro hok hra))))))
  have K1 := Lib.hid k1
  clear hbad hen hen2 hol hrd hok hra k1 hst hv
  have HQ := Lib.hid (And.intro qr (And.intro hV0 hB))
  clear qr hV0 hB
  go_enter Try.func46, Try.ntmps46
  go_upto_region 1 with (fail)
  clear hV
  go_wp2_with fail
  refine (K1.out _ HQ.out.2.1.v).mono ?_
  rintro e w1 ⟨ub, rfl, hm⟩
  obtain ⟨qr, hV0, hB⟩ := HQ.out
  clear HQ
  have hO := (LM.of hm).b
  have hst := hm.below
  clear hm
  have sz_w1 : V.heap.size ≤ w1.heap.size := hst.size
  replace qr := qr.step hst
  replace hV0 := hV0.step hst
  replace hB := hB.step hst
  clear hst
  have HQ := Lib.hid (And.intro qr (And.intro hV0 (And.intro hO hB)))
  clear qr hV0 hO hB
  by_cases he : eo = 0
  case neg =>
    have hee := HE.out.2.2.1 he
    have hrn := HE.out.1 (by rw [hee]; exact he)
    subst hee
    subst hrn
    have i1 : (en != 0) = true := by simp [he]
    have c_qr0 := LK.cell HQ.out.1 0
    have c_qr1 := LK.cell HQ.out.1 1
    have z_qr0 := LK.frozen HQ.out.1 0
    have z_qr1 := LK.frozen HQ.out.1 1
    simp at c_qr0 c_qr1
    have hBf := HQ.out.2.2.2
    obtain ⟨au, cu2, rfl, -, -⟩ := (HQ.out.2.2.1.v).form rfl
    go_wp2
    refine bodyPost_ret (v := .tuple #[.agg #[.int .i64 0, .slice none 0 0], .int .i64 en]) (by simp [results, Try.results46, go_sem, c_qr0, c_qr1]) rfl ⟨_, rfl, ?_⟩
    exact MadeN.nil_ ((Below.setCell hBf (p := ⟨w.heap.size, 0, none⟩) (Nat.le_refl _) _).setCell (p := ⟨w.heap.size, 1, none⟩) (Nat.le_refl _) _)
  subst he
  obtain ⟨hlo, hl128⟩ := HE.out.2.2.2.1 rfl
  have hlol : lo.length = 124 := by rw [hlo]; simp; omega
  have hen := HE.out.2.1 rfl
  obtain ⟨bb, bo, cb, rfl, -, zb, zc1, zc2, hcell⟩ := HQ.out.2.2.1.v.at_n hlol (by omega)
  have d0 := hcell 0 (lo.getD 0 0) (by simp [hlol])
  have d1 := hcell 1 (lo.getD 1 0) (by simp [hlol])
  have d2 := hcell 2 (lo.getD 2 0) (by simp [hlol])
  have e0 : lo[0]? = some (lo.getD 0 0) := by simp [hlol]
  have e2 : lo[2]? = some (lo.getD 2 0) := by simp [hlol]
  obtain ⟨x0, hx0⟩ : ∃ x, lo.getD 0 0 = x := ⟨_, rfl⟩
  obtain ⟨x1, hx1⟩ : ∃ x, lo.getD 1 0 = x := ⟨_, rfl⟩
  obtain ⟨x2, hx2⟩ : ∃ x, lo.getD 2 0 = x := ⟨_, rfl⟩
  rw [hx0] at d0 e0
  rw [hx1] at d1
  rw [hx2] at d2 e2
  have HEL := Lib.hid (And.intro e0 e2)
  clear e0 e2
  simp only [bV, Nat.add_zero] at d0 d1 d2
  have hok := HE.out.2.2.2.2.2.1
  rw [hx0, hx1, hx2] at hok
  have hra := HE.out.2.2.2.2.2.2
  rw [hx2] at hra
  have hrn := HE.out.2.2.2.2.1
  rw [hx1] at hrn
  have hr0 := HE.out.1
  have b0 : (x0.toNat : Int) < 256 := by have := x0.toNat_lt; omega
  have b1 : (x1.toNat : Int) < 256 := by have := x1.toNat_lt; omega
  have b2 : (x2.toNat : Int) < 256 := by have := x2.toNat_lt; omega
  have HR := Lib.hid (And.intro hlol (And.intro hen (And.intro hok (And.intro hra (And.intro hrn hr0)))))
  have hcm : cb ≤ maxLen := zc2
  unfold maxLen at zc2
  have hcut := cutS_run bb bo 124 cb 3 (by omega) (by omega) hcm
  have HCUT := Lib.hid hcut.2
  have s1 : ∀ W : World, (Instr.sliceAt 26 (.slice (some ⟨bb, bo, none⟩) 124 cb) (some (.int .i64 3)) none none).run Try.prog W = .ok (.slice (some ⟨bb, bo + 3, none⟩) 121 (cb - 3)) W := hcut.1
  clear hlo hl128 hlol hen hcell hx0 hx1 hx2 hok hra hrn hr0 HE hcut hcm
  go_upto_region 5 with (fail)
  obtain ⟨qr, hV0, hO, hB⟩ := HQ.out
  clear HQ
  have hst := (Below.refl w1.heap.size w1).alloc (Nat.le_refl _) (.cells #[.int .i64 (x1.toNat : Int), .slice none 0 0] 47)
  have hlt : w1.heap.size < (w1.alloc (.cells #[.int .i64 (x1.toNat : Int), .slice none 0 0] 47)).heap.size := by simp
  have qn := LK.new w1 (.cells #[.int .i64 (x1.toNat : Int), .slice none 0 0] 47)
  replace qr := qr.step hst
  replace hV0 := hV0.step hst
  replace hO := hO.step hst
  replace hB := hB.step hst
  obtain ⟨w2, hw⟩ : ∃ v, w1.alloc (.cells #[.int .i64 (x1.toNat : Int), .slice none 0 0] 47) = v := ⟨_, rfl⟩
  rw [hw] at hlt qn qr hV0 hO hB ⊢
  clear hw hst
  have sz_w2 := hlt
  clear hlt
  have HQ := Lib.hid (And.intro qr (And.intro hV0 (And.intro hO (And.intro qn hB))))
  clear qr hV0 hO qn hB
  have c_qn0 := LK.cell HQ.out.2.2.2.1 0
  have c_qn1 := LK.cell HQ.out.2.2.2.1 1
  simp at c_qn0 c_qn1
  clear d0 d1 d2
  have d0 := Bytes.cellAt HQ.out.2.2.1.v 0 x0 HEL.out.1
  have d2 := Bytes.cellAt HQ.out.2.2.1.v 2 x2 HEL.out.2
  simp only [bV, Nat.add_zero] at d0 d2
  by_cases h78 : x0 = 78
  case neg =>
    have i1 : ((x0.toNat : Int) != 78) = true := by
      rw [bne_iff_ne]
      intro e
      have h9 : x0.toNat = 78 := by omega
      exact h78 (UInt8.toNat_inj.1 (by rw [h9]; rfl))
    have hkb : okb = false := by
      rw [HR.out.2.2.1, show (x0 == 78) = false by simp [h78]]
      rfl
    have hen := HR.out.2.1
    rw [hkb] at hen
    simp only [Bool.false_eq_true, if_false] at hen
    subst hen
    have hrn := HR.out.2.2.2.2.2 (by decide)
    subst hrn
    clear hkb
    clear c_qn0 c_qn1
    have c_qn0 := LK.cell HQ.out.2.2.2.1 0
    have c_qn1 := LK.cell HQ.out.2.2.2.1 1
    have c_qr0 := LK.cell HQ.out.1 0
    have c_qr1 := LK.cell HQ.out.1 1
    have z_qr0 := LK.frozen HQ.out.1 0
    have z_qr1 := LK.frozen HQ.out.1 1
    simp at c_qn0 c_qn1 c_qr0 c_qr1
    have hBf := HQ.out.2.2.2.2
    go_wp2
    refine bodyPost_ret (v := .tuple #[.agg #[.int .i64 0, .slice none 0 0], .int .i64 8]) (by simp [results, Try.results46, go_sem, c_qr0, c_qr1]) rfl ⟨_, rfl, ?_⟩
    exact MadeN.nil_ ((Below.setCell hBf (p := ⟨w.heap.size, 0, none⟩) (Nat.le_refl _) _).setCell (p := ⟨w.heap.size, 1, none⟩) (Nat.le_refl _) _)
  have i1 : ((x0.toNat : Int) != 78) = false := by rw [h78]; rfl
  by_cases h5 : 5 < x2.toNat
  · have i2 : (5 : Int) < x2.toNat := by omega
    have hkb : okb = false := by
      rw [HR.out.2.2.1, show decide (x2.toNat ≤ 5) = false by simp; omega]
      simp
    have hen := HR.out.2.1
    rw [hkb] at hen
    simp only [Bool.false_eq_true, if_false] at hen
    subst hen
    have hrn := HR.out.2.2.2.2.2 (by decide)
    subst hrn
    clear hkb
    clear c_qn0 c_qn1
    have c_qn0 := LK.cell HQ.out.2.2.2.1 0
    have c_qn1 := LK.cell HQ.out.2.2.2.1 1
    have c_qr0 := LK.cell HQ.out.1 0
    have c_qr1 := LK.cell HQ.out.1 1
    have z_qr0 := LK.frozen HQ.out.1 0
    have z_qr1 := LK.frozen HQ.out.1 1
    simp at c_qn0 c_qn1 c_qr0 c_qr1
    have hBf := HQ.out.2.2.2.2
    go_wp2
    refine bodyPost_ret (v := .tuple #[.agg #[.int .i64 0, .slice none 0 0], .int .i64 8]) (by simp [results, Try.results46, go_sem, c_qr0, c_qr1]) rfl ⟨_, rfl, ?_⟩
    exact MadeN.nil_ ((Below.setCell hBf (p := ⟨w.heap.size, 0, none⟩) (Nat.le_refl _) _).setCell (p := ⟨w.heap.size, 1, none⟩) (Nat.le_refl _) _)
  have i2 : decide ((5 : Int) < x2.toNat) = false := by rw [decide_eq_false_iff_not]; omega
  have hK : x2.toNat ≤ 5 := by omega
  have i78 := Lib.hid h78
  clear h78 h5
  have hr3 := HCUT.out _ _ _ _ (Lv.get HQ.out.2.2.1) HR.out.1
  obtain ⟨qr, hV0, hO, qn, hB⟩ := HQ.out
  clear HQ
  have hRest := LB.of (V := w2) hr3 (by omega)
  have hW2 : LW w2 w2 := Below.refl _ _
  clear hr3
  clear hV0
  have HQ := Lib.hid (And.intro qr (And.intro hO (And.intro hRest (And.intro hW2 (And.intro qn hB)))))
  clear qr hO hRest hW2 qn hB
  have hbox := HQ.out.2.2.2.2.1
  have HB2 := Lib.hid hbox
  clear hbox
  go_wp2_with fail
  go_loopw [7, 42] (fun s i wr => ∃ (j : Nat) (its : List ItemL) (r : List UInt8) (ro rc : Nat) (ar : Option Addr) (cr : Nat), j ≤ x2.toNat ∧ i = .int .u8 j ∧ rdS (lo.drop 3) j = some (its, r) ∧ s = .slice (some ⟨bb, ro, none⟩) r.length rc ∧ r.length ≤ rc ∧ rc ≤ 9223372036854775807 ∧ Bytes wr 0 w1.heap.size (.slice (some ⟨bb, ro, none⟩) r.length rc) r ∧ (its.length = j ∧ 121 ≤ r.length + 24 * j ∧ r.length ≤ 121) ∧ wr.heap[w1.heap.size]? = some (.cells #[.int .i64 (x1.toNat : Int), .slice ar its.length cr] 47 (0, 0)) ∧ OwnR rItemT w2.heap.size 97 w2.heap.size (boxS w1.heap.size 1) wr (.slice ar its.length cr) its ∧ Below w1.heap.size w2 wr) (fun _ i _ => x2.toNat - (intOf i).toNat)
  case atStart => exact ⟨0, [], lo.drop 3, bo + 3, cb - 3, none, 0, Nat.zero_le _, rfl, rfl, by rw [List.length_drop, HR.out.1], by rw [List.length_drop, HR.out.1]; omega, by omega, by have := Bytes.more (Lv.get HQ.out.2.2.1) (Nat.zero_le _) (Nat.le_refl _); rw [List.length_drop, HR.out.1]; exact this, ⟨rfl, by rw [List.length_drop, HR.out.1]; omega, by rw [List.length_drop, HR.out.1]; omega⟩, HB2.out.blk, OwnR.nil_ _ _ _ _ _ _, Below.refl _ _⟩
  case round =>
  obtain ⟨j, its, r, ro, rc, ar, cr, hj, rfl, hrd, rfl, hrc1, hrc2, hbr, ⟨hl1, hl2, hl3⟩, qbox, hown, hBr⟩ := hrel
  clear c_qn0 c_qn1
  have c_n0 := blk_cell qbox 0
  have c_n1 := blk_cell qbox 1
  simp at c_n0 c_n1
  have d2r := (hBr.cell (p := ⟨bb, bo + 2, none⟩) zb).trans d2
  clear d0
  have qres := (hBr.block w.heap.size (by omega)).trans HQ.out.1.blk
  have hBw := Below.trans HQ.out.2.2.2.2.2 (hBr.mono (by omega))
  have HL1 := Lib.hid hl1
  clear hl1
  by_cases hlt : j < x2.toNat
  · have hb1 : Bytes wr 0 wr.heap.size (.slice (some ⟨bb, ro, none⟩) r.length rc) r := hbr.more (Nat.le_refl _) (by have := hBr.size; omega)
    have k_rd := iread_any _ r wr hb1
    simp only [itemV, bV, wV] at k_rd
    have hrdn : readOk r = false → rdS (lo.drop 3) (j + 1) = none := fun h => by rw [rdS, hrd]; simp [h]
    have hrdy : readOk r = true → rdS (lo.drop 3) (j + 1) = some (its ++ [readI r], r.drop (readN r)) := fun h => by rw [rdS, hrd]; simp [h]
    have hrn := fun h => readN_le (s := r) h
    have hrf : readOk r = true → (Lit.int .i64 (readI r).ref).wf = true := fun h => by
      have := may_ref (item_read r h).1
      exact WalkArith.wf_i64 (by omega)
    obtain ⟨x, hx⟩ : ∃ x, readI r = x := ⟨_, rfl⟩
    obtain ⟨N, hN⟩ : ∃ N, readN r = N := ⟨_, rfl⟩
    rw [hx] at k_rd hrdy hrf
    rw [hN] at k_rd hrdy hrn
    have KR := Lib.hid k_rd
    have hB0 := hBr
    have HP := Lib.hid (And.intro hbr (And.intro qbox (And.intro hown (And.intro hBr (And.intro hrdn (And.intro hrdy (And.intro hrn (And.intro hrf (And.intro qres hBw)))))))))
    clear k_rd hbr qbox hown hBr hrdn hrdy hrn hrf qres hBw hx hN hrd hb1
    go_wp2_with fail
    refine KR.out.mono ?_
    rintro e z ⟨u, rfl, hm⟩
    obtain ⟨vn, hvn⟩ : ∃ vn, x.val.length = vn := ⟨_, rfl⟩
    obtain ⟨au, cu, rfl, -, -⟩ := hm.bytes.form hvn
    clear hvn c_n0 c_n1 d2r
    go_upto_region 11 with (fail)
    have hst2 := (Below.refl z.heap.size z).alloc (Nat.le_refl _) (.cells #[.int .u8 (x.key.kind.toNat : Int), .int .u32 (x.key.id.toNat : Int), .int .u32 (x.key.off.toNat : Int), .int .i64 x.ref, .slice au vn cu] 97)
    have qx := World.alloc_heap_new z (.cells #[.int .u8 (x.key.kind.toNat : Int), .int .u32 (x.key.id.toNat : Int), .int .u32 (x.key.off.toNat : Int), .int .i64 x.ref, .slice au vn cu] 97)
    have sz_z := hm.below.size
    have sz_z2 : z.heap.size < (z.alloc (.cells #[.int .u8 (x.key.kind.toNat : Int), .int .u32 (x.key.id.toNat : Int), .int .u32 (x.key.off.toNat : Int), .int .i64 x.ref, .slice au vn cu] 97)).heap.size := by simp
    obtain ⟨z2, hz2⟩ : ∃ v, z.alloc (.cells #[.int .u8 (x.key.kind.toNat : Int), .int .u32 (x.key.id.toNat : Int), .int .u32 (x.key.off.toNat : Int), .int .i64 x.ref, .slice au vn cu] 97) = v := ⟨_, rfl⟩
    rw [hz2] at hst2 qx sz_z2 ⊢
    clear hz2
    have szr := HP.out.2.2.2.1.size
    have qn2 := (hst2.block _ (by omega)).trans ((hm.below.block _ (by omega)).trans HP.out.2.1)
    have qr2 := (hst2.block w.heap.size (by omega)).trans ((hm.below.block _ (by omega)).trans HP.out.2.2.2.2.2.2.2.2.1)
    have hBw2 := below_step (below_step HP.out.2.2.2.2.2.2.2.2.2 (Below.size HP.out.2.2.2.2.2.2.2.2.2) hm.below) (by have := (Below.size HP.out.2.2.2.2.2.2.2.2.2); omega) hst2
    cases hok : readOk r
    case false =>
      have hkb : okb = false := by
        rw [HR.out.2.2.1, HR.out.2.2.2.1, rdS_none (HP.out.2.2.2.2.1 hok) x2.toNat (by omega)]
        simp
      have hen := HR.out.2.1
      rw [hkb] at hen
      simp only [Bool.false_eq_true, if_false] at hen
      subst hen
      have hrn := HR.out.2.2.2.2.2 (by decide)
      subst hrn
      have c_qr0 := blk_cell qr2 0
      have c_qr1 := blk_cell qr2 1
      simp at c_qr0 c_qr1
      have z_qr0 := blk_frozen qr2 0
      have z_qr1 := blk_frozen qr2 1
      have hBf := hBw2
      have me8 : mayE false = 8 := rfl
      rw [me8]
      clear hkb hok
      go_wp2
      refine bodyPost_ret (v := .tuple #[.agg #[.int .i64 0, .slice none 0 0], .int .i64 8]) (by simp [results, Try.results46, go_sem, c_qr0, c_qr1]) rfl ⟨_, rfl, ?_⟩
      exact MadeN.nil_ ((Below.setCell hBf (p := ⟨w.heap.size, 0, none⟩) (Nat.le_refl _) _).setCell (p := ⟨w.heap.size, 1, none⟩) (Nat.le_refl _) _)
    have me0 : mayE true = 0 := rfl
    rw [me0]
    obtain ⟨hN1, hN2⟩ := HP.out.2.2.2.2.2.2.1 hok
    have hrdy := HP.out.2.2.2.2.2.1 hok
    have hrf := HP.out.2.2.2.2.2.2.2.1 hok
    have hNl : N < rc := by omega
    obtain ⟨s2, hcut2⟩ := cutS_run bb ro r.length rc N (by omega) hNl (by unfold maxLen; omega)
    have hbr2 := hcut2 wr _ _ _ HP.out.1 rfl
    obtain ⟨Pr, hPr⟩ : ∃ Pr : World → Prop, ∀ X, Pr X ↔ X.heap[z.heap.size]? = z2.heap[z.heap.size]? := ⟨_, fun _ => Iff.rfl⟩
    have hp0 : Pr z2.drew := (hPr _).2 rfl
    have y1 := blk_cell qn2 1
    have y2 := blk_cell ((Below.heap_alloc z2 (.cells #[.int .u8 (x.key.kind.toNat : Int), .int .u32 (x.key.id.toNat : Int), .int .u32 (x.key.off.toNat : Int), .int .i64 x.ref, .slice au vn cu] 97) _ (by omega : w1.heap.size < z2.heap.size)).trans qn2) 1
    have wa := fun X => blk_cell (((hPr _).1 (selW_pr hp0 X)).trans qx) 0
    have wb := fun X => blk_cell (((hPr _).1 (selW_pr hp0 X)).trans qx) 1
    have wc := fun X => blk_cell (((hPr _).1 (selW_pr hp0 X)).trans qx) 2
    have wd := fun X => blk_cell (((hPr _).1 (selW_pr hp0 X)).trans qx) 3
    have we := fun X => blk_cell (((hPr _).1 (selW_pr hp0 X)).trans qx) 4
    simp at y1 y2 wa wb wc wd we
    have hS0 : ∀ q, wr.heap.size ≤ q → boxS w1.heap.size 1 q = false := fun q hq => boxS_no (by omega)
    obtain ⟨hra, hrb⟩ := row_item1 HP.out.2.2.1 hS0 hm.below z2.drew hst2.drew hm.bytes hm.thawed (show w2.heap.size ≤ wr.heap.size from szr) hrf 97
    simp only [bV, wV] at hra hrb
    have hrl := HP.out.2.2.1.lt
    have HZ := Lib.hid (And.intro hra (And.intro hrb (And.intro hrdy (And.intro hbr2 (And.intro qn2 (And.intro qx (And.intro hst2 (And.intro hm.below (And.intro hrl hS0)))))))))
    clear hra hrb hrdy hrf hbr2 qn2 qx qr2 hst2 hBw2 hrl hS0 hm hcut2 hok me0
    go_wp2_with fail
    refine wp_region_L (S := Kl Pr z2.drew) 10 (by kernel_rfl) (Kl.of hp0) (fun hCl => ?_)
    refine wpAnyL_seg (fuel := 6) (by kernel_rfl) (fun _ d _ _ _ h => by cases d <;> exact h) hCl [0, 2, 5, 6, 7] _ _ _ (by kernel_rfl) (by kernel_rfl) (by kernel_rfl) (by kernel_rfl) ?_
    simp only [opsOf_cons, opsOf_nil, consOp_some, List.getElem?_toArray, List.getElem?_cons_succ, List.getElem?_cons_zero]
    repeat (first | go_big_quiet_step (fail) | quiet_step (fail))
    refine wpQuiet_nil ?_
    refine wpAnyL_each (fuel := 5) [1, 3] (by kernel_rfl) (by simp) (by kernel_rfl) ?_
    refine EachL.cons _ rfl (fun K' hK => ?_) ?_
    · go_simp
      have hst := hp0
      have hCl : Kl Pr z2.drew _ := Kl.of hst
      refine hK.out (.inr hCl) ?_
      clear hK K'
      refine wpAnyL_each (fuel := 4) [3] (by kernel_rfl) (by simp) (by kernel_rfl) ?_
      refine EachL.cons _ rfl (fun K' hK => ?_) EachL.nil
      go_simp
      have hst : Pr (z2.drew.alloc (.cells #[.int .u8 (x.key.kind.toNat : Int), .int .u32 (x.key.id.toNat : Int), .int .u32 (x.key.off.toNat : Int), .int .i64 x.ref, .slice au vn cu] 97)) := (hPr _).2 (Below.heap_alloc z2.drew _ _ sz_z2)
      have HST := Lib.hid hst
      have hCl : Kl Pr z2.drew _ := Kl.of hst
      refine hK.out (.inr hCl) ?_
      clear hK K'
      refine wpAnyL_each (fuel := 3) [4] (by kernel_rfl) (by simp) (by kernel_rfl) ?_
      refine EachL.cons _ rfl (fun K' hK => ?_) EachL.nil
      refine if_yes (by kernel_rfl) ?_
      have hSS : ∀ q, (z2.drew.alloc (.cells #[.int .u8 (x.key.kind.toNat : Int), .int .u32 (x.key.id.toNat : Int), .int .u32 (x.key.off.toNat : Int), .int .i64 x.ref, .slice au vn cu] 97)).heap.size ≤ q → boxS w1.heap.size 1 q = false := fun q hq => boxS_no (by rw [World.size_alloc] at hq; have h9 : z2.heap.size + 1 ≤ q := hq; omega)
      refine wp_appR rItemT_ck (.tmp 55) (.tmp 57) 45 rfl 97 (.agg #[.int .u8 0, .int .u32 0, .int .u32 0, .int .i64 0, .slice none 0 0]) 48 Try.underlying45 (by kernel_rfl) rfl (by decide) w2.heap.size w2.heap.size (boxS w1.heap.size 1) (.slice ar its.length cr) its [x] rfl HZ.out.1 hSS ⟨z2.heap.size, 0, none⟩ 1 [.int .u8 (x.key.kind.toNat : Int), .int .u32 (x.key.id.toNat : Int), .int .u32 (x.key.off.toNat : Int), .int .i64 x.ref, .slice au vn cu] rfl rfl (news_one #[.int .u8 (x.key.kind.toNat : Int), .int .u32 (x.key.id.toNat : Int), .int .u32 (x.key.off.toNat : Int), .int .i64 x.ref, .slice au vn cu] 97) (by intro u hu; simp at hu; rcases hu with rfl | rfl | rfl | rfl | rfl <;> rfl) HZ.out.2.1 (by have := HL1.out; show its.length + 1 ≤ 1000000; omega) (by decide) (by show w2.heap.size ≤ (z2.alloc (.cells #[.int .u8 (x.key.kind.toNat : Int), .int .u32 (x.key.id.toNat : Int), .int .u32 (x.key.off.toNat : Int), .int .i64 x.ref, .slice au vn cu] 97)).heap.size; rw [World.size_alloc]; omega) ?_
      intro a4 c4 z4 hown4 hB4 hf4
      have hal1 : w1.heap.size < (z2.drew.alloc (.cells #[.int .u8 (x.key.kind.toNat : Int), .int .u32 (x.key.id.toNat : Int), .int .u32 (x.key.off.toNat : Int), .int .i64 x.ref, .slice au vn cu] 97)).heap.size := by rw [World.size_alloc]; show w1.heap.size < z2.heap.size + 1; omega
      have hal2 : z.heap.size < (z2.drew.alloc (.cells #[.int .u8 (x.key.kind.toNat : Int), .int .u32 (x.key.id.toNat : Int), .int .u32 (x.key.off.toNat : Int), .int .i64 x.ref, .slice au vn cu] 97)).heap.size := by rw [World.size_alloc]; show z.heap.size < z2.heap.size + 1; omega
      have hst : Pr z4 := (hPr _).2 ((hf4 _ hal2 (fun e => by have := (HZ.out.2.2.2.2.2.2.2.2.1 _ e).2; omega)).trans ((hPr _).1 HST.out))
      have hn4 : z4.heap[w1.heap.size]? = z2.heap[w1.heap.size]? := (hf4 _ hal1 (fun e => by have := (HZ.out.2.2.2.2.2.2.2.2.1 _ e).1; omega)).trans (Below.heap_alloc z2.drew _ _ (by show w1.heap.size < z2.heap.size; omega))
      rw [show (its ++ [x]).length = its.length + 1 by simp] at hown4 ⊢
      have k5 := hn4.trans HZ.out.2.2.2.2.1
      have j1 := blk_cell k5 1
      have jf := blk_frozen k5 1
      simp at j1
      have HO := Lib.hid (And.intro hown4 (And.intro hB4 k5))
      clear hown4 hB4 k5 hf4 hal1 hal2 hn4
      have HS4 := Lib.hid hst
      have hCl : Kl Pr z2.drew _ := Kl.of hst
      refine hK.out (.inr hCl) ?_
      clear hK K'
      refine wpAnyL_seg (fuel := 2) (by kernel_rfl) (fun _ d _ _ _ h => by cases d <;> exact h) hCl [8] _ _ _ (by kernel_rfl) (by kernel_rfl) (by kernel_rfl) (by kernel_rfl) ?_
      simp only [opsOf_cons, opsOf_nil, consOp_some, List.getElem?_toArray, List.getElem?_cons_succ, List.getElem?_cons_zero]
      repeat (first | go_big_quiet_step (fail) | quiet_step (fail))
      refine wpQuiet_nil ?_
      refine wpAnyL_each (fuel := 1) [9] (by kernel_rfl) (by simp) (by kernel_rfl) ?_
      refine EachL.cons _ rfl (fun K' hK => ?_) EachL.nil
      go_simp
      have hst : Pr (z4.setCell ⟨w1.heap.size, 1, none⟩ (.slice a4 (its.length + 1) c4)) := (hPr _).2 ((set_other z4 _ _ _ _ (by omega)).trans ((hPr _).1 HS4.out))
      have hCl : Kl Pr z2.drew _ := Kl.of hst
      refine hK.out (.inr hCl) ?_
      clear hK K'
      refine wpAnyL_each (fuel := 0) [10] (by kernel_rfl) (by simp) (by kernel_rfl) ?_
      refine EachL.cons _ rfl (fun K' hK => ?_) EachL.nil
      go_simp
      refine hK.out (.inl rfl) ?_
      clear hK K'
      refine wpAnyL_done (by kernel_rfl) ?_ _
      go_wp2
      go_roundw
      case rel =>
        obtain ⟨hown4, hB4, k5⟩ := HO.out
        have hBa : Below w1.heap.size wr z := HZ.out.2.2.2.2.2.2.2.1.mono (by omega)
        have hBb : Below w1.heap.size z z2 := HZ.out.2.2.2.2.2.2.1.mono (by omega)
        have hBc : Below w1.heap.size wr (z2.drew.alloc (.cells #[.int .u8 (x.key.kind.toNat : Int), .int .u32 (x.key.id.toNat : Int), .int .u32 (x.key.off.toNat : Int), .int .i64 x.ref, .slice au vn cu] 97)) := (hBa.trans hBb).drew.alloc (by show w1.heap.size ≤ z2.heap.size; omega) _
        have hBd : Below w1.heap.size wr z4 := hBc.trans (hB4.mono (by omega))
        have hBn : Below w1.heap.size wr (z4.setCell ⟨w1.heap.size, 1, none⟩ (.slice a4 (its.length + 1) c4)) := hBd.setCell (p := ⟨w1.heap.size, 1, none⟩) (Nat.le_refl _) _
        have hls : (its ++ [x]).length = its.length + 1 := by simp
        have hld : (r.drop N).length = r.length - N := List.length_drop
        refine ⟨j + 1, its ++ [x], r.drop N, ro + N, rc - N, a4, c4, by omega, by go_num, HZ.out.2.2.1, by rw [hld], by omega, by omega, ?_, ⟨by rw [hls, HL1.out], by omega, by omega⟩, ?_, ?_, HP.out.2.2.2.1.trans hBn⟩
        · rw [hld]
          exact HZ.out.2.2.2.1.below hBn (Nat.le_refl _)
        · rw [hls]
          exact set_block k5 1 _
        · rw [hls]
          exact hown4.setS rItemT_ck ⟨w1.heap.size, 1, none⟩ _ (boxS_yes (Nat.le_refl _) (by show w1.heap.size < w1.heap.size + 1; omega))
      case measure => simp [intOf]; omega
    refine EachL.cons _ rfl (fun K' hK => ?_) ?_
    · go_simp
      have hst : Pr (z2.drew.alloc (.cells #[.int .u8 (x.key.kind.toNat : Int), .int .u32 (x.key.id.toNat : Int), .int .u32 (x.key.off.toNat : Int), .int .i64 x.ref, .slice au vn cu] 97)) := (hPr _).2 (Below.heap_alloc z2.drew _ _ sz_z2)
      have HST := Lib.hid hst
      have hCl : Kl Pr z2.drew _ := Kl.of hst
      refine hK.out (.inr hCl) ?_
      clear hK K'
      refine wpAnyL_each (fuel := 4) [1] (by kernel_rfl) (by simp) (by kernel_rfl) ?_
      refine EachL.cons _ rfl (fun K' hK => ?_) EachL.nil
      go_simp
      have hst := HST.out
      have hCl : Kl Pr z2.drew _ := Kl.of hst
      refine hK.out (.inr hCl) ?_
      clear hK K'
      refine wpAnyL_each (fuel := 3) [4] (by kernel_rfl) (by simp) (by kernel_rfl) ?_
      refine EachL.cons _ rfl (fun K' hK => ?_) EachL.nil
      refine if_yes (by kernel_rfl) ?_
      have hSS : ∀ q, (z2.drew.alloc (.cells #[.int .u8 (x.key.kind.toNat : Int), .int .u32 (x.key.id.toNat : Int), .int .u32 (x.key.off.toNat : Int), .int .i64 x.ref, .slice au vn cu] 97)).heap.size ≤ q → boxS w1.heap.size 1 q = false := fun q hq => boxS_no (by rw [World.size_alloc] at hq; have h9 : z2.heap.size + 1 ≤ q := hq; omega)
      refine wp_appR rItemT_ck (.tmp 55) (.tmp 57) 45 rfl 97 (.agg #[.int .u8 0, .int .u32 0, .int .u32 0, .int .i64 0, .slice none 0 0]) 48 Try.underlying45 (by kernel_rfl) rfl (by decide) w2.heap.size w2.heap.size (boxS w1.heap.size 1) (.slice ar its.length cr) its [x] rfl HZ.out.1 hSS ⟨z2.heap.size, 0, none⟩ 1 [.int .u8 (x.key.kind.toNat : Int), .int .u32 (x.key.id.toNat : Int), .int .u32 (x.key.off.toNat : Int), .int .i64 x.ref, .slice au vn cu] rfl rfl (news_one #[.int .u8 (x.key.kind.toNat : Int), .int .u32 (x.key.id.toNat : Int), .int .u32 (x.key.off.toNat : Int), .int .i64 x.ref, .slice au vn cu] 97) (by intro u hu; simp at hu; rcases hu with rfl | rfl | rfl | rfl | rfl <;> rfl) HZ.out.2.1 (by have := HL1.out; show its.length + 1 ≤ 1000000; omega) (by decide) (by show w2.heap.size ≤ (z2.alloc (.cells #[.int .u8 (x.key.kind.toNat : Int), .int .u32 (x.key.id.toNat : Int), .int .u32 (x.key.off.toNat : Int), .int .i64 x.ref, .slice au vn cu] 97)).heap.size; rw [World.size_alloc]; omega) ?_
      intro a4 c4 z4 hown4 hB4 hf4
      have hal1 : w1.heap.size < (z2.drew.alloc (.cells #[.int .u8 (x.key.kind.toNat : Int), .int .u32 (x.key.id.toNat : Int), .int .u32 (x.key.off.toNat : Int), .int .i64 x.ref, .slice au vn cu] 97)).heap.size := by rw [World.size_alloc]; show w1.heap.size < z2.heap.size + 1; omega
      have hal2 : z.heap.size < (z2.drew.alloc (.cells #[.int .u8 (x.key.kind.toNat : Int), .int .u32 (x.key.id.toNat : Int), .int .u32 (x.key.off.toNat : Int), .int .i64 x.ref, .slice au vn cu] 97)).heap.size := by rw [World.size_alloc]; show z.heap.size < z2.heap.size + 1; omega
      have hst : Pr z4 := (hPr _).2 ((hf4 _ hal2 (fun e => by have := (HZ.out.2.2.2.2.2.2.2.2.1 _ e).2; omega)).trans ((hPr _).1 HST.out))
      have hn4 : z4.heap[w1.heap.size]? = z2.heap[w1.heap.size]? := (hf4 _ hal1 (fun e => by have := (HZ.out.2.2.2.2.2.2.2.2.1 _ e).1; omega)).trans (Below.heap_alloc z2.drew _ _ (by show w1.heap.size < z2.heap.size; omega))
      rw [show (its ++ [x]).length = its.length + 1 by simp] at hown4 ⊢
      have k5 := hn4.trans HZ.out.2.2.2.2.1
      have j1 := blk_cell k5 1
      have jf := blk_frozen k5 1
      simp at j1
      have HO := Lib.hid (And.intro hown4 (And.intro hB4 k5))
      clear hown4 hB4 k5 hf4 hal1 hal2 hn4
      have HS4 := Lib.hid hst
      have hCl : Kl Pr z2.drew _ := Kl.of hst
      refine hK.out (.inr hCl) ?_
      clear hK K'
      refine wpAnyL_seg (fuel := 2) (by kernel_rfl) (fun _ d _ _ _ h => by cases d <;> exact h) hCl [8] _ _ _ (by kernel_rfl) (by kernel_rfl) (by kernel_rfl) (by kernel_rfl) ?_
      simp only [opsOf_cons, opsOf_nil, consOp_some, List.getElem?_toArray, List.getElem?_cons_succ, List.getElem?_cons_zero]
      repeat (first | go_big_quiet_step (fail) | quiet_step (fail))
      refine wpQuiet_nil ?_
      refine wpAnyL_each (fuel := 1) [9] (by kernel_rfl) (by simp) (by kernel_rfl) ?_
      refine EachL.cons _ rfl (fun K' hK => ?_) EachL.nil
      go_simp
      have hst : Pr (z4.setCell ⟨w1.heap.size, 1, none⟩ (.slice a4 (its.length + 1) c4)) := (hPr _).2 ((set_other z4 _ _ _ _ (by omega)).trans ((hPr _).1 HS4.out))
      have hCl : Kl Pr z2.drew _ := Kl.of hst
      refine hK.out (.inr hCl) ?_
      clear hK K'
      refine wpAnyL_each (fuel := 0) [10] (by kernel_rfl) (by simp) (by kernel_rfl) ?_
      refine EachL.cons _ rfl (fun K' hK => ?_) EachL.nil
      go_simp
      refine hK.out (.inl rfl) ?_
      clear hK K'
      refine wpAnyL_done (by kernel_rfl) ?_ _
      go_wp2
      go_roundw
      case rel =>
        obtain ⟨hown4, hB4, k5⟩ := HO.out
        have hBa : Below w1.heap.size wr z := HZ.out.2.2.2.2.2.2.2.1.mono (by omega)
        have hBb : Below w1.heap.size z z2 := HZ.out.2.2.2.2.2.2.1.mono (by omega)
        have hBc : Below w1.heap.size wr (z2.drew.alloc (.cells #[.int .u8 (x.key.kind.toNat : Int), .int .u32 (x.key.id.toNat : Int), .int .u32 (x.key.off.toNat : Int), .int .i64 x.ref, .slice au vn cu] 97)) := (hBa.trans hBb).drew.alloc (by show w1.heap.size ≤ z2.heap.size; omega) _
        have hBd : Below w1.heap.size wr z4 := hBc.trans (hB4.mono (by omega))
        have hBn : Below w1.heap.size wr (z4.setCell ⟨w1.heap.size, 1, none⟩ (.slice a4 (its.length + 1) c4)) := hBd.setCell (p := ⟨w1.heap.size, 1, none⟩) (Nat.le_refl _) _
        have hls : (its ++ [x]).length = its.length + 1 := by simp
        have hld : (r.drop N).length = r.length - N := List.length_drop
        refine ⟨j + 1, its ++ [x], r.drop N, ro + N, rc - N, a4, c4, by omega, by go_num, HZ.out.2.2.1, by rw [hld], by omega, by omega, ?_, ⟨by rw [hls, HL1.out], by omega, by omega⟩, ?_, ?_, HP.out.2.2.2.1.trans hBn⟩
        · rw [hld]
          exact HZ.out.2.2.2.1.below hBn (Nat.le_refl _)
        · rw [hls]
          exact set_block k5 1 _
        · rw [hls]
          exact hown4.setS rItemT_ck ⟨w1.heap.size, 1, none⟩ _ (boxS_yes (Nat.le_refl _) (by show w1.heap.size < w1.heap.size + 1; omega))
      case measure => simp [intOf]; omega
    exact EachL.nil
  obtain rfl : j = x2.toNat := by omega
  have hra := HR.out.2.2.2.1
  rw [hrd] at hra
  have hkb := HR.out.2.2.1
  rw [hra] at hkb
  have h78 := i78.out
  have hkb2 : okb = (mayN ⟨(x1.toNat : Int), its⟩ && maxL r == 0) := by
    rw [hkb, h78]
    simp [hK]
  have hrn1 := fun h => HR.out.2.2.2.2.1 h
  rw [hra] at hrn1
  have hsl := hown.sl rItemT_ck (lo' := w2.heap.size) (Nat.le_refl _) (Nat.le_refl _)
  have hthw := fun g o hg => And.intro (hown.thaw g o hg) (hown.lt g hg).2
  have k_ck := ncheck_any ⟨(x1.toNat : Int), its⟩ (.slice ar its.length cr) wr (sl_itemT hsl).all0
  have szr := hBr.size
  have hbm := hbr.more (lo' := 0) (hi' := wr.heap.size) (Nat.le_refl _) (by omega)
  have k_mx := max_any _ r wr hbm (by omega)
  obtain ⟨mn, hmn⟩ : ∃ mn, mayN ⟨(x1.toNat : Int), its⟩ = mn := ⟨_, rfl⟩
  obtain ⟨mx, hmx⟩ : ∃ mx, maxL r = mx := ⟨_, rfl⟩
  rw [hmn] at k_ck hkb2
  rw [hmx] at k_mx hkb2
  have hen := HR.out.2.1
  have hr0 := HR.out.2.2.2.2.2
  have k_mx2 := fun V (hs : Below wr.heap.size wr V) => max_any _ r V (hbm.step hs) (by omega)
  rw [hmx] at k_mx2
  have HF := Lib.hid (And.intro k_ck (And.intro k_mx2 (And.intro hkb2 (And.intro hrn1 (And.intro hsl (And.intro hthw (And.intro qres (And.intro hBw (And.intro qbox (And.intro hen (And.intro hr0 hBr)))))))))))
  clear k_ck k_mx k_mx2 hkb hkb2 hrn1 hsl hthw qres hBw qbox hra hown hbr hmn hmx hen hr0 hrd hbm hBr h78
  go_wp2_with fail
  refine HF.out.1.mono ?_
  rintro e w7 ⟨rfl, hst⟩
  have qres := (hst.block w.heap.size (by omega)).trans HF.out.2.2.2.2.2.2.1
  have qbox := (hst.block w1.heap.size (by omega)).trans HF.out.2.2.2.2.2.2.2.2.1
  have hBf := below_step HF.out.2.2.2.2.2.2.2.1 (by omega) hst
  clear c_n0 c_n1 d2r
  have c_qr0 := blk_cell qres 0
  have c_qr1 := blk_cell qres 1
  have c_n0 := blk_cell qbox 0
  have c_n1 := blk_cell qbox 1
  simp at c_qr0 c_qr1 c_n0 c_n1
  have z_qr0 := blk_frozen qres 0
  have z_qr1 := blk_frozen qres 1
  have sz7 := hst.size
  have HST7 := Lib.hid (And.intro hst (And.intro qres qbox))
  clear hst qres qbox
  cases mn
  case false =>
    have hkb : okb = false := HF.out.2.2.1
    have hen := HF.out.2.2.2.2.2.2.2.2.2.1
    rw [hkb] at hen
    simp only [Bool.false_eq_true, if_false] at hen
    subst hen
    have hrn := HF.out.2.2.2.2.2.2.2.2.2.2.1 (by decide)
    subst hrn
    have me8 : mayE false = 8 := rfl
    rw [me8]
    clear hkb
    go_wp2
    refine bodyPost_ret (v := .tuple #[.agg #[.int .i64 0, .slice none 0 0], .int .i64 8]) (by simp [results, Try.results46, go_sem, c_qr0, c_qr1]) rfl ⟨_, rfl, ?_⟩
    exact MadeN.nil_ ((Below.setCell hBf (p := ⟨w.heap.size, 0, none⟩) (Nat.le_refl _) _).setCell (p := ⟨w.heap.size, 1, none⟩) (Nat.le_refl _) _)
  have me0 : mayE true = 0 := rfl
  rw [me0]
  clear me0
  go_wp2_with fail
  refine (HF.out.2.1 _ HST7.out.1).mono ?_
  rintro e w8 ⟨rfl, rfl⟩
  by_cases hm0 : mx = 0
  case neg =>
    have hkb : okb = false := by rw [HF.out.2.2.1]; simp [hm0]
    have hen := HF.out.2.2.2.2.2.2.2.2.2.1
    rw [hkb] at hen
    simp only [Bool.false_eq_true, if_false] at hen
    subst hen
    have hrn := HF.out.2.2.2.2.2.2.2.2.2.2.1 (by decide)
    subst hrn
    have i9 : decide ((0 : Int) < (mx : Int)) = true := by rw [decide_eq_true_eq]; omega
    have i10 : 0 < mx := by omega
    clear hkb
    go_wp2
    refine bodyPost_ret (v := .tuple #[.agg #[.int .i64 0, .slice none 0 0], .int .i64 8]) (by simp [results, Try.results46, go_sem, c_qr0, c_qr1]) rfl ⟨_, rfl, ?_⟩
    exact MadeN.nil_ ((Below.setCell hBf (p := ⟨w.heap.size, 0, none⟩) (Nat.le_refl _) _).setCell (p := ⟨w.heap.size, 1, none⟩) (Nat.le_refl _) _)
  subst hm0
  have hkb : okb = true := HF.out.2.2.1
  have hen := HF.out.2.2.2.2.2.2.2.2.2.1
  rw [hkb] at hen
  simp only [if_true] at hen
  subst hen
  have hrn := HF.out.2.2.2.1 (by trivial)
  simp only [Option.getD_some] at hrn
  subst hrn
  clear hkb
  go_wp2
  refine bodyPost_ret (v := .tuple #[.agg #[.int .i64 (x1.toNat : Int), .slice ar its.length cr], .int .i64 0]) (by simp [results, Try.results46, go_sem, c_qr0, c_qr1]) rfl ⟨_, rfl, ?_⟩
  obtain ⟨hst, qres, qbox⟩ := HST7.out
  have hk2 : ∀ lo hi, w.heap.size + 1 ≤ lo → Kp lo hi w8 ((w8.setCell ⟨w.heap.size, 0, none⟩ (.int .i64 (x1.toNat : Int))).setCell ⟨w.heap.size, 1, none⟩ (.slice ar its.length cr)) := fun lo hi h b o h1 _ => ⟨heap_cell ((set_other _ _ _ _ b (by omega)).trans (set_other w8 _ _ _ b (by omega))) o, heap_frozen ((set_other _ _ _ _ b (by omega)).trans (set_other w8 _ _ _ b (by omega))) o⟩
  have hsl := HF.out.2.2.2.2.1
  refine ⟨((hsl.below hst (Nat.le_refl _)).keep (hk2 _ _ (by omega))).more (by omega) (by rw [World.size_setCell, World.size_setCell]; omega), fun g o hg => ?_, (Below.setCell hBf (p := ⟨w.heap.size, 0, none⟩) (Nat.le_refl _) _).setCell (p := ⟨w.heap.size, 1, none⟩) (Nat.le_refl _) _⟩
  rw [World.frozen?_setCell, World.frozen?_setCell]
  have hgl := (HF.out.2.2.2.2.2.1 g o hg).2
  exact (hst.frozen (p := ⟨g, o, none⟩) hgl).trans (HF.out.2.2.2.2.2.1 g o hg).1
end Go.Proofs.Ytkfgegdnpinbdaa

namespace Go.Proofs.Ytkfgegdnpinbdaa
open Go.RowKit

theorem openE_zeroN (l : List UInt8) (h : openE l = 0) : l.length = 128 ∧ opensL l = true := by
  unfold openE at h
  split at h
  · split at h
    · exact ⟨by assumption, by assumption⟩
    · cases h
  · cases h
theorem seal_openN (l : List UInt8) (h : openE l = 0) : openL l = l.drop 4 ∧ l.length = 128 ∧ sealL (l.drop 4) = l := by
  obtain ⟨h1, h2⟩ := openE_zeroN l h
  refine ⟨by unfold openL; rw [if_pos h], h1, ?_⟩
  unfold sealL
  rw [show padL (l.drop 4) = l.drop 4 by simp [padL, h1]]
  have hn : getN l 0 4 = (crc (l.drop 4)).toNat := by simpa [opensL] using h2
  have hg := (get_yes' l 0 4 (by omega)).1
  rw [← hn]
  have h4 := four_of l 0 (by omega)
  rw [show getN l 0 4 = numOf ((l.drop 0).take 4) from hg, h4]
  simp
theorem open_sealN (b : List UInt8) (h : b.length ≤ 124) : openE (sealL b) = 0 ∧ openL (sealL b) = padL b := by
  have hl := sealL_length b h
  have ht : (sealL b).take 4 = fourL (crc (padL b)).toNat := by simp [sealL, fourL]
  have hd : (sealL b).drop 4 = padL b := by simp [sealL, fourL]
  have ho : opensL (sealL b) = true := by
    simp only [opensL, beq_iff_eq, getN_zero (sealL b) (by omega), ht, hd]
    exact numOf_fourL (crc (padL b)).toNat (by have := (crc (padL b)).isLt; omega)
  have h1 : openE (sealL b) = 0 := by
    unfold openE
    rw [if_pos hl, if_pos ho]
  exact ⟨h1, by unfold openL; rw [if_pos h1, hd]⟩
theorem bodyN_cons (x : ItemL) (l : List ItemL) : bodyN (x :: l) = itemB x ++ bodyN l := by simp [bodyN]
theorem bodyN_snoc (l : List ItemL) (x : ItemL) : bodyN (l ++ [x]) = bodyN l ++ itemB x := by simp [bodyN]
theorem rdS_body (its : List ItemL) (z : List UInt8) (hm : ∀ x ∈ its, mayI x = true) : ∀ k, k ≤ its.length → rdS (bodyN its ++ z) k = some (its.take k, bodyN (its.drop k) ++ z)
  | 0, _ => rfl
  | k + 1, hk => by
    have hx : k < its.length := hk
    have hd : its.drop k = its[k] :: its.drop (k + 1) := List.drop_eq_getElem_cons hx
    obtain ⟨h1, h2, h3⟩ := read_item its[k] (hm _ (List.getElem_mem hx)) (bodyN (its.drop (k + 1)) ++ z)
    rw [rdS, rdS_body its z hm k (by omega)]
    simp only
    rw [hd, bodyN_cons, List.append_assoc, if_pos h1, h2, h3, List.drop_left, List.take_succ_eq_append_getElem hx]
theorem rdS_join (r : List UInt8) : ∀ (k : Nat) (s : List ItemL × List UInt8), rdS r k = some s → r = bodyN s.1 ++ s.2
  | 0, s, h => by cases h; rfl
  | k + 1, s, h => by
    rw [rdS] at h
    cases h0 : rdS r k with
    | none => rw [h0] at h; cases h
    | some t =>
      rw [h0] at h
      simp only at h
      split at h
      · rename_i hr
        cases h
        have ih := rdS_join r k t h0
        obtain ⟨-, h2, -⟩ := item_read t.2 hr
        rw [bodyN_snoc, h2, List.append_assoc, List.take_append_drop]
        exact ih
      · cases h
theorem back1 {n : NodeL} (h : mayN n = true) : errNd (blockN n) = 0 ∧ readNd (blockN n) = n ∧ (blockN n).length = 128 := by
  have hlen := bytesN_len h
  have hb : blockN n = sealL (bytesN n) := by unfold blockN; rw [if_pos h]
  obtain ⟨o1, o2⟩ := open_sealN (bytesN n) hlen
  obtain ⟨⟨l0, l6⟩, l5, -, -⟩ := mayN_all h
  obtain ⟨lv, its⟩ := n
  obtain ⟨lv, rfl⟩ := Int.eq_ofNat_of_zero_le l0
  simp only at l6 l5
  have e : padL (bytesN ⟨(lv : Int), its⟩) = 78 :: UInt8.ofNat lv :: UInt8.ofNat its.length :: (bodyN its ++ List.replicate (124 - (bytesN ⟨(lv : Int), its⟩).length) 0) := by
    simp [padL, bytesN, headN]
  rw [e] at o2
  have hr := rdS_body its (List.replicate (124 - (bytesN ⟨(lv : Int), its⟩).length) 0) (mayN_items h) its.length (Nat.le_refl _)
  rw [List.take_length, List.drop_length] at hr
  have n1 : (UInt8.ofNat lv).toNat = lv := by rw [UInt8.toNat_ofNat']; omega
  have n2 : (UInt8.ofNat its.length).toNat = its.length := by rw [UInt8.toNat_ofNat']; omega
  have ha : rdAll (sealL (bytesN ⟨(lv : Int), its⟩)) = some (its, List.replicate (124 - (bytesN ⟨(lv : Int), its⟩).length) 0) := by
    unfold rdAll
    rw [o2]
    simp only [List.drop_succ_cons, List.drop_zero, List.getD_cons_succ, List.getD_cons_zero, n2]
    exact hr
  have hz : maxL (List.replicate (124 - (bytesN ⟨(lv : Int), its⟩).length) (0 : UInt8)) = 0 := (maxL_zero _).2 fun x hx => (List.mem_replicate.1 hx).2
  have hk : okRd (sealL (bytesN ⟨(lv : Int), its⟩)) = true := by
    unfold okRd
    rw [ha, o2]
    simp only [List.getD_cons_succ, List.getD_cons_zero, n1, n2, h, hz]
    simp [l5]
  have he : errNd (sealL (bytesN ⟨(lv : Int), its⟩)) = 0 := by
    unfold errNd
    rw [if_pos o1, if_pos hk]
  refine ⟨by rw [hb]; exact he, ?_, by rw [hb]; exact sealL_length _ hlen⟩
  rw [hb]
  unfold readNd
  rw [if_pos he, ha, o2]
  simp only [List.getD_cons_succ, List.getD_cons_zero, n1, Option.getD_some]
theorem back2 {l : List UInt8} (h : errNd l = 0) : mayN (readNd l) = true ∧ blockN (readNd l) = l := by
  have ho : openE l = 0 := by
    unfold errNd at h
    split at h
    · assumption
    · exact h
  obtain ⟨o1, o2, o3⟩ := seal_openN l ho
  have hk : okRd l = true := by
    unfold errNd at h
    rw [if_pos ho] at h
    cases hk : okRd l with
    | true => rfl
    | false => rw [hk] at h; simp at h
  have hL : (openL l).length = 124 := by rw [o1, List.length_drop]; omega
  have hrn : readNd l = ⟨(((openL l).getD 1 0).toNat : Int), ((rdAll l).getD ([], [])).1⟩ := by
    unfold readNd
    rw [if_pos h]
  unfold okRd at hk
  cases hs : rdAll l with
  | none => rw [hs] at hk; simp at hk
  | some s =>
    rw [hs] at hk hrn
    simp only [Bool.and_eq_true, beq_iff_eq, decide_eq_true_eq] at hk
    obtain ⟨⟨k0, k2⟩, km, kz⟩ := hk
    simp only [Option.getD_some] at hrn
    unfold rdAll at hs
    rw [← o1] at o3
    generalize openL l = L at *
    match L, hL with
    | x0 :: x1 :: x2 :: r, hL =>
      simp only [List.getD_cons_succ, List.getD_cons_zero, List.drop_succ_cons, List.drop_zero] at k0 k2 km hrn hs
      subst k0
      have hj := rdS_join _ _ _ hs
      have hl := (rdS_len hs).1
      refine ⟨by rw [hrn]; exact km, ?_⟩
      rw [hrn]
      unfold blockN
      rw [if_pos km]
      have hby : bytesN ⟨(x1.toNat : Int), s.1⟩ = 78 :: x1 :: x2 :: bodyN s.1 := by
        simp [bytesN, headN, hl]
      have hz : s.2 = List.replicate s.2.length 0 := List.eq_replicate_iff.2 ⟨rfl, (maxL_zero _).1 kz⟩
      have hp : padL (bytesN ⟨(x1.toNat : Int), s.1⟩) = 78 :: x1 :: x2 :: r := by
        have hrl : r.length = (bodyN s.1).length + s.2.length := by rw [hj, List.length_append]
        have h3 : r.length = 121 := by simpa using hL
        unfold padL
        rw [hby]
        simp only [List.length_cons, List.cons_append]
        rw [show 124 - ((bodyN s.1).length + 1 + 1 + 1) = s.2.length by omega, ← hz, ← hj]
      have hp2 : padL (78 :: x1 :: x2 :: r) = 78 :: x1 :: x2 :: r := by
        unfold padL
        rw [hL]
        simp
      rw [← o3]
      unfold sealL
      rw [hp, hp2]
    | [], hL => simp at hL
    | [_], hL => simp at hL
    | [_, _], hL => simp at hL
end Go.Proofs.Ytkfgegdnpinbdaa

namespace Go.Proofs.Ytkfgegdnpinbdaa
open Go.RowKit
theorem bytes_zero (w : World) (t : TypeId) :
    Bytes (w.alloc (.cells #[.int .u8 0] t)) w.heap.size (w.heap.size + 1) (.slice (some ⟨w.heap.size, 0, none⟩) 1 1) [0] :=
  Bytes.new w t [0] (by simp [maxLen]) (0, 0)
def lenOf : Value → Nat
  | .slice _ n _ => n
  | _ => 0

set_option maxHeartbeats 1000000 in
theorem rsealed_any (v : Value) (l : List UInt8) (w : World) (hI : Bytes w 0 w.heap.size v l) (hl : l.length ≤ 124) : Calls Try.prog 119 #[v] w fun e w' => ∃ u, e = .returned u ∧ MadeB w w' u (sealL l) := by
  obtain ⟨a, c, rfl, g1, g2, g3, _⟩ := id hI
  unfold maxLen at g2
  go_enter Try.func119, Try.ntmps119
  go_wp2_with (at_builtin; refine wpList_appB rfl _ _ 26 rfl w.heap.size 5 Try.underlying26 info_u8 _ [] rfl (OwnB.nil_ _ _ _) _ _ _ l rfl hI (by simp; omega) (Nat.le_refl _) ?_; intro v1 w1 hown1 hB1)
  rw [List.nil_append] at hown1
  go_loopw [3] (fun v wr => ∃ k : Nat, l.length + k ≤ 124 ∧ OwnB w.heap.size 5 wr v (l ++ List.replicate k 0) ∧ Below w.heap.size w wr) (fun v _ => 124 - lenOf v)
  case atStart => exact ⟨0, by omega, by simpa using hown1, hB1⟩
  case round =>
    obtain ⟨k, hk, hown, hB⟩ := hrel
    have hlen : (l ++ List.replicate k (0 : UInt8)).length = l.length + k := by simp
    obtain ⟨b1, c1, rfl, q1, q2, _, _⟩ := hown.bytes
    unfold maxLen at q2
    have hs : l ++ List.replicate (k + 1) (0 : UInt8) = (l ++ List.replicate k 0) ++ [0] := by rw [List.replicate_succ', ← List.append_assoc]
    have HS := Lib.hid hs
    by_cases hlt : l.length + k < 124
    · clear hs
      generalize l ++ List.replicate k (0 : UInt8) = r at *
      have hr : (r.length : Int) < 124 := by omega
      have HL := Lib.hid hlen
      clear hlen
      go_wp2_with (at_builtin; refine wpList_appB rfl _ _ 26 rfl w.heap.size 5 Try.underlying26 info_u8 _ r rfl (hown.alloc _) wr.heap.size (wr.heap.size + 1) _ [0] rfl (bytes_zero wr _) (by have := HL.out; simp; omega) (by have := hB.size; simp; omega) ?_; intro v' w1 hown' hB1)
      go_roundw
      case rel => exact ⟨k + 1, by omega, by rw [HS.out]; exact hown', (hB.alloc hB.size _).trans hB1⟩
      case measure => 
        obtain ⟨b2, c2, rfl, _, _, _, _⟩ := hown'.bytes
        have := HL.out
        simp [lenOf]; omega
    · have hkk : k = 124 - l.length := by omega
      have hp : l ++ List.replicate k (0 : UInt8) = padL l := by rw [hkk]; rfl
      rw [hp] at hown hlen q1 ⊢
      have hof := rof_any _ _ _ (hown.bytes.all0)
      have hx := (crc (padL l)).isLt
      have hfin : fourL (crc (padL l)).toNat ++ padL l = sealL l := rfl
      have HX := Lib.hid (And.intro hfin (And.intro hof hlen))
      clear hfin hof hs hp hown1
      unfold u32v at HX
      generalize crc (padL l) = C at *
      generalize C.toNat = cn at *
      have hr : ¬ ((padL l).length : Int) < 124 := by omega
      have HL := Lib.hid hlen
      generalize padL l = pl at *
      clear hlen hkk
      go_wp2_with fail
      refine HX.out.2.1.mono ?_
      rintro e w2 ⟨rfl, hb2⟩
      go_wp2_with fail
      refine (rfour_own _ _ (by omega)).mono ?_
      rintro e w3 ⟨v4, rfl, hown4, hb3⟩
      obtain ⟨b4, c4, rfl, _, _, _, _⟩ := id hown4.bytes
      have hpl := ((hown.bytes.all0).step hb2).step hb3
      have h4 : (fourL cn).length = 4 := rfl
      have HB := Lib.hid (And.intro (below_step (below_step hB hB.size hb2) (below_step hB hB.size hb2).size hb3) (below_step hB hB.size hb2).size)
      rw [h4] at *
      go_wp2_with (at_builtin; refine wpList_appB rfl _ _ 26 rfl w2.heap.size 5 Try.underlying26 info_u8 _ (fourL cn) rfl hown4 _ _ _ pl rfl hpl (by have := HL.out; simp [fourL]; omega) hb3.size ?_; intro u5 w5 hown5 hB5)
      go_ret
      rw [HX.out.1] at hown5
      have hm := hown5.made (hb3.trans hB5)
      exact ⟨_, rfl, (hown5.bytes.more HB.out.2 (Nat.le_refl _)), hm.thawed, HB.out.1.trans (hB5.mono HB.out.2)⟩

set_option maxHeartbeats 1000000 in
theorem ropen_any (v : Value) (l : List UInt8) (w : World) (hI : Bytes w 0 w.heap.size v l) :
    Calls Try.prog 110 #[v] w fun e w' => ∃ u, e = .returned (.tuple #[u, .int .i64 (openE l)]) ∧ MadeB w w' u (openL l) := by
  by_cases hl : l.length = 128
  · obtain ⟨b, off, c, rfl, g0, g1, g2, g3, g4⟩ := hI.at_ (by omega)
    clear g4
    rw [hl] at g2 hI ⊢
    unfold maxLen at g3
    have hcut := hI.cut 4 124 (c - 4) (by omega) (by omega) (by unfold maxLen; omega)
    rw [List.take_of_length_le (by simp; omega)] at hcut
    have hdl : (l.drop 4).length = 124 := by simp; omega
    have hget := rgetFour_any _ l 0 w hI
    have hE0 : getE l 0 4 = 0 := if_pos (by simp; omega)
    have hgl := getN_lt l 0 4
    rw [hE0] at hget
    have hof := rof_any _ _ _ hcut
    have hrel : opensL l = true ↔ (getN l 0 4 : Int) = ((crc (l.drop 4)).toNat : Int) := by simp only [opensL, beq_iff_eq]; omega
    unfold openL openE
    rw [if_pos hl]
    have hlt := (crc (l.drop 4)).isLt
    clear hE0 hI
    unfold u32v at hof
    generalize crc (l.drop 4) = C at *
    generalize C.toNat = cn at *
    generalize getN l 0 4 = gn at *
    generalize l.drop 4 = d at *
    have HH := Lib.hid (And.intro hcut hdl)
    clear hcut hdl
    by_cases ho : opensL l = true
    · rw [hrel] at ho
      rw [if_pos (hrel.2 ho), if_pos rfl]
      obtain rfl : gn = cn := by omega
      clear hrel ho
      go_enter Try.func110, Try.ntmps110
      go_wp2_with fail
      refine hget.mono ?_
      rintro e w1 ⟨rfl, rfl⟩
      go_wp2_with fail
      refine hof.mono ?_
      rintro e w2 ⟨rfl, hb2⟩
      go_wp2_with (at_builtin; refine wpList_appB rfl _ _ 26 rfl w.heap.size 5 Try.underlying26 info_u8 _ [] rfl (OwnB.nil_ _ _ _) _ _ _ d rfl (HH.out.1.step hb2) (by have := HH.out.2; simp; omega) hb2.size ?_; intro u5 w5 hown5 hB5)
      go_ret2
      exact ⟨_, rfl, hown5.made (hb2.trans hB5)⟩
    · have hne : ¬ ((gn : Int) = (cn : Int)) := fun h => ho (hrel.2 h)
      rw [if_neg ho, if_neg (by decide)]
      clear hrel ho
      go_enter Try.func110, Try.ntmps110
      go_wp2_with fail
      refine hget.mono ?_
      rintro e w1 ⟨rfl, rfl⟩
      go_wp2_with fail
      refine hof.mono ?_
      rintro e w2 ⟨rfl, hb2⟩
      go_wp2
      go_ret2
      exact ⟨_, rfl, MadeB.nil_ hb2⟩
  · have e1 : openE l = 3 := by simp [openE, hl]
    have e2 : openL l = [] := by simp [openL, e1]
    rw [e1, e2]
    obtain ⟨a, c, rfl, g1, g2, _, _⟩ := id hI
    clear hI e1 e2
    go_enter Try.func110, Try.ntmps110
    go_wp2
    go_ret2
    exact ⟨_, rfl, MadeB.nil_ (Below.refl _ _)⟩
end Go.Proofs.Ytkfgegdnpinbdaa

