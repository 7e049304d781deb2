/- FindDoes: the words and contracts, part 17. -/
import Derived.Test.YtcibihakjcenaaaFindDoesQ1
import Derived.Test.YtcibihakjcenaaaFindDoesQ2
import Derived.Test.YtcibihakjcenaaaFindDoesQ3
import Derived.Test.YtcibihakjcenaaaFindDoesQ4
import Derived.Test.YtcibihakjcenaaaFindDoesQ5
import Derived.Test.YtcibihakjcenaaaFindDoesQ6
import Derived.Test.YtcibihakjcenaaaFindDoesQ7
import Derived.Test.YtcibihakjcenaaaFindDoesQ9
import Derived.Test.YtcibihakjcenaaaFindDoesQ10
import Derived.Test.YtcibihakjcenaaaFindDoesQ11
import Derived.Test.YtcibihakjcenaaaFindDoesQ12
import Derived.Test.YtcibihakjcenaaaFindDoesQ13
import Derived.WalkKit
import Derived.WalkLawsBesides
import Derived.WalkSpells
import Derived.Lib.Hide
import Derived.Laws.Rows
import Derived.Laws.AppendOwnNone
import Derived.Maps.AppendAt
import Derived.ProofKit
import Derived.Deep.Slices
import Derived.WideShapes
import Derived.RangeFuncNested
import Derived.RangeFuncBound
import Derived.RangeFuncCalls
import Derived.RangeFuncLeaves
import Derived.RangeFuncBox
import Derived.Shelf.Abstract
import Derived.Shelf.RegionOpen
import Derived.OwnWalkIn
import Derived.TacticsInMore
import Derived.LoopNIn
import Derived.LoopIn
import Derived.Lib.AppendZerosOnto
import Derived.Lib.SliceRun
import Derived.Lib.Walk
import Derived.Deep.LoopGhost
import Derived.Laws.CopyOwn
import Derived.Laws.CopyRow
import Derived.OrdersHeld
import Derived.Deep.QuietTactic
import Derived.BigQuiet
import Derived.StillTailTactics
import Derived.OpenShut
import Derived.Deep.DeepCutAuto
import Derived.Laws.MakeOwn
import Derived.Deep.RegionHeld
import Derived.KernelRfl
import Derived.BigFrameIn
import Derived.OrdersIn
namespace Go.Proofs.Ytcibihakjcenaaa
open Go.RowKit

def zK : KeyL := ⟨0, 0, 0⟩
/-- A span. -/
def spn (r : Option (KeyL × KeyL)) : KeyL × KeyL × Bool := match r with
  | none => (zK, zK, false)
  | some ab => (ab.1, ab.2, true)
def spanV (t : KeyL × KeyL × Bool) : Value := .agg #[bV t.1.kind, wV t.1.id, wV t.1.off, bV t.2.1.kind, wV t.2.1.id, wV t.2.1.off, .bool t.2.2]
/-- What the walk stands on. -/
structure WalkAt (w : World) (gs gb gw lo g nb no nc : Nat) (b u y : Value) (x0 x1 x3 : Value) (ax : Option Addr) (cx : Nat) (s : StoreL) : Prop where
  sbox : w.heap[gs]? = some (.cells #[x0, x1, .slice ax 256 cx, x3] 46 (0, 0))
  snow : Bytes w 0 w.heap.size (.slice ax 256 cx) s.now
  bbox : w.heap[gb]? = some (.cells #[.pointer (some ⟨g, 0, none⟩)] 116 (0, 0))
  wbox : w.heap[gw]? = some (.cells #[.func (.func 74) #[] #[.pointer (some ⟨gs, 0, none⟩), .pointer (some ⟨gb, 0, none⟩), .pointer (some ⟨gw, 0, none⟩)]] 122 (0, 0))
  ben : BenAt w lo g nb no nc b u y s
  may : mayS s = true
theorem WalkAt.step {w w' : World} {gs gb gw lo g nb no nc : Nat} {b u y x0 x1 x3 : Value} {ax : Option Addr} {cx : Nat} {s : StoreL} (h : WalkAt w gs gb gw lo g nb no nc b u y x0 x1 x3 ax cx s) (hb : Below w.heap.size w w') : WalkAt w' gs gb gw lo g nb no nc b u y x0 x1 x3 ax cx s :=
  ⟨(hb.block _ (Array.getElem?_eq_some_iff.1 h.sbox).1).trans h.sbox, h.snow.step hb, (hb.block _ (Array.getElem?_eq_some_iff.1 h.bbox).1).trans h.bbox, (hb.block _ (Array.getElem?_eq_some_iff.1 h.wbox).1).trans h.wbox, h.ben.step hb, h.may⟩
/-- What the walk says of a node of a level. -/
def WalkC (L : Nat) : Prop := ∀ (gs gb gw lo g nb no nc : Nat) (b u y x0 x1 x3 : Value) (ax : Option Addr) (cx : Nat) (s : StoreL) (its : List ItemL) (v : Value) (w : World), WalkAt w gs gb gw lo g nb no nc b u y x0 x1 x3 ax cx s → Sl rItem w 0 w.heap.size v its → mayN ⟨L, its⟩ = true →
  Calls Try.prog 74 #[.agg #[.int .i64 (L : Int), v], .pointer (some ⟨gs, 0, none⟩), .pointer (some ⟨gb, 0, none⟩), .pointer (some ⟨gw, 0, none⟩)] w fun e w' => e = .returned (spanV (spn (wkGo (oneW s L) none its))) ∧ Below w.heap.size w w'
theorem below_seven {w W : World} {g n : Nat} (hn : n ≤ g) (h : Below n w W) (v0 v1 v2 v3 v4 v5 v6 : Value) : Below n w (((((((W.setCell ⟨g, 0, none⟩ v0).setCell ⟨g, 1, none⟩ v1).setCell ⟨g, 2, none⟩ v2).setCell ⟨g, 3, none⟩ v3).setCell ⟨g, 4, none⟩ v4).setCell ⟨g, 5, none⟩ v5).setCell ⟨g, 6, none⟩ v6) :=
  ((((((h.setCell (p := ⟨g, 0, none⟩) hn _).setCell (p := ⟨g, 1, none⟩) hn _).setCell (p := ⟨g, 2, none⟩) hn _).setCell (p := ⟨g, 3, none⟩) hn _).setCell (p := ⟨g, 4, none⟩) hn _).setCell (p := ⟨g, 5, none⟩) hn _).setCell (p := ⟨g, 6, none⟩) hn _
theorem wkGo_cons_none {f : ItemL → Option (KeyL × KeyL)} {acc : Option (KeyL × KeyL)} {x : ItemL} {l : List ItemL} (h : f x = none) : wkGo f acc (x :: l) = none := by rw [wkGo, h]
theorem wkGo_cons_bad {f : ItemL → Option (KeyL × KeyL)} {acc : Option (KeyL × KeyL)} {x : ItemL} {l : List ItemL} {ab : KeyL × KeyL} (h : f x = some ab) (hc : ¬ (ab.1 = x.key ∧ accOk acc ab.1 = true)) : wkGo f acc (x :: l) = none := by rw [wkGo, h]; exact if_neg hc
theorem wkGo_cons_ok {f : ItemL → Option (KeyL × KeyL)} {acc : Option (KeyL × KeyL)} {x : ItemL} {l : List ItemL} {ab : KeyL × KeyL} (h : f x = some ab) (hc : ab.1 = x.key ∧ accOk acc ab.1 = true) : wkGo f acc (x :: l) = wkGo f (some ((acc.getD ab).1, ab.2)) l := by rw [wkGo, h]; exact if_pos hc
theorem drop_get (l : List ItemL) (j : Nat) (h : j < l.length) : l.drop j = l.getD j nokI :: l.drop (j + 1) := by rw [List.drop_eq_getElem_cons h]; simp [h]

set_option maxRecDepth 100000 in
set_option maxHeartbeats 20000000 in
theorem fwalk_step (L : Nat) (ih : ∀ L', L = L' + 1 → WalkC L') : WalkC L := by
  intro gs gb gw lo g nb no nc b u y x0 x1 x3 ax cx s its v w hA hS hm
  obtain ⟨⟨m1, m2⟩, m3, m4, m5⟩ := mayN_all hm
  have hrf := may_refs hm
  simp only at m1 m2 m3 m4 hrf
  clear m5 hm
  have hmd := (mayS_iff.1 hA.may).1
  have hnl := mayT_len (mayS_iff.1 hA.may).2.1
  obtain ⟨R, hR⟩ : ∃ R, wkGo (oneW s L) none its = R := ⟨_, rfl⟩
  rw [hR]
  obtain ⟨av, cv, rfl, g1, g2, -, -⟩ := id hS
  unfold maxLen at g2
  obtain ⟨b3, o3, c3, e3, -, z3, -, z4, hc3⟩ := hA.snow.at_n hnl (by decide)
  injection e3 with e3 _ e4
  subst e3 e4
  unfold maxLen at z4
  have hst : Below w.heap.size w (((w.alloc (.cells #[.int .i64 (L : Int), .slice av its.length cv] 119)).alloc (.cells #[.int .u8 0, .int .u32 0, .int .u32 0, .int .u8 0, .int .u32 0, .int .u32 0, .bool false] 124)).alloc (.cells #[.int .u8 0, .int .u32 0, .int .u32 0, .int .u8 0, .int .u32 0, .int .u32 0, .bool false] 124)) := (((Below.refl w.heap.size w).alloc (Nat.le_refl _) (.cells #[.int .i64 (L : Int), .slice av its.length cv] 119)).alloc (by simp) (.cells #[.int .u8 0, .int .u32 0, .int .u32 0, .int .u8 0, .int .u32 0, .int .u32 0, .bool false] 124)).alloc (by simp; omega) (.cells #[.int .u8 0, .int .u32 0, .int .u32 0, .int .u8 0, .int .u32 0, .int .u32 0, .bool false] 124)
  obtain ⟨b1, b2, b3⟩ := three_new w (.cells #[.int .i64 (L : Int), .slice av its.length cv] 119) (.cells #[.int .u8 0, .int .u32 0, .int .u32 0, .int .u8 0, .int .u32 0, .int .u32 0, .bool false] 124) (.cells #[.int .u8 0, .int .u32 0, .int .u32 0, .int .u8 0, .int .u32 0, .int .u32 0, .bool false] 124)
  have q_n := LK.of b1
  have q_z := LK.of b2
  have q_o : LK (w.heap.size + 1 + 1) _ _ := LK.of b3
  have hB : LW w _ := hst
  have sz_V : w.heap.size + 1 + 1 < (((w.alloc (.cells #[.int .i64 (L : Int), .slice av its.length cv] 119)).alloc (.cells #[.int .u8 0, .int .u32 0, .int .u32 0, .int .u8 0, .int .u32 0, .int .u32 0, .bool false] 124)).alloc (.cells #[.int .u8 0, .int .u32 0, .int .u32 0, .int .u8 0, .int .u32 0, .int .u32 0, .bool false] 124)).heap.size := by simp
  obtain ⟨V, hV⟩ : ∃ V, (((w.alloc (.cells #[.int .i64 (L : Int), .slice av its.length cv] 119)).alloc (.cells #[.int .u8 0, .int .u32 0, .int .u32 0, .int .u8 0, .int .u32 0, .int .u32 0, .bool false] 124)).alloc (.cells #[.int .u8 0, .int .u32 0, .int .u32 0, .int .u8 0, .int .u32 0, .int .u32 0, .bool false] 124)) = V := ⟨_, rfl⟩
  rw [hV] at hB q_n q_z q_o sz_V
  have HA := Lib.hid (And.intro hA (And.intro hS (And.intro hR (And.intro hmd (And.intro hnl (And.intro hrf (And.intro ih hc3)))))))
  have m0 : (L : Int) < 6 := m2
  clear hst b1 b2 b3 hA hS hR hmd hnl hrf ih hc3 m1 m2 m4
  have HQ := Lib.hid (And.intro q_n (And.intro q_z (And.intro q_o hB)))
  clear q_n q_z q_o hB
  go_enter Try.func74, Try.ntmps74
  go_upto_region 2 with (fail)
  clear hV
  have c_q_n0 := LK.cell HQ.out.1 0
  have c_q_n1 := LK.cell HQ.out.1 1
  simp at c_q_n0 c_q_n1
  go_wp2_with fail
  go_loopw [15] (fun i wr => ∃ (j : Nat) (acc : Option (KeyL × KeyL)) (a0 b0 : KeyL) (c0 : Bool), j ≤ its.length ∧ i = .int .i64 j ∧ R = wkGo (oneW s L) acc (its.drop j) ∧ (j = 0 → acc = none) ∧ (0 < j → acc = some (a0, b0)) ∧ spn acc = (a0, b0, c0) ∧ wr.heap[w.heap.size + 1 + 1]? = some (.cells #[.int .u8 (a0.kind.toNat : Int), .int .u32 (a0.id.toNat : Int), .int .u32 (a0.off.toNat : Int), .int .u8 (b0.kind.toNat : Int), .int .u32 (b0.id.toNat : Int), .int .u32 (b0.off.toNat : Int), .bool c0] 124 (0, 0)) ∧ (∀ k, k < V.heap.size → k ≠ w.heap.size + 1 + 1 → wr.heap[k]? = V.heap[k]?) ∧ V.heap.size ≤ wr.heap.size ∧ Below w.heap.size w wr) (fun i _ => its.length - (intOf i).toNat)
  case atStart => exact ⟨0, none, zK, zK, false, Nat.zero_le _, rfl, HA.out.2.2.1.symm, fun _ => rfl, fun h => absurd h (Nat.lt_irrefl _), rfl, HQ.out.2.2.1.blk, fun _ _ _ => rfl, Nat.le_refl _, HQ.out.2.2.2⟩
  case round =>
  obtain ⟨j, acc, a0, b0, c0, hj, rfl, hRj, hac0, hac1, hsp, qo, hsame, hszr, hBr⟩ := hrel
  clear c_q_n0 c_q_n1
  obtain ⟨q_n, q_z, q_o, hB⟩ := HQ.out
  clear HQ
  replace q_n := q_n.out (n0 := w.heap.size + 1 + 1) (h0 := w.heap.size + 1 + 2) hszr (fun x h1 h2 => hsame x h1 (by omega)) (by omega)
  replace q_z := q_z.out (n0 := w.heap.size + 1 + 1) (h0 := w.heap.size + 1 + 2) hszr (fun x h1 h2 => hsame x h1 (by omega)) (by omega)
  clear q_o
  have q_o := LK.of qo
  clear qo
  replace hB : LW w wr := hBr
  have hZ : Lv 0 wr.heap.size (fun W => ∀ q, q < V.heap.size → q ≠ w.heap.size + 1 + 1 → W.heap[q]? = V.heap[q]?) wr := ⟨Nat.le_refl _, fun V9 h9 q hq hne => (h9 q (Nat.zero_le _) (Nat.lt_of_lt_of_le hq hszr)).trans (hsame q hq hne)⟩
  have HQ := Lib.hid (And.intro q_n (And.intro q_z (And.intro q_o (And.intro hZ hB))))
  clear q_n q_z q_o hZ hB
  have HJ := Lib.hid (And.intro hRj (And.intro hac0 (And.intro hac1 (And.intro hsp hsame))))
  clear hRj hac0 hac1 hsp hsame hBr
  by_cases hlt : j < its.length
  · obtain ⟨bb, bo, cb, e1, -, zb, -, zc, hcell⟩ := HA.out.2.1.at_ (by omega)
    injection e1 with e1 _ e2
    subst e1 e2
    obtain ⟨f0, f1, f2, f3, -, vx, f4, hvx⟩ := hcell j (its.getD j nokI) (get_l _ _ _ hlt)
    have hrx := HA.out.2.2.2.2.2.1 (its.getD j nokI) (List.mem_of_getElem? (get_l _ _ _ hlt))
    have hdr := drop_get its j hlt
    obtain ⟨x, hx⟩ : ∃ x, its.getD j nokI = x := ⟨_, rfl⟩
    rw [hx] at f0 f1 f2 f3 hvx hrx hdr
    obtain ⟨xn, hxn⟩ : ∃ xn, x.val.length = xn := ⟨_, rfl⟩
    obtain ⟨a_x, c_x, rfl, -, -⟩ := hvx.form hxn
    obtain ⟨xr, hxr⟩ : ∃ xr : Nat, x.ref = xr := ⟨x.ref.toNat, by omega⟩
    rw [hxr] at f3 hrx
    have hp : xr < 256 := by omega
    simp only [bV, wV, Nat.add_zero] at f0 f1 f2 f3 f4
    have hn5 : rItem.n = 5 := rfl
    rw [hn5] at f0 f1 f2 f3 f4
    unfold maxLen at zc
    have hone : wkGo (oneW s L) acc (its.drop j) = wkGo (oneW s L) acc (x :: its.drop (j + 1)) := by rw [hdr]
    have HX := Lib.hid (And.intro hone (And.intro hxr hdr))
    replace f0 := (Below.cell HQ.out.2.2.2.2 (p := ⟨bb, bo + j * 5, none⟩) zb).trans f0
    replace f1 := (Below.cell HQ.out.2.2.2.2 (p := ⟨bb, bo + j * 5 + 1, none⟩) zb).trans f1
    replace f2 := (Below.cell HQ.out.2.2.2.2 (p := ⟨bb, bo + j * 5 + 2, none⟩) zb).trans f2
    replace f3 := (Below.cell HQ.out.2.2.2.2 (p := ⟨bb, bo + j * 5 + 3, none⟩) zb).trans f3
    replace f4 := (Below.cell HQ.out.2.2.2.2 (p := ⟨bb, bo + j * 5 + 4, none⟩) zb).trans f4
    clear hcell hvx hx hxn hn5 hxr hdr hrx hone
    have i1 : (j : Int) < its.length := by omega
    go_upto_region 5 with (fail)
    obtain ⟨q_n, q_z, q_o, hZ, hB⟩ := HQ.out
    clear HQ
    have hst := (Below.refl wr.heap.size wr).alloc (Nat.le_refl _) (.cells #[.int .u8 (x.key.kind.toNat : Int), .int .u32 (x.key.id.toNat : Int), .int .u32 (x.key.off.toNat : Int), .int .i64 xr, .slice a_x xn c_x] 56)
    have hlt : wr.heap.size < (wr.alloc (.cells #[.int .u8 (x.key.kind.toNat : Int), .int .u32 (x.key.id.toNat : Int), .int .u32 (x.key.off.toNat : Int), .int .i64 xr, .slice a_x xn c_x] 56)).heap.size := by simp
    have q_x := LK.new wr (.cells #[.int .u8 (x.key.kind.toNat : Int), .int .u32 (x.key.id.toNat : Int), .int .u32 (x.key.off.toNat : Int), .int .i64 xr, .slice a_x xn c_x] 56)
    replace q_n := q_n.step hst
    replace q_z := q_z.step hst
    replace q_o := q_o.step hst
    replace hZ := hZ.step hst
    replace hB := hB.step hst
    obtain ⟨w1, hw⟩ : ∃ v, wr.alloc (.cells #[.int .u8 (x.key.kind.toNat : Int), .int .u32 (x.key.id.toNat : Int), .int .u32 (x.key.off.toNat : Int), .int .i64 xr, .slice a_x xn c_x] 56) = v := ⟨_, rfl⟩
    rw [hw] at hlt q_x q_n q_z q_o hZ hB ⊢
    clear hw hst
    have sz_w1 := hlt
    clear hlt
    have HQ := Lib.hid (And.intro q_n (And.intro q_z (And.intro q_o (And.intro hZ (And.intro q_x hB)))))
    clear q_n q_z q_o hZ q_x hB
    have c_q_n0 := LK.cell HQ.out.1 0
    have c_q_n1 := LK.cell HQ.out.1 1
    have c_q_x0 := LK.cell HQ.out.2.2.2.2.1 0
    have c_q_x1 := LK.cell HQ.out.2.2.2.2.1 1
    have c_q_x2 := LK.cell HQ.out.2.2.2.2.1 2
    have c_q_x3 := LK.cell HQ.out.2.2.2.2.1 3
    have c_q_x4 := LK.cell HQ.out.2.2.2.2.1 4
    simp at c_q_n0 c_q_n1 c_q_x0 c_q_x1 c_q_x2 c_q_x3 c_q_x4
    clear f0 f1 f2 f3 f4
    obtain ⟨nw, hnw⟩ : ∃ z, s.now.getD xr 0 = z := ⟨_, rfl⟩
    obtain ⟨rb, hrb⟩ : ∃ z, decide (xr = 0 ∨ nw ≠ 0) = z := ⟨_, rfl⟩
    have HRB := Lib.hid (And.intro hrb hnw)
    clear hrb hnw
    go_cut [9] (fun t wx => ∃ g1 : Nat, t = .pointer (some ⟨g1, 0, none⟩) ∧ LK g1 (.cells #[.int .u8 (x.key.kind.toNat : Int), .int .u32 (x.key.id.toNat : Int), .int .u32 (x.key.off.toNat : Int), .int .u8 (x.key.kind.toNat : Int), .int .u32 (x.key.id.toNat : Int), .int .u32 (x.key.off.toNat : Int), .bool rb] 124) wx ∧ w1.heap.size ≤ g1 ∧ Below w1.heap.size w1 wx)
    case first =>
      clear c_q_n0 c_q_n1 c_q_x0 c_q_x1 c_q_x2 c_q_x3 c_q_x4
      have hA1 := HA.out.1.step HQ.out.2.2.2.2.2
      have hs1 := LK.of hA1.sbox
      have hl3 : xr < s.now.length := by rw [HA.out.2.2.2.2.1]; exact hp
      have f5 := (Below.cell HQ.out.2.2.2.2.2 (p := ⟨b3, o3 + xr, none⟩) z3).trans (HA.out.2.2.2.2.2.2.2 xr (s.now.getD xr 0) (by simp [hl3]))
      have x_s2 := fun X => LK.cell (hs1.step (aft_below w1 X)) 2
      simp at x_s2
      have x_x0 := fun X => LK.cell (HQ.out.2.2.2.2.1.step (aft_below w1 X)) 0
      have x_x1 := fun X => LK.cell (HQ.out.2.2.2.2.1.step (aft_below w1 X)) 1
      have x_x2 := fun X => LK.cell (HQ.out.2.2.2.2.1.step (aft_below w1 X)) 2
      have x_x3 := fun X => LK.cell (HQ.out.2.2.2.2.1.step (aft_below w1 X)) 3
      have x_x4 := fun X => LK.cell (HQ.out.2.2.2.2.1.step (aft_below w1 X)) 4
      simp at x_x0 x_x1 x_x2 x_x3 x_x4
      have z3c := Nat.lt_of_lt_of_le z3 (Below.size HQ.out.2.2.2.2.2)
      have x_w := fun X => ((aft_below w1 X).cell (p := ⟨b3, o3 + xr, none⟩) z3c).trans f5
      simp only [bV] at x_w
      clear hA1 f5 hs1 hl3
      rw [HRB.out.2] at x_w
      have i9 : (xr : Int) < 256 := by omega
      by_cases hz : xr = 0
      · subst hz
        have hd : rb = true := by rw [← HRB.out.1]; simp
        subst hd
        refine wp_region_held_drew (S := Cls w1) (by kernel_rfl) (Cls.drew w1) (fun hCl => ?_)
        refine wpAnyH_seg (fuel := 3) (by kernel_rfl) (fun _ d _ _ _ h => by cases d <;> exact h) hCl [0, 1, 2, 3, 4, 5, 6, 7, 8, 9, 10, 11, 12, 13, 14, 15] _ _ _ (by kernel_rfl) (by kernel_rfl) ?_
        simp only [opsOf_cons, opsOf_nil, consOp_some, List.getElem?_toArray, List.getElem?_cons_succ, List.getElem?_cons_zero]
        repeat (first | go_big_quiet_step (fail) | quiet_step (fail))
        refine wpQuiet_nil ?_
        refine wpAnyH_each (fuel := 2) [16, 17] (by kernel_rfl) (by simp) (by kernel_rfl) ?_
        refine Each.cons _ rfl (fun K' hK => ?_) ?_
        · go_simp
          have hst := hCl.below
          have hCl := Cls.of hst
          refine hK.out (Cls w1) (fun _ h => h) hCl ?_
          clear hK K'
          refine wpAnyH_each (fuel := 1) [17] (by kernel_rfl) (by simp) (by kernel_rfl) ?_
          refine Each.cons _ rfl (fun K' hK => ?_) Each.nil
          go_simp
          have hs := cls_alloc hCl (.cells #[.int .u8 0, .int .u32 0, .int .u32 0, .int .u8 0, .int .u32 0, .int .u32 0, .bool false] 124)
          have F9 : LK w1.heap.size (.cells #[.int .u8 0, .int .u32 0, .int .u32 0, .int .u8 0, .int .u32 0, .int .u32 0, .bool false] 124) _ := cls_new hCl (.cells #[.int .u8 0, .int .u32 0, .int .u32 0, .int .u8 0, .int .u32 0, .int .u32 0, .bool false] 124)
          have hlt : w1.drew.heap.size < (w1.drew.alloc (.cells #[.int .u8 0, .int .u32 0, .int .u32 0, .int .u8 0, .int .u32 0, .int .u32 0, .bool false] 124)).heap.size := by simp
          have hst := below_step hCl.below hCl.below.size hs
          have lo_F9 := hCl.below.size
          obtain ⟨z2, hz⟩ : ∃ v, (w1.alloc (.cells #[.int .u8 0, .int .u32 0, .int .u32 0, .int .u8 0, .int .u32 0, .int .u32 0, .bool false] 124)).drew = v := ⟨_, rfl⟩
          have hz2 : w1.drew.alloc (.cells #[.int .u8 0, .int .u32 0, .int .u32 0, .int .u8 0, .int .u32 0, .int .u32 0, .bool false] 124) = z2 := hz
          rw [hz] at ⊢
          rw [hz2] at hst hlt F9
          have sz_z2 := hlt
          clear hz hz2 hs hlt
          have hCl := Cls.of hst
          refine hK.out (Cls w1) (fun _ h => h) hCl ?_
          clear hK K'
          refine wpAnyH_each (fuel := 0) [18] (by kernel_rfl) (by simp) (by kernel_rfl) ?_
          refine Each.cons _ rfl (fun K' hK => ?_) Each.nil
          have hcb := LK.blk F9
          have r0 := LK.cell F9 0
          have r1 := LK.cell F9 1
          have r2 := LK.cell F9 2
          have r3 := LK.cell F9 3
          have r4 := LK.cell F9 4
          have r5 := LK.cell F9 5
          have r6 := LK.cell F9 6
          simp at r0 r1 r2 r3 r4 r5 r6
          have s0 := LK.frozen F9 0
          have s1 := LK.frozen F9 1
          have s2 := LK.frozen F9 2
          have s3 := LK.frozen F9 3
          have s4 := LK.frozen F9 4
          have s5 := LK.frozen F9 5
          have s6 := LK.frozen F9 6
          go_simp
          have F8 : LK (w1.heap.size) (.cells #[.int .u8 (x.key.kind.toNat : Int), .int .u32 (x.key.id.toNat : Int), .int .u32 (x.key.off.toNat : Int), .int .u8 (x.key.kind.toNat : Int), .int .u32 (x.key.id.toNat : Int), .int .u32 (x.key.off.toNat : Int), .bool true] 124) (((((((z2.setCell ⟨w1.heap.size, 0, none⟩ (.int .u8 (x.key.kind.toNat : Int))).setCell ⟨w1.heap.size, 1, none⟩ (.int .u32 (x.key.id.toNat : Int))).setCell ⟨w1.heap.size, 2, none⟩ (.int .u32 (x.key.off.toNat : Int))).setCell ⟨w1.heap.size, 3, none⟩ (.int .u8 (x.key.kind.toNat : Int))).setCell ⟨w1.heap.size, 4, none⟩ (.int .u32 (x.key.id.toNat : Int))).setCell ⟨w1.heap.size, 5, none⟩ (.int .u32 (x.key.off.toNat : Int))).setCell ⟨w1.heap.size, 6, none⟩ (.bool true)) := LK.of (set_block (set_block (set_block (set_block (set_block (set_block (set_block hcb 0 _) 1 _) 2 _) 3 _) 4 _) 5 _) 6 _)
          have hst := below_seven lo_F9 hCl.below (.int .u8 (x.key.kind.toNat : Int)) (.int .u32 (x.key.id.toNat : Int)) (.int .u32 (x.key.off.toNat : Int)) (.int .u8 (x.key.kind.toNat : Int)) (.int .u32 (x.key.id.toNat : Int)) (.int .u32 (x.key.off.toNat : Int)) (.bool true)
          have hCl := Cls.of hst
          refine hK.out (Cls w1) (fun _ h => h) hCl ?_
          clear hK K'
          refine wpAnyH_done (by kernel_rfl) ?_ _
          go_wp2
          go_meet
          refine ⟨_, rfl, ?_, lo_F9, hst⟩
          exact F8
        refine Each.cons _ rfl (fun K' hK => ?_) ?_
        · go_simp
          have hs := cls_alloc hCl (.cells #[.int .u8 0, .int .u32 0, .int .u32 0, .int .u8 0, .int .u32 0, .int .u32 0, .bool false] 124)
          have F9 : LK w1.heap.size (.cells #[.int .u8 0, .int .u32 0, .int .u32 0, .int .u8 0, .int .u32 0, .int .u32 0, .bool false] 124) _ := cls_new hCl (.cells #[.int .u8 0, .int .u32 0, .int .u32 0, .int .u8 0, .int .u32 0, .int .u32 0, .bool false] 124)
          have hlt : w1.drew.heap.size < (w1.drew.alloc (.cells #[.int .u8 0, .int .u32 0, .int .u32 0, .int .u8 0, .int .u32 0, .int .u32 0, .bool false] 124)).heap.size := by simp
          have hst := below_step hCl.below hCl.below.size hs
          have lo_F9 := hCl.below.size
          obtain ⟨z4, hz⟩ : ∃ v, (w1.alloc (.cells #[.int .u8 0, .int .u32 0, .int .u32 0, .int .u8 0, .int .u32 0, .int .u32 0, .bool false] 124)).drew = v := ⟨_, rfl⟩
          have hz2 : w1.drew.alloc (.cells #[.int .u8 0, .int .u32 0, .int .u32 0, .int .u8 0, .int .u32 0, .int .u32 0, .bool false] 124) = z4 := hz
          rw [hz] at ⊢
          rw [hz2] at hst hlt F9
          have sz_z4 := hlt
          clear hz hz2 hs hlt
          have hCl := Cls.of hst
          refine hK.out (Cls w1) (fun _ h => h) hCl ?_
          clear hK K'
          refine wpAnyH_each (fuel := 1) [16] (by kernel_rfl) (by simp) (by kernel_rfl) ?_
          refine Each.cons _ rfl (fun K' hK => ?_) Each.nil
          go_simp
          have hst := hCl.below
          have hCl := Cls.of hst
          refine hK.out (Cls w1) (fun _ h => h) hCl ?_
          clear hK K'
          refine wpAnyH_each (fuel := 0) [18] (by kernel_rfl) (by simp) (by kernel_rfl) ?_
          refine Each.cons _ rfl (fun K' hK => ?_) Each.nil
          have hcb := LK.blk F9
          have r0 := LK.cell F9 0
          have r1 := LK.cell F9 1
          have r2 := LK.cell F9 2
          have r3 := LK.cell F9 3
          have r4 := LK.cell F9 4
          have r5 := LK.cell F9 5
          have r6 := LK.cell F9 6
          simp at r0 r1 r2 r3 r4 r5 r6
          have s0 := LK.frozen F9 0
          have s1 := LK.frozen F9 1
          have s2 := LK.frozen F9 2
          have s3 := LK.frozen F9 3
          have s4 := LK.frozen F9 4
          have s5 := LK.frozen F9 5
          have s6 := LK.frozen F9 6
          go_simp
          have F8 : LK (w1.heap.size) (.cells #[.int .u8 (x.key.kind.toNat : Int), .int .u32 (x.key.id.toNat : Int), .int .u32 (x.key.off.toNat : Int), .int .u8 (x.key.kind.toNat : Int), .int .u32 (x.key.id.toNat : Int), .int .u32 (x.key.off.toNat : Int), .bool true] 124) (((((((z4.setCell ⟨w1.heap.size, 0, none⟩ (.int .u8 (x.key.kind.toNat : Int))).setCell ⟨w1.heap.size, 1, none⟩ (.int .u32 (x.key.id.toNat : Int))).setCell ⟨w1.heap.size, 2, none⟩ (.int .u32 (x.key.off.toNat : Int))).setCell ⟨w1.heap.size, 3, none⟩ (.int .u8 (x.key.kind.toNat : Int))).setCell ⟨w1.heap.size, 4, none⟩ (.int .u32 (x.key.id.toNat : Int))).setCell ⟨w1.heap.size, 5, none⟩ (.int .u32 (x.key.off.toNat : Int))).setCell ⟨w1.heap.size, 6, none⟩ (.bool true)) := LK.of (set_block (set_block (set_block (set_block (set_block (set_block (set_block hcb 0 _) 1 _) 2 _) 3 _) 4 _) 5 _) 6 _)
          have hst := below_seven lo_F9 hCl.below (.int .u8 (x.key.kind.toNat : Int)) (.int .u32 (x.key.id.toNat : Int)) (.int .u32 (x.key.off.toNat : Int)) (.int .u8 (x.key.kind.toNat : Int)) (.int .u32 (x.key.id.toNat : Int)) (.int .u32 (x.key.off.toNat : Int)) (.bool true)
          have hCl := Cls.of hst
          refine hK.out (Cls w1) (fun _ h => h) hCl ?_
          clear hK K'
          refine wpAnyH_done (by kernel_rfl) ?_ _
          go_wp2
          go_meet
          refine ⟨_, rfl, ?_, lo_F9, hst⟩
          exact F8
        exact Each.nil
      have hzi : ((xr : Int) == 0) = false := by simp; omega
      by_cases hn : nw = 0
      · subst hn
        have hd : rb = false := by rw [← HRB.out.1]; simp [hz]
        subst hd
        refine wp_region_held_drew (S := Cls w1) (by kernel_rfl) (Cls.drew w1) (fun hCl => ?_)
        refine wpAnyH_seg (fuel := 3) (by kernel_rfl) (fun _ d _ _ _ h => by cases d <;> exact h) hCl [0, 1, 2, 3, 4, 5, 6, 7, 8, 9, 10, 11, 12, 13, 14, 15] _ _ _ (by kernel_rfl) (by kernel_rfl) ?_
        simp only [opsOf_cons, opsOf_nil, consOp_some, List.getElem?_toArray, List.getElem?_cons_succ, List.getElem?_cons_zero]
        repeat (first | go_big_quiet_step (fail) | quiet_step (fail))
        refine wpQuiet_nil ?_
        refine wpAnyH_each (fuel := 2) [16, 17] (by kernel_rfl) (by simp) (by kernel_rfl) ?_
        refine Each.cons _ rfl (fun K' hK => ?_) ?_
        · go_simp
          have hst := hCl.below
          have hCl := Cls.of hst
          refine hK.out (Cls w1) (fun _ h => h) hCl ?_
          clear hK K'
          refine wpAnyH_each (fuel := 1) [17] (by kernel_rfl) (by simp) (by kernel_rfl) ?_
          refine Each.cons _ rfl (fun K' hK => ?_) Each.nil
          go_simp
          have hs := cls_alloc hCl (.cells #[.int .u8 0, .int .u32 0, .int .u32 0, .int .u8 0, .int .u32 0, .int .u32 0, .bool false] 124)
          have F9 : LK w1.heap.size (.cells #[.int .u8 0, .int .u32 0, .int .u32 0, .int .u8 0, .int .u32 0, .int .u32 0, .bool false] 124) _ := cls_new hCl (.cells #[.int .u8 0, .int .u32 0, .int .u32 0, .int .u8 0, .int .u32 0, .int .u32 0, .bool false] 124)
          have hlt : w1.drew.heap.size < (w1.drew.alloc (.cells #[.int .u8 0, .int .u32 0, .int .u32 0, .int .u8 0, .int .u32 0, .int .u32 0, .bool false] 124)).heap.size := by simp
          have hst := below_step hCl.below hCl.below.size hs
          have lo_F9 := hCl.below.size
          obtain ⟨z2, hz⟩ : ∃ v, (w1.alloc (.cells #[.int .u8 0, .int .u32 0, .int .u32 0, .int .u8 0, .int .u32 0, .int .u32 0, .bool false] 124)).drew = v := ⟨_, rfl⟩
          have hz2 : w1.drew.alloc (.cells #[.int .u8 0, .int .u32 0, .int .u32 0, .int .u8 0, .int .u32 0, .int .u32 0, .bool false] 124) = z2 := hz
          rw [hz] at ⊢
          rw [hz2] at hst hlt F9
          have sz_z2 := hlt
          clear hz hz2 hs hlt
          have hCl := Cls.of hst
          refine hK.out (Cls w1) (fun _ h => h) hCl ?_
          clear hK K'
          refine wpAnyH_each (fuel := 0) [18] (by kernel_rfl) (by simp) (by kernel_rfl) ?_
          refine Each.cons _ rfl (fun K' hK => ?_) Each.nil
          have hcb := LK.blk F9
          have r0 := LK.cell F9 0
          have r1 := LK.cell F9 1
          have r2 := LK.cell F9 2
          have r3 := LK.cell F9 3
          have r4 := LK.cell F9 4
          have r5 := LK.cell F9 5
          have r6 := LK.cell F9 6
          simp at r0 r1 r2 r3 r4 r5 r6
          have s0 := LK.frozen F9 0
          have s1 := LK.frozen F9 1
          have s2 := LK.frozen F9 2
          have s3 := LK.frozen F9 3
          have s4 := LK.frozen F9 4
          have s5 := LK.frozen F9 5
          have s6 := LK.frozen F9 6
          go_simp
          have F8 : LK (w1.heap.size) (.cells #[.int .u8 (x.key.kind.toNat : Int), .int .u32 (x.key.id.toNat : Int), .int .u32 (x.key.off.toNat : Int), .int .u8 (x.key.kind.toNat : Int), .int .u32 (x.key.id.toNat : Int), .int .u32 (x.key.off.toNat : Int), .bool false] 124) (((((((z2.setCell ⟨w1.heap.size, 0, none⟩ (.int .u8 (x.key.kind.toNat : Int))).setCell ⟨w1.heap.size, 1, none⟩ (.int .u32 (x.key.id.toNat : Int))).setCell ⟨w1.heap.size, 2, none⟩ (.int .u32 (x.key.off.toNat : Int))).setCell ⟨w1.heap.size, 3, none⟩ (.int .u8 (x.key.kind.toNat : Int))).setCell ⟨w1.heap.size, 4, none⟩ (.int .u32 (x.key.id.toNat : Int))).setCell ⟨w1.heap.size, 5, none⟩ (.int .u32 (x.key.off.toNat : Int))).setCell ⟨w1.heap.size, 6, none⟩ (.bool false)) := LK.of (set_block (set_block (set_block (set_block (set_block (set_block (set_block hcb 0 _) 1 _) 2 _) 3 _) 4 _) 5 _) 6 _)
          have hst := below_seven lo_F9 hCl.below (.int .u8 (x.key.kind.toNat : Int)) (.int .u32 (x.key.id.toNat : Int)) (.int .u32 (x.key.off.toNat : Int)) (.int .u8 (x.key.kind.toNat : Int)) (.int .u32 (x.key.id.toNat : Int)) (.int .u32 (x.key.off.toNat : Int)) (.bool false)
          have hCl := Cls.of hst
          refine hK.out (Cls w1) (fun _ h => h) hCl ?_
          clear hK K'
          refine wpAnyH_done (by kernel_rfl) ?_ _
          go_wp2
          go_meet
          refine ⟨_, rfl, ?_, lo_F9, hst⟩
          exact F8
        refine Each.cons _ rfl (fun K' hK => ?_) ?_
        · go_simp
          have hs := cls_alloc hCl (.cells #[.int .u8 0, .int .u32 0, .int .u32 0, .int .u8 0, .int .u32 0, .int .u32 0, .bool false] 124)
          have F9 : LK w1.heap.size (.cells #[.int .u8 0, .int .u32 0, .int .u32 0, .int .u8 0, .int .u32 0, .int .u32 0, .bool false] 124) _ := cls_new hCl (.cells #[.int .u8 0, .int .u32 0, .int .u32 0, .int .u8 0, .int .u32 0, .int .u32 0, .bool false] 124)
          have hlt : w1.drew.heap.size < (w1.drew.alloc (.cells #[.int .u8 0, .int .u32 0, .int .u32 0, .int .u8 0, .int .u32 0, .int .u32 0, .bool false] 124)).heap.size := by simp
          have hst := below_step hCl.below hCl.below.size hs
          have lo_F9 := hCl.below.size
          obtain ⟨z4, hz⟩ : ∃ v, (w1.alloc (.cells #[.int .u8 0, .int .u32 0, .int .u32 0, .int .u8 0, .int .u32 0, .int .u32 0, .bool false] 124)).drew = v := ⟨_, rfl⟩
          have hz2 : w1.drew.alloc (.cells #[.int .u8 0, .int .u32 0, .int .u32 0, .int .u8 0, .int .u32 0, .int .u32 0, .bool false] 124) = z4 := hz
          rw [hz] at ⊢
          rw [hz2] at hst hlt F9
          have sz_z4 := hlt
          clear hz hz2 hs hlt
          have hCl := Cls.of hst
          refine hK.out (Cls w1) (fun _ h => h) hCl ?_
          clear hK K'
          refine wpAnyH_each (fuel := 1) [16] (by kernel_rfl) (by simp) (by kernel_rfl) ?_
          refine Each.cons _ rfl (fun K' hK => ?_) Each.nil
          go_simp
          have hst := hCl.below
          have hCl := Cls.of hst
          refine hK.out (Cls w1) (fun _ h => h) hCl ?_
          clear hK K'
          refine wpAnyH_each (fuel := 0) [18] (by kernel_rfl) (by simp) (by kernel_rfl) ?_
          refine Each.cons _ rfl (fun K' hK => ?_) Each.nil
          have hcb := LK.blk F9
          have r0 := LK.cell F9 0
          have r1 := LK.cell F9 1
          have r2 := LK.cell F9 2
          have r3 := LK.cell F9 3
          have r4 := LK.cell F9 4
          have r5 := LK.cell F9 5
          have r6 := LK.cell F9 6
          simp at r0 r1 r2 r3 r4 r5 r6
          have s0 := LK.frozen F9 0
          have s1 := LK.frozen F9 1
          have s2 := LK.frozen F9 2
          have s3 := LK.frozen F9 3
          have s4 := LK.frozen F9 4
          have s5 := LK.frozen F9 5
          have s6 := LK.frozen F9 6
          go_simp
          have F8 : LK (w1.heap.size) (.cells #[.int .u8 (x.key.kind.toNat : Int), .int .u32 (x.key.id.toNat : Int), .int .u32 (x.key.off.toNat : Int), .int .u8 (x.key.kind.toNat : Int), .int .u32 (x.key.id.toNat : Int), .int .u32 (x.key.off.toNat : Int), .bool false] 124) (((((((z4.setCell ⟨w1.heap.size, 0, none⟩ (.int .u8 (x.key.kind.toNat : Int))).setCell ⟨w1.heap.size, 1, none⟩ (.int .u32 (x.key.id.toNat : Int))).setCell ⟨w1.heap.size, 2, none⟩ (.int .u32 (x.key.off.toNat : Int))).setCell ⟨w1.heap.size, 3, none⟩ (.int .u8 (x.key.kind.toNat : Int))).setCell ⟨w1.heap.size, 4, none⟩ (.int .u32 (x.key.id.toNat : Int))).setCell ⟨w1.heap.size, 5, none⟩ (.int .u32 (x.key.off.toNat : Int))).setCell ⟨w1.heap.size, 6, none⟩ (.bool false)) := LK.of (set_block (set_block (set_block (set_block (set_block (set_block (set_block hcb 0 _) 1 _) 2 _) 3 _) 4 _) 5 _) 6 _)
          have hst := below_seven lo_F9 hCl.below (.int .u8 (x.key.kind.toNat : Int)) (.int .u32 (x.key.id.toNat : Int)) (.int .u32 (x.key.off.toNat : Int)) (.int .u8 (x.key.kind.toNat : Int)) (.int .u32 (x.key.id.toNat : Int)) (.int .u32 (x.key.off.toNat : Int)) (.bool false)
          have hCl := Cls.of hst
          refine hK.out (Cls w1) (fun _ h => h) hCl ?_
          clear hK K'
          refine wpAnyH_done (by kernel_rfl) ?_ _
          go_wp2
          go_meet
          refine ⟨_, rfl, ?_, lo_F9, hst⟩
          exact F8
        exact Each.nil
      have hni : (0 : Int) < nw.toNat := by
        rcases Nat.eq_zero_or_pos nw.toNat with h | h
        · exact absurd (UInt8.toNat_inj.1 (by rw [h]; rfl)) hn
        · omega
      have hnn : 0 < nw.toNat := by omega
      have hd : rb = true := by rw [← HRB.out.1]; simp [hn]
      subst hd
      refine wp_region_held_drew (S := Cls w1) (by kernel_rfl) (Cls.drew w1) (fun hCl => ?_)
      refine wpAnyH_seg (fuel := 3) (by kernel_rfl) (fun _ d _ _ _ h => by cases d <;> exact h) hCl [0, 1, 2, 3, 4, 5, 6, 7, 8, 9, 10, 11, 12, 13, 14, 15] _ _ _ (by kernel_rfl) (by kernel_rfl) ?_
      simp only [opsOf_cons, opsOf_nil, consOp_some, List.getElem?_toArray, List.getElem?_cons_succ, List.getElem?_cons_zero]
      repeat (first | go_big_quiet_step (fail) | quiet_step (fail))
      refine wpQuiet_nil ?_
      refine wpAnyH_each (fuel := 2) [16, 17] (by kernel_rfl) (by simp) (by kernel_rfl) ?_
      refine Each.cons _ rfl (fun K' hK => ?_) ?_
      · go_simp
        have hst := hCl.below
        have hCl := Cls.of hst
        refine hK.out (Cls w1) (fun _ h => h) hCl ?_
        clear hK K'
        refine wpAnyH_each (fuel := 1) [17] (by kernel_rfl) (by simp) (by kernel_rfl) ?_
        refine Each.cons _ rfl (fun K' hK => ?_) Each.nil
        go_simp
        have hs := cls_alloc hCl (.cells #[.int .u8 0, .int .u32 0, .int .u32 0, .int .u8 0, .int .u32 0, .int .u32 0, .bool false] 124)
        have F9 : LK w1.heap.size (.cells #[.int .u8 0, .int .u32 0, .int .u32 0, .int .u8 0, .int .u32 0, .int .u32 0, .bool false] 124) _ := cls_new hCl (.cells #[.int .u8 0, .int .u32 0, .int .u32 0, .int .u8 0, .int .u32 0, .int .u32 0, .bool false] 124)
        have hlt : w1.drew.heap.size < (w1.drew.alloc (.cells #[.int .u8 0, .int .u32 0, .int .u32 0, .int .u8 0, .int .u32 0, .int .u32 0, .bool false] 124)).heap.size := by simp
        have hst := below_step hCl.below hCl.below.size hs
        have lo_F9 := hCl.below.size
        obtain ⟨z2, hz⟩ : ∃ v, (w1.alloc (.cells #[.int .u8 0, .int .u32 0, .int .u32 0, .int .u8 0, .int .u32 0, .int .u32 0, .bool false] 124)).drew = v := ⟨_, rfl⟩
        have hz2 : w1.drew.alloc (.cells #[.int .u8 0, .int .u32 0, .int .u32 0, .int .u8 0, .int .u32 0, .int .u32 0, .bool false] 124) = z2 := hz
        rw [hz] at ⊢
        rw [hz2] at hst hlt F9
        have sz_z2 := hlt
        clear hz hz2 hs hlt
        have hCl := Cls.of hst
        refine hK.out (Cls w1) (fun _ h => h) hCl ?_
        clear hK K'
        refine wpAnyH_each (fuel := 0) [18] (by kernel_rfl) (by simp) (by kernel_rfl) ?_
        refine Each.cons _ rfl (fun K' hK => ?_) Each.nil
        have hcb := LK.blk F9
        have r0 := LK.cell F9 0
        have r1 := LK.cell F9 1
        have r2 := LK.cell F9 2
        have r3 := LK.cell F9 3
        have r4 := LK.cell F9 4
        have r5 := LK.cell F9 5
        have r6 := LK.cell F9 6
        simp at r0 r1 r2 r3 r4 r5 r6
        have s0 := LK.frozen F9 0
        have s1 := LK.frozen F9 1
        have s2 := LK.frozen F9 2
        have s3 := LK.frozen F9 3
        have s4 := LK.frozen F9 4
        have s5 := LK.frozen F9 5
        have s6 := LK.frozen F9 6
        go_simp
        have F8 : LK (w1.heap.size) (.cells #[.int .u8 (x.key.kind.toNat : Int), .int .u32 (x.key.id.toNat : Int), .int .u32 (x.key.off.toNat : Int), .int .u8 (x.key.kind.toNat : Int), .int .u32 (x.key.id.toNat : Int), .int .u32 (x.key.off.toNat : Int), .bool true] 124) (((((((z2.setCell ⟨w1.heap.size, 0, none⟩ (.int .u8 (x.key.kind.toNat : Int))).setCell ⟨w1.heap.size, 1, none⟩ (.int .u32 (x.key.id.toNat : Int))).setCell ⟨w1.heap.size, 2, none⟩ (.int .u32 (x.key.off.toNat : Int))).setCell ⟨w1.heap.size, 3, none⟩ (.int .u8 (x.key.kind.toNat : Int))).setCell ⟨w1.heap.size, 4, none⟩ (.int .u32 (x.key.id.toNat : Int))).setCell ⟨w1.heap.size, 5, none⟩ (.int .u32 (x.key.off.toNat : Int))).setCell ⟨w1.heap.size, 6, none⟩ (.bool true)) := LK.of (set_block (set_block (set_block (set_block (set_block (set_block (set_block hcb 0 _) 1 _) 2 _) 3 _) 4 _) 5 _) 6 _)
        have hst := below_seven lo_F9 hCl.below (.int .u8 (x.key.kind.toNat : Int)) (.int .u32 (x.key.id.toNat : Int)) (.int .u32 (x.key.off.toNat : Int)) (.int .u8 (x.key.kind.toNat : Int)) (.int .u32 (x.key.id.toNat : Int)) (.int .u32 (x.key.off.toNat : Int)) (.bool true)
        have hCl := Cls.of hst
        refine hK.out (Cls w1) (fun _ h => h) hCl ?_
        clear hK K'
        refine wpAnyH_done (by kernel_rfl) ?_ _
        go_wp2
        go_meet
        refine ⟨_, rfl, ?_, lo_F9, hst⟩
        exact F8
      refine Each.cons _ rfl (fun K' hK => ?_) ?_
      · go_simp
        have hs := cls_alloc hCl (.cells #[.int .u8 0, .int .u32 0, .int .u32 0, .int .u8 0, .int .u32 0, .int .u32 0, .bool false] 124)
        have F9 : LK w1.heap.size (.cells #[.int .u8 0, .int .u32 0, .int .u32 0, .int .u8 0, .int .u32 0, .int .u32 0, .bool false] 124) _ := cls_new hCl (.cells #[.int .u8 0, .int .u32 0, .int .u32 0, .int .u8 0, .int .u32 0, .int .u32 0, .bool false] 124)
        have hlt : w1.drew.heap.size < (w1.drew.alloc (.cells #[.int .u8 0, .int .u32 0, .int .u32 0, .int .u8 0, .int .u32 0, .int .u32 0, .bool false] 124)).heap.size := by simp
        have hst := below_step hCl.below hCl.below.size hs
        have lo_F9 := hCl.below.size
        obtain ⟨z4, hz⟩ : ∃ v, (w1.alloc (.cells #[.int .u8 0, .int .u32 0, .int .u32 0, .int .u8 0, .int .u32 0, .int .u32 0, .bool false] 124)).drew = v := ⟨_, rfl⟩
        have hz2 : w1.drew.alloc (.cells #[.int .u8 0, .int .u32 0, .int .u32 0, .int .u8 0, .int .u32 0, .int .u32 0, .bool false] 124) = z4 := hz
        rw [hz] at ⊢
        rw [hz2] at hst hlt F9
        have sz_z4 := hlt
        clear hz hz2 hs hlt
        have hCl := Cls.of hst
        refine hK.out (Cls w1) (fun _ h => h) hCl ?_
        clear hK K'
        refine wpAnyH_each (fuel := 1) [16] (by kernel_rfl) (by simp) (by kernel_rfl) ?_
        refine Each.cons _ rfl (fun K' hK => ?_) Each.nil
        go_simp
        have hst := hCl.below
        have hCl := Cls.of hst
        refine hK.out (Cls w1) (fun _ h => h) hCl ?_
        clear hK K'
        refine wpAnyH_each (fuel := 0) [18] (by kernel_rfl) (by simp) (by kernel_rfl) ?_
        refine Each.cons _ rfl (fun K' hK => ?_) Each.nil
        have hcb := LK.blk F9
        have r0 := LK.cell F9 0
        have r1 := LK.cell F9 1
        have r2 := LK.cell F9 2
        have r3 := LK.cell F9 3
        have r4 := LK.cell F9 4
        have r5 := LK.cell F9 5
        have r6 := LK.cell F9 6
        simp at r0 r1 r2 r3 r4 r5 r6
        have s0 := LK.frozen F9 0
        have s1 := LK.frozen F9 1
        have s2 := LK.frozen F9 2
        have s3 := LK.frozen F9 3
        have s4 := LK.frozen F9 4
        have s5 := LK.frozen F9 5
        have s6 := LK.frozen F9 6
        go_simp
        have F8 : LK (w1.heap.size) (.cells #[.int .u8 (x.key.kind.toNat : Int), .int .u32 (x.key.id.toNat : Int), .int .u32 (x.key.off.toNat : Int), .int .u8 (x.key.kind.toNat : Int), .int .u32 (x.key.id.toNat : Int), .int .u32 (x.key.off.toNat : Int), .bool true] 124) (((((((z4.setCell ⟨w1.heap.size, 0, none⟩ (.int .u8 (x.key.kind.toNat : Int))).setCell ⟨w1.heap.size, 1, none⟩ (.int .u32 (x.key.id.toNat : Int))).setCell ⟨w1.heap.size, 2, none⟩ (.int .u32 (x.key.off.toNat : Int))).setCell ⟨w1.heap.size, 3, none⟩ (.int .u8 (x.key.kind.toNat : Int))).setCell ⟨w1.heap.size, 4, none⟩ (.int .u32 (x.key.id.toNat : Int))).setCell ⟨w1.heap.size, 5, none⟩ (.int .u32 (x.key.off.toNat : Int))).setCell ⟨w1.heap.size, 6, none⟩ (.bool true)) := LK.of (set_block (set_block (set_block (set_block (set_block (set_block (set_block hcb 0 _) 1 _) 2 _) 3 _) 4 _) 5 _) 6 _)
        have hst := below_seven lo_F9 hCl.below (.int .u8 (x.key.kind.toNat : Int)) (.int .u32 (x.key.id.toNat : Int)) (.int .u32 (x.key.off.toNat : Int)) (.int .u8 (x.key.kind.toNat : Int)) (.int .u32 (x.key.id.toNat : Int)) (.int .u32 (x.key.off.toNat : Int)) (.bool true)
        have hCl := Cls.of hst
        refine hK.out (Cls w1) (fun _ h => h) hCl ?_
        clear hK K'
        refine wpAnyH_done (by kernel_rfl) ?_ _
        go_wp2
        go_meet
        refine ⟨_, rfl, ?_, lo_F9, hst⟩
        exact F8
      exact Each.nil
    case rest =>
    obtain ⟨g1, rfl, q_1, lo1, hst⟩ := hcut
    obtain ⟨wc, hwc⟩ := named_w hst
    subst hwc
    have sz_wc : w1.heap.size ≤ wc.heap.size := hst.size
    have g1_lt := LK.lt q_1
    clear c_q_n0 c_q_n1 c_q_x0 c_q_x1 c_q_x2 c_q_x3 c_q_x4
    obtain ⟨q_n, q_z, q_o, hZ, q_x, hB⟩ := HQ.out
    clear HQ
    replace q_n := q_n.step hst
    replace q_z := q_z.step hst
    replace q_o := q_o.step hst
    replace hZ := hZ.step hst
    replace q_x := q_x.step hst
    replace hB := hB.step hst
    clear hst
    have HQ := Lib.hid (And.intro q_n (And.intro q_z (And.intro q_o (And.intro hZ (And.intro q_x (And.intro q_1 hB))))))
    clear q_n q_z q_o hZ q_x q_1 hB
    have c_q_n0 := LK.cell HQ.out.1 0
    have c_q_n1 := LK.cell HQ.out.1 1
    have c_q_x0 := LK.cell HQ.out.2.2.2.2.1 0
    have c_q_x1 := LK.cell HQ.out.2.2.2.2.1 1
    have c_q_x2 := LK.cell HQ.out.2.2.2.2.1 2
    have c_q_x3 := LK.cell HQ.out.2.2.2.2.1 3
    have c_q_x4 := LK.cell HQ.out.2.2.2.2.1 4
    simp at c_q_n0 c_q_n1 c_q_x0 c_q_x1 c_q_x2 c_q_x3 c_q_x4
    by_cases hL : L = 0
    · have i2 : ¬ (0 : Int) < (L : Int) := by omega
      have ho : (rb = true → oneW s L x = some (x.key, x.key)) ∧ (rb = false → oneW s L x = none) := by
        rw [hL, oneW, HX.out.2.1, show ((xr : Int).toNat) = xr from rfl, HRB.out.2]
        have hb := HRB.out.1
        refine ⟨fun h => ?_, fun h => ?_⟩
        · rw [h, decide_eq_true_eq] at hb
          rw [if_pos (by rcases hb with hb | hb; exact .inl (by omega); exact .inr hb)]
        · rw [h, decide_eq_false_iff_not] at hb
          rw [if_neg (by rintro (hc | hc); exact hb (.inl (by omega)); exact hb (.inr hc))]
      have HO := Lib.hid ho
      clear ho hL
      cases rb
      case false =>
        clear c_q_n0 c_q_n1 c_q_x0 c_q_x1 c_q_x2 c_q_x3 c_q_x4
        have c_q_n0 := LK.cell HQ.out.1 0
        have c_q_n1 := LK.cell HQ.out.1 1
        have c_q_10 := LK.cell HQ.out.2.2.2.2.2.1 0
        have c_q_11 := LK.cell HQ.out.2.2.2.2.2.1 1
        have c_q_12 := LK.cell HQ.out.2.2.2.2.2.1 2
        have c_q_13 := LK.cell HQ.out.2.2.2.2.2.1 3
        have c_q_14 := LK.cell HQ.out.2.2.2.2.2.1 4
        have c_q_15 := LK.cell HQ.out.2.2.2.2.2.1 5
        have c_q_16 := LK.cell HQ.out.2.2.2.2.2.1 6
        have c_q_x0 := LK.cell HQ.out.2.2.2.2.1 0
        have c_q_x1 := LK.cell HQ.out.2.2.2.2.1 1
        have c_q_x2 := LK.cell HQ.out.2.2.2.2.1 2
        have c_q_x3 := LK.cell HQ.out.2.2.2.2.1 3
        have c_q_x4 := LK.cell HQ.out.2.2.2.2.1 4
        simp at c_q_n0 c_q_n1 c_q_10 c_q_11 c_q_12 c_q_13 c_q_14 c_q_15 c_q_16 c_q_x0 c_q_x1 c_q_x2 c_q_x3 c_q_x4
        clear c_q_n0 c_q_n1 c_q_10 c_q_11 c_q_12 c_q_13 c_q_14 c_q_15 c_q_16 c_q_x0 c_q_x1 c_q_x2 c_q_x3 c_q_x4
        have c_q_n0 := LK.cell HQ.out.1 0
        have c_q_n1 := LK.cell HQ.out.1 1
        have c_q_10 := LK.cell HQ.out.2.2.2.2.2.1 0
        have c_q_11 := LK.cell HQ.out.2.2.2.2.2.1 1
        have c_q_12 := LK.cell HQ.out.2.2.2.2.2.1 2
        have c_q_13 := LK.cell HQ.out.2.2.2.2.2.1 3
        have c_q_14 := LK.cell HQ.out.2.2.2.2.2.1 4
        have c_q_15 := LK.cell HQ.out.2.2.2.2.2.1 5
        have c_q_16 := LK.cell HQ.out.2.2.2.2.2.1 6
        have c_q_x0 := LK.cell HQ.out.2.2.2.2.1 0
        have c_q_x1 := LK.cell HQ.out.2.2.2.2.1 1
        have c_q_x2 := LK.cell HQ.out.2.2.2.2.1 2
        have c_q_x3 := LK.cell HQ.out.2.2.2.2.1 3
        have c_q_x4 := LK.cell HQ.out.2.2.2.2.1 4
        have c_q_z0 := LK.cell HQ.out.2.1 0
        have c_q_z1 := LK.cell HQ.out.2.1 1
        have c_q_z2 := LK.cell HQ.out.2.1 2
        have c_q_z3 := LK.cell HQ.out.2.1 3
        have c_q_z4 := LK.cell HQ.out.2.1 4
        have c_q_z5 := LK.cell HQ.out.2.1 5
        have c_q_z6 := LK.cell HQ.out.2.1 6
        have z_q_z0 := LK.frozen HQ.out.2.1 0
        have z_q_z1 := LK.frozen HQ.out.2.1 1
        have z_q_z2 := LK.frozen HQ.out.2.1 2
        have z_q_z3 := LK.frozen HQ.out.2.1 3
        have z_q_z4 := LK.frozen HQ.out.2.1 4
        have z_q_z5 := LK.frozen HQ.out.2.1 5
        have z_q_z6 := LK.frozen HQ.out.2.1 6
        simp at c_q_n0 c_q_n1 c_q_10 c_q_11 c_q_12 c_q_13 c_q_14 c_q_15 c_q_16 c_q_x0 c_q_x1 c_q_x2 c_q_x3 c_q_x4 c_q_z0 c_q_z1 c_q_z2 c_q_z3 c_q_z4 c_q_z5 c_q_z6
        have hRn : R = none := by
          rw [HJ.out.1, HX.out.1]
          exact wkGo_cons_none (HO.out.2 (by trivial))
        subst hRn
        have hBf := HQ.out.2.2.2.2.2.2
        clear HJ HA
        go_wp2
        refine bodyPost_ret (v := .agg #[.int .u8 0, .int .u32 0, .int .u32 0, .int .u8 0, .int .u32 0, .int .u32 0, .bool false]) (by simp [results, Try.results74, go_sem, c_q_z0, c_q_z1, c_q_z2, c_q_z3, c_q_z4, c_q_z5, c_q_z6]) rfl ⟨rfl, below_seven (Nat.le_succ _) hBf _ _ _ _ _ _ _⟩
      have hk : x.key = x.key := rfl
      have ek := fun W => (eq_key x.key x.key W).trans (congrArg (fun z => Result.ok z W) (decide_eq_true hk))
      simp only [keyV, bV, wV] at ek
      by_cases hj0 : j = 0
      · subst hj0
        clear c_q_n0 c_q_n1 c_q_x0 c_q_x1 c_q_x2 c_q_x3 c_q_x4
        have c_q_n0 := LK.cell HQ.out.1 0
        have c_q_n1 := LK.cell HQ.out.1 1
        have c_q_10 := LK.cell HQ.out.2.2.2.2.2.1 0
        have c_q_11 := LK.cell HQ.out.2.2.2.2.2.1 1
        have c_q_12 := LK.cell HQ.out.2.2.2.2.2.1 2
        have c_q_13 := LK.cell HQ.out.2.2.2.2.2.1 3
        have c_q_14 := LK.cell HQ.out.2.2.2.2.2.1 4
        have c_q_15 := LK.cell HQ.out.2.2.2.2.2.1 5
        have c_q_16 := LK.cell HQ.out.2.2.2.2.2.1 6
        have c_q_x0 := LK.cell HQ.out.2.2.2.2.1 0
        have c_q_x1 := LK.cell HQ.out.2.2.2.2.1 1
        have c_q_x2 := LK.cell HQ.out.2.2.2.2.1 2
        have c_q_x3 := LK.cell HQ.out.2.2.2.2.1 3
        have c_q_x4 := LK.cell HQ.out.2.2.2.2.1 4
        have c_q_o0 := LK.cell HQ.out.2.2.1 0
        have c_q_o1 := LK.cell HQ.out.2.2.1 1
        have c_q_o2 := LK.cell HQ.out.2.2.1 2
        have c_q_o3 := LK.cell HQ.out.2.2.1 3
        have c_q_o4 := LK.cell HQ.out.2.2.1 4
        have c_q_o5 := LK.cell HQ.out.2.2.1 5
        have c_q_o6 := LK.cell HQ.out.2.2.1 6
        have z_q_o0 := LK.frozen HQ.out.2.2.1 0
        have z_q_o1 := LK.frozen HQ.out.2.2.1 1
        have z_q_o2 := LK.frozen HQ.out.2.2.1 2
        have z_q_o3 := LK.frozen HQ.out.2.2.1 3
        have z_q_o4 := LK.frozen HQ.out.2.2.1 4
        have z_q_o5 := LK.frozen HQ.out.2.2.1 5
        have z_q_o6 := LK.frozen HQ.out.2.2.1 6
        simp at c_q_n0 c_q_n1 c_q_10 c_q_11 c_q_12 c_q_13 c_q_14 c_q_15 c_q_16 c_q_x0 c_q_x1 c_q_x2 c_q_x3 c_q_x4 c_q_o0 c_q_o1 c_q_o2 c_q_o3 c_q_o4 c_q_o5 c_q_o6
        have hacc := HJ.out.2.1 rfl
        subst hacc
        have hnx : R = wkGo (oneW s L) (some (x.key, x.key)) (its.drop 1) := by
          rw [HJ.out.1, HX.out.1]
          exact wkGo_cons_ok (HO.out.1 (by trivial)) ⟨rfl, rfl⟩
        have HNX := Lib.hid hnx
        clear hnx hk
        have hqo := HQ.out.2.2.1
        have hBf := HQ.out.2.2.2.2.2.2
        have hZf := Lv.get HQ.out.2.2.2.1
        have HF := Lib.hid (And.intro hqo (And.intro hBf hZf))
        clear hqo hBf hZf
        go_wp2
        go_roundw
        case rel =>
          refine ⟨1, some (x.key, x.key), x.key, x.key, true, by omega, by go_num, HNX.out, fun h => by omega, fun _ => rfl, rfl, ?_, ?_, ?_, ?_⟩
          · exact set_block (set_block (set_block (set_block (set_block (set_block (set_block HF.out.1.blk 0 _) 1 _) 2 _) 3 _) 4 _) 5 _) 6 _
          · intro q hq hne
            refine (set_other _ _ _ _ _ hne).trans ((set_other _ _ _ _ _ hne).trans ((set_other _ _ _ _ _ hne).trans ((set_other _ _ _ _ _ hne).trans ((set_other _ _ _ _ _ hne).trans ((set_other _ _ _ _ _ hne).trans ((set_other _ _ _ _ _ hne).trans ?_))))))
            exact HF.out.2.2 q hq hne
          · simp only [World.size_setCell]
            omega
          · exact below_seven (by omega) HF.out.2.1 _ _ _ _ _ _ _
        case measure => simp [intOf]; omega
      have hjp : 0 < j := by omega
      have hacc := HJ.out.2.2.1 hjp
      subst hacc
      have hc0 : c0 = true := by
        have := HJ.out.2.2.2.1
        unfold spn at this
        exact (Prod.mk.inj (Prod.mk.inj this).2).2.symm
      subst hc0
      have i8 : (0 : Int) < j := by omega
      clear c_q_n0 c_q_n1 c_q_x0 c_q_x1 c_q_x2 c_q_x3 c_q_x4
      have c_q_n0 := LK.cell HQ.out.1 0
      have c_q_n1 := LK.cell HQ.out.1 1
      have c_q_10 := LK.cell HQ.out.2.2.2.2.2.1 0
      have c_q_11 := LK.cell HQ.out.2.2.2.2.2.1 1
      have c_q_12 := LK.cell HQ.out.2.2.2.2.2.1 2
      have c_q_13 := LK.cell HQ.out.2.2.2.2.2.1 3
      have c_q_14 := LK.cell HQ.out.2.2.2.2.2.1 4
      have c_q_15 := LK.cell HQ.out.2.2.2.2.2.1 5
      have c_q_16 := LK.cell HQ.out.2.2.2.2.2.1 6
      have c_q_x0 := LK.cell HQ.out.2.2.2.2.1 0
      have c_q_x1 := LK.cell HQ.out.2.2.2.2.1 1
      have c_q_x2 := LK.cell HQ.out.2.2.2.2.1 2
      have c_q_x3 := LK.cell HQ.out.2.2.2.2.1 3
      have c_q_x4 := LK.cell HQ.out.2.2.2.2.1 4
      have c_q_o0 := LK.cell HQ.out.2.2.1 0
      have c_q_o1 := LK.cell HQ.out.2.2.1 1
      have c_q_o2 := LK.cell HQ.out.2.2.1 2
      have c_q_o3 := LK.cell HQ.out.2.2.1 3
      have c_q_o4 := LK.cell HQ.out.2.2.1 4
      have c_q_o5 := LK.cell HQ.out.2.2.1 5
      have c_q_o6 := LK.cell HQ.out.2.2.1 6
      simp at c_q_n0 c_q_n1 c_q_10 c_q_11 c_q_12 c_q_13 c_q_14 c_q_15 c_q_16 c_q_x0 c_q_x1 c_q_x2 c_q_x3 c_q_x4 c_q_o0 c_q_o1 c_q_o2 c_q_o3 c_q_o4 c_q_o5 c_q_o6
      have kl := fun W => less_any b0 x.key W
      simp only [keyV, bV, wV] at kl
      obtain ⟨lb, hlb⟩ : ∃ z, lessK b0 x.key = z := ⟨_, rfl⟩
      rw [hlb] at kl
      have KL := Lib.hid (And.intro kl hlb)
      clear kl hlb
      go_wp2_with fail
      refine (KL.out.1 _).mono ?_
      rintro e w2 ⟨rfl, hst⟩
      clear c_q_n0 c_q_n1 c_q_10 c_q_11 c_q_12 c_q_13 c_q_14 c_q_15 c_q_16 c_q_x0 c_q_x1 c_q_x2 c_q_x3 c_q_x4 c_q_o0 c_q_o1 c_q_o2 c_q_o3 c_q_o4 c_q_o5 c_q_o6
      obtain ⟨q_n, q_z, q_o, hZ, q_x, q_1, hB⟩ := HQ.out
      clear HQ
      have sz_w2 : wc.heap.size ≤ w2.heap.size := hst.size
      replace q_n := q_n.step hst
      replace q_z := q_z.step hst
      replace q_o := q_o.step hst
      replace hZ := hZ.step hst
      replace q_x := q_x.step hst
      replace q_1 := q_1.step hst
      replace hB := hB.step hst
      clear hst
      have HQ := Lib.hid (And.intro q_n (And.intro q_z (And.intro q_o (And.intro hZ (And.intro q_x (And.intro q_1 hB))))))
      clear q_n q_z q_o hZ q_x q_1 hB
      have c_q_n0 := LK.cell HQ.out.1 0
      have c_q_n1 := LK.cell HQ.out.1 1
      have c_q_10 := LK.cell HQ.out.2.2.2.2.2.1 0
      have c_q_11 := LK.cell HQ.out.2.2.2.2.2.1 1
      have c_q_12 := LK.cell HQ.out.2.2.2.2.2.1 2
      have c_q_13 := LK.cell HQ.out.2.2.2.2.2.1 3
      have c_q_14 := LK.cell HQ.out.2.2.2.2.2.1 4
      have c_q_15 := LK.cell HQ.out.2.2.2.2.2.1 5
      have c_q_16 := LK.cell HQ.out.2.2.2.2.2.1 6
      have c_q_x0 := LK.cell HQ.out.2.2.2.2.1 0
      have c_q_x1 := LK.cell HQ.out.2.2.2.2.1 1
      have c_q_x2 := LK.cell HQ.out.2.2.2.2.1 2
      have c_q_x3 := LK.cell HQ.out.2.2.2.2.1 3
      have c_q_x4 := LK.cell HQ.out.2.2.2.2.1 4
      have c_q_o0 := LK.cell HQ.out.2.2.1 0
      have c_q_o1 := LK.cell HQ.out.2.2.1 1
      have c_q_o2 := LK.cell HQ.out.2.2.1 2
      have c_q_o3 := LK.cell HQ.out.2.2.1 3
      have c_q_o4 := LK.cell HQ.out.2.2.1 4
      have c_q_o5 := LK.cell HQ.out.2.2.1 5
      have c_q_o6 := LK.cell HQ.out.2.2.1 6
      simp at c_q_n0 c_q_n1 c_q_10 c_q_11 c_q_12 c_q_13 c_q_14 c_q_15 c_q_16 c_q_x0 c_q_x1 c_q_x2 c_q_x3 c_q_x4 c_q_o0 c_q_o1 c_q_o2 c_q_o3 c_q_o4 c_q_o5 c_q_o6
      cases lb
      case false =>
        clear c_q_n0 c_q_n1 c_q_10 c_q_11 c_q_12 c_q_13 c_q_14 c_q_15 c_q_16 c_q_x0 c_q_x1 c_q_x2 c_q_x3 c_q_x4 c_q_o0 c_q_o1 c_q_o2 c_q_o3 c_q_o4 c_q_o5 c_q_o6
        have c_q_n0 := LK.cell HQ.out.1 0
        have c_q_n1 := LK.cell HQ.out.1 1
        have c_q_10 := LK.cell HQ.out.2.2.2.2.2.1 0
        have c_q_11 := LK.cell HQ.out.2.2.2.2.2.1 1
        have c_q_12 := LK.cell HQ.out.2.2.2.2.2.1 2
        have c_q_13 := LK.cell HQ.out.2.2.2.2.2.1 3
        have c_q_14 := LK.cell HQ.out.2.2.2.2.2.1 4
        have c_q_15 := LK.cell HQ.out.2.2.2.2.2.1 5
        have c_q_16 := LK.cell HQ.out.2.2.2.2.2.1 6
        have c_q_x0 := LK.cell HQ.out.2.2.2.2.1 0
        have c_q_x1 := LK.cell HQ.out.2.2.2.2.1 1
        have c_q_x2 := LK.cell HQ.out.2.2.2.2.1 2
        have c_q_x3 := LK.cell HQ.out.2.2.2.2.1 3
        have c_q_x4 := LK.cell HQ.out.2.2.2.2.1 4
        have c_q_o0 := LK.cell HQ.out.2.2.1 0
        have c_q_o1 := LK.cell HQ.out.2.2.1 1
        have c_q_o2 := LK.cell HQ.out.2.2.1 2
        have c_q_o3 := LK.cell HQ.out.2.2.1 3
        have c_q_o4 := LK.cell HQ.out.2.2.1 4
        have c_q_o5 := LK.cell HQ.out.2.2.1 5
        have c_q_o6 := LK.cell HQ.out.2.2.1 6
        have c_q_z0 := LK.cell HQ.out.2.1 0
        have c_q_z1 := LK.cell HQ.out.2.1 1
        have c_q_z2 := LK.cell HQ.out.2.1 2
        have c_q_z3 := LK.cell HQ.out.2.1 3
        have c_q_z4 := LK.cell HQ.out.2.1 4
        have c_q_z5 := LK.cell HQ.out.2.1 5
        have c_q_z6 := LK.cell HQ.out.2.1 6
        have z_q_z0 := LK.frozen HQ.out.2.1 0
        have z_q_z1 := LK.frozen HQ.out.2.1 1
        have z_q_z2 := LK.frozen HQ.out.2.1 2
        have z_q_z3 := LK.frozen HQ.out.2.1 3
        have z_q_z4 := LK.frozen HQ.out.2.1 4
        have z_q_z5 := LK.frozen HQ.out.2.1 5
        have z_q_z6 := LK.frozen HQ.out.2.1 6
        simp at c_q_n0 c_q_n1 c_q_10 c_q_11 c_q_12 c_q_13 c_q_14 c_q_15 c_q_16 c_q_x0 c_q_x1 c_q_x2 c_q_x3 c_q_x4 c_q_o0 c_q_o1 c_q_o2 c_q_o3 c_q_o4 c_q_o5 c_q_o6 c_q_z0 c_q_z1 c_q_z2 c_q_z3 c_q_z4 c_q_z5 c_q_z6
        have hRn : R = none := by
          rw [HJ.out.1, HX.out.1]
          refine wkGo_cons_bad (HO.out.1 (by trivial)) (fun h => ?_)
          have := KL.out.2.symm.trans h.2
          cases this
        subst hRn
        have hBf := HQ.out.2.2.2.2.2.2
        clear HJ HA
        go_wp2
        refine bodyPost_ret (v := .agg #[.int .u8 0, .int .u32 0, .int .u32 0, .int .u8 0, .int .u32 0, .int .u32 0, .bool false]) (by simp [results, Try.results74, go_sem, c_q_z0, c_q_z1, c_q_z2, c_q_z3, c_q_z4, c_q_z5, c_q_z6]) rfl ⟨rfl, below_seven (Nat.le_succ _) hBf _ _ _ _ _ _ _⟩
      clear c_q_n0 c_q_n1 c_q_10 c_q_11 c_q_12 c_q_13 c_q_14 c_q_15 c_q_16 c_q_x0 c_q_x1 c_q_x2 c_q_x3 c_q_x4 c_q_o0 c_q_o1 c_q_o2 c_q_o3 c_q_o4 c_q_o5 c_q_o6
      have c_q_n0 := LK.cell HQ.out.1 0
      have c_q_n1 := LK.cell HQ.out.1 1
      have c_q_10 := LK.cell HQ.out.2.2.2.2.2.1 0
      have c_q_11 := LK.cell HQ.out.2.2.2.2.2.1 1
      have c_q_12 := LK.cell HQ.out.2.2.2.2.2.1 2
      have c_q_13 := LK.cell HQ.out.2.2.2.2.2.1 3
      have c_q_14 := LK.cell HQ.out.2.2.2.2.2.1 4
      have c_q_15 := LK.cell HQ.out.2.2.2.2.2.1 5
      have c_q_16 := LK.cell HQ.out.2.2.2.2.2.1 6
      have c_q_o0 := LK.cell HQ.out.2.2.1 0
      have c_q_o1 := LK.cell HQ.out.2.2.1 1
      have c_q_o2 := LK.cell HQ.out.2.2.1 2
      have c_q_o3 := LK.cell HQ.out.2.2.1 3
      have c_q_o4 := LK.cell HQ.out.2.2.1 4
      have c_q_o5 := LK.cell HQ.out.2.2.1 5
      have c_q_o6 := LK.cell HQ.out.2.2.1 6
      have z_q_o0 := LK.frozen HQ.out.2.2.1 0
      have z_q_o1 := LK.frozen HQ.out.2.2.1 1
      have z_q_o2 := LK.frozen HQ.out.2.2.1 2
      have z_q_o3 := LK.frozen HQ.out.2.2.1 3
      have z_q_o4 := LK.frozen HQ.out.2.2.1 4
      have z_q_o5 := LK.frozen HQ.out.2.2.1 5
      have z_q_o6 := LK.frozen HQ.out.2.2.1 6
      simp at c_q_n0 c_q_n1 c_q_10 c_q_11 c_q_12 c_q_13 c_q_14 c_q_15 c_q_16 c_q_o0 c_q_o1 c_q_o2 c_q_o3 c_q_o4 c_q_o5 c_q_o6
      have hnx : R = wkGo (oneW s L) (some (a0, x.key)) (its.drop (j + 1)) := by
        rw [HJ.out.1, HX.out.1]
        exact wkGo_cons_ok (HO.out.1 (by trivial)) ⟨rfl, KL.out.2⟩
      have HNX := Lib.hid hnx
      clear hnx hk
      have hqo := HQ.out.2.2.1
      have hBf := HQ.out.2.2.2.2.2.2
      have hZf := Lv.get HQ.out.2.2.2.1
      have HF := Lib.hid (And.intro hqo (And.intro hBf hZf))
      clear hqo hBf hZf
      have i7 : ((j : Int) == 0) = false := by simp; omega
      go_wp2
      skip
      go_roundw
      case rel =>
        refine ⟨j + 1, some (a0, x.key), a0, x.key, true, by omega, by go_num, HNX.out, fun h => by omega, fun _ => rfl, rfl, ?_, ?_, ?_, ?_⟩
        · exact set_block (set_block (set_block (set_block HF.out.1.blk 3 _) 4 _) 5 _) 6 _
        · intro q hq hne
          refine (set_other _ _ _ _ _ hne).trans ((set_other _ _ _ _ _ hne).trans ((set_other _ _ _ _ _ hne).trans ((set_other _ _ _ _ _ hne).trans ?_)))
          exact HF.out.2.2 q hq hne
        · simp only [World.size_setCell]
          omega
        · have h2w : w.heap.size ≤ w.heap.size + 1 + 1 := by omega
          exact (((HF.out.2.1.setCell (p := ⟨w.heap.size + 1 + 1, 3, none⟩) h2w _).setCell (p := ⟨w.heap.size + 1 + 1, 4, none⟩) h2w _).setCell (p := ⟨w.heap.size + 1 + 1, 5, none⟩) h2w _).setCell (p := ⟨w.heap.size + 1 + 1, 6, none⟩) h2w _
      case measure => simp [intOf]; omega
    obtain ⟨l, hl⟩ : ∃ l, L = l + 1 := ⟨L - 1, by omega⟩
    have i3 : (0 : Int) < (L : Int) := by omega
    have i5 : (L : Int) - 1 = (l : Int) := by omega
    have HL := Lib.hid hl
    clear hL hl
    obtain ⟨en, hen⟩ : ∃ z, errBn s xr = z := ⟨_, rfl⟩
    obtain ⟨nd, hnd⟩ : ∃ z, nodeB s xr = z := ⟨_, rfl⟩
    have kb := fun V h => bnode_any lo g nb no nc b u y s xr V h HA.out.2.2.2.1 hp
    rw [hen, hnd] at kb
    have hmn : en = 0 → mayN nd = true := fun h => hnd ▸ nodeB_may (hen.trans h)
    have ho : oneW s L x = if en = 0 ∧ nd.level = (l : Int) ∧ nd.items ≠ [] then wkGo (oneW s l) none nd.items else none := by
      rw [HL.out, oneW, HX.out.2.1, show ((xr : Int).toNat) = xr from rfl, hen, hnd]
    clear hen hnd
    obtain ⟨lvn, itn⟩ := nd
    simp only at kb ho
    have KB := Lib.hid kb
    have HN := Lib.hid (And.intro ho hmn)
    clear kb ho hmn
    have hbb := LK.of (HA.out.1.step HQ.out.2.2.2.2.2.2).bbox
    have q_b := hbb
    clear hbb
    obtain ⟨q_n, q_z, q_o, hZ, q_x, q_1, hB⟩ := HQ.out
    clear HQ
    have HQ := Lib.hid (And.intro q_n (And.intro q_z (And.intro q_o (And.intro hZ (And.intro q_x (And.intro q_1 (And.intro q_b hB)))))))
    clear q_n q_z q_o hZ q_x q_1 q_b hB
    clear c_q_n0 c_q_n1 c_q_x0 c_q_x1 c_q_x2 c_q_x3 c_q_x4
    have c_q_n0 := LK.cell HQ.out.1 0
    have c_q_n1 := LK.cell HQ.out.1 1
    have c_q_x0 := LK.cell HQ.out.2.2.2.2.1 0
    have c_q_x1 := LK.cell HQ.out.2.2.2.2.1 1
    have c_q_x2 := LK.cell HQ.out.2.2.2.2.1 2
    have c_q_x3 := LK.cell HQ.out.2.2.2.2.1 3
    have c_q_x4 := LK.cell HQ.out.2.2.2.2.1 4
    have c_q_b0 := LK.cell HQ.out.2.2.2.2.2.2.1 0
    simp at c_q_n0 c_q_n1 c_q_x0 c_q_x1 c_q_x2 c_q_x3 c_q_x4 c_q_b0
    go_wp2_with fail
    refine (KB.out _ (HA.out.1.ben.step HQ.out.2.2.2.2.2.2.2)).mono ?_
    rintro e w2 ⟨vn, rfl, hsl, hst⟩
    clear c_q_n0 c_q_n1 c_q_x0 c_q_x1 c_q_x2 c_q_x3 c_q_x4 c_q_b0
    obtain ⟨q_n, q_z, q_o, hZ, q_x, q_1, q_b, hB⟩ := HQ.out
    clear HQ
    have hvw := sl_itemT hsl
    clear hsl
    obtain ⟨ac, cc, rfl, gc1, gc2, -, -⟩ := id hvw
    unfold maxLen at gc2
    have S_c := LS.of hvw (Nat.le_refl _)
    clear hvw
    have sz_w2 : wc.heap.size ≤ w2.heap.size := hst.size
    replace q_n := q_n.step hst
    replace q_z := q_z.step hst
    replace q_o := q_o.step hst
    replace hZ := hZ.step hst
    replace q_x := q_x.step hst
    replace q_1 := q_1.step hst
    replace q_b := q_b.step hst
    replace hB := hB.step hst
    clear hst
    have HQ := Lib.hid (And.intro q_n (And.intro q_z (And.intro q_o (And.intro hZ (And.intro q_x (And.intro q_1 (And.intro q_b (And.intro S_c hB))))))))
    clear q_n q_z q_o hZ q_x q_1 q_b S_c hB
    have c_q_n0 := LK.cell HQ.out.1 0
    have c_q_n1 := LK.cell HQ.out.1 1
    have c_q_x0 := LK.cell HQ.out.2.2.2.2.1 0
    have c_q_x1 := LK.cell HQ.out.2.2.2.2.1 1
    have c_q_x2 := LK.cell HQ.out.2.2.2.2.1 2
    have c_q_x3 := LK.cell HQ.out.2.2.2.2.1 3
    have c_q_x4 := LK.cell HQ.out.2.2.2.2.1 4
    have c_q_b0 := LK.cell HQ.out.2.2.2.2.2.2.1 0
    simp at c_q_n0 c_q_n1 c_q_x0 c_q_x1 c_q_x2 c_q_x3 c_q_x4 c_q_b0
    go_upto_region 8 with (fail)
    clear c_q_n0 c_q_n1 c_q_x0 c_q_x1 c_q_x2 c_q_x3 c_q_x4 c_q_b0
    obtain ⟨q_n, q_z, q_o, hZ, q_x, q_1, q_b, S_c, hB⟩ := HQ.out
    clear HQ
    have hst := (Below.refl w2.heap.size w2).alloc (Nat.le_refl _) (.cells #[.int .i64 lvn, .slice ac itn.length cc] 119)
    have hlt : w2.heap.size < (w2.alloc (.cells #[.int .i64 lvn, .slice ac itn.length cc] 119)).heap.size := by simp
    have q_c := LK.new w2 (.cells #[.int .i64 lvn, .slice ac itn.length cc] 119)
    replace q_n := q_n.step hst
    replace q_z := q_z.step hst
    replace q_o := q_o.step hst
    replace hZ := hZ.step hst
    replace q_x := q_x.step hst
    replace q_1 := q_1.step hst
    replace q_b := q_b.step hst
    replace S_c := S_c.step hst
    replace hB := hB.step hst
    obtain ⟨w3, hw⟩ : ∃ v, w2.alloc (.cells #[.int .i64 lvn, .slice ac itn.length cc] 119) = v := ⟨_, rfl⟩
    rw [hw] at hlt q_c q_n q_z q_o hZ q_x q_1 q_b S_c hB ⊢
    clear hw hst
    have sz_w3 := hlt
    clear hlt
    have HQ := Lib.hid (And.intro q_n (And.intro q_z (And.intro q_o (And.intro hZ (And.intro q_x (And.intro q_1 (And.intro q_b (And.intro S_c (And.intro q_c hB)))))))))
    clear q_n q_z q_o hZ q_x q_1 q_b S_c q_c hB
    have c_q_n0 := LK.cell HQ.out.1 0
    have c_q_n1 := LK.cell HQ.out.1 1
    have c_q_x0 := LK.cell HQ.out.2.2.2.2.1 0
    have c_q_x1 := LK.cell HQ.out.2.2.2.2.1 1
    have c_q_x2 := LK.cell HQ.out.2.2.2.2.1 2
    have c_q_x3 := LK.cell HQ.out.2.2.2.2.1 3
    have c_q_x4 := LK.cell HQ.out.2.2.2.2.1 4
    have c_q_b0 := LK.cell HQ.out.2.2.2.2.2.2.1 0
    have c_q_c0 := LK.cell HQ.out.2.2.2.2.2.2.2.2.1 0
    have c_q_c1 := LK.cell HQ.out.2.2.2.2.2.2.2.2.1 1
    simp at c_q_n0 c_q_n1 c_q_x0 c_q_x1 c_q_x2 c_q_x3 c_q_x4 c_q_b0 c_q_c0 c_q_c1
    clear c_q_n0 c_q_n1 c_q_x0 c_q_x1 c_q_x2 c_q_x3 c_q_x4 c_q_b0 c_q_c0 c_q_c1
    have c_q_n0 := LK.cell HQ.out.1 0
    have c_q_n1 := LK.cell HQ.out.1 1
    have c_q_x0 := LK.cell HQ.out.2.2.2.2.1 0
    have c_q_x1 := LK.cell HQ.out.2.2.2.2.1 1
    have c_q_x2 := LK.cell HQ.out.2.2.2.2.1 2
    have c_q_x3 := LK.cell HQ.out.2.2.2.2.1 3
    have c_q_x4 := LK.cell HQ.out.2.2.2.2.1 4
    have c_q_c0 := LK.cell HQ.out.2.2.2.2.2.2.2.2.1 0
    have c_q_c1 := LK.cell HQ.out.2.2.2.2.2.2.2.2.1 1
    simp at c_q_n0 c_q_n1 c_q_x0 c_q_x1 c_q_x2 c_q_x3 c_q_x4 c_q_c0 c_q_c1
    by_cases he : en = 0
    case neg =>
      clear c_q_n0 c_q_n1 c_q_x0 c_q_x1 c_q_x2 c_q_x3 c_q_x4 c_q_c0 c_q_c1
      have c_q_n0 := LK.cell HQ.out.1 0
      have c_q_n1 := LK.cell HQ.out.1 1
      have c_q_x0 := LK.cell HQ.out.2.2.2.2.1 0
      have c_q_x1 := LK.cell HQ.out.2.2.2.2.1 1
      have c_q_x2 := LK.cell HQ.out.2.2.2.2.1 2
      have c_q_x3 := LK.cell HQ.out.2.2.2.2.1 3
      have c_q_x4 := LK.cell HQ.out.2.2.2.2.1 4
      have c_q_c0 := LK.cell HQ.out.2.2.2.2.2.2.2.2.1 0
      have c_q_c1 := LK.cell HQ.out.2.2.2.2.2.2.2.2.1 1
      have c_q_z0 := LK.cell HQ.out.2.1 0
      have c_q_z1 := LK.cell HQ.out.2.1 1
      have c_q_z2 := LK.cell HQ.out.2.1 2
      have c_q_z3 := LK.cell HQ.out.2.1 3
      have c_q_z4 := LK.cell HQ.out.2.1 4
      have c_q_z5 := LK.cell HQ.out.2.1 5
      have c_q_z6 := LK.cell HQ.out.2.1 6
      have z_q_z0 := LK.frozen HQ.out.2.1 0
      have z_q_z1 := LK.frozen HQ.out.2.1 1
      have z_q_z2 := LK.frozen HQ.out.2.1 2
      have z_q_z3 := LK.frozen HQ.out.2.1 3
      have z_q_z4 := LK.frozen HQ.out.2.1 4
      have z_q_z5 := LK.frozen HQ.out.2.1 5
      have z_q_z6 := LK.frozen HQ.out.2.1 6
      simp at c_q_n0 c_q_n1 c_q_x0 c_q_x1 c_q_x2 c_q_x3 c_q_x4 c_q_c0 c_q_c1 c_q_z0 c_q_z1 c_q_z2 c_q_z3 c_q_z4 c_q_z5 c_q_z6
      have hRn : R = none := by
        rw [HJ.out.1, HX.out.1]
        refine wkGo_cons_none ?_
        rw [HN.out.1]
        exact if_neg (fun h => he h.1)
      subst hRn
      have hBf := HQ.out.2.2.2.2.2.2.2.2.2
      clear HJ HA
      go_wp2
      refine bodyPost_ret (v := .agg #[.int .u8 0, .int .u32 0, .int .u32 0, .int .u8 0, .int .u32 0, .int .u32 0, .bool false]) (by simp [results, Try.results74, go_sem, c_q_z0, c_q_z1, c_q_z2, c_q_z3, c_q_z4, c_q_z5, c_q_z6]) rfl ⟨rfl, below_seven (Nat.le_succ _) hBf _ _ _ _ _ _ _⟩
    subst he
    have hmc := HN.out.2 rfl
    by_cases hlv : lvn = (l : Int)
    case neg =>
      clear c_q_n0 c_q_n1 c_q_x0 c_q_x1 c_q_x2 c_q_x3 c_q_x4 c_q_c0 c_q_c1
      have c_q_n0 := LK.cell HQ.out.1 0
      have c_q_n1 := LK.cell HQ.out.1 1
      have c_q_x0 := LK.cell HQ.out.2.2.2.2.1 0
      have c_q_x1 := LK.cell HQ.out.2.2.2.2.1 1
      have c_q_x2 := LK.cell HQ.out.2.2.2.2.1 2
      have c_q_x3 := LK.cell HQ.out.2.2.2.2.1 3
      have c_q_x4 := LK.cell HQ.out.2.2.2.2.1 4
      have c_q_c0 := LK.cell HQ.out.2.2.2.2.2.2.2.2.1 0
      have c_q_c1 := LK.cell HQ.out.2.2.2.2.2.2.2.2.1 1
      have c_q_z0 := LK.cell HQ.out.2.1 0
      have c_q_z1 := LK.cell HQ.out.2.1 1
      have c_q_z2 := LK.cell HQ.out.2.1 2
      have c_q_z3 := LK.cell HQ.out.2.1 3
      have c_q_z4 := LK.cell HQ.out.2.1 4
      have c_q_z5 := LK.cell HQ.out.2.1 5
      have c_q_z6 := LK.cell HQ.out.2.1 6
      have z_q_z0 := LK.frozen HQ.out.2.1 0
      have z_q_z1 := LK.frozen HQ.out.2.1 1
      have z_q_z2 := LK.frozen HQ.out.2.1 2
      have z_q_z3 := LK.frozen HQ.out.2.1 3
      have z_q_z4 := LK.frozen HQ.out.2.1 4
      have z_q_z5 := LK.frozen HQ.out.2.1 5
      have z_q_z6 := LK.frozen HQ.out.2.1 6
      simp at c_q_n0 c_q_n1 c_q_x0 c_q_x1 c_q_x2 c_q_x3 c_q_x4 c_q_c0 c_q_c1 c_q_z0 c_q_z1 c_q_z2 c_q_z3 c_q_z4 c_q_z5 c_q_z6
      have hRn : R = none := by
        rw [HJ.out.1, HX.out.1]
        refine wkGo_cons_none ?_
        rw [HN.out.1]
        exact if_neg (fun h => hlv h.2.1)
      subst hRn
      have hBf := HQ.out.2.2.2.2.2.2.2.2.2
      clear HJ HA
      go_wp2
      refine bodyPost_ret (v := .agg #[.int .u8 0, .int .u32 0, .int .u32 0, .int .u8 0, .int .u32 0, .int .u32 0, .bool false]) (by simp [results, Try.results74, go_sem, c_q_z0, c_q_z1, c_q_z2, c_q_z3, c_q_z4, c_q_z5, c_q_z6]) rfl ⟨rfl, below_seven (Nat.le_succ _) hBf _ _ _ _ _ _ _⟩
    subst hlv
    by_cases hln : itn.length = 0
    case pos =>
      have i6 : (itn.length : Int) = 0 := by omega
      clear c_q_n0 c_q_n1 c_q_x0 c_q_x1 c_q_x2 c_q_x3 c_q_x4 c_q_c0 c_q_c1
      have c_q_n0 := LK.cell HQ.out.1 0
      have c_q_n1 := LK.cell HQ.out.1 1
      have c_q_x0 := LK.cell HQ.out.2.2.2.2.1 0
      have c_q_x1 := LK.cell HQ.out.2.2.2.2.1 1
      have c_q_x2 := LK.cell HQ.out.2.2.2.2.1 2
      have c_q_x3 := LK.cell HQ.out.2.2.2.2.1 3
      have c_q_x4 := LK.cell HQ.out.2.2.2.2.1 4
      have c_q_c0 := LK.cell HQ.out.2.2.2.2.2.2.2.2.1 0
      have c_q_c1 := LK.cell HQ.out.2.2.2.2.2.2.2.2.1 1
      have c_q_z0 := LK.cell HQ.out.2.1 0
      have c_q_z1 := LK.cell HQ.out.2.1 1
      have c_q_z2 := LK.cell HQ.out.2.1 2
      have c_q_z3 := LK.cell HQ.out.2.1 3
      have c_q_z4 := LK.cell HQ.out.2.1 4
      have c_q_z5 := LK.cell HQ.out.2.1 5
      have c_q_z6 := LK.cell HQ.out.2.1 6
      have z_q_z0 := LK.frozen HQ.out.2.1 0
      have z_q_z1 := LK.frozen HQ.out.2.1 1
      have z_q_z2 := LK.frozen HQ.out.2.1 2
      have z_q_z3 := LK.frozen HQ.out.2.1 3
      have z_q_z4 := LK.frozen HQ.out.2.1 4
      have z_q_z5 := LK.frozen HQ.out.2.1 5
      have z_q_z6 := LK.frozen HQ.out.2.1 6
      simp at c_q_n0 c_q_n1 c_q_x0 c_q_x1 c_q_x2 c_q_x3 c_q_x4 c_q_c0 c_q_c1 c_q_z0 c_q_z1 c_q_z2 c_q_z3 c_q_z4 c_q_z5 c_q_z6
      have hRn : R = none := by
        rw [HJ.out.1, HX.out.1]
        refine wkGo_cons_none ?_
        rw [HN.out.1]
        exact if_neg (fun h => h.2.2 (List.length_eq_zero_iff.1 hln))
      subst hRn
      have hBf := HQ.out.2.2.2.2.2.2.2.2.2
      clear HJ HA
      go_wp2
      refine bodyPost_ret (v := .agg #[.int .u8 0, .int .u32 0, .int .u32 0, .int .u8 0, .int .u32 0, .int .u32 0, .bool false]) (by simp [results, Try.results74, go_sem, c_q_z0, c_q_z1, c_q_z2, c_q_z3, c_q_z4, c_q_z5, c_q_z6]) rfl ⟨rfl, below_seven (Nat.le_succ _) hBf _ _ _ _ _ _ _⟩
    have i6 : ¬ (itn.length : Int) = 0 := by omega
    have ho : oneW s L x = wkGo (oneW s l) none itn := by
      rw [HN.out.1]
      exact if_pos ⟨rfl, rfl, fun h => hln (by rw [h]; rfl)⟩
    obtain ⟨ro, hro⟩ : ∃ z, wkGo (oneW s l) none itn = z := ⟨_, rfl⟩
    obtain ⟨a1, b1, c1, hsp1⟩ : ∃ a1 b1 c1, spn ro = (a1, b1, c1) := ⟨_, _, _, rfl⟩
    have kw := fun V h1 h2 => HA.out.2.2.2.2.2.2.1 l HL.out gs gb gw lo g nb no nc b u y x0 x1 x3 (some ⟨b3, o3, none⟩) cx s itn (.slice ac itn.length cc) V h1 h2 hmc
    rw [hro, hsp1] at kw
    simp only [spanV, bV, wV] at kw
    rw [hro] at ho
    have ho2 : (c1 = true → oneW s L x = some (a1, b1)) ∧ (c1 = false → oneW s L x = none) := by
      rw [ho]
      cases ro with
      | none => cases hsp1; exact ⟨fun h => (by cases h), fun _ => rfl⟩
      | some ab => cases hsp1; exact ⟨fun _ => rfl, fun h => (by cases h)⟩
    have HO := Lib.hid ho2
    have KW := Lib.hid kw
    clear ho ho2 kw hro hsp1 hmc
    have hwb := LK.of (HA.out.1.step HQ.out.2.2.2.2.2.2.2.2.2).wbox
    have q_w := hwb
    clear hwb
    obtain ⟨q_n, q_z, q_o, hZ, q_x, q_1, q_b, S_c, q_c, hB⟩ := HQ.out
    clear HQ
    have HQ := Lib.hid (And.intro q_n (And.intro q_z (And.intro q_o (And.intro hZ (And.intro q_x (And.intro q_1 (And.intro q_b (And.intro S_c (And.intro q_c (And.intro q_w hB))))))))))
    clear q_n q_z q_o hZ q_x q_1 q_b S_c q_c q_w hB
    clear c_q_n0 c_q_n1 c_q_x0 c_q_x1 c_q_x2 c_q_x3 c_q_x4 c_q_c0 c_q_c1
    have c_q_n0 := LK.cell HQ.out.1 0
    have c_q_n1 := LK.cell HQ.out.1 1
    have c_q_c0 := LK.cell HQ.out.2.2.2.2.2.2.2.2.1 0
    have c_q_c1 := LK.cell HQ.out.2.2.2.2.2.2.2.2.1 1
    have c_q_w0 := LK.cell HQ.out.2.2.2.2.2.2.2.2.2.1 0
    simp at c_q_n0 c_q_n1 c_q_c0 c_q_c1 c_q_w0
    go_wp2_with fail
    refine (KW.out _ (HA.out.1.step HQ.out.2.2.2.2.2.2.2.2.2.2) HQ.out.2.2.2.2.2.2.2.1.v).mono ?_
    rintro e w4 ⟨rfl, hst⟩
    clear c_q_n0 c_q_n1 c_q_c0 c_q_c1 c_q_w0
    obtain ⟨q_n, q_z, q_o, hZ, q_x, q_1, q_b, S_c, q_c, q_w, hB⟩ := HQ.out
    clear HQ
    clear S_c q_c q_b q_w
    have sz_w4 : w3.heap.size ≤ w4.heap.size := hst.size
    replace q_n := q_n.step hst
    replace q_z := q_z.step hst
    replace q_o := q_o.step hst
    replace hZ := hZ.step hst
    replace q_x := q_x.step hst
    replace q_1 := q_1.step hst
    replace hB := hB.step hst
    clear hst
    have HQ := Lib.hid (And.intro q_n (And.intro q_z (And.intro q_o (And.intro hZ (And.intro q_x (And.intro q_1 hB))))))
    clear q_n q_z q_o hZ q_x q_1 hB
    have c_q_n0 := LK.cell HQ.out.1 0
    have c_q_n1 := LK.cell HQ.out.1 1
    simp at c_q_n0 c_q_n1
    clear c_q_n0 c_q_n1
    have c_q_10 := LK.cell HQ.out.2.2.2.2.2.1 0
    have c_q_11 := LK.cell HQ.out.2.2.2.2.2.1 1
    have c_q_12 := LK.cell HQ.out.2.2.2.2.2.1 2
    have c_q_13 := LK.cell HQ.out.2.2.2.2.2.1 3
    have c_q_14 := LK.cell HQ.out.2.2.2.2.2.1 4
    have c_q_15 := LK.cell HQ.out.2.2.2.2.2.1 5
    have c_q_16 := LK.cell HQ.out.2.2.2.2.2.1 6
    have z_q_10 := LK.frozen HQ.out.2.2.2.2.2.1 0
    have z_q_11 := LK.frozen HQ.out.2.2.2.2.2.1 1
    have z_q_12 := LK.frozen HQ.out.2.2.2.2.2.1 2
    have z_q_13 := LK.frozen HQ.out.2.2.2.2.2.1 3
    have z_q_14 := LK.frozen HQ.out.2.2.2.2.2.1 4
    have z_q_15 := LK.frozen HQ.out.2.2.2.2.2.1 5
    have z_q_16 := LK.frozen HQ.out.2.2.2.2.2.1 6
    simp at c_q_10 c_q_11 c_q_12 c_q_13 c_q_14 c_q_15 c_q_16
    go_upto_region 11 with (fail)
    clear z_q_10 z_q_11 z_q_12 z_q_13 z_q_14 z_q_15 z_q_16 c_q_10 c_q_11 c_q_12 c_q_13 c_q_14 c_q_15 c_q_16
    obtain ⟨q_n, q_z, q_o, hZ, q_x, q_1, hB⟩ := HQ.out
    clear HQ
    have hcb := LK.blk q_1
    have hF : LK (g1) (.cells #[.int .u8 (a1.kind.toNat : Int), .int .u32 (a1.id.toNat : Int), .int .u32 (a1.off.toNat : Int), .int .u8 (b1.kind.toNat : Int), .int .u32 (b1.id.toNat : Int), .int .u32 (b1.off.toNat : Int), .bool c1] 124) (((((((w4.setCell ⟨g1, 0, none⟩ (.int .u8 (a1.kind.toNat : Int))).setCell ⟨g1, 1, none⟩ (.int .u32 (a1.id.toNat : Int))).setCell ⟨g1, 2, none⟩ (.int .u32 (a1.off.toNat : Int))).setCell ⟨g1, 3, none⟩ (.int .u8 (b1.kind.toNat : Int))).setCell ⟨g1, 4, none⟩ (.int .u32 (b1.id.toNat : Int))).setCell ⟨g1, 5, none⟩ (.int .u32 (b1.off.toNat : Int))).setCell ⟨g1, 6, none⟩ (.bool c1)) := LK.of (set_block (set_block (set_block (set_block (set_block (set_block (set_block hcb 0 _) 1 _) 2 _) 3 _) 4 _) 5 _) 6 _)
    have hbel : Below (g1) w4 (((((((w4.setCell ⟨g1, 0, none⟩ (.int .u8 (a1.kind.toNat : Int))).setCell ⟨g1, 1, none⟩ (.int .u32 (a1.id.toNat : Int))).setCell ⟨g1, 2, none⟩ (.int .u32 (a1.off.toNat : Int))).setCell ⟨g1, 3, none⟩ (.int .u8 (b1.kind.toNat : Int))).setCell ⟨g1, 4, none⟩ (.int .u32 (b1.id.toNat : Int))).setCell ⟨g1, 5, none⟩ (.int .u32 (b1.off.toNat : Int))).setCell ⟨g1, 6, none⟩ (.bool c1)) := (((((((Below.refl _ w4).setCell (p := ⟨g1, 0, none⟩) (Nat.le_refl _) _).setCell (p := ⟨g1, 1, none⟩) (Nat.le_refl _) _).setCell (p := ⟨g1, 2, none⟩) (Nat.le_refl _) _).setCell (p := ⟨g1, 3, none⟩) (Nat.le_refl _) _).setCell (p := ⟨g1, 4, none⟩) (Nat.le_refl _) _).setCell (p := ⟨g1, 5, none⟩) (Nat.le_refl _) _).setCell (p := ⟨g1, 6, none⟩) (Nat.le_refl _) _
    have hfr : ∀ x, x < w4.heap.size → (x < g1 ∨ g1 + 1 ≤ x) → (((((((w4.setCell ⟨g1, 0, none⟩ (.int .u8 (a1.kind.toNat : Int))).setCell ⟨g1, 1, none⟩ (.int .u32 (a1.id.toNat : Int))).setCell ⟨g1, 2, none⟩ (.int .u32 (a1.off.toNat : Int))).setCell ⟨g1, 3, none⟩ (.int .u8 (b1.kind.toNat : Int))).setCell ⟨g1, 4, none⟩ (.int .u32 (b1.id.toNat : Int))).setCell ⟨g1, 5, none⟩ (.int .u32 (b1.off.toNat : Int))).setCell ⟨g1, 6, none⟩ (.bool c1)).heap[x]? = w4.heap[x]? := fun x _ h => (set_other _ _ _ _ _ (by omega)).trans ((set_other _ _ _ _ _ (by omega)).trans ((set_other _ _ _ _ _ (by omega)).trans ((set_other _ _ _ _ _ (by omega)).trans ((set_other _ _ _ _ _ (by omega)).trans ((set_other _ _ _ _ _ (by omega)).trans ((set_other _ _ _ _ _ (by omega))))))))
    have hs4 : (((((((w4.setCell ⟨g1, 0, none⟩ (.int .u8 (a1.kind.toNat : Int))).setCell ⟨g1, 1, none⟩ (.int .u32 (a1.id.toNat : Int))).setCell ⟨g1, 2, none⟩ (.int .u32 (a1.off.toNat : Int))).setCell ⟨g1, 3, none⟩ (.int .u8 (b1.kind.toNat : Int))).setCell ⟨g1, 4, none⟩ (.int .u32 (b1.id.toNat : Int))).setCell ⟨g1, 5, none⟩ (.int .u32 (b1.off.toNat : Int))).setCell ⟨g1, 6, none⟩ (.bool c1)).heap.size = w4.heap.size := by simp only [World.size_setCell]
    replace q_n := q_n.out (Nat.le_of_eq hs4.symm) hfr (by omega)
    replace q_z := q_z.out (Nat.le_of_eq hs4.symm) hfr (by omega)
    replace q_o := q_o.out (Nat.le_of_eq hs4.symm) hfr (by omega)
    replace hZ := hZ.out (Nat.le_of_eq hs4.symm) hfr (by omega)
    replace q_x := q_x.out (Nat.le_of_eq hs4.symm) hfr (by omega)
    replace hB := hB.outB hbel (by omega)
    replace q_1 := hF
    obtain ⟨w5, hw⟩ : ∃ v, (((((((w4.setCell ⟨g1, 0, none⟩ (.int .u8 (a1.kind.toNat : Int))).setCell ⟨g1, 1, none⟩ (.int .u32 (a1.id.toNat : Int))).setCell ⟨g1, 2, none⟩ (.int .u32 (a1.off.toNat : Int))).setCell ⟨g1, 3, none⟩ (.int .u8 (b1.kind.toNat : Int))).setCell ⟨g1, 4, none⟩ (.int .u32 (b1.id.toNat : Int))).setCell ⟨g1, 5, none⟩ (.int .u32 (b1.off.toNat : Int))).setCell ⟨g1, 6, none⟩ (.bool c1)) = v := ⟨_, rfl⟩
    rw [hw] at hs4 q_n q_z q_o hZ q_x q_1 hB ⊢
    have sz_w5 := Nat.le_of_eq hs4
    have sy_w5 := Nat.le_of_eq hs4.symm
    clear hw hF hbel hfr hcb hs4
    have HQ := Lib.hid (And.intro q_n (And.intro q_z (And.intro q_o (And.intro hZ (And.intro q_x (And.intro q_1 hB))))))
    clear q_n q_z q_o hZ q_x q_1 hB
    have c_q_10 := LK.cell HQ.out.2.2.2.2.2.1 0
    have c_q_11 := LK.cell HQ.out.2.2.2.2.2.1 1
    have c_q_12 := LK.cell HQ.out.2.2.2.2.2.1 2
    have c_q_13 := LK.cell HQ.out.2.2.2.2.2.1 3
    have c_q_14 := LK.cell HQ.out.2.2.2.2.2.1 4
    have c_q_15 := LK.cell HQ.out.2.2.2.2.2.1 5
    have c_q_16 := LK.cell HQ.out.2.2.2.2.2.1 6
    simp at c_q_10 c_q_11 c_q_12 c_q_13 c_q_14 c_q_15 c_q_16
    cases c1
    case false =>
      clear c_q_10 c_q_11 c_q_12 c_q_13 c_q_14 c_q_15 c_q_16
      have c_q_n0 := LK.cell HQ.out.1 0
      have c_q_n1 := LK.cell HQ.out.1 1
      have c_q_10 := LK.cell HQ.out.2.2.2.2.2.1 0
      have c_q_11 := LK.cell HQ.out.2.2.2.2.2.1 1
      have c_q_12 := LK.cell HQ.out.2.2.2.2.2.1 2
      have c_q_13 := LK.cell HQ.out.2.2.2.2.2.1 3
      have c_q_14 := LK.cell HQ.out.2.2.2.2.2.1 4
      have c_q_15 := LK.cell HQ.out.2.2.2.2.2.1 5
      have c_q_16 := LK.cell HQ.out.2.2.2.2.2.1 6
      have c_q_x0 := LK.cell HQ.out.2.2.2.2.1 0
      have c_q_x1 := LK.cell HQ.out.2.2.2.2.1 1
      have c_q_x2 := LK.cell HQ.out.2.2.2.2.1 2
      have c_q_x3 := LK.cell HQ.out.2.2.2.2.1 3
      have c_q_x4 := LK.cell HQ.out.2.2.2.2.1 4
      simp at c_q_n0 c_q_n1 c_q_10 c_q_11 c_q_12 c_q_13 c_q_14 c_q_15 c_q_16 c_q_x0 c_q_x1 c_q_x2 c_q_x3 c_q_x4
      clear c_q_n0 c_q_n1 c_q_10 c_q_11 c_q_12 c_q_13 c_q_14 c_q_15 c_q_16 c_q_x0 c_q_x1 c_q_x2 c_q_x3 c_q_x4
      have c_q_n0 := LK.cell HQ.out.1 0
      have c_q_n1 := LK.cell HQ.out.1 1
      have c_q_10 := LK.cell HQ.out.2.2.2.2.2.1 0
      have c_q_11 := LK.cell HQ.out.2.2.2.2.2.1 1
      have c_q_12 := LK.cell HQ.out.2.2.2.2.2.1 2
      have c_q_13 := LK.cell HQ.out.2.2.2.2.2.1 3
      have c_q_14 := LK.cell HQ.out.2.2.2.2.2.1 4
      have c_q_15 := LK.cell HQ.out.2.2.2.2.2.1 5
      have c_q_16 := LK.cell HQ.out.2.2.2.2.2.1 6
      have c_q_x0 := LK.cell HQ.out.2.2.2.2.1 0
      have c_q_x1 := LK.cell HQ.out.2.2.2.2.1 1
      have c_q_x2 := LK.cell HQ.out.2.2.2.2.1 2
      have c_q_x3 := LK.cell HQ.out.2.2.2.2.1 3
      have c_q_x4 := LK.cell HQ.out.2.2.2.2.1 4
      have c_q_z0 := LK.cell HQ.out.2.1 0
      have c_q_z1 := LK.cell HQ.out.2.1 1
      have c_q_z2 := LK.cell HQ.out.2.1 2
      have c_q_z3 := LK.cell HQ.out.2.1 3
      have c_q_z4 := LK.cell HQ.out.2.1 4
      have c_q_z5 := LK.cell HQ.out.2.1 5
      have c_q_z6 := LK.cell HQ.out.2.1 6
      have z_q_z0 := LK.frozen HQ.out.2.1 0
      have z_q_z1 := LK.frozen HQ.out.2.1 1
      have z_q_z2 := LK.frozen HQ.out.2.1 2
      have z_q_z3 := LK.frozen HQ.out.2.1 3
      have z_q_z4 := LK.frozen HQ.out.2.1 4
      have z_q_z5 := LK.frozen HQ.out.2.1 5
      have z_q_z6 := LK.frozen HQ.out.2.1 6
      simp at c_q_n0 c_q_n1 c_q_10 c_q_11 c_q_12 c_q_13 c_q_14 c_q_15 c_q_16 c_q_x0 c_q_x1 c_q_x2 c_q_x3 c_q_x4 c_q_z0 c_q_z1 c_q_z2 c_q_z3 c_q_z4 c_q_z5 c_q_z6
      have hRn : R = none := by
        rw [HJ.out.1, HX.out.1]
        exact wkGo_cons_none (HO.out.2 (by trivial))
      subst hRn
      have hBf := HQ.out.2.2.2.2.2.2
      clear HJ HA
      go_wp2
      refine bodyPost_ret (v := .agg #[.int .u8 0, .int .u32 0, .int .u32 0, .int .u8 0, .int .u32 0, .int .u32 0, .bool false]) (by simp [results, Try.results74, go_sem, c_q_z0, c_q_z1, c_q_z2, c_q_z3, c_q_z4, c_q_z5, c_q_z6]) rfl ⟨rfl, below_seven (Nat.le_succ _) hBf _ _ _ _ _ _ _⟩
    by_cases hk : a1 = x.key
    case neg =>
      clear c_q_10 c_q_11 c_q_12 c_q_13 c_q_14 c_q_15 c_q_16
      have c_q_n0 := LK.cell HQ.out.1 0
      have c_q_n1 := LK.cell HQ.out.1 1
      have c_q_10 := LK.cell HQ.out.2.2.2.2.2.1 0
      have c_q_11 := LK.cell HQ.out.2.2.2.2.2.1 1
      have c_q_12 := LK.cell HQ.out.2.2.2.2.2.1 2
      have c_q_13 := LK.cell HQ.out.2.2.2.2.2.1 3
      have c_q_14 := LK.cell HQ.out.2.2.2.2.2.1 4
      have c_q_15 := LK.cell HQ.out.2.2.2.2.2.1 5
      have c_q_16 := LK.cell HQ.out.2.2.2.2.2.1 6
      have c_q_x0 := LK.cell HQ.out.2.2.2.2.1 0
      have c_q_x1 := LK.cell HQ.out.2.2.2.2.1 1
      have c_q_x2 := LK.cell HQ.out.2.2.2.2.1 2
      have c_q_x3 := LK.cell HQ.out.2.2.2.2.1 3
      have c_q_x4 := LK.cell HQ.out.2.2.2.2.1 4
      simp at c_q_n0 c_q_n1 c_q_10 c_q_11 c_q_12 c_q_13 c_q_14 c_q_15 c_q_16 c_q_x0 c_q_x1 c_q_x2 c_q_x3 c_q_x4
      have ek := fun W => (eq_key a1 x.key W).trans (congrArg (fun z => Result.ok z W) (decide_eq_false hk))
      simp only [keyV, bV, wV] at ek
      clear c_q_n0 c_q_n1 c_q_10 c_q_11 c_q_12 c_q_13 c_q_14 c_q_15 c_q_16 c_q_x0 c_q_x1 c_q_x2 c_q_x3 c_q_x4
      have c_q_n0 := LK.cell HQ.out.1 0
      have c_q_n1 := LK.cell HQ.out.1 1
      have c_q_10 := LK.cell HQ.out.2.2.2.2.2.1 0
      have c_q_11 := LK.cell HQ.out.2.2.2.2.2.1 1
      have c_q_12 := LK.cell HQ.out.2.2.2.2.2.1 2
      have c_q_13 := LK.cell HQ.out.2.2.2.2.2.1 3
      have c_q_14 := LK.cell HQ.out.2.2.2.2.2.1 4
      have c_q_15 := LK.cell HQ.out.2.2.2.2.2.1 5
      have c_q_16 := LK.cell HQ.out.2.2.2.2.2.1 6
      have c_q_x0 := LK.cell HQ.out.2.2.2.2.1 0
      have c_q_x1 := LK.cell HQ.out.2.2.2.2.1 1
      have c_q_x2 := LK.cell HQ.out.2.2.2.2.1 2
      have c_q_x3 := LK.cell HQ.out.2.2.2.2.1 3
      have c_q_x4 := LK.cell HQ.out.2.2.2.2.1 4
      have c_q_z0 := LK.cell HQ.out.2.1 0
      have c_q_z1 := LK.cell HQ.out.2.1 1
      have c_q_z2 := LK.cell HQ.out.2.1 2
      have c_q_z3 := LK.cell HQ.out.2.1 3
      have c_q_z4 := LK.cell HQ.out.2.1 4
      have c_q_z5 := LK.cell HQ.out.2.1 5
      have c_q_z6 := LK.cell HQ.out.2.1 6
      have z_q_z0 := LK.frozen HQ.out.2.1 0
      have z_q_z1 := LK.frozen HQ.out.2.1 1
      have z_q_z2 := LK.frozen HQ.out.2.1 2
      have z_q_z3 := LK.frozen HQ.out.2.1 3
      have z_q_z4 := LK.frozen HQ.out.2.1 4
      have z_q_z5 := LK.frozen HQ.out.2.1 5
      have z_q_z6 := LK.frozen HQ.out.2.1 6
      simp at c_q_n0 c_q_n1 c_q_10 c_q_11 c_q_12 c_q_13 c_q_14 c_q_15 c_q_16 c_q_x0 c_q_x1 c_q_x2 c_q_x3 c_q_x4 c_q_z0 c_q_z1 c_q_z2 c_q_z3 c_q_z4 c_q_z5 c_q_z6
      have hRn : R = none := by
        rw [HJ.out.1, HX.out.1]
        exact wkGo_cons_bad (HO.out.1 (by trivial)) (fun h => hk h.1)
      subst hRn
      have hBf := HQ.out.2.2.2.2.2.2
      clear HJ HA
      go_wp2
      refine bodyPost_ret (v := .agg #[.int .u8 0, .int .u32 0, .int .u32 0, .int .u8 0, .int .u32 0, .int .u32 0, .bool false]) (by simp [results, Try.results74, go_sem, c_q_z0, c_q_z1, c_q_z2, c_q_z3, c_q_z4, c_q_z5, c_q_z6]) rfl ⟨rfl, below_seven (Nat.le_succ _) hBf _ _ _ _ _ _ _⟩
    subst hk
    have hk : x.key = x.key := rfl
    have ek := fun W => (eq_key x.key x.key W).trans (congrArg (fun z => Result.ok z W) (decide_eq_true hk))
    simp only [keyV, bV, wV] at ek
    by_cases hj0 : j = 0
    · subst hj0
      clear c_q_10 c_q_11 c_q_12 c_q_13 c_q_14 c_q_15 c_q_16
      have c_q_n0 := LK.cell HQ.out.1 0
      have c_q_n1 := LK.cell HQ.out.1 1
      have c_q_10 := LK.cell HQ.out.2.2.2.2.2.1 0
      have c_q_11 := LK.cell HQ.out.2.2.2.2.2.1 1
      have c_q_12 := LK.cell HQ.out.2.2.2.2.2.1 2
      have c_q_13 := LK.cell HQ.out.2.2.2.2.2.1 3
      have c_q_14 := LK.cell HQ.out.2.2.2.2.2.1 4
      have c_q_15 := LK.cell HQ.out.2.2.2.2.2.1 5
      have c_q_16 := LK.cell HQ.out.2.2.2.2.2.1 6
      have c_q_x0 := LK.cell HQ.out.2.2.2.2.1 0
      have c_q_x1 := LK.cell HQ.out.2.2.2.2.1 1
      have c_q_x2 := LK.cell HQ.out.2.2.2.2.1 2
      have c_q_x3 := LK.cell HQ.out.2.2.2.2.1 3
      have c_q_x4 := LK.cell HQ.out.2.2.2.2.1 4
      have c_q_o0 := LK.cell HQ.out.2.2.1 0
      have c_q_o1 := LK.cell HQ.out.2.2.1 1
      have c_q_o2 := LK.cell HQ.out.2.2.1 2
      have c_q_o3 := LK.cell HQ.out.2.2.1 3
      have c_q_o4 := LK.cell HQ.out.2.2.1 4
      have c_q_o5 := LK.cell HQ.out.2.2.1 5
      have c_q_o6 := LK.cell HQ.out.2.2.1 6
      have z_q_o0 := LK.frozen HQ.out.2.2.1 0
      have z_q_o1 := LK.frozen HQ.out.2.2.1 1
      have z_q_o2 := LK.frozen HQ.out.2.2.1 2
      have z_q_o3 := LK.frozen HQ.out.2.2.1 3
      have z_q_o4 := LK.frozen HQ.out.2.2.1 4
      have z_q_o5 := LK.frozen HQ.out.2.2.1 5
      have z_q_o6 := LK.frozen HQ.out.2.2.1 6
      simp at c_q_n0 c_q_n1 c_q_10 c_q_11 c_q_12 c_q_13 c_q_14 c_q_15 c_q_16 c_q_x0 c_q_x1 c_q_x2 c_q_x3 c_q_x4 c_q_o0 c_q_o1 c_q_o2 c_q_o3 c_q_o4 c_q_o5 c_q_o6
      have hacc := HJ.out.2.1 rfl
      subst hacc
      have hnx : R = wkGo (oneW s L) (some (x.key, b1)) (its.drop 1) := by
        rw [HJ.out.1, HX.out.1]
        exact wkGo_cons_ok (HO.out.1 (by trivial)) ⟨rfl, rfl⟩
      have HNX := Lib.hid hnx
      clear hnx hk
      have hqo := HQ.out.2.2.1
      have hBf := HQ.out.2.2.2.2.2.2
      have hZf := Lv.get HQ.out.2.2.2.1
      have HF := Lib.hid (And.intro hqo (And.intro hBf hZf))
      clear hqo hBf hZf
      go_wp2
      go_roundw
      case rel =>
        refine ⟨1, some (x.key, b1), x.key, b1, true, by omega, by go_num, HNX.out, fun h => by omega, fun _ => rfl, rfl, ?_, ?_, ?_, ?_⟩
        · exact set_block (set_block (set_block (set_block (set_block (set_block (set_block HF.out.1.blk 0 _) 1 _) 2 _) 3 _) 4 _) 5 _) 6 _
        · intro q hq hne
          refine (set_other _ _ _ _ _ hne).trans ((set_other _ _ _ _ _ hne).trans ((set_other _ _ _ _ _ hne).trans ((set_other _ _ _ _ _ hne).trans ((set_other _ _ _ _ _ hne).trans ((set_other _ _ _ _ _ hne).trans ((set_other _ _ _ _ _ hne).trans ?_))))))
          exact HF.out.2.2 q hq hne
        · simp only [World.size_setCell]
          omega
        · exact below_seven (by omega) HF.out.2.1 _ _ _ _ _ _ _
      case measure => simp [intOf]; omega
    have hjp : 0 < j := by omega
    have hacc := HJ.out.2.2.1 hjp
    subst hacc
    have hc0 : c0 = true := by
      have := HJ.out.2.2.2.1
      unfold spn at this
      exact (Prod.mk.inj (Prod.mk.inj this).2).2.symm
    subst hc0
    have i8 : (0 : Int) < j := by omega
    clear c_q_10 c_q_11 c_q_12 c_q_13 c_q_14 c_q_15 c_q_16
    have c_q_n0 := LK.cell HQ.out.1 0
    have c_q_n1 := LK.cell HQ.out.1 1
    have c_q_10 := LK.cell HQ.out.2.2.2.2.2.1 0
    have c_q_11 := LK.cell HQ.out.2.2.2.2.2.1 1
    have c_q_12 := LK.cell HQ.out.2.2.2.2.2.1 2
    have c_q_13 := LK.cell HQ.out.2.2.2.2.2.1 3
    have c_q_14 := LK.cell HQ.out.2.2.2.2.2.1 4
    have c_q_15 := LK.cell HQ.out.2.2.2.2.2.1 5
    have c_q_16 := LK.cell HQ.out.2.2.2.2.2.1 6
    have c_q_x0 := LK.cell HQ.out.2.2.2.2.1 0
    have c_q_x1 := LK.cell HQ.out.2.2.2.2.1 1
    have c_q_x2 := LK.cell HQ.out.2.2.2.2.1 2
    have c_q_x3 := LK.cell HQ.out.2.2.2.2.1 3
    have c_q_x4 := LK.cell HQ.out.2.2.2.2.1 4
    have c_q_o0 := LK.cell HQ.out.2.2.1 0
    have c_q_o1 := LK.cell HQ.out.2.2.1 1
    have c_q_o2 := LK.cell HQ.out.2.2.1 2
    have c_q_o3 := LK.cell HQ.out.2.2.1 3
    have c_q_o4 := LK.cell HQ.out.2.2.1 4
    have c_q_o5 := LK.cell HQ.out.2.2.1 5
    have c_q_o6 := LK.cell HQ.out.2.2.1 6
    simp at c_q_n0 c_q_n1 c_q_10 c_q_11 c_q_12 c_q_13 c_q_14 c_q_15 c_q_16 c_q_x0 c_q_x1 c_q_x2 c_q_x3 c_q_x4 c_q_o0 c_q_o1 c_q_o2 c_q_o3 c_q_o4 c_q_o5 c_q_o6
    have kl := fun W => less_any b0 x.key W
    simp only [keyV, bV, wV] at kl
    obtain ⟨lb, hlb⟩ : ∃ z, lessK b0 x.key = z := ⟨_, rfl⟩
    rw [hlb] at kl
    have KL := Lib.hid (And.intro kl hlb)
    clear kl hlb
    go_wp2_with fail
    refine (KL.out.1 _).mono ?_
    rintro e w6 ⟨rfl, hst⟩
    clear c_q_n0 c_q_n1 c_q_10 c_q_11 c_q_12 c_q_13 c_q_14 c_q_15 c_q_16 c_q_x0 c_q_x1 c_q_x2 c_q_x3 c_q_x4 c_q_o0 c_q_o1 c_q_o2 c_q_o3 c_q_o4 c_q_o5 c_q_o6
    obtain ⟨q_n, q_z, q_o, hZ, q_x, q_1, hB⟩ := HQ.out
    clear HQ
    have sz_w6 : w5.heap.size ≤ w6.heap.size := hst.size
    replace q_n := q_n.step hst
    replace q_z := q_z.step hst
    replace q_o := q_o.step hst
    replace hZ := hZ.step hst
    replace q_x := q_x.step hst
    replace q_1 := q_1.step hst
    replace hB := hB.step hst
    clear hst
    have HQ := Lib.hid (And.intro q_n (And.intro q_z (And.intro q_o (And.intro hZ (And.intro q_x (And.intro q_1 hB))))))
    clear q_n q_z q_o hZ q_x q_1 hB
    have c_q_n0 := LK.cell HQ.out.1 0
    have c_q_n1 := LK.cell HQ.out.1 1
    have c_q_10 := LK.cell HQ.out.2.2.2.2.2.1 0
    have c_q_11 := LK.cell HQ.out.2.2.2.2.2.1 1
    have c_q_12 := LK.cell HQ.out.2.2.2.2.2.1 2
    have c_q_13 := LK.cell HQ.out.2.2.2.2.2.1 3
    have c_q_14 := LK.cell HQ.out.2.2.2.2.2.1 4
    have c_q_15 := LK.cell HQ.out.2.2.2.2.2.1 5
    have c_q_16 := LK.cell HQ.out.2.2.2.2.2.1 6
    have c_q_x0 := LK.cell HQ.out.2.2.2.2.1 0
    have c_q_x1 := LK.cell HQ.out.2.2.2.2.1 1
    have c_q_x2 := LK.cell HQ.out.2.2.2.2.1 2
    have c_q_x3 := LK.cell HQ.out.2.2.2.2.1 3
    have c_q_x4 := LK.cell HQ.out.2.2.2.2.1 4
    have c_q_o0 := LK.cell HQ.out.2.2.1 0
    have c_q_o1 := LK.cell HQ.out.2.2.1 1
    have c_q_o2 := LK.cell HQ.out.2.2.1 2
    have c_q_o3 := LK.cell HQ.out.2.2.1 3
    have c_q_o4 := LK.cell HQ.out.2.2.1 4
    have c_q_o5 := LK.cell HQ.out.2.2.1 5
    have c_q_o6 := LK.cell HQ.out.2.2.1 6
    simp at c_q_n0 c_q_n1 c_q_10 c_q_11 c_q_12 c_q_13 c_q_14 c_q_15 c_q_16 c_q_x0 c_q_x1 c_q_x2 c_q_x3 c_q_x4 c_q_o0 c_q_o1 c_q_o2 c_q_o3 c_q_o4 c_q_o5 c_q_o6
    cases lb
    case false =>
      clear c_q_n0 c_q_n1 c_q_10 c_q_11 c_q_12 c_q_13 c_q_14 c_q_15 c_q_16 c_q_x0 c_q_x1 c_q_x2 c_q_x3 c_q_x4 c_q_o0 c_q_o1 c_q_o2 c_q_o3 c_q_o4 c_q_o5 c_q_o6
      have c_q_n0 := LK.cell HQ.out.1 0
      have c_q_n1 := LK.cell HQ.out.1 1
      have c_q_10 := LK.cell HQ.out.2.2.2.2.2.1 0
      have c_q_11 := LK.cell HQ.out.2.2.2.2.2.1 1
      have c_q_12 := LK.cell HQ.out.2.2.2.2.2.1 2
      have c_q_13 := LK.cell HQ.out.2.2.2.2.2.1 3
      have c_q_14 := LK.cell HQ.out.2.2.2.2.2.1 4
      have c_q_15 := LK.cell HQ.out.2.2.2.2.2.1 5
      have c_q_16 := LK.cell HQ.out.2.2.2.2.2.1 6
      have c_q_x0 := LK.cell HQ.out.2.2.2.2.1 0
      have c_q_x1 := LK.cell HQ.out.2.2.2.2.1 1
      have c_q_x2 := LK.cell HQ.out.2.2.2.2.1 2
      have c_q_x3 := LK.cell HQ.out.2.2.2.2.1 3
      have c_q_x4 := LK.cell HQ.out.2.2.2.2.1 4
      have c_q_o0 := LK.cell HQ.out.2.2.1 0
      have c_q_o1 := LK.cell HQ.out.2.2.1 1
      have c_q_o2 := LK.cell HQ.out.2.2.1 2
      have c_q_o3 := LK.cell HQ.out.2.2.1 3
      have c_q_o4 := LK.cell HQ.out.2.2.1 4
      have c_q_o5 := LK.cell HQ.out.2.2.1 5
      have c_q_o6 := LK.cell HQ.out.2.2.1 6
      have c_q_z0 := LK.cell HQ.out.2.1 0
      have c_q_z1 := LK.cell HQ.out.2.1 1
      have c_q_z2 := LK.cell HQ.out.2.1 2
      have c_q_z3 := LK.cell HQ.out.2.1 3
      have c_q_z4 := LK.cell HQ.out.2.1 4
      have c_q_z5 := LK.cell HQ.out.2.1 5
      have c_q_z6 := LK.cell HQ.out.2.1 6
      have z_q_z0 := LK.frozen HQ.out.2.1 0
      have z_q_z1 := LK.frozen HQ.out.2.1 1
      have z_q_z2 := LK.frozen HQ.out.2.1 2
      have z_q_z3 := LK.frozen HQ.out.2.1 3
      have z_q_z4 := LK.frozen HQ.out.2.1 4
      have z_q_z5 := LK.frozen HQ.out.2.1 5
      have z_q_z6 := LK.frozen HQ.out.2.1 6
      simp at c_q_n0 c_q_n1 c_q_10 c_q_11 c_q_12 c_q_13 c_q_14 c_q_15 c_q_16 c_q_x0 c_q_x1 c_q_x2 c_q_x3 c_q_x4 c_q_o0 c_q_o1 c_q_o2 c_q_o3 c_q_o4 c_q_o5 c_q_o6 c_q_z0 c_q_z1 c_q_z2 c_q_z3 c_q_z4 c_q_z5 c_q_z6
      have hRn : R = none := by
        rw [HJ.out.1, HX.out.1]
        refine wkGo_cons_bad (HO.out.1 (by trivial)) (fun h => ?_)
        have := KL.out.2.symm.trans h.2
        cases this
      subst hRn
      have hBf := HQ.out.2.2.2.2.2.2
      clear HJ HA
      go_wp2
      refine bodyPost_ret (v := .agg #[.int .u8 0, .int .u32 0, .int .u32 0, .int .u8 0, .int .u32 0, .int .u32 0, .bool false]) (by simp [results, Try.results74, go_sem, c_q_z0, c_q_z1, c_q_z2, c_q_z3, c_q_z4, c_q_z5, c_q_z6]) rfl ⟨rfl, below_seven (Nat.le_succ _) hBf _ _ _ _ _ _ _⟩
    clear c_q_n0 c_q_n1 c_q_10 c_q_11 c_q_12 c_q_13 c_q_14 c_q_15 c_q_16 c_q_x0 c_q_x1 c_q_x2 c_q_x3 c_q_x4 c_q_o0 c_q_o1 c_q_o2 c_q_o3 c_q_o4 c_q_o5 c_q_o6
    have c_q_n0 := LK.cell HQ.out.1 0
    have c_q_n1 := LK.cell HQ.out.1 1
    have c_q_10 := LK.cell HQ.out.2.2.2.2.2.1 0
    have c_q_11 := LK.cell HQ.out.2.2.2.2.2.1 1
    have c_q_12 := LK.cell HQ.out.2.2.2.2.2.1 2
    have c_q_13 := LK.cell HQ.out.2.2.2.2.2.1 3
    have c_q_14 := LK.cell HQ.out.2.2.2.2.2.1 4
    have c_q_15 := LK.cell HQ.out.2.2.2.2.2.1 5
    have c_q_16 := LK.cell HQ.out.2.2.2.2.2.1 6
    have c_q_o0 := LK.cell HQ.out.2.2.1 0
    have c_q_o1 := LK.cell HQ.out.2.2.1 1
    have c_q_o2 := LK.cell HQ.out.2.2.1 2
    have c_q_o3 := LK.cell HQ.out.2.2.1 3
    have c_q_o4 := LK.cell HQ.out.2.2.1 4
    have c_q_o5 := LK.cell HQ.out.2.2.1 5
    have c_q_o6 := LK.cell HQ.out.2.2.1 6
    have z_q_o0 := LK.frozen HQ.out.2.2.1 0
    have z_q_o1 := LK.frozen HQ.out.2.2.1 1
    have z_q_o2 := LK.frozen HQ.out.2.2.1 2
    have z_q_o3 := LK.frozen HQ.out.2.2.1 3
    have z_q_o4 := LK.frozen HQ.out.2.2.1 4
    have z_q_o5 := LK.frozen HQ.out.2.2.1 5
    have z_q_o6 := LK.frozen HQ.out.2.2.1 6
    simp at c_q_n0 c_q_n1 c_q_10 c_q_11 c_q_12 c_q_13 c_q_14 c_q_15 c_q_16 c_q_o0 c_q_o1 c_q_o2 c_q_o3 c_q_o4 c_q_o5 c_q_o6
    have hnx : R = wkGo (oneW s L) (some (a0, b1)) (its.drop (j + 1)) := by
      rw [HJ.out.1, HX.out.1]
      exact wkGo_cons_ok (HO.out.1 (by trivial)) ⟨rfl, KL.out.2⟩
    have HNX := Lib.hid hnx
    clear hnx hk
    have hqo := HQ.out.2.2.1
    have hBf := HQ.out.2.2.2.2.2.2
    have hZf := Lv.get HQ.out.2.2.2.1
    have HF := Lib.hid (And.intro hqo (And.intro hBf hZf))
    clear hqo hBf hZf
    have i7 : ((j : Int) == 0) = false := by simp; omega
    go_wp2
    skip
    go_roundw
    case rel =>
      refine ⟨j + 1, some (a0, b1), a0, b1, true, by omega, by go_num, HNX.out, fun h => by omega, fun _ => rfl, rfl, ?_, ?_, ?_, ?_⟩
      · exact set_block (set_block (set_block (set_block HF.out.1.blk 3 _) 4 _) 5 _) 6 _
      · intro q hq hne
        refine (set_other _ _ _ _ _ hne).trans ((set_other _ _ _ _ _ hne).trans ((set_other _ _ _ _ _ hne).trans ((set_other _ _ _ _ _ hne).trans ?_)))
        exact HF.out.2.2 q hq hne
      · simp only [World.size_setCell]
        omega
      · have h2w : w.heap.size ≤ w.heap.size + 1 + 1 := by omega
        exact (((HF.out.2.1.setCell (p := ⟨w.heap.size + 1 + 1, 3, none⟩) h2w _).setCell (p := ⟨w.heap.size + 1 + 1, 4, none⟩) h2w _).setCell (p := ⟨w.heap.size + 1 + 1, 5, none⟩) h2w _).setCell (p := ⟨w.heap.size + 1 + 1, 6, none⟩) h2w _
    case measure => simp [intOf]; omega
  have hje : j = its.length := by omega
  subst hje
  have c_q_o0 := LK.cell HQ.out.2.2.1 0
  have c_q_o1 := LK.cell HQ.out.2.2.1 1
  have c_q_o2 := LK.cell HQ.out.2.2.1 2
  have c_q_o3 := LK.cell HQ.out.2.2.1 3
  have c_q_o4 := LK.cell HQ.out.2.2.1 4
  have c_q_o5 := LK.cell HQ.out.2.2.1 5
  have c_q_o6 := LK.cell HQ.out.2.2.1 6
  have c_q_z0 := LK.cell HQ.out.2.1 0
  have c_q_z1 := LK.cell HQ.out.2.1 1
  have c_q_z2 := LK.cell HQ.out.2.1 2
  have c_q_z3 := LK.cell HQ.out.2.1 3
  have c_q_z4 := LK.cell HQ.out.2.1 4
  have c_q_z5 := LK.cell HQ.out.2.1 5
  have c_q_z6 := LK.cell HQ.out.2.1 6
  have z_q_z0 := LK.frozen HQ.out.2.1 0
  have z_q_z1 := LK.frozen HQ.out.2.1 1
  have z_q_z2 := LK.frozen HQ.out.2.1 2
  have z_q_z3 := LK.frozen HQ.out.2.1 3
  have z_q_z4 := LK.frozen HQ.out.2.1 4
  have z_q_z5 := LK.frozen HQ.out.2.1 5
  have z_q_z6 := LK.frozen HQ.out.2.1 6
  simp at c_q_o0 c_q_o1 c_q_o2 c_q_o3 c_q_o4 c_q_o5 c_q_o6 c_q_z0 c_q_z1 c_q_z2 c_q_z3 c_q_z4 c_q_z5 c_q_z6
  have hRe : R = acc := by
    rw [HJ.out.1, List.drop_length, wkGo]
  have hBf := HQ.out.2.2.2.2
  have hgo : spanV (spn R) = .agg #[.int .u8 (a0.kind.toNat : Int), .int .u32 (a0.id.toNat : Int), .int .u32 (a0.off.toNat : Int), .int .u8 (b0.kind.toNat : Int), .int .u32 (b0.id.toNat : Int), .int .u32 (b0.off.toNat : Int), .bool c0] := by
    rw [hRe, HJ.out.2.2.2.1]
    rfl
  have HG := Lib.hid hgo
  clear hgo hRe
  go_wp2
  refine bodyPost_ret (v := .agg #[.int .u8 (a0.kind.toNat : Int), .int .u32 (a0.id.toNat : Int), .int .u32 (a0.off.toNat : Int), .int .u8 (b0.kind.toNat : Int), .int .u32 (b0.id.toNat : Int), .int .u32 (b0.off.toNat : Int), .bool c0]) (by simp [results, Try.results74, go_sem, c_q_z0, c_q_z1, c_q_z2, c_q_z3, c_q_z4, c_q_z5, c_q_z6]) rfl ⟨congrArg Ending.returned HG.out.symm, below_seven (Nat.le_succ _) hBf _ _ _ _ _ _ _⟩
end Go.Proofs.Ytcibihakjcenaaa

