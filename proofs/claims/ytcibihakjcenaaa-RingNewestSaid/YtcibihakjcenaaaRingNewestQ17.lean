/- RingNewest: the words and contracts, part 17. -/
import Derived.Test.YtcibihakjcenaaaRingNewestQ1
import Derived.Test.YtcibihakjcenaaaRingNewestQ2
import Derived.Test.YtcibihakjcenaaaRingNewestQ3
import Derived.Test.YtcibihakjcenaaaRingNewestQ4
import Derived.Test.YtcibihakjcenaaaRingNewestQ5
import Derived.Test.YtcibihakjcenaaaRingNewestQ6
import Derived.Test.YtcibihakjcenaaaRingNewestQ7
import Derived.Test.YtcibihakjcenaaaRingNewestQ8
import Derived.Test.YtcibihakjcenaaaRingNewestQ9
import Derived.Test.YtcibihakjcenaaaRingNewestQ10
import Derived.Test.YtcibihakjcenaaaRingNewestQ11
import Derived.Test.YtcibihakjcenaaaRingNewestQ12
import Derived.Test.YtcibihakjcenaaaRingNewestQ13
import Derived.Test.YtcibihakjcenaaaRingNewestQ14
import Derived.Test.YtcibihakjcenaaaRingNewestQ15
import Derived.Test.YtcibihakjcenaaaRingNewestQ16
import Derived.WalkKit
import Derived.WalkLawsBesides
import Derived.WalkSpells
import Derived.Lib.Hide
import Derived.Laws.Rows
import Derived.Laws.AppendOwnNone
import Derived.Maps.AppendAt
import Derived.ProofKit
import Derived.Deep.Slices
import Derived.WideShapes
import Derived.RangeFuncNested
import Derived.RangeFuncBound
import Derived.RangeFuncCalls
import Derived.RangeFuncLeaves
import Derived.RangeFuncBox
import Derived.Shelf.Abstract
import Derived.Shelf.RegionOpen
import Derived.OwnWalkIn
import Derived.TacticsInMore
import Derived.LoopNIn
import Derived.LoopIn
import Derived.Lib.AppendZerosOnto
import Derived.Lib.SliceRun
import Derived.Lib.Walk
import Derived.Deep.LoopGhost
import Derived.Laws.CopyOwn
import Derived.Laws.CopyRow
import Derived.OrdersHeld
import Derived.Deep.QuietTactic
import Derived.BigQuiet
import Derived.StillTailTactics
import Derived.OpenShut
import Derived.Deep.DeepCutAuto
import Derived.Deep.RegionHeld
import Derived.Laws.MakeOwn
import Derived.KernelRfl
import Derived.BigFrameIn
import Derived.ShutString
import Derived.ChangeOld
import Derived.Below
import Derived.Shelf.SlSortCmp.SmallK
import Derived.Shelf.Small.Bits
namespace Go.Proofs.Ytcibihakjcenaaa
open Go.RowKit

def errF (d : DiskL) : Int := if mayD d then (if (findU d).length = 0 then 40 else 0) else 8
def fndU (d : DiskL) : List SupL := if mayD d then findU d else []
/-- Superblocks in new memory. -/
structure MadeF (w w' : World) (v : Value) (l : List SupL) : Prop where
  row : Sl rSuper w' w.heap.size w'.heap.size v l
  below : Below w.heap.size w w'
theorem findU_len (d : DiskL) : (findU d).length = (standU d 4).length := (findU_perm d).length_eq
theorem findU_is {d : DiskL} {m : List SupL} (h1 : m.Perm (standU d 4)) (h2 : m.Pairwise fun a b => newU a b = true) : m = findU d :=
  new_unique (h1.trans (findU_perm d).symm) h2 (findU_sorted d) ((findU_perm d).symm.pairwise (standU_ne d 4) (fun h e => h e.symm))
theorem row_super1 {base : Nat} {lo : Nat} {S : Nat → Bool} {wr z : World} {v u : Value} {kl : List SupL} {x : SupL} (h : OwnR rSuper base 25 lo S wr v kl) (hS : ∀ k, wr.heap.size ≤ k → S k = false)
    (hB : Below wr.heap.size wr z) (hb : SupV z wr.heap.size z.heap.size u x) (hlo : lo ≤ wr.heap.size) (T2 : TypeId) :
    OwnR rSuper base 25 lo S (z.alloc (.cells #[wV x.gen, .int .i64 x.root, wV x.next, wV x.table, u] T2)) v kl ∧ ∀ j y, [x][j]? = some y → rSuper.R (hideW (z.alloc (.cells #[wV x.gen, .int .i64 x.root, wV x.next, wV x.table, u] T2)) (andOwn S v)) lo (z.alloc (.cells #[wV x.gen, .int .i64 x.root, wV x.next, wV x.table, u] T2)).heap.size y (fun i => [wV x.gen, .int .i64 x.root, wV x.next, wV x.table, u][j * rSuper.n + i]?) := by
  refine ⟨(h.step rSuper_ck hB).alloc rSuper_ck _, fun j y hj => ?_⟩
  cases j with
  | zero =>
    cases hj
    have hkp : Kp wr.heap.size z.heap.size z (hideW (z.alloc (.cells #[wV x.gen, .int .i64 x.root, wV x.next, wV x.table, u] T2)) (andOwn S v)) := hideW_kp fun k h1 h2 => ⟨andOwn_of (hS k (by omega)) (fun e => by have := (h.lt k e).2; omega), Below.heap_alloc z _ k (by omega)⟩
    exact ⟨rfl, rfl, hb.1, rfl, rfl, u, rfl, (hb.2.keep hkp).more (by omega) (by simp)⟩
  | succ j => simp at hj

set_option maxRecDepth 100000 in
set_option maxHeartbeats 4000000 in
/-- ring.Find. -/
theorem ufind_any (b u : Value) (d : DiskL) (w : World) (h : DiskV w 0 w.heap.size b u d) :
    Calls Try.prog 45 #[.agg #[b, u]] w fun e w' => ∃ v, e = .returned (.tuple #[v, .int .i64 (errF d)]) ∧ MadeF w w' v (fndU d) := by
  have kd := fun V hh => dcheck_any b u d V hh
  obtain ⟨md, hmd⟩ : ∃ z, mayD d = z := ⟨_, rfl⟩
  have h0 : md = false → errF d = 8 ∧ fndU d = [] := fun hm => by unfold errF fndU; rw [hmd, hm]; exact ⟨rfl, rfl⟩
  have h1 : md = true → (findU d).length = 0 → errF d = 40 := fun hm hl => by unfold errF; rw [hmd, hm, if_pos rfl, if_pos hl]
  have h2 : md = true → ¬ (findU d).length = 0 → errF d = 0 := fun hm hl => by unfold errF; rw [hmd, hm, if_pos rfl, if_neg hl]
  have h3 : md = true → fndU d = findU d := fun hm => by unfold fndU; rw [hmd, hm, if_pos rfl]
  obtain ⟨ef, hef⟩ : ∃ z, errF d = z := ⟨_, rfl⟩
  obtain ⟨fl, hfl⟩ : ∃ z, fndU d = z := ⟨_, rfl⟩
  rw [hmd] at kd
  rw [hef, hfl]
  rw [hef] at h0 h1 h2
  rw [hfl] at h0 h3
  have HE := Lib.hid (And.intro h0 (And.intro h1 (And.intro h2 h3)))
  clear h0 h1 h2 h3 hmd hef hfl
  obtain ⟨ab, cb, rfl, gb, gc, -, -⟩ := h.1
  obtain ⟨au, cu, rfl, gu, gv, -, -⟩ := h.2
  unfold maxLen at gc gv
  have hst := (Below.refl w.heap.size w).alloc (Nat.le_refl _) (.cells #[.slice ab d.blocks.length cb, .slice au d.waits.length cu] 44)
  have q_d := LK.new w (.cells #[.slice ab d.blocks.length cb, .slice au d.waits.length cu] 44)
  have hB : LW w _ := hst
  have hD := (LD.of h (Nat.le_refl _)).step hst
  have sz_V : w.heap.size < (w.alloc (.cells #[.slice ab d.blocks.length cb, .slice au d.waits.length cu] 44)).heap.size := by simp
  obtain ⟨V, hV⟩ : ∃ V, w.alloc (.cells #[.slice ab d.blocks.length cb, .slice au d.waits.length cu] 44) = V := ⟨_, rfl⟩
  rw [hV] at hB hD q_d sz_V
  clear h hst
  have k_sl0 := fun (s : UInt32) W => uslot_any s W
  simp only [wV] at k_sl0
  have k_ck := kd
  have k_rd := fun (p : Int) W hh => dread_any (.slice ab d.blocks.length cb) (.slice au d.waits.length cu) d p W hh
  have k_sl := k_sl0
  have k_us := fun v l W hh => uread_any v l W hh
  have HC := Lib.hid (And.intro k_ck (And.intro k_rd (And.intro k_sl k_us)))
  clear k_ck k_rd k_sl k_us
  clear kd k_sl0
  have HQ := Lib.hid (And.intro q_d (And.intro hD hB))
  clear q_d hD hB
  have c_q_d0 := LK.cell HQ.out.1 0
  have c_q_d1 := LK.cell HQ.out.1 1
  simp at c_q_d0 c_q_d1
  go_enter Try.func45, Try.ntmps45
  go_upto_region 1 with (fail)
  clear hV
  go_wp2_with fail
  refine (HC.out.1 _ HQ.out.2.1.v).mono ?_
  rintro e w1 ⟨rfl, hst⟩
  clear c_q_d0 c_q_d1
  obtain ⟨q_d, hD, hB⟩ := HQ.out
  clear HQ
  have sz_w1 : V.heap.size ≤ w1.heap.size := hst.size
  replace q_d := q_d.step hst
  replace hD := hD.step hst
  replace hB := hB.step hst
  clear hst
  have HQ := Lib.hid (And.intro q_d (And.intro hD hB))
  clear q_d hD hB
  have c_q_d0 := LK.cell HQ.out.1 0
  have c_q_d1 := LK.cell HQ.out.1 1
  simp at c_q_d0 c_q_d1
  cases md
  case false =>
    obtain ⟨t1, t2⟩ := HE.out.1 rfl
    subst t1 t2
    clear HE
    go_wp2
    go_ret2
    exact ⟨_, rfl, Sl.nil_ _ _ _, HQ.out.2.2⟩
  have HD0 := Lib.hid (And.intro gb gu)
  clear gb gu
  have hBB := HQ.out.2.2
  have HB := Lib.hid hBB
  clear hBB
  go_wp2_with fail
  go_loopw [2, 15] (fun l i wr => ∃ (j : Nat) (sl : List SupL) (ar : Option Addr) (cr : Nat), j ≤ 4 ∧ i = .int .i64 j ∧ standU d j = sl ∧ l = .slice ar sl.length cr ∧ sl.length ≤ j ∧ (sl.length = 0 → ar = none) ∧ OwnR rSuper w1.heap.size 25 w1.heap.size (fun _ => false) wr (.slice ar sl.length cr) sl ∧ Below w1.heap.size w1 wr) (fun _ i _ => 4 - (intOf i).toNat)
  case atStart => exact ⟨0, [], none, 0, Nat.zero_le _, rfl, rfl, rfl, Nat.le_refl _, fun _ => rfl, OwnR.nil_ _ _ _ _ _ _, Below.refl _ _⟩
  case round =>
  obtain ⟨j, sl, ar, cr, hj, rfl, hsl, rfl, hsn, hnil, hown, hBr⟩ := hrel
  clear c_q_d0 c_q_d1
  obtain ⟨q_d, hD, hB⟩ := HQ.out
  clear HQ
  replace q_d := q_d.step hBr
  replace hD := hD.step hBr
  replace hB := hB.step hBr
  have HQ := Lib.hid (And.intro q_d (And.intro hD hB))
  clear q_d hD hB
  have c_q_d0 := LK.cell HQ.out.1 0
  have c_q_d1 := LK.cell HQ.out.1 1
  simp at c_q_d0 c_q_d1
  have szr := hBr.size
  have HSL := Lib.hid (And.intro hsl (And.intro hnil (And.intro hown hBr)))
  clear hsl hnil hown hBr
  by_cases hlt : j < 4
  · have hS1 : standU d (j + 1) = sl ++ (atU d j).toList := by rw [standU_succ, HSL.out.1]
    obtain ⟨rb, hrb⟩ : ∃ x, readB d (j : Nat) = x := ⟨_, rfl⟩
    have hat : atU d j = if errUr rb = 0 ∧ slotU (readU rb).gen = j then some (readU rb) else none := by unfold atU; rw [hrb]
    have kr := HC.out.2.1 (j : Nat) wr HQ.out.2.1.v
    rw [hrb] at kr
    have KR := Lib.hid kr
    clear kr hrb
    obtain ⟨q_d, hD, hB⟩ := HQ.out
    clear HQ
    have hR : LW wr wr := Below.refl _ _
    have HQ := Lib.hid (And.intro q_d (And.intro hD (And.intro hR hB)))
    clear q_d hD hR hB
    go_wp2_with fail
    refine (KR.out).mono ?_
    rintro e w2 ⟨vb, rfl, hm⟩
    clear c_q_d0 c_q_d1
    obtain ⟨q_d, hD, hR, hB⟩ := HQ.out
    clear HQ
    have hO := (LM.of hm).b
    have hst := hm.below
    obtain ⟨ao, co, rfl, -, -⟩ := hm.bytes.form rfl
    clear hm
    have sz_w2 : wr.heap.size ≤ w2.heap.size := hst.size
    replace q_d := q_d.step hst
    replace hD := hD.step hst
    replace hR := hR.step hst
    replace hB := hB.step hst
    clear hst
    have HQ := Lib.hid (And.intro q_d (And.intro hD (And.intro hR (And.intro hO hB))))
    clear q_d hD hR hO hB
    have c_q_d0 := LK.cell HQ.out.1 0
    have c_q_d1 := LK.cell HQ.out.1 1
    simp at c_q_d0 c_q_d1
    have HA := Lib.hid (And.intro hS1 hat)
    clear hS1 hat
    have ku := HC.out.2.2.2 _ rb _ HQ.out.2.2.2.1.v
    obtain ⟨er, her⟩ : ∃ z, errUr rb = z := ⟨_, rfl⟩
    obtain ⟨x, hx⟩ : ∃ z, readU rb = z := ⟨_, rfl⟩
    rw [her, hx] at ku HA
    simp only [wV] at ku
    have KU := Lib.hid ku
    clear ku her hx
    go_wp2_with fail
    refine (KU.out).mono ?_
    rintro e w3 ⟨vx, rfl, hm⟩
    clear c_q_d0 c_q_d1
    obtain ⟨q_d, hD, hR, hO, hB⟩ := HQ.out
    clear HQ
    have hst := hm.below
    obtain ⟨ax, cx, rfl, gx1, gx2, -, -⟩ := id hm.sup.2
    have hX : Lv w2.heap.size w3.heap.size (fun W => SupV W w2.heap.size w3.heap.size (.slice ax x.dead.length cx) x) w3 := Lv.mk' (Nat.le_refl _) fun W hk => ⟨hm.sup.1, hm.sup.2.keep hk⟩
    clear hm gx1 gx2
    have sz_w3 : w2.heap.size ≤ w3.heap.size := hst.size
    replace q_d := q_d.step hst
    replace hD := hD.step hst
    replace hR := hR.step hst
    replace hO := hO.step hst
    replace hB := hB.step hst
    clear hst
    have HQ := Lib.hid (And.intro q_d (And.intro hD (And.intro hR (And.intro hO (And.intro hX hB)))))
    clear q_d hD hR hO hX hB
    have c_q_d0 := LK.cell HQ.out.1 0
    have c_q_d1 := LK.cell HQ.out.1 1
    simp at c_q_d0 c_q_d1
    skip
    go_upto_region 9 with (fail)
    clear c_q_d0 c_q_d1
    obtain ⟨q_d, hD, hR, hO, hX, hB⟩ := HQ.out
    clear HQ
    have hst := (Below.refl w3.heap.size w3).alloc (Nat.le_refl _) (.cells #[.int .u32 (x.gen.toNat : Int), .int .i64 x.root, .int .u32 (x.next.toNat : Int), .int .u32 (x.table.toNat : Int), .slice ax x.dead.length cx] 25)
    have hlt : w3.heap.size < (w3.alloc (.cells #[.int .u32 (x.gen.toNat : Int), .int .i64 x.root, .int .u32 (x.next.toNat : Int), .int .u32 (x.table.toNat : Int), .slice ax x.dead.length cx] 25)).heap.size := by simp
    have q_x := LK.new w3 (.cells #[.int .u32 (x.gen.toNat : Int), .int .i64 x.root, .int .u32 (x.next.toNat : Int), .int .u32 (x.table.toNat : Int), .slice ax x.dead.length cx] 25)
    replace q_d := q_d.step hst
    replace hD := hD.step hst
    replace hR := hR.step hst
    replace hO := hO.step hst
    replace hX := hX.step hst
    replace hB := hB.step hst
    obtain ⟨w4, hw⟩ : ∃ v, w3.alloc (.cells #[.int .u32 (x.gen.toNat : Int), .int .i64 x.root, .int .u32 (x.next.toNat : Int), .int .u32 (x.table.toNat : Int), .slice ax x.dead.length cx] 25) = v := ⟨_, rfl⟩
    rw [hw] at hlt q_x q_d hD hR hO hX hB ⊢
    clear hw hst
    have sz_w4 := hlt
    clear hlt
    have HQ := Lib.hid (And.intro q_d (And.intro hD (And.intro hR (And.intro hO (And.intro hX (And.intro q_x hB))))))
    clear q_d hD hR hO hX q_x hB
    have c_q_d0 := LK.cell HQ.out.1 0
    have c_q_d1 := LK.cell HQ.out.1 1
    have c_q_x0 := LK.cell HQ.out.2.2.2.2.2.1 0
    have c_q_x1 := LK.cell HQ.out.2.2.2.2.2.1 1
    have c_q_x2 := LK.cell HQ.out.2.2.2.2.2.1 2
    have c_q_x3 := LK.cell HQ.out.2.2.2.2.2.1 3
    have c_q_x4 := LK.cell HQ.out.2.2.2.2.2.1 4
    simp at c_q_d0 c_q_d1 c_q_x0 c_q_x1 c_q_x2 c_q_x3 c_q_x4
    by_cases he : er = 0
    case neg =>
      go_wp2
      go_roundw
      case rel =>
        have hn : atU d j = none := by rw [HA.out.2, if_neg (fun h => he h.1)]
        refine ⟨j + 1, sl, ar, cr, by omega, by go_num, by rw [HA.out.1, hn]; simp, rfl, by omega, HSL.out.2.1, HSL.out.2.2.1.step rSuper_ck HQ.out.2.2.1, HSL.out.2.2.2.trans (Below.mono HQ.out.2.2.1 (by omega))⟩
      case measure => simp [intOf]; omega
    subst he
    skip
    go_wp2_with fail
    refine (HC.out.2.2.1 x.gen _).mono ?_
    rintro e w0 ⟨rfl, hw0⟩
    rw [hw0]
    clear hw0 w0
    by_cases hg : slotU x.gen = j
    case neg =>
      have hgi : ((slotU x.gen : Int) == (j : Int)) = false := by rw [beq_eq_false_iff_ne]; omega
      go_wp2
      go_roundw
      case rel =>
        have hn : atU d j = none := by rw [HA.out.2, if_neg (fun h => hg h.2)]
        refine ⟨j + 1, sl, ar, cr, by omega, by go_num, by rw [HA.out.1, hn]; simp, rfl, by omega, HSL.out.2.1, HSL.out.2.2.1.step rSuper_ck HQ.out.2.2.1, HSL.out.2.2.2.trans (Below.mono HQ.out.2.2.1 (by omega))⟩
      case measure => simp [intOf]; omega
    have hn : atU d j = some x := by rw [HA.out.2, if_pos ⟨by trivial, hg⟩]
    have hS2 : standU d (j + 1) = sl ++ [x] := by rw [HA.out.1, hn]; rfl
    have hgi : ((slotU x.gen : Int) == (j : Int)) = true := by rw [beq_iff_eq]; omega
    have HS2 := Lib.hid hS2
    clear hn hS2 hg
    have hsx : SupV w4 wr.heap.size w4.heap.size (.slice ax x.dead.length cx) x := ⟨(Lv.get HQ.out.2.2.2.2.1).1, (Lv.get HQ.out.2.2.2.2.1).2.more (by omega) (by omega)⟩
    obtain ⟨hra, hrb⟩ := row_super1 HSL.out.2.2.1 (fun _ _ => rfl) HQ.out.2.2.1 hsx szr 25
    simp only [wV] at hra hrb
    have HRR := Lib.hid (And.intro hra hrb)
    clear hra hrb hsx
    have szn : wr.heap.size ≤ w4.heap.size := Below.size HQ.out.2.2.1
    go_wp2_with (at_builtin; refine wpList_appR rSuper_ck rfl (.tmp 38) (.tmp 40) 83 rfl 25 (.agg #[.int .u32 0, .int .i64 0, .int .u32 0, .int .u32 0, .slice none 0 0]) 48 Try.underlying83 (by kernel_rfl) rfl (by decide) w1.heap.size w1.heap.size (fun _ => false) (.slice ar sl.length cr) sl [x] rfl HRR.out.1 (fun _ _ => rfl) ⟨w4.heap.size, 0, none⟩ 1 [.int .u32 (x.gen.toNat : Int), .int .i64 x.root, .int .u32 (x.next.toNat : Int), .int .u32 (x.table.toNat : Int), .slice ax x.dead.length cx] rfl rfl (news_one #[.int .u32 (x.gen.toNat : Int), .int .i64 x.root, .int .u32 (x.next.toNat : Int), .int .u32 (x.table.toNat : Int), .slice ax x.dead.length cx] 25) (by intro u hu; simp at hu; rcases hu with rfl | rfl | rfl | rfl | rfl <;> rfl) HRR.out.2 (by show sl.length + 1 ≤ 1000000; omega) (by decide) (by show w1.heap.size ≤ (w4.alloc _).heap.size; rw [World.size_alloc]; omega) ?_; intro a4 c4 z4 hown4 hB4 hf4; rw [show (sl ++ [x]).length = sl.length + 1 by simp] at hown4 ⊢; have HO := Lib.hid (And.intro hown4 hB4); clear hown4 hB4 hf4)
    go_roundw
    case rel =>
      have hls : (sl ++ [x]).length = sl.length + 1 := by simp
      refine ⟨j + 1, sl ++ [x], a4, c4, by omega, by go_num, HS2.out, by rw [hls], by rw [hls]; omega, fun h => by rw [hls] at h; omega, by rw [hls]; exact HO.out.1, ?_⟩
      exact (HSL.out.2.2.2.trans ((Below.mono HQ.out.2.2.1 (by omega)).alloc (by omega) _)).trans HO.out.2
    case measure => simp [intOf]; omega
  obtain rfl : j = 4 := by omega
  have hlen : (findU d).length = sl.length := by rw [findU_len, HSL.out.1]
  have HLN := Lib.hid hlen
  clear hlen
  have hnil := fun (w : World) (a : Option Addr) (n c n' c' : Nat) => Lib.run_eql_slice_nil (P := Try.prog) w 83 25 a n c n' c' Try.underlying83
  by_cases hz : sl.length = 0
  · have ha := HSL.out.2.1 hz
    subst ha
    have hf : findU d = [] := List.eq_nil_of_length_eq_zero (by rw [HLN.out, hz])
    have HF := Lib.hid hf
    clear hf
    have hcr : cr = 0 := by
      obtain ⟨-, xs, ⟨-, hrow⟩, -⟩ := HSL.out.2.2.1
      rcases hrow with ⟨e, -⟩ | ⟨g, cap, cur, e, -⟩
      · injection e
      · cases e
    subst hcr
    have sl0 : sl = [] := List.eq_nil_of_length_eq_zero hz
    subst sl0
    simp only [List.length_nil]
    have t1 := HE.out.2.1 (by trivial) (by rw [HF.out]; rfl)
    have t2 := (HE.out.2.2.2 (by trivial)).trans HF.out
    subst t1 t2
    clear HE
    go_wp2
    go_ret2
    exact ⟨_, rfl, Sl.nil_ _ _ _, HQ.out.2.2⟩
  obtain ⟨g, hag⟩ : ∃ g, ar = some ⟨g, 0, none⟩ := by
    obtain ⟨-, xs, ⟨-, hrow⟩, -⟩ := HSL.out.2.2.1
    rcases hrow with ⟨e, e2⟩ | ⟨g, cap, cur, e, -⟩
    · exact absurd e2 hz
    · injection e with e1
      exact ⟨g, e1⟩
  subst hag
  have hso := usort_any g cr sl wr HSL.out.2.2.1 (by omega) (Nat.le_refl _)
  have KS := Lib.hid hso
  have i9 : ¬ (findU d).length = 0 := by rw [HLN.out]; exact hz
  have t1 := HE.out.2.2.1 (by trivial) i9
  have t2 := HE.out.2.2.2 (by trivial)
  subst t1
  have HT := Lib.hid t2
  clear hso i9 t2
  go_wp2_with fail
  refine KS.out.mono ?_
  rintro e z ⟨rfl, m, hm1, hm2, hm3, hm4⟩
  have hmf := findU_is (d := d) (by rw [HSL.out.1]; exact hm1) hm2
  have HM := Lib.hid (And.intro hmf (And.intro hm3 hm4))
  clear hm1 hm2 hm3 hm4 hmf
  go_wp2
  go_ret2
  refine ⟨_, rfl, ?_, ?_⟩
  · rw [HT.out, ← HM.out.1]
    exact HM.out.2.1.more (Below.size HB.out) (Nat.le_refl _)
  · exact (HB.out.trans ((HSL.out.2.2.2.trans HM.out.2.2).mono (Below.size HB.out)))
end Go.Proofs.Ytcibihakjcenaaa

namespace Go.Proofs.Ytcibihakjcenaaa

def s5 : SupL := ⟨5, 8, 0, 0, []⟩
theorem u_put5 : errPut newD s5 = 0 := by decide +kernel
theorem u_new0 : atU newD 0 = none ∧ atU newD 1 = none ∧ atU newD 2 = none ∧ atU newD 3 = none := by decide +kernel
theorem stand_new : standU newD 4 = [] := by
  obtain ⟨h0, h1, h2, h3⟩ := u_new0
  rw [standU_succ, standU_succ, standU_succ, standU_succ, h0, h1, h2, h3]
  rfl
theorem find_new : findU newD = [] := by unfold findU; rw [stand_new]; simp
theorem find_5 : findU (putU newD s5) = [s5] := by
  rw [findU_put u_put5 (by rw [find_new]; simp), find_new]
  rfl
end Go.Proofs.Ytcibihakjcenaaa

namespace Go.Proofs.Ytcibihakjcenaaa
open Go.RowKit

theorem f_put5 : errF (putU newD s5) = 0 ∧ fndU (putU newD s5) = [s5] := by
  have h : mayD (putU newD s5) = true := by decide +kernel
  unfold errF fndU
  rw [h, find_5]
  exact ⟨rfl, rfl⟩
theorem sup_nil {w : World} {lo hi : Nat} (g n t : UInt32) (r : Int) (h : (Lit.int .i64 r).wf = true) : SupV w lo hi (.slice none 0 0) ⟨g, r, n, t, []⟩ := ⟨h, Sl.nil_ _ _ _⟩
/-- The superblocks of a list in memory. -/
theorem Sl.superAt {w : World} {lo hi b off n c : Nat} {l : List SupL} (h : Sl rSuper w lo hi (.slice (some ⟨b, off, none⟩) n c) l) (i : Nat) (x : SupL) (hx : l[i]? = some x) :
    w.cell? ⟨b, off + i * 5, none⟩ = some (.int .u32 (x.gen.toNat : Int)) ∧ w.cell? ⟨b, off + i * 5 + 1, none⟩ = some (.int .i64 x.root) ∧ w.cell? ⟨b, off + i * 5 + 2, none⟩ = some (.int .u32 (x.next.toNat : Int)) ∧ w.cell? ⟨b, off + i * 5 + 3, none⟩ = some (.int .u32 (x.table.toNat : Int)) ∧
    ∃ a c', w.cell? ⟨b, off + i * 5 + 4, none⟩ = some (.slice a x.dead.length c') ∧ SupV w lo hi (.slice a x.dead.length c') x := by
  obtain ⟨a, c', e, h1, h2, h3, h4⟩ := h
  cases e
  obtain ⟨b', off', ea, _, _, hc⟩ := h3 (by have := (List.getElem?_eq_some_iff.1 hx).1; omega)
  cases ea
  obtain ⟨f0, f1, fw, f2, f3, v, f4, hv⟩ := hc i x hx
  obtain ⟨a', c'', rfl, -, -, -, -⟩ := id hv
  exact ⟨f0, f1, f2, f3, a', c'', f4, fw, hv⟩
theorem Sl.some_ {α : Type} {r : Rd α} {w : World} {lo hi n c : Nat} {a : Option Addr} {l : List α} (h : Sl r w lo hi (.slice a n c) l) (hl : 0 < l.length) : ∃ b off, a = some ⟨b, off, none⟩ := by
  obtain ⟨a', c', e, h1, h2, h3, h4⟩ := h
  cases e
  obtain ⟨b', off', ea, _⟩ := h3 hl
  exact ⟨b', off', ea⟩

set_option maxRecDepth 100000 in
set_option maxHeartbeats 2000000 in
theorem alive10  (w : World)  :
    Calls Try.prog 48 #[] w fun e w' => e = .returned (.bool true) ∧ Below w.heap.size w w' := by
  have hB : LW w w := Below.refl _ _
  have HQ := Lib.hid (hB)
  clear hB
  obtain ⟨f1, f2⟩ := f_put5
  have k_p := fun b u V h1 => uput_any b u newD s5 (.slice none 0 0) V h1 (sup_nil 5 0 0 8 (by decide))
  rw [u_put5] at k_p
  have k_n := fun V => dnew_any V
  obtain ⟨T, hT⟩ : ∃ T, putU newD s5 = T := ⟨_, rfl⟩
  obtain ⟨N, hN⟩ : ∃ N, newD = N := ⟨_, rfl⟩
  rw [hT] at f1 f2 k_p
  rw [hN] at k_p k_n
  have k_f := fun b u V h1 => ufind_any b u T V h1
  rw [f1, f2] at k_f
  simp only [wV] at k_p
  clear hT hN f1 f2
  have e5 : (s5.gen.toNat : Int) = 5 := rfl
  have e6 : s5.root = 8 := rfl
  have e7 : (s5.next.toNat : Int) = 0 := rfl
  have e8 : (s5.table.toNat : Int) = 0 := rfl
  rw [e5, e6, e7, e8] at k_p
  have HC := Lib.hid (And.intro k_p (And.intro k_n k_f))
  clear k_p k_n k_f
  go_enter Try.func48, Try.ntmps48
  go_wp2_with fail
  refine (HC.out.2.1 _).mono ?_
  rintro e w1 ⟨b0, rfl, hm⟩
  have hB := HQ.out
  clear HQ
  have D_n := LT.of hm
  have hst := hm.below
  obtain ⟨ab_n, cb_n, rfl, -, -, -, -⟩ := hm.v0.1
  clear hm
  have sz_w1 : w.heap.size ≤ w1.heap.size := hst.size
  replace hB := hB.step hst
  clear hst
  have HQ := Lib.hid (And.intro D_n hB)
  clear D_n hB
  go_wp2_with fail
  refine (HC.out.1 _ _ _ HQ.out.1.v).mono ?_
  rintro e w2 ⟨b1, u1, rfl, hm⟩
  obtain ⟨D_n, hB⟩ := HQ.out
  clear HQ
  have D_t := LT.of hm
  have hst := hm.below
  obtain ⟨ab_t, cb_t, rfl, -, -, -, -⟩ := hm.v0.1
  obtain ⟨au_t, cu_t, rfl, -, -, -, -⟩ := hm.v0.2
  clear hm
  have sz_w2 : w1.heap.size ≤ w2.heap.size := hst.size
  replace D_n := D_n.step hst
  replace hB := hB.step hst
  clear hst
  have HQ := Lib.hid (And.intro D_n (And.intro D_t hB))
  clear D_n D_t hB
  go_upto_region 2 with (fail)
  obtain ⟨D_n, D_t, hB⟩ := HQ.out
  clear HQ
  have hst := (Below.refl w2.heap.size w2).alloc (Nat.le_refl _) (.cells #[.slice ab_t T.blocks.length cb_t, .slice au_t T.waits.length cu_t] 44)
  have hlt : w2.heap.size < (w2.alloc (.cells #[.slice ab_t T.blocks.length cb_t, .slice au_t T.waits.length cu_t] 44)).heap.size := by simp
  have q_t := LK.new w2 (.cells #[.slice ab_t T.blocks.length cb_t, .slice au_t T.waits.length cu_t] 44)
  replace D_n := D_n.step hst
  replace D_t := D_t.step hst
  replace hB := hB.step hst
  obtain ⟨w3, hw⟩ : ∃ v, w2.alloc (.cells #[.slice ab_t T.blocks.length cb_t, .slice au_t T.waits.length cu_t] 44) = v := ⟨_, rfl⟩
  rw [hw] at hlt q_t D_n D_t hB ⊢
  clear hw hst
  have sz_w3 := hlt
  clear hlt
  have HQ := Lib.hid (And.intro D_n (And.intro D_t (And.intro q_t hB)))
  clear D_n D_t q_t hB
  have c_q_t0 := LK.cell HQ.out.2.2.1 0
  have c_q_t1 := LK.cell HQ.out.2.2.1 1
  simp at c_q_t0 c_q_t1
  go_wp2_with fail
  refine (HC.out.2.2 _ _ _ HQ.out.2.1.v).mono ?_
  rintro e w4 ⟨v, rfl, hm⟩
  clear c_q_t0 c_q_t1
  obtain ⟨D_n, D_t, q_t, hB⟩ := HQ.out
  clear HQ
  have S_l := LS.of hm.row (Nat.le_refl _)
  have hst := hm.below
  obtain ⟨al, cl, rfl, -, -, -, -⟩ := id hm.row
  clear hm
  have sz_w4 : w3.heap.size ≤ w4.heap.size := hst.size
  replace D_n := D_n.step hst
  replace D_t := D_t.step hst
  replace q_t := q_t.step hst
  replace hB := hB.step hst
  clear hst
  have HQ := Lib.hid (And.intro D_n (And.intro D_t (And.intro q_t (And.intro S_l hB))))
  clear D_n D_t q_t S_l hB
  have c_q_t0 := LK.cell HQ.out.2.2.1 0
  have c_q_t1 := LK.cell HQ.out.2.2.1 1
  simp at c_q_t0 c_q_t1
  obtain ⟨bl, ol, e1⟩ := Sl.some_ HQ.out.2.2.2.1.v (by decide)
  subst e1
  obtain ⟨d0, d1, -⟩ := Sl.superAt HQ.out.2.2.2.1.v 0 s5 rfl
  rw [e5] at d0
  rw [e6] at d1
  simp only [Nat.zero_mul, Nat.add_zero] at d0 d1
  have hl1 : [s5].length = 1 := rfl
  rw [hl1]
  go_wp2
  go_ret
  exact ⟨rfl, HQ.out.2.2.2.2⟩
end Go.Proofs.Ytcibihakjcenaaa

namespace Go.Proofs.Ytcibihakjcenaaa
open Go.RowKit

set_option linter.unusedSimpArgs false
theorem get_sup (l : List SupL) (i : Nat) (h : i < l.length) : l[i]? = some (l.getD i noU) := by simp [h]
end Go.Proofs.Ytcibihakjcenaaa

namespace Go.Proofs.Ytcibihakjcenaaa
open Go.RowKit

theorem put_may {d : DiskL} {s : SupL} (h : errPut d s = 0) : mayD (putU d s) = true := by
  obtain ⟨-, h2, h3⟩ := put_ok h
  rw [h3]
  exact (write_may h2).2
theorem put_mayD {d : DiskL} {s : SupL} (h : errPut d s = 0) : mayD d = true := by
  unfold errPut at h
  split at h
  · assumption
  · cases h
theorem put_find {d : DiskL} {s : SupL} (h : errPut d s = 0) : errF (putU d s) = 0 := by
  unfold errF
  rw [put_may h, if_pos rfl, if_neg]
  rw [(findU_perm _).length_eq, (standU_put h).length_eq]
  simp
end Go.Proofs.Ytcibihakjcenaaa

