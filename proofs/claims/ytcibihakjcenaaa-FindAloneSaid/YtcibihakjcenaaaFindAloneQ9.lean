/- FindAlone: the words and contracts, part 9. -/
import Derived.Test.YtcibihakjcenaaaFindAloneQ1
import Derived.Test.YtcibihakjcenaaaFindAloneQ2
import Derived.Test.YtcibihakjcenaaaFindAloneQ3
import Derived.Test.YtcibihakjcenaaaFindAloneQ4
import Derived.Test.YtcibihakjcenaaaFindAloneQ5
import Derived.Test.YtcibihakjcenaaaFindAloneQ6
import Derived.Test.YtcibihakjcenaaaFindAloneQ7
import Derived.Test.YtcibihakjcenaaaFindAloneQ8
import Derived.WalkKit
import Derived.WalkLawsBesides
import Derived.WalkSpells
import Derived.Lib.Hide
import Derived.Laws.Rows
import Derived.Laws.AppendOwnNone
import Derived.Maps.AppendAt
import Derived.ProofKit
import Derived.Deep.Slices
import Derived.WideShapes
import Derived.RangeFuncNested
import Derived.RangeFuncBound
import Derived.RangeFuncCalls
import Derived.RangeFuncLeaves
import Derived.RangeFuncBox
import Derived.Shelf.Abstract
import Derived.Shelf.RegionOpen
import Derived.OwnWalkIn
import Derived.TacticsInMore
import Derived.LoopNIn
import Derived.LoopIn
import Derived.Lib.AppendZerosOnto
import Derived.Lib.SliceRun
import Derived.Lib.Walk
import Derived.Deep.LoopGhost
import Derived.Laws.CopyOwn
import Derived.Laws.CopyRow
import Derived.OrdersHeld
import Derived.Deep.QuietTactic
import Derived.BigQuiet
import Derived.StillTailTactics
import Derived.OpenShut
import Derived.Deep.DeepCutAuto
import Derived.Laws.MakeOwn
import Derived.Deep.RegionHeld
import Derived.KernelRfl
import Derived.BigFrameIn
import Derived.OrdersIn
namespace Go.Proofs.Ytcibihakjcenaaa
open Go.RowKit

def hidN (nb g k : Nat) : Bool := k == nb || k == g
/-- A bench in block g: its own counts lie in block nb, from lo on; what it has of a disk, and the counts of before, lie elsewhere. -/
structure BenAt (V : World) (lo g nb no nc : Nat) (b u y : Value) (s : StoreL) : Prop where
  blk : V.heap[g]? = some (.cells #[b, u, .slice (some ⟨nb, no, none⟩) 256 nc, y] 163 (0, 0))
  disk : DiskV (hideW V (hidN nb g)) 0 V.heap.size b u s.disk
  now : Bytes V lo V.heap.size (.slice (some ⟨nb, no, none⟩) 256 nc) s.now
  thaw : Thawed V (.slice (some ⟨nb, no, none⟩) 256 nc)
  last : Bytes (hideW V (hidN nb g)) 0 V.heap.size y s.last
  len : s.now.length = 256
  lo_ : lo ≤ nb ∧ lo ≤ g ∧ g ≠ nb ∧ nb < V.heap.size
section
variable {V V' : World} {lo g nb no nc : Nat} {b u y : Value} {s : StoreL}
theorem hid_self (V : World) (nb g : Nat) (V' : World) (h : ∀ k, k < V.heap.size → k ≠ nb → k ≠ g → V'.heap[k]? = V.heap[k]?) : CKc (hideW V (hidN nb g)) (hideW V' (hidN nb g)) :=
  hideW_ck fun k hk hS => ⟨hS, h k hk (fun e => by subst e; simp [hidN] at hS) (fun e => by subst e; simp [hidN] at hS)⟩
theorem DiskV.ck {w w' : World} {lo hi : Nat} {b u : Value} {d : DiskL} (h : DiskV w lo hi b u d) (hc : CKc w w') : DiskV w' lo hi b u d := ⟨Sl.ck rBytes_ck h.1 hc, Sl.ck rWrite_ck h.2 hc⟩
theorem BenAt.step (h : BenAt V lo g nb no nc b u y s) (hb : Below V.heap.size V V') : BenAt V' lo g nb no nc b u y s := by
  have hg := (Array.getElem?_eq_some_iff.1 h.blk).1
  have hc := hid_self V nb g V' (fun k hk _ _ => hb.block k hk)
  exact ⟨(hb.block g hg).trans h.blk, DiskV.more (h.disk.ck hc) (Nat.le_refl _) hb.size, h.now.step hb, thawed_below h.now h.thaw hb (Nat.le_refl _), (h.last.ck hc).more (Nat.le_refl _) hb.size, h.len, h.lo_.1, h.lo_.2.1, h.lo_.2.2.1, Nat.lt_of_lt_of_le h.lo_.2.2.2 hb.size⟩
/-- A count is stored. -/
theorem BenAt.set (h : BenAt V lo g nb no nc b u y s) (i : Nat) (x : UInt8) (hi : i < 256) : BenAt (V.setCell ⟨nb, no + i, none⟩ (bV x)) lo g nb no nc b u y ⟨s.disk, s.now.set i x, s.last⟩ := by
  have hsz : (V.setCell ⟨nb, no + i, none⟩ (bV x)).heap.size = V.heap.size := World.size_setCell _ _ _
  have hc := hid_self V nb g (V.setCell ⟨nb, no + i, none⟩ (bV x)) (fun k _ hk _ => set_other V nb _ _ k hk)
  refine ⟨(set_other V nb _ _ g h.lo_.2.2.1).trans h.blk, ?_, ?_, h.thaw.set _ _, ?_, by simp [h.len], h.lo_.1, h.lo_.2.1, h.lo_.2.2.1, by rw [hsz]; exact h.lo_.2.2.2⟩
  · rw [hsz]; exact h.disk.ck hc
  · rw [hsz]; exact h.now.set i x (by rw [h.len]; exact hi)
  · rw [hsz]; exact h.last.ck hc
theorem BenAt.store (h : BenAt V lo g nb no nc b u y s) : StoreV V 0 V.heap.size b u (.slice (some ⟨nb, no, none⟩) 256 nc) y s :=
  ⟨h.disk.ck (hideW_out V _), h.now.all0, h.last.ck (hideW_out V _)⟩
theorem BenAt.cell (h : BenAt V lo g nb no nc b u y s) (i : Nat) (hi : i < 256) : V.cell? ⟨nb, no + i, none⟩ = some (bV (s.now.getD i 0)) := h.now.cellAt i _ (get_l _ _ _ (by rw [h.len]; exact hi))
end

def errBs (s : StoreL) (p : Nat) : Int := if s.now.getD p 0 = 0 then 6 else if s.now.getD p 0 = 255 then 70 else 0
def upS (s : StoreL) (p : Nat) : StoreL := if errBs s p = 0 then ⟨s.disk, s.now.set p (s.now.getD p 0 + 1), s.last⟩ else s
theorem up_cases (s : StoreL) (p : Nat) : (s.now.getD p 0 = 0 ∧ errBs s p = 6 ∧ upS s p = s) ∨ (s.now.getD p 0 = 255 ∧ errBs s p = 70 ∧ upS s p = s) ∨ (s.now.getD p 0 ≠ 0 ∧ s.now.getD p 0 ≠ 255 ∧ errBs s p = 0 ∧ upS s p = ⟨s.disk, s.now.set p (s.now.getD p 0 + 1), s.last⟩) := by
  unfold upS errBs
  by_cases h : s.now.getD p 0 = 0
  · exact .inl ⟨h, by rw [if_pos h], by rw [if_pos h, if_neg (by decide)]⟩
  by_cases h2 : s.now.getD p 0 = 255
  · exact .inr (.inl ⟨h2, by rw [if_neg h, if_pos h2], by rw [if_neg h, if_pos h2, if_neg (by decide)]⟩)
  · exact .inr (.inr ⟨h, h2, by rw [if_neg h, if_neg h2], by rw [if_neg h, if_neg h2, if_pos rfl]⟩)
theorem u8_255 {x : UInt8} (h : x ≠ 255) : ¬ (x.toNat : Int) = 255 := fun e => h (u8_inj (by show x.toNat = 255; omega))

set_option maxRecDepth 100000 in
set_option maxHeartbeats 1000000 in
theorem bshare_any (lo g nb no nc : Nat) (b u y : Value) (s : StoreL) (p : Nat) (w : World) (h : BenAt w lo g nb no nc b u y s) (hp : p < 256) :
    Calls Try.prog 146 #[.pointer (some ⟨g, 0, none⟩), .int .i64 p] w fun e w' => e = .returned (.int .i64 (errBs s p)) ∧ BenAt w' lo g nb no nc b u y (upS s p) ∧ Below lo w w' ∧ w'.heap.size = w.heap.size ∧ ∀ k, k ≠ nb → w'.heap[k]? = w.heap[k]? := by
  have hE := up_cases s p
  have c2 := blk_cell h.blk 2
  simp at c2
  have f1 := h.cell p hp
  have z1 := h.thaw _ _ _ _ rfl p hp
  have i1 : ¬ (256 : Int) ≤ p := by omega
  have HB := Lib.hid h
  have hset := fun x => h.set p x hp
  have HS := Lib.hid hset
  obtain ⟨l1, l2, l3, l4⟩ := h.lo_
  have hln := Bytes.len_le h.now
  obtain ⟨a0, c0, e0, y0, y1, -⟩ := h.now
  injection e0 with ea e1 e2
  clear ea
  rw [← e1, ← e2] at y0
  rw [← e2] at y1
  unfold maxLen at y1
  clear h hset hln e1 e2
  obtain ⟨x, hx⟩ : ∃ x, s.now.getD p 0 = x := ⟨_, rfl⟩
  rw [hx] at hE f1
  simp only [bV] at f1
  clear hx
  go_enter Try.func146, Try.ntmps146
  rcases hE with ⟨rfl, h1, h2⟩ | ⟨rfl, h1, h2⟩ | ⟨h0, h5, h1, h2⟩
  · have e0 : ((0 : UInt8).toNat : Int) = 0 := rfl
    rw [e0] at f1
    rw [h1, h2]
    clear h1 h2
    go_wp2
    go_ret
    exact ⟨rfl, HB.out, Below.refl _ _, rfl, fun _ _ => rfl⟩
  · have e0 : ((255 : UInt8).toNat : Int) = 255 := rfl
    rw [e0] at f1
    rw [h1, h2]
    clear h1 h2
    go_wp2
    go_ret
    exact ⟨rfl, HB.out, Below.refl _ _, rfl, fun _ _ => rfl⟩
  have e0 := u8_nz h0
  have e5 := u8_255 h5
  have e6 := u8_up h5
  have hx2 := x.toNat_lt
  have HX := Lib.hid (HS.out (x + 1))
  rw [h1, h2]
  clear h1 h2 h0 h5
  have hv : bV (x + 1) = .int .u8 (((x + 1).toNat : Nat) : Int) := rfl
  rw [e6] at hv
  clear e6
  obtain ⟨xn, hxn⟩ : ∃ n, x.toNat = n := ⟨_, rfl⟩
  rw [hxn] at f1 hv hx2 e0 e5
  have e7 : ((xn + 1 : Nat) : Int) = (xn : Int) + 1 := by omega
  rw [e7] at hv
  clear e7
  have hw : IntKind.u8.wrap ((xn : Int) + 1) = (xn : Int) + 1 := by rw [IntKind.wrap_u8]; omega
  have HV := Lib.hid hv
  clear hv hxn
  go_wp2
  go_ret
  have hX := HX.out
  rw [HV.out] at hX
  exact ⟨rfl, hX, (Below.refl lo w).setCell (p := ⟨nb, no + p, none⟩) l1 _, World.size_setCell _ _ _, fun k hk => set_other _ nb _ _ k hk⟩

set_option maxRecDepth 100000 in
set_option maxHeartbeats 1000000 in
theorem clip_any (a : Option Addr) (n c : Nat) (w : World) (h1 : n ≤ c) (h2 : c ≤ maxLen) (h3 : a = none → c = 0) : Calls Try.prog 113 #[.slice a n c] w fun e w' => e = .returned (.slice a n n) ∧ w' = w := by
  unfold maxLen at h2
  cases a with
  | none =>
    obtain rfl := h3 rfl
    obtain rfl : n = 0 := by omega
    go_enter Try.func113, Try.ntmps113
    go_wp2
    go_ret
    exact ⟨rfl, rfl⟩
  | some x =>
    have i1 : ¬ (n : Int) < 0 := by omega
    have i2 : ¬ (c : Int) < n := by omega
    go_enter Try.func113, Try.ntmps113
    go_wp2
    go_ret
    exact ⟨rfl, rfl⟩

theorem Sl.clip {α : Type} {r : Rd α} {w : World} {lo hi n c : Nat} {a : Option Addr} {l : List α} (h : Sl r w lo hi (.slice a n c) l) : Sl r w lo hi (.slice a n n) l := by
  obtain ⟨a', c', e, h1, h2, h3, h4⟩ := h
  cases e
  exact ⟨a, _, rfl, Nat.le_refl _, Nat.le_trans h1 h2, h3, fun e => by have := h4 e; omega⟩
theorem kp_hid {w Z : World} {hi nb g : Nat} (hb : Below hi w Z) (h : hi ≤ nb) (h2 : hi ≤ g) : Kp 0 hi w (hideW Z (hidN nb g)) :=
  hideW_kp fun k _ hk => ⟨by simp [hidN]; omega, hb.block k hk⟩
/-- The bench has another list of what waits. -/
theorem BenAt.waits {V : World} {lo g nb no nc : Nat} {b u y : Value} {s : StoreL} (h : BenAt V lo g nb no nc b u y s) (V' : World) (hk : ∀ k, k < V.heap.size → k ≠ g → V'.heap[k]? = V.heap[k]?) (hs : V.heap.size ≤ V'.heap.size) (u' : Value)
    (hg : V'.heap[g]? = some (.cells #[b, u', .slice (some ⟨nb, no, none⟩) 256 nc, y] 163 (0, 0))) (l : List WrL) (hd : Sl rWrite (hideW V' (hidN nb g)) 0 V'.heap.size u' l) :
    BenAt V' lo g nb no nc b u' y ⟨⟨s.disk.blocks, l⟩, s.now, s.last⟩ := by
  have hc := hid_self V nb g V' (fun k hk' _ h2 => hk k hk' h2)
  have hnb := hk nb h.lo_.2.2.2 (fun e => h.lo_.2.2.1 e.symm)
  refine ⟨hg, ⟨(Sl.ck rBytes_ck h.disk.1 hc).more (Nat.le_refl _) hs, hd⟩, ?_, ?_, (h.last.ck hc).more (Nat.le_refl _) hs, h.len, h.lo_.1, h.lo_.2.1, h.lo_.2.2.1, Nat.lt_of_lt_of_le h.lo_.2.2.2 hs⟩
  · obtain ⟨a, c, e, h1, h2, h3, h4⟩ := h.now
    refine ⟨a, c, e, h1, h2, fun hp => ?_, h4⟩
    obtain ⟨b', off, ea, hlo, hhi, hx⟩ := h3 hp
    refine ⟨b', off, ea, hlo, Nat.lt_of_lt_of_le hhi hs, fun i x hxi => ?_⟩
    rw [ea] at e
    injection e with e1 _ _
    injection e1 with e1
    injection e1 with e1 _ _
    subst e1
    exact (World.cell?_of_block hnb).trans (hx i x hxi)
  · intro b' off n c e i hi
    have := h.thaw b' off n c e i hi
    injection e with e1 _ _
    injection e1 with e1
    injection e1 with e1 _ _
    subst e1
    exact (World.frozen?_of_block hnb).trans this

set_option maxRecDepth 100000 in
set_option maxHeartbeats 1000000 in
theorem on_any (b_s u_s x_s y_s : Value) (s : StoreL) (w : World) (h_s : StoreV w 0 w.heap.size b_s u_s x_s y_s s) (hl : s.now.length = 256) :
    Calls Try.prog 72 #[.agg #[b_s, u_s, x_s, y_s]] w fun e w' => ∃ g nb no nc au, e = .returned (.pointer (some ⟨g, 0, none⟩)) ∧ BenAt w' w.heap.size g nb no nc b_s (.slice au s.disk.waits.length s.disk.waits.length) y_s s ∧ Below w.heap.size w w' := by
  obtain ⟨ab_s, cb_s, rfl, gb_s, gc_s, -, -⟩ := h_s.1.1
  obtain ⟨au_s, cu_s, rfl, gu_s, gv_s, -, -⟩ := h_s.1.2
  obtain ⟨ax_s, cx_s, rfl, gx_s, gz_s⟩ := h_s.2.1.form rfl
  obtain ⟨ay_s, cy_s, rfl, gy_s, gw_s⟩ := h_s.2.2.form rfl
  unfold maxLen at gc_s gv_s gz_s gw_s
  have hst := ((Below.refl w.heap.size w).alloc (Nat.le_refl _) (.cells #[.slice ab_s s.disk.blocks.length cb_s, .slice au_s s.disk.waits.length cu_s, .slice ax_s s.now.length cx_s, .slice ay_s s.last.length cy_s] 46))
  have q_s := LK.new w (.cells #[.slice ab_s s.disk.blocks.length cb_s, .slice au_s s.disk.waits.length cu_s, .slice ax_s s.now.length cx_s, .slice ay_s s.last.length cy_s] 46)
  have hB : LW w _ := hst
  have O_s := (LO.of h_s (Nat.le_refl _)).step hst
  have sz_V : w.heap.size + 0 < (w.alloc (.cells #[.slice ab_s s.disk.blocks.length cb_s, .slice au_s s.disk.waits.length cu_s, .slice ax_s s.now.length cx_s, .slice ay_s s.last.length cy_s] 46)).heap.size := by simp
  obtain ⟨V, hV⟩ : ∃ V, (w.alloc (.cells #[.slice ab_s s.disk.blocks.length cb_s, .slice au_s s.disk.waits.length cu_s, .slice ax_s s.now.length cx_s, .slice ay_s s.last.length cy_s] 46)) = V := ⟨_, rfl⟩
  rw [hV] at sz_V q_s O_s hB
  clear hst h_s
  have HQ := Lib.hid (And.intro q_s (And.intro O_s hB))
  clear q_s O_s hB
  have c_q_s0 := LK.cell HQ.out.1 0
  have c_q_s1 := LK.cell HQ.out.1 1
  have c_q_s2 := LK.cell HQ.out.1 2
  have c_q_s3 := LK.cell HQ.out.1 3
  simp at c_q_s0 c_q_s1 c_q_s2 c_q_s3
  have k_n := fun V v hh => bclone_any v s.now V hh (by omega)
  have HL := Lib.hid hl
  clear hl
  have HC := Lib.hid (k_n)
  clear k_n
  have hcl : au_s = none → cu_s = 0 := by
    obtain ⟨a, c, e, -, -, -, h⟩ := HQ.out.2.1.d.2
    injection e with e1 _ e2
    subst e1 e2
    exact h
  go_enter Try.func72, Try.ntmps72
  go_upto_region 1 with (fail)
  clear hV
  go_wp2_with fail
  refine (HC.out _ _ HQ.out.2.1.n).mono ?_
  rintro e w1 ⟨vn, rfl, hm⟩
  clear c_q_s0 c_q_s1 c_q_s2 c_q_s3
  obtain ⟨q_s, O_s, hB⟩ := HQ.out
  clear HQ
  have B_n := LM.of hm
  have hst := hm.below
  obtain ⟨n1, n2, n3, rfl, n4, n5, n6, n7, -⟩ := hm.bytes.at_n HL.out (by omega)
  clear hm
  have sz_w1 : V.heap.size ≤ w1.heap.size := hst.size
  replace q_s := q_s.step hst
  replace O_s := O_s.step hst
  replace hB := hB.step hst
  clear hst
  have HQ := Lib.hid (And.intro q_s (And.intro O_s (And.intro B_n hB)))
  clear q_s O_s B_n hB
  have c_q_s0 := LK.cell HQ.out.1 0
  have c_q_s1 := LK.cell HQ.out.1 1
  have c_q_s2 := LK.cell HQ.out.1 2
  have c_q_s3 := LK.cell HQ.out.1 3
  have z_q_s0 := LK.frozen HQ.out.1 0
  have z_q_s1 := LK.frozen HQ.out.1 1
  have z_q_s2 := LK.frozen HQ.out.1 2
  have z_q_s3 := LK.frozen HQ.out.1 3
  simp at c_q_s0 c_q_s1 c_q_s2 c_q_s3
  go_wp2_with fail
  clear z_q_s0 z_q_s1 z_q_s2 z_q_s3 c_q_s0 c_q_s1 c_q_s2 c_q_s3
  obtain ⟨q_s, O_s, B_n, hB⟩ := HQ.out
  clear HQ
  have hcb := LK.blk q_s
  have hF : LK (w.heap.size) (.cells #[.slice ab_s s.disk.blocks.length cb_s, .slice au_s s.disk.waits.length cu_s, .slice (some ⟨n1, n2, none⟩) 256 n3, .slice ay_s s.last.length cy_s] 46) (w1.setCell ⟨w.heap.size, 2, none⟩ (.slice (some ⟨n1, n2, none⟩) 256 n3)) := LK.of (set_block hcb 2 _)
  have hbel : Below (w.heap.size) w1 (w1.setCell ⟨w.heap.size, 2, none⟩ (.slice (some ⟨n1, n2, none⟩) 256 n3)) := (Below.refl _ w1).setCell (p := ⟨w.heap.size, 2, none⟩) (Nat.le_refl _) _
  have hfr : ∀ x, x < w1.heap.size → (x < w.heap.size ∨ w.heap.size + 1 ≤ x) → (w1.setCell ⟨w.heap.size, 2, none⟩ (.slice (some ⟨n1, n2, none⟩) 256 n3)).heap[x]? = w1.heap[x]? := fun x _ h => (set_other _ _ _ _ _ (by omega))
  have hs4 : (w1.setCell ⟨w.heap.size, 2, none⟩ (.slice (some ⟨n1, n2, none⟩) 256 n3)).heap.size = w1.heap.size := by simp only [World.size_setCell]
  replace O_s := O_s.out (Nat.le_of_eq hs4.symm) hfr (by omega)
  replace B_n := B_n.out (Nat.le_of_eq hs4.symm) hfr (by omega)
  replace hB := hB.outB hbel (by omega)
  replace q_s := hF
  obtain ⟨w2, hw⟩ : ∃ v, (w1.setCell ⟨w.heap.size, 2, none⟩ (.slice (some ⟨n1, n2, none⟩) 256 n3)) = v := ⟨_, rfl⟩
  rw [hw] at hs4 q_s O_s B_n hB ⊢
  have sz_w2 := Nat.le_of_eq hs4
  have sy_w2 := Nat.le_of_eq hs4.symm
  clear hw hF hbel hfr hcb hs4
  have HQ := Lib.hid (And.intro q_s (And.intro O_s (And.intro B_n hB)))
  clear q_s O_s B_n hB
  have c_q_s0 := LK.cell HQ.out.1 0
  have c_q_s1 := LK.cell HQ.out.1 1
  have c_q_s2 := LK.cell HQ.out.1 2
  have c_q_s3 := LK.cell HQ.out.1 3
  have z_q_s0 := LK.frozen HQ.out.1 0
  have z_q_s1 := LK.frozen HQ.out.1 1
  have z_q_s2 := LK.frozen HQ.out.1 2
  have z_q_s3 := LK.frozen HQ.out.1 3
  simp at c_q_s0 c_q_s1 c_q_s2 c_q_s3
  refine (clip_any au_s s.disk.waits.length cu_s w2 gu_s (by unfold maxLen; exact gv_s) hcl).mono ?_
  rintro e w0 ⟨rfl, hw0⟩
  rw [hw0]
  clear hw0 w0
  go_upto_region 3 with (fail)
  clear z_q_s0 z_q_s1 z_q_s2 z_q_s3 c_q_s0 c_q_s1 c_q_s2 c_q_s3
  obtain ⟨q_s, O_s, B_n, hB⟩ := HQ.out
  clear HQ
  have hcb := LK.blk q_s
  have hF : LK (w.heap.size) (.cells #[.slice ab_s s.disk.blocks.length cb_s, .slice au_s s.disk.waits.length s.disk.waits.length, .slice (some ⟨n1, n2, none⟩) 256 n3, .slice ay_s s.last.length cy_s] 46) (w2.setCell ⟨w.heap.size, 1, none⟩ (.slice au_s s.disk.waits.length s.disk.waits.length)) := LK.of (set_block hcb 1 _)
  have hbel : Below (w.heap.size) w2 (w2.setCell ⟨w.heap.size, 1, none⟩ (.slice au_s s.disk.waits.length s.disk.waits.length)) := (Below.refl _ w2).setCell (p := ⟨w.heap.size, 1, none⟩) (Nat.le_refl _) _
  have hfr : ∀ x, x < w2.heap.size → (x < w.heap.size ∨ w.heap.size + 1 ≤ x) → (w2.setCell ⟨w.heap.size, 1, none⟩ (.slice au_s s.disk.waits.length s.disk.waits.length)).heap[x]? = w2.heap[x]? := fun x _ h => (set_other _ _ _ _ _ (by omega))
  have hs4 : (w2.setCell ⟨w.heap.size, 1, none⟩ (.slice au_s s.disk.waits.length s.disk.waits.length)).heap.size = w2.heap.size := by simp only [World.size_setCell]
  replace O_s := O_s.out (Nat.le_of_eq hs4.symm) hfr (by omega)
  replace B_n := B_n.out (Nat.le_of_eq hs4.symm) hfr (by omega)
  replace hB := hB.outB hbel (by omega)
  replace q_s := hF
  obtain ⟨w3, hw⟩ : ∃ v, (w2.setCell ⟨w.heap.size, 1, none⟩ (.slice au_s s.disk.waits.length s.disk.waits.length)) = v := ⟨_, rfl⟩
  rw [hw] at hs4 q_s O_s B_n hB ⊢
  have sz_w3 := Nat.le_of_eq hs4
  have sy_w3 := Nat.le_of_eq hs4.symm
  clear hw hF hbel hfr hcb hs4
  have HQ := Lib.hid (And.intro q_s (And.intro O_s (And.intro B_n hB)))
  clear q_s O_s B_n hB
  have c_q_s0 := LK.cell HQ.out.1 0
  have c_q_s1 := LK.cell HQ.out.1 1
  have c_q_s2 := LK.cell HQ.out.1 2
  have c_q_s3 := LK.cell HQ.out.1 3
  simp at c_q_s0 c_q_s1 c_q_s2 c_q_s3
  go_wp2
  go_ret
  have hst := (Below.refl w3.heap.size w3).alloc (Nat.le_refl _) (.cells #[.slice ab_s s.disk.blocks.length cb_s, .slice au_s s.disk.waits.length s.disk.waits.length, .slice (some ⟨n1, n2, none⟩) 256 n3, .slice ay_s s.last.length cy_s] 163)
  have hnew := World.alloc_heap_new w3 (.cells #[.slice ab_s s.disk.blocks.length cb_s, .slice au_s s.disk.waits.length s.disk.waits.length, .slice (some ⟨n1, n2, none⟩) 256 n3, .slice ay_s s.last.length cy_s] 163)
  have hBf := LW.step HQ.out.2.2.2 hst
  have hO := Lv.get HQ.out.2.1
  have hN := HQ.out.2.2.1.step hst
  have hlt : w3.heap.size < (w3.alloc (.cells #[.slice ab_s s.disk.blocks.length cb_s, .slice au_s s.disk.waits.length s.disk.waits.length, .slice (some ⟨n1, n2, none⟩) 256 n3, .slice ay_s s.last.length cy_s] 163)).heap.size := by simp
  have hkp := kp_hid (hst.mono (show w.heap.size ≤ w3.heap.size by omega)) (show w.heap.size ≤ n1 by omega) (show w.heap.size ≤ w3.heap.size by omega)
  refine ⟨_, n1, n2, n3, _, rfl, ⟨hnew, ⟨(Sl.keep hO.1.1 hkp).more (Nat.le_refl _) (by omega), ((Sl.keep hO.1.2 hkp).clip).more (Nat.le_refl _) (by omega)⟩, hN.m.1.more (by omega) (Lv.hi_le hN), hN.m.2, (hO.2.2.kept hkp).more (Nat.le_refl _) (by omega), HL.out, by omega, by omega, by omega, by omega⟩, hBf⟩

set_option maxRecDepth 100000 in
set_option maxHeartbeats 1000000 in
theorem bstore_any  (lo g nb no nc : Nat) (b u y : Value) (s : StoreL) (w : World) (h : BenAt w lo g nb no nc b u y s) (hf : FewS s)  :
    Calls Try.prog 122 #[.pointer (some ⟨g, 0, none⟩)] w fun e w' => ∃ b' u' x' y', e = .returned (.agg #[b', u', x', y']) ∧ MadeS w w' b' u' x' y' s := by
  obtain ⟨ab, cb, rfl, g1, g2, -, -⟩ := h.disk.1
  obtain ⟨au, cu, rfl, g3, g4, -, -⟩ := h.disk.2
  obtain ⟨ay, cy, rfl, g5, g6⟩ := h.last.form rfl
  unfold maxLen at g2 g4 g6
  have hst := ((Below.refl w.heap.size w).alloc (Nat.le_refl _) (.cells #[.slice none 0 0, .slice none 0 0, .slice none 0 0, .slice none 0 0] 46))
  have q_r := LK.new w (.cells #[.slice none 0 0, .slice none 0 0, .slice none 0 0, .slice none 0 0] 46)
  have hB : LW w _ := hst
  have sz_V : w.heap.size + 0 < (w.alloc (.cells #[.slice none 0 0, .slice none 0 0, .slice none 0 0, .slice none 0 0] 46)).heap.size := by simp
  obtain ⟨V, hV⟩ : ∃ V, (w.alloc (.cells #[.slice none 0 0, .slice none 0 0, .slice none 0 0, .slice none 0 0] 46)) = V := ⟨_, rfl⟩
  rw [hV] at sz_V q_r hB
  clear hst 
  have B_n := (show BenAt w lo g nb no nc _ _ _ s from h).step (by rw [← hV]; exact (Below.refl w.heap.size w).alloc (Nat.le_refl _) (.cells #[.slice none 0 0, .slice none 0 0, .slice none 0 0, .slice none 0 0] 46) : Below w.heap.size w V)
  clear h
  have k_t := fun V b1 u1 x1 y1 hh => stwin_any b1 u1 x1 y1 s V hh hf
  clear hf
  have HC := Lib.hid (k_t)
  clear k_t
  have HQ := Lib.hid (And.intro q_r (And.intro B_n hB))
  clear q_r B_n hB
  have c_q_r0 := LK.cell HQ.out.1 0
  have c_q_r1 := LK.cell HQ.out.1 1
  have c_q_r2 := LK.cell HQ.out.1 2
  have c_q_r3 := LK.cell HQ.out.1 3
  simp at c_q_r0 c_q_r1 c_q_r2 c_q_r3
  have c_b := BenAt.blk HQ.out.2.1
  have c_b0 := blk_cell c_b 0
  have c_b1 := blk_cell c_b 1
  have c_b2 := blk_cell c_b 2
  have c_b3 := blk_cell c_b 3
  simp at c_b0 c_b1 c_b2 c_b3
  clear c_b
  go_enter Try.func122, Try.ntmps122
  go_upto_region 1 with (fail)
  clear hV
  go_wp2_with fail
  refine (HC.out _ _ _ _ _ (BenAt.store HQ.out.2.1)).mono ?_
  rintro e w1 ⟨b1, u1, x1, y1, rfl, hm⟩
  clear c_q_r0 c_q_r1 c_q_r2 c_q_r3
  obtain ⟨q_r, B_n, hB⟩ := HQ.out
  clear HQ
  have P_t := LP.of hm
  have hst := hm.below
  obtain ⟨ab_t, cb_t, rfl, -, -, -, -⟩ := hm.store.v.1.1
  obtain ⟨au_t, cu_t, rfl, -, -, -, -⟩ := hm.store.v.1.2
  obtain ⟨ax_t, cx_t, rfl, -, -⟩ := hm.store.v.2.1.form rfl
  obtain ⟨ay_t, cy_t, rfl, -, -⟩ := hm.store.v.2.2.form rfl
  clear hm
  have sz_w1 : V.heap.size ≤ w1.heap.size := hst.size
  replace q_r := q_r.step hst
  replace B_n := B_n.step hst
  replace hB := hB.step hst
  clear hst
  have HQ := Lib.hid (And.intro q_r (And.intro B_n (And.intro P_t hB)))
  clear q_r B_n P_t hB
  have c_q_r0 := LK.cell HQ.out.1 0
  have c_q_r1 := LK.cell HQ.out.1 1
  have c_q_r2 := LK.cell HQ.out.1 2
  have c_q_r3 := LK.cell HQ.out.1 3
  have z_q_r0 := LK.frozen HQ.out.1 0
  have z_q_r1 := LK.frozen HQ.out.1 1
  have z_q_r2 := LK.frozen HQ.out.1 2
  have z_q_r3 := LK.frozen HQ.out.1 3
  simp at c_q_r0 c_q_r1 c_q_r2 c_q_r3
  clear c_b0 c_b1 c_b2 c_b3
  go_wp2
  refine bodyPost_ret (v := .agg #[.slice ab_t s.disk.blocks.length cb_t, .slice au_t s.disk.waits.length cu_t, .slice ax_t s.now.length cx_t, .slice ay_t s.last.length cy_t]) (by simp [results, Try.results122, go_sem, c_q_r0, c_q_r1, c_q_r2, c_q_r3]) rfl ⟨_, _, _, _, rfl, ?_⟩
  exact ((MadeL.mk ((HQ.out.2.2.1.t).more (by omega) (Lv.hi_le HQ.out.2.2.1)) HQ.out.2.2.2 : MadeL w _ (w.heap.size + 1) _ _ _ _ s).four w.heap.size _ _ _ _ (Nat.le_refl _) (Nat.lt_succ_self _)).made (by omega)

end Go.Proofs.Ytcibihakjcenaaa

namespace Go.Proofs.Ytcibihakjcenaaa
open Go.RowKit

/-- What each operation of the last statement's region is good for. -/
def gWr (g : Nat) (k : List UInt8) (Li Lo Lr Ln val : List UInt8) (vr vv : Value) : Nat → Value → World → Prop
  | 3 => fun v W => Bytes W 0 W.heap.size v k
  | 7 => fun v W => Bytes W 0 W.heap.size v Li
  | 11 => fun v W => Bytes W 0 W.heap.size v Lo
  | 17 => fun v W => Bytes W 0 W.heap.size v Ln
  | 20 => fun v W => ∃ b v0 v1 v2 v4, v = .slice (some ⟨b, 0, none⟩) 6 6 ∧ W.heap[b]? = some (.cells #[v0, v1, v2, vr, v4, vv] 26 (0, 0)) ∧
      Bytes W 0 W.heap.size v0 k ∧ Bytes W 0 W.heap.size v1 Li ∧ Bytes W 0 W.heap.size v2 Lo ∧ Bytes W 0 W.heap.size v4 Ln
  | 21 => fun v W => Bytes W g W.heap.size v (k ++ Li ++ Lo ++ Lr ++ Ln ++ val) ∧ Thawed W v
  | 22 => fun v W => Bytes W g W.heap.size v (k ++ Li ++ Lo ++ Lr ++ Ln ++ val) ∧ Thawed W v
  | 23 => fun v _ => v = .int .i64 0
  | _ => fun _ _ => True
theorem gWr_keep (g : Nat) (k Li Lo Lr Ln val : List UInt8) (vr vv : Value) (i : Nat) (v : Value) (W W' : World) (h : gWr g k Li Lo Lr Ln val vr vv i v W) (hb : Below W.heap.size W W') : gWr g k Li Lo Lr Ln val vr vv i v W' := by
  unfold gWr at *
  split at h
  · exact h.step hb
  · exact h.step hb
  · exact h.step hb
  · exact h.step hb
  · obtain ⟨b, v0, v1, v2, v4, e, hh, h0, h1, h2, h4⟩ := h
    exact ⟨b, v0, v1, v2, v4, e, (hb.block b (Array.getElem?_eq_some_iff.1 hh).1).trans hh, h0.step hb, h1.step hb, h2.step hb, h4.step hb⟩
  · exact ⟨h.1.step hb, thawed_below h.1 h.2 hb (Nat.le_refl _)⟩
  · exact ⟨h.1.step hb, thawed_below h.1 h.2 hb (Nat.le_refl _)⟩
  · exact h
  · exact h

set_option maxRecDepth 100000 in
set_option maxHeartbeats 1000000 in
theorem iwrite_yes (x : ItemL) (v : Value) (w : World) (hv : Bytes w 0 w.heap.size v x.val) (hm : mayI x = true) :
    Calls Try.prog 163 #[itemV x v] w fun e w' => ∃ u, e = .returned (.tuple #[u, .int .i64 0]) ∧ MadeB w w' u (itemB x) := by
  obtain ⟨W, hW, hB, hV, hz, hblk⟩ := item_box x v w hv
  have hck := icheck_any x v W hV
  rw [hm] at hck
  obtain ⟨r0, r1, r2⟩ := may_ref hm
  obtain ⟨a, c, rfl, g1, g2, -, -⟩ := hv
  have hfin : itemB x = [x.key.kind] ++ fourL x.key.id.toNat ++ fourL x.key.off.toNat ++ twoL x.ref.toNat ++ [UInt8.ofNat x.val.length] ++ x.val := rfl
  generalize itemB x = out at *
  obtain ⟨⟨k, i, o⟩, r, l⟩ := x
  obtain ⟨r, rfl⟩ := Int.eq_ofNat_of_zero_le r0
  simp only at r1 r2 hfin hV g1
  rw [Int.toNat_natCast] at hfin
  have hi := i.toNat_lt
  have ho := o.toNat_lt
  have Hck := Lib.hid hck
  have HW := Lib.hid (And.intro hW (And.intro hB (And.intro hV hz)))
  have Hblk := Lib.hid hblk
  have HF := Lib.hid hfin
  clear hck hW hB hV hz hblk hm r0 hfin
  simp only [itemV, bV, wV] at *
  go_enter Try.func163, Try.ntmps163
  go_upto_region 1 with (fail)
  rw [HW.out.1]
  have q := Hblk.out W (Below.refl _ _)
  have c0 := blk_cell q 0
  have c1 := blk_cell q 1
  have c2 := blk_cell q 2
  have c3 := blk_cell q 3
  have c4 := blk_cell q 4
  simp at c0 c1 c2 c3 c4
  clear q
  go_wp2_with fail
  refine Hck.out.mono ?_
  have e9 : mayE true = 0 := rfl
  rw [e9]
  rintro e w1 ⟨rfl, hb1⟩
  have q := Hblk.out w1 hb1
  have hB1 := below_step HW.out.2.1 HW.out.2.1.size hb1
  clear c0 c1 c2 c3 c4 e9
  have c3 := blk_cell q 3
  simp at c3
  have H1 := Lib.hid (And.intro hb1 hB1)
  clear q hb1 hB1
  go_wp2_with fail
  refine (two_yes r w1 (by omega)).mono ?_
  rintro e w2 ⟨vr, rfl, hm2⟩
  have hb2 := below_step H1.out.1 H1.out.1.size hm2.below
  have hB2 := below_step H1.out.2 H1.out.2.size hm2.below
  have hr2 := hm2.bytes.all0
  have q := Hblk.out w2 hb2
  have hv2 := HW.out.2.2.1.step hb2
  have lr : (twoL r).length = 2 := rfl
  have li : (fourL i.toNat).length = 4 := rfl
  have lo : (fourL o.toNat).length = 4 := rfl
  obtain ⟨ra, rc, rfl, -, -⟩ := hr2.form lr
  have H2 := Lib.hid (And.intro hB2 (And.intro hr2 (And.intro hv2 (And.intro q (And.intro lr (And.intro li lo))))))
  clear c3 H1 hm2 hb2 hB2 hr2 hv2 q lr li lo
  have hlt2 : w.heap.size < w2.heap.size := (Array.getElem?_eq_some_iff.1 H2.out.2.2.2.1).1
  have c0 := fun X => (((aft_below w2 X).cell (p := ⟨w.heap.size, 0, none⟩) hlt2)).trans (blk_cell H2.out.2.2.2.1 0)
  have c1 := fun X => (((aft_below w2 X).cell (p := ⟨w.heap.size, 1, none⟩) hlt2)).trans (blk_cell H2.out.2.2.2.1 1)
  have c2 := fun X => (((aft_below w2 X).cell (p := ⟨w.heap.size, 2, none⟩) hlt2)).trans (blk_cell H2.out.2.2.2.1 2)
  have c4 := fun X => (((aft_below w2 X).cell (p := ⟨w.heap.size, 4, none⟩) hlt2)).trans (blk_cell H2.out.2.2.2.1 4)
  simp at c0 c1 c2 c4
  go_wp2_with fail
  refine wp_region_held_drew (S := Cls w2) (by kernel_rfl) (Cls.of (Below.refl _ _).drew) (fun hCl => ?_)
  refine wpAnyH_seg (fuel := 8) (by kernel_rfl) (fun _ d _ _ _ h => by cases d <;> exact h) hCl [0, 1, 2, 4, 5, 6, 8, 9, 10, 12, 13, 14, 15, 16, 18, 19] _ _ _ (by kernel_rfl) (by kernel_rfl) ?_
  simp only [opsOf_cons, opsOf_nil, consOp_some, List.getElem?_toArray, List.getElem?_cons_succ, List.getElem?_cons_zero]
  repeat (first | go_big_quiet_step (fail) | quiet_step (fail))
  refine wpQuiet_nil ?_
  refine wpAnyH_inv0 [3, 7, 11, 17, 20, 21, 22, 23] (fun | 20 => [3, 7, 11, 17] | 21 => [20] | 22 => [21] | _ => []) (gWr w.heap.size [k] (fourL i.toNat) (fourL o.toNat) (twoL r) [UInt8.ofNat l.length] l (.slice ra 2 rc) (.slice a l.length c)) hCl (cls_step _) (gWr_keep _ _ _ _ _ _ _ _ _) (by kernel_rfl) (by kernel_rfl) (by kernel_rfl) (by decide) ?_ ?_
  · refine OpsI.cons _ (by simp only [List.getElem?_toArray, List.getElem?_cons_succ, List.getElem?_cons_zero]; rfl) (fun vs V hV hd K hK => ?_) ?_
    · simp only [putAll, dstOf, List.getElem?_toArray, List.getElem?_cons_succ, List.getElem?_cons_zero, Option.bind_some, Act.put, List.setIfInBounds_toArray, List.set_cons_succ, List.set_cons_zero] at hK ⊢
      go_simp
      exact hK _ _ ((one_new V _ _ _ rfl).more (Nat.zero_le _) (by simp)) ((Below.refl _ _).alloc (Nat.le_refl _) _)
    refine OpsI.cons _ (by simp only [List.getElem?_toArray, List.getElem?_cons_succ, List.getElem?_cons_zero]; rfl) (fun vs V hV hd K hK => ?_) ?_
    · simp only [putAll, dstOf, List.getElem?_toArray, List.getElem?_cons_succ, List.getElem?_cons_zero, Option.bind_some, Act.put, List.setIfInBounds_toArray, List.set_cons_succ, List.set_cons_zero] at hK ⊢
      go_simp
      refine (four_any _ _ (by omega)).mono ?_
      rintro e W' ⟨u, rfl, hm⟩
      exact hK _ _ hm.bytes.all0 hm.below
    refine OpsI.cons _ (by simp only [List.getElem?_toArray, List.getElem?_cons_succ, List.getElem?_cons_zero]; rfl) (fun vs V hV hd K hK => ?_) ?_
    · simp only [putAll, dstOf, List.getElem?_toArray, List.getElem?_cons_succ, List.getElem?_cons_zero, Option.bind_some, Act.put, List.setIfInBounds_toArray, List.set_cons_succ, List.set_cons_zero] at hK ⊢
      go_simp
      refine (four_any _ _ (by omega)).mono ?_
      rintro e W' ⟨u, rfl, hm⟩
      exact hK _ _ hm.bytes.all0 hm.below
    refine OpsI.cons _ (by simp only [List.getElem?_toArray, List.getElem?_cons_succ, List.getElem?_cons_zero]; rfl) (fun vs V hV hd K hK => ?_) ?_
    · simp only [putAll, dstOf, List.getElem?_toArray, List.getElem?_cons_succ, List.getElem?_cons_zero, Option.bind_some, Act.put, List.setIfInBounds_toArray, List.set_cons_succ, List.set_cons_zero] at hK ⊢
      go_simp
      exact hK _ _ ((one_new V _ _ _ (by simp [bV]; omega)).more (Nat.zero_le _) (by simp)) ((Below.refl _ _).alloc (Nat.le_refl _) _)
    refine OpsI.cons _ (by simp only [List.getElem?_toArray, List.getElem?_cons_succ, List.getElem?_cons_zero]; rfl) (fun vs V hV hd K hK => ?_) ?_
    · simp only [putAll, dstOf, List.getElem?_toArray, List.getElem?_cons_succ, List.getElem?_cons_zero, Option.bind_some, Act.put, List.setIfInBounds_toArray, List.set_cons_succ, List.set_cons_zero] at hK ⊢
      have h3 : Bytes V 0 V.heap.size (vs 3) [k] := hd 3 (by simp)
      have h7 : Bytes V 0 V.heap.size (vs 7) (fourL i.toNat) := hd 7 (by simp)
      have h11 : Bytes V 0 V.heap.size (vs 11) (fourL o.toNat) := hd 11 (by simp)
      have h17 : Bytes V 0 V.heap.size (vs 17) [UInt8.ofNat l.length] := hd 17 (by simp)
      clear hd
      generalize vs 3 = v3 at *
      generalize vs 7 = v7 at *
      generalize vs 11 = v11 at *
      generalize vs 17 = v17 at *
      obtain ⟨a3, b3, rfl, -, -⟩ := h3.form (n := 1) rfl
      obtain ⟨a7, b7, rfl, -, -⟩ := h7.form (n := 4) rfl
      obtain ⟨a11, b11, rfl, -, -⟩ := h11.form (n := 4) rfl
      obtain ⟨a17, b17, rfl, -, -⟩ := h17.form (n := 1) rfl
      have Hh := Lib.hid (And.intro h3 (And.intro h7 (And.intro h11 h17)))
      clear h3 h7 h11 h17
      go_simp
      have hb := (Below.refl V.heap.size V).alloc (Nat.le_refl _) (.cells #[.slice a3 1 b3, .slice a7 4 b7, .slice a11 4 b11, .slice ra 2 rc, .slice a17 1 b17, .slice a l.length c] 26)
      exact hK _ _ ⟨V.heap.size, _, _, _, _, rfl, World.alloc_heap_new V _, Hh.out.1.step hb, Hh.out.2.1.step hb, Hh.out.2.2.1.step hb, Hh.out.2.2.2.step hb⟩ hb
    refine OpsI.cons _ (by simp only [List.getElem?_toArray, List.getElem?_cons_succ, List.getElem?_cons_zero]; rfl) (fun vs V hV hd K hK => ?_) ?_
    · simp only [putAll, dstOf, List.getElem?_toArray, List.getElem?_cons_succ, List.getElem?_cons_zero, Option.bind_some, Act.put, List.setIfInBounds_toArray, List.set_cons_succ, List.set_cons_zero] at hK ⊢
      obtain ⟨b, v0, v1, v2, v4, e20, hh, h0, h1, h2, h4⟩ : gWr w.heap.size [k] (fourL i.toNat) (fourL o.toNat) (twoL r) [UInt8.ofNat l.length] l (.slice ra 2 rc) (.slice a l.length c) 20 (vs 20) V := hd 20 (by simp)
      clear hd
      generalize vs 20 = v20 at *
      subst e20
      have hV2 := hV.below
      have hr3 := H2.out.2.1.step hV2
      have hv3 := H2.out.2.2.1.step hV2
      have hcc := concat_any [(v0, [k]), (v1, fourL i.toNat), (v2, fourL o.toNat), (.slice ra 2 rc, twoL r), (v4, [UInt8.ofNat l.length]), (.slice a l.length c, l)] b 0 6 V (Array.getElem?_eq_some_iff.1 hh).1
        (fun j p hp => by
          rw [Nat.zero_add, blk_cell hh j]
          match j, hp with
          | 0, hp => cases hp; rfl
          | 1, hp => cases hp; rfl
          | 2, hp => cases hp; rfl
          | 3, hp => cases hp; rfl
          | 4, hp => cases hp; rfl
          | 5, hp => cases hp; rfl)
        (fun p hp => by
          simp only [List.mem_cons, List.not_mem_nil, or_false] at hp
          rcases hp with rfl | rfl | rfl | rfl | rfl | rfl
          · exact h0
          · exact h1
          · exact h2
          · exact hr3
          · exact h4
          · exact hv3)
        (by simp) (by omega) (by simp [catL, fourL, twoL]; omega)
      have Hcc := Lib.hid hcc
      clear hcc h0 h1 h2 h4 hr3 hv3 hh hV2
      go_simp
      refine Hcc.out.mono ?_
      rintro e W' ⟨u, rfl, hm⟩
      refine hK _ _ ⟨?_, hm.thawed⟩ hm.below
      have hbb := hm.bytes.more (Nat.le_trans H2.out.1.size hV.below.size) (Nat.le_refl _)
      simpa [catL] using hbb
    refine OpsI.cons _ (by simp only [List.getElem?_toArray, List.getElem?_cons_succ, List.getElem?_cons_zero]; rfl) (fun vs V hV hd K hK => ?_) ?_
    · simp only [putAll, dstOf, List.getElem?_toArray, List.getElem?_cons_succ, List.getElem?_cons_zero, Option.bind_some, Act.put, List.setIfInBounds_toArray, List.set_cons_succ, List.set_cons_zero] at hK ⊢
      have h21 := hd 21 (by simp)
      clear hd
      go_simp
      exact hK _ _ h21 (Below.refl _ _)
    refine OpsI.cons _ (by simp only [List.getElem?_toArray, List.getElem?_cons_succ, List.getElem?_cons_zero]; rfl) (fun vs V hV hd K hK => ?_) ?_
    · simp only [putAll, dstOf, List.getElem?_toArray, List.getElem?_cons_succ, List.getElem?_cons_zero, Option.bind_some, Act.put, List.setIfInBounds_toArray, List.set_cons_succ, List.set_cons_zero] at hK ⊢
      clear hd
      go_simp
      exact hK _ _ rfl (Below.refl _ _)
    exact OpsI.nil
  · intro vs V hV hall
    have h22 : Bytes V w.heap.size V.heap.size (vs 22) ([k] ++ fourL i.toNat ++ fourL o.toNat ++ twoL r ++ [UInt8.ofNat l.length] ++ l) ∧ Thawed V (vs 22) := hall 22 (by simp)
    have h23 : vs 23 = .int .i64 0 := hall 23 (by simp)
    have hB3 := below_step H2.out.1 H2.out.1.size hV.below
    simp only [putAll, dstOf, List.getElem?_toArray, List.getElem?_cons_succ, List.getElem?_cons_zero, Option.bind_some, Act.put, List.setIfInBounds_toArray, List.set_cons_succ, List.set_cons_zero]
    clear hall c0 c1 c2 c4 hCl hV
    rw [h23]
    clear h23
    have HZ := Lib.hid (And.intro h22 hB3)
    clear h22 hB3
    generalize vs 22 = u at *
    go_wp2
    go_ret2
    exact ⟨u, rfl, by rw [HF.out]; exact HZ.out.1.1, HZ.out.1.2, HZ.out.2⟩

set_option maxRecDepth 100000 in
set_option maxHeartbeats 1000000 in
theorem iwrite_any (x : ItemL) (v : Value) (w : World) (hv : Bytes w 0 w.heap.size v x.val) :
    Calls Try.prog 163 #[itemV x v] w fun e w' => ∃ u, e = .returned (.tuple #[u, .int .i64 (mayE (mayI x))]) ∧ MadeB w w' u (wrI x) := by
  have hfin : wrI x = if mayI x then itemB x else [] := rfl
  cases hm : mayI x
  · rw [hm] at hfin
    rw [hfin]
    obtain ⟨W, hW, hB, hV, hz, hblk⟩ := item_box x v w hv
    have hck := icheck_any x v W hV
    rw [hm] at hck
    obtain ⟨a, c, rfl, g1, g2, -, -⟩ := hv
    obtain ⟨⟨k, i, o⟩, r, l⟩ := x
    have Hck := Lib.hid hck
    have HW := Lib.hid (And.intro hW hB)
    have q := hblk W (Below.refl _ _)
    clear hck hW hB hV hz hblk hm hfin
    simp only [itemV, bV, wV] at *
    go_enter Try.func163, Try.ntmps163
    go_upto_region 1 with (fail)
    rw [HW.out.1]
    have c0 := blk_cell q 0
    have c1 := blk_cell q 1
    have c2 := blk_cell q 2
    have c3 := blk_cell q 3
    have c4 := blk_cell q 4
    simp at c0 c1 c2 c3 c4
    clear q
    go_wp2_with fail
    refine Hck.out.mono ?_
    have e9 : mayE false = 8 := rfl
    rw [e9]
    rintro e w1 ⟨rfl, hb1⟩
    have hB1 := below_step HW.out.2 HW.out.2.size hb1
    clear c0 c1 c2 c3 c4 hb1
    go_wp2
    go_ret2
    exact ⟨_, rfl, MadeB.nil_ hB1⟩
  · rw [hm] at hfin
    rw [hfin]
    exact iwrite_yes x v w hv hm
end Go.Proofs.Ytcibihakjcenaaa

namespace Go.Proofs.Ytcibihakjcenaaa
open Go.RowKit

theorem below_dr (w : World) (n : Nat) : Below w.heap.size w (w.drewN n) := ⟨rfl, rfl, rfl, Nat.le_refl _, fun _ _ => rfl⟩
def nokI : ItemL := ⟨⟨0, 0, 0⟩, 0, []⟩
/-- What is asked of item number i of a node. -/
def stepN (n : NodeL) (i : Nat) : Bool := mayI (n.items.getD i nokI) && (i == 0 || lessK (n.items.getD (i - 1) nokI).key (n.items.getD i nokI).key) && (decide (n.level ≤ 0) || (decide ((n.items.getD i nokI).ref ≠ 0) && (n.items.getD i nokI).val.length == 0))
def mayN (n : NodeL) : Bool := decide (0 ≤ n.level) && decide (n.level < 6) && decide (n.items.length ≤ 5) && (decide (n.level ≤ 0) || n.items.length != 0) && (List.range n.items.length).all (stepN n)
theorem mayN_bad {n : NodeL} {i : Nat} (hi : i < n.items.length) (h : stepN n i = false) : mayN n = false := by
  have : (List.range n.items.length).all (stepN n) = false := by
    rw [List.all_eq_false]
    exact ⟨i, List.mem_range.2 hi, by rw [h]; decide⟩
  unfold mayN
  rw [this, Bool.and_false]
theorem mayN_yes {n : NodeL} (h0 : 0 ≤ n.level) (h1 : n.level < 6) (h2 : n.items.length ≤ 5) (h3 : n.level ≤ 0 ∨ n.items.length ≠ 0) (h : ∀ i, i < n.items.length → stepN n i = true) : mayN n = true := by
  have : (List.range n.items.length).all (stepN n) = true := by
    rw [List.all_eq_true]
    intro x hx
    exact h x (List.mem_range.1 hx)
  unfold mayN
  rw [this]
  have h4 : (decide (n.level ≤ 0) || n.items.length != 0) = true := by
    rcases h3 with h | h
    · simp [h]
    · rw [bne_iff_ne.2 h, Bool.or_true]
  rw [decide_eq_true h0, decide_eq_true h1, decide_eq_true h2, h4]
  rfl

set_option maxRecDepth 100000 in
set_option maxHeartbeats 4000000 in
/-- node.Check. -/
theorem ncheck_any (n : NodeL) (v : Value) (w : World) (h : Sl rItem w 0 w.heap.size v n.items) :
    Calls Try.prog 120 #[.agg #[.int .i64 n.level, v]] w fun e w' => e = .returned (.int .i64 (mayE (mayN n))) ∧ Below w.heap.size w w' := by
  obtain ⟨av, cv, rfl, g1, g2, -, -⟩ := id h
  unfold maxLen at g2
  have hst := (Below.refl w.heap.size w).alloc (Nat.le_refl _) (.cells #[.int .i64 n.level, .slice av n.items.length cv] 119)
  have qn := LK.new w (.cells #[.int .i64 n.level, .slice av n.items.length cv] 119)
  have hB : LW w _ := hst
  have hS := (LS.of h (Nat.le_refl _)).step hst
  obtain ⟨V, hV⟩ : ∃ V, w.alloc (.cells #[.int .i64 n.level, .slice av n.items.length cv] 119) = V := ⟨_, rfl⟩
  rw [hV] at hB hS qn
  have HBAD := Lib.hid (fun i hi h => mayN_bad (n := n) (i := i) hi h)
  have HYES := Lib.hid (fun a b c d e => mayN_yes (n := n) a b c d e)
  have hb1 : ¬ 0 ≤ n.level → mayN n = false := fun h => by unfold mayN; simp [h]
  have hb2 : ¬ n.level < 6 → mayN n = false := fun h => by unfold mayN; simp [h]
  have hb3 : ¬ n.items.length ≤ 5 → mayN n = false := fun h => by unfold mayN; simp [h]
  have hb4 : ¬ n.level ≤ 0 → n.items.length = 0 → mayN n = false := fun h h2 => by unfold mayN; rw [h2, decide_eq_false h]; simp
  have HB4 := Lib.hid (And.intro hb1 (And.intro hb2 (And.intro hb3 hb4)))
  have hstep : ∀ i, stepN n i = (mayI (n.items.getD i nokI) && (i == 0 || lessK (n.items.getD (i - 1) nokI).key (n.items.getD i nokI).key) && (decide (n.level ≤ 0) || (decide ((n.items.getD i nokI).ref ≠ 0) && (n.items.getD i nokI).val.length == 0))) := fun i => rfl
  have HST := Lib.hid hstep
  generalize mayN n = mn at *
  clear h hst hb1 hb2 hb3 hb4 hstep
  obtain ⟨lv, its⟩ := n
  simp only at *
  have HQ := Lib.hid (And.intro qn (And.intro hS hB))
  have c0 := LK.cell qn 0
  have c1 := LK.cell qn 1
  simp at c0 c1
  clear qn hS hB
  obtain ⟨ab, hab⟩ : ∃ ab, decide (0 < lv) = ab := ⟨_, rfl⟩
  go_enter Try.func120, Try.ntmps120
  go_upto_region 1 with (fail)
  clear hV
  by_cases l0 : lv < 0
  · have hm := HB4.out.1 (by omega)
    subst hm
    go_wp2
    go_ret
    exact ⟨rfl, HQ.out.2.2⟩
  have d0 : decide (lv < 0) = false := by simp; omega
  by_cases l6 : 6 ≤ lv
  · have hm := HB4.out.2.1 (by omega)
    subst hm
    go_wp2
    go_ret
    exact ⟨rfl, HQ.out.2.2⟩
  have d6 : decide (6 ≤ lv) = false := by simp; omega
  by_cases l5 : 5 < its.length
  · have hm := HB4.out.2.2.1 (by omega)
    subst hm
    have d5 : (5 : Int) < its.length := by omega
    go_wp2
    go_ret
    exact ⟨rfl, HQ.out.2.2⟩
  have d5 : decide ((5 : Int) < its.length) = false := by simp; omega
  by_cases lz : 0 < lv ∧ its.length = 0
  · have hm := HB4.out.2.2.2 (by omega) lz.2
    subst hm
    obtain rfl : ab = true := by rw [← hab]; simpa using lz.1
    have e0 : ((its.length : Int) == 0) = true := by rw [lz.2]; rfl
    clear lz
    go_wp2
    go_ret
    exact ⟨rfl, HQ.out.2.2⟩
  have hz : ab = true → ((its.length : Int) == 0) = false := fun hh => by
    rw [hh] at hab
    have : 0 < lv := by simpa using hab
    rw [beq_eq_false_iff_ne]
    intro e
    exact lz ⟨this, by omega⟩
  have hlz : lv ≤ 0 ∨ its.length ≠ 0 := by
    by_cases e : its.length = 0
    · left
      by_cases e2 : 0 < lv
      · exact absurd ⟨e2, e⟩ lz
      · omega
    · exact .inr e
  have HLZ := Lib.hid (And.intro hlz hab)
  clear lz hlz
  go_upto_region 2 with (fail)
  clear hab
  go_cut [32] (fun t wx => t = .bool false ∧ wx = V)
  case first =>
    cases ab
    · clear hz
      go_wp2
      go_meet
      exact ⟨rfl, rfl⟩
    · have hz1 := hz rfl
      clear hz
      go_wp2
      go_meet
      exact ⟨rfl, rfl⟩
  case rest =>
  obtain ⟨rfl, rfl⟩ := hcut
  obtain ⟨V2, hV2⟩ : ∃ V2, V2 = wc := ⟨_, rfl⟩
  subst hV2
  clear hz d0 d6 d5
  go_wp2_with fail
  go_loopw [36] (fun i wr => ∃ k : Nat, k ≤ its.length ∧ i = .int .i64 k ∧ Below V2.heap.size V2 wr ∧ ∀ j, j < k → stepN ⟨lv, its⟩ j = true) (fun i _ => its.length - (intOf i).toNat)
  case atStart => exact ⟨0, Nat.zero_le _, rfl, Below.refl _ _, fun j hj => absurd hj (Nat.not_lt_zero _)⟩
  case round =>
  obtain ⟨k, hk, rfl, hBr, hall⟩ := hrel
  have hst := hBr
  clear c0 c1
  obtain ⟨qn, hS, hB⟩ := HQ.out
  clear HQ
  have sz_wr : V2.heap.size ≤ wr.heap.size := hst.size
  replace qn := qn.step hst
  replace hS := hS.step hst
  replace hB := hB.step hst
  clear hst
  have HQ := Lib.hid (And.intro qn (And.intro hS hB))
  clear qn hS hB
  have c_qn0 := LK.cell HQ.out.1 0
  have c_qn1 := LK.cell HQ.out.1 1
  simp at c_qn0 c_qn1
  by_cases hlt : k < its.length
  · obtain ⟨bb, bo, cb, e1, -, -, -, zc, hcell⟩ := HQ.out.2.1.v.at_ (by omega)
    injection e1 with e1 _ e2
    subst e1 e2
    obtain ⟨f0, f1, f2, f3, f3w, vx, f4, hvx⟩ := hcell k (its.getD k nokI) (get_l _ _ _ hlt)
    obtain ⟨xn, hxn⟩ : ∃ xn, (its.getD k nokI).val.length = xn := ⟨_, rfl⟩
    obtain ⟨ax, cx, rfl, -, hcx⟩ := hvx.form hxn
    have hbad := HBAD.out k hlt
    have hstk := HST.out k
    obtain ⟨x, hx⟩ : ∃ x, its.getD k nokI = x := ⟨_, rfl⟩
    rw [hx] at f0 f1 f2 f3 f3w hvx hstk hxn
    rw [hxn] at hstk
    simp only [bV, wV, Nat.add_zero] at f0 f1 f2 f3 f4
    have hn5 : rItem.n = 5 := rfl
    rw [hn5] at f0 f1 f2 f3 f4 hcell
    unfold maxLen at zc hcx
    have hX := LB.of hvx (Nat.le_refl _)
    have HBR := Lib.hid (And.intro hBr (And.intro hall (And.intro hcell (And.intro hbad (And.intro hstk (And.intro hx hxn))))))
    clear hxn hBr hall hcell hvx hbad hstk hx hn5
    obtain ⟨qn, hS, hB⟩ := HQ.out
    clear HQ
    have hR : LW wr wr := Below.refl _ _
    have HQ := Lib.hid (And.intro qn (And.intro hS (And.intro hX (And.intro hR hB))))
    clear qn hS hX hR hB
    go_upto_region 7 with (fail)
    clear c_qn0 c_qn1
    obtain ⟨qn, hS, hX, hR, hB⟩ := HQ.out
    clear HQ
    have hst := (Below.refl wr.heap.size wr).alloc (Nat.le_refl _) (.cells #[.int .u8 (x.key.kind.toNat : Int), .int .u32 (x.key.id.toNat : Int), .int .u32 (x.key.off.toNat : Int), .int .i64 x.ref, .slice ax xn cx] 56)
    have hlt : wr.heap.size < (wr.alloc (.cells #[.int .u8 (x.key.kind.toNat : Int), .int .u32 (x.key.id.toNat : Int), .int .u32 (x.key.off.toNat : Int), .int .i64 x.ref, .slice ax xn cx] 56)).heap.size := by simp
    have qx := LK.new wr (.cells #[.int .u8 (x.key.kind.toNat : Int), .int .u32 (x.key.id.toNat : Int), .int .u32 (x.key.off.toNat : Int), .int .i64 x.ref, .slice ax xn cx] 56)
    replace qn := qn.step hst
    replace hS := hS.step hst
    replace hX := hX.step hst
    replace hR := hR.step hst
    replace hB := hB.step hst
    obtain ⟨w1, hw⟩ : ∃ v, wr.alloc (.cells #[.int .u8 (x.key.kind.toNat : Int), .int .u32 (x.key.id.toNat : Int), .int .u32 (x.key.off.toNat : Int), .int .i64 x.ref, .slice ax xn cx] 56) = v := ⟨_, rfl⟩
    rw [hw] at hlt qx qn hS hX hR hB ⊢
    clear hw hst
    have sz_w1 := hlt
    clear hlt
    have HQ := Lib.hid (And.intro qn (And.intro hS (And.intro hX (And.intro hR (And.intro qx hB)))))
    clear qn hS hX hR qx hB
    have c_qn0 := LK.cell HQ.out.1 0
    have c_qn1 := LK.cell HQ.out.1 1
    have c_qx0 := LK.cell HQ.out.2.2.2.2.1 0
    have c_qx1 := LK.cell HQ.out.2.2.2.2.1 1
    have c_qx2 := LK.cell HQ.out.2.2.2.2.1 2
    have c_qx3 := LK.cell HQ.out.2.2.2.2.1 3
    have c_qx4 := LK.cell HQ.out.2.2.2.2.1 4
    simp at c_qn0 c_qn1 c_qx0 c_qx1 c_qx2 c_qx3 c_qx4
    clear f0 f1 f2 f3 f4
    have k_chk := icheck_any x (.slice ax xn cx) w1 HQ.out.2.2.1.v
    simp only [itemV, bV, wV] at k_chk
    have KC := Lib.hid k_chk
    clear k_chk
    go_wp2_with fail
    refine (KC.out).mono ?_
    rintro e w2 ⟨rfl, hst⟩
    clear c_qn0 c_qn1 c_qx0 c_qx1 c_qx2 c_qx3 c_qx4
    obtain ⟨qn, hS, hX, hR, qx, hB⟩ := HQ.out
    clear HQ
    have sz_w2 : w1.heap.size ≤ w2.heap.size := hst.size
    replace qn := qn.step hst
    replace hS := hS.step hst
    replace hX := hX.step hst
    replace hR := hR.step hst
    replace qx := qx.step hst
    replace hB := hB.step hst
    clear hst
    have HQ := Lib.hid (And.intro qn (And.intro hS (And.intro hX (And.intro hR (And.intro qx hB)))))
    clear qn hS hX hR qx hB
    have c_qn0 := LK.cell HQ.out.1 0
    have c_qn1 := LK.cell HQ.out.1 1
    have c_qx0 := LK.cell HQ.out.2.2.2.2.1 0
    have c_qx1 := LK.cell HQ.out.2.2.2.2.1 1
    have c_qx2 := LK.cell HQ.out.2.2.2.2.1 2
    have c_qx3 := LK.cell HQ.out.2.2.2.2.1 3
    have c_qx4 := LK.cell HQ.out.2.2.2.2.1 4
    simp at c_qn0 c_qn1 c_qx0 c_qx1 c_qx2 c_qx3 c_qx4
    cases hmx : mayI x
    case false =>
      have hm := HBR.out.2.2.2.1 (by rw [HBR.out.2.2.2.2.1, hmx]; rfl)
      subst hm
      have me8 : mayE false = 8 := rfl
      rw [me8]
      go_wp2
      go_ret
      exact ⟨rfl, HQ.out.2.2.2.2.2⟩
    have me0 : mayE true = 0 := rfl
    rw [me0]
    clear me0 KC
    have hstk := HBR.out.2.2.2.2.1
    rw [hmx, Bool.true_and] at hstk
    have HS2 := Lib.hid hstk
    clear hstk hmx
    go_upto_region 10 with (fail)
    rcases Nat.eq_zero_or_pos k with hk0 | hk0
    · have e0 : decide ((0 : Int) < (k : Int)) = false := by simp; omega
      have e00 : decide (0 < k) = false := by simp; omega
      have e01 : ¬ 0 < k := by omega
      have hs3 : stepN ⟨lv, its⟩ k = (decide (lv ≤ 0) || decide (x.ref ≠ 0) && xn == 0) := by
        rw [HS2.out, show (k == 0) = true by simp [hk0]]
        rfl
      have HS3 := Lib.hid hs3
      clear hs3 hk0
      cases ab
      · have hlv : decide (lv ≤ 0) = true := by
          have := HLZ.out.2
          rw [decide_eq_false_iff_not] at this
          rw [decide_eq_true_eq]
          omega
        have HLV := Lib.hid hlv
        clear hlv
        go_quiet (fail)
        have hok : stepN ⟨lv, its⟩ k = true := by rw [HS3.out]; rw [HLV.out]; rfl
        have hallk := fun j (hj : j < k + 1) => (Nat.lt_succ_iff_lt_or_eq.1 hj).elim (HBR.out.2.1 j) (fun e => e ▸ hok)
        have HAL := Lib.hid hallk
        clear hallk hok
        go_wp2
        go_roundw
        case rel => exact ⟨k + 1, by omega, by go_num, HBR.out.1.trans (Below.mono (LW.step HQ.out.2.2.2.1 (below_dr _ _)) HBR.out.1.size), HAL.out⟩
        case measure => simp [intOf]; omega
      have hlv : decide (lv ≤ 0) = false := by
        have := HLZ.out.2
        rw [decide_eq_true_eq] at this
        rw [decide_eq_false_iff_not]
        omega
      have HLV := Lib.hid hlv
      clear hlv
      by_cases hr0 : x.ref = 0
      · have r0 : (x.ref == 0) = true := by simp [hr0]
        have HR0 := Lib.hid hr0
        clear hr0
        go_quiet (fail)
        have hm := HBR.out.2.2.2.1 (by rw [HS3.out]; rw [HLV.out, HR0.out]; rfl)
        subst hm
        go_wp2
        go_ret
        exact ⟨rfl, LW.step HQ.out.2.2.2.2.2 (below_dr _ _)⟩
      have r0 : (x.ref == 0) = false := by simp [hr0]
      have hr1 : decide (x.ref ≠ 0) = true := by simp [hr0]
      have HR0 := Lib.hid hr1
      clear hr0 hr1
      by_cases hv0 : xn = 0
      · have v0 : decide ((0 : Int) < (xn : Int)) = false := by simp [hv0]
        have v00 : decide (0 < xn) = false := by simp [hv0]
        have v01 : ¬ 0 < xn := by omega
        have hv1 : (xn == 0) = true := by simp [hv0]
        have HV1 := Lib.hid hv1
        clear hv0 hv1
        go_quiet (fail)
        have hok : stepN ⟨lv, its⟩ k = true := by rw [HS3.out]; rw [HLV.out, HR0.out, HV1.out]; rfl
        have hallk := fun j (hj : j < k + 1) => (Nat.lt_succ_iff_lt_or_eq.1 hj).elim (HBR.out.2.1 j) (fun e => e ▸ hok)
        have HAL := Lib.hid hallk
        clear hallk hok
        go_wp2
        go_roundw
        case rel => exact ⟨k + 1, by omega, by go_num, HBR.out.1.trans (Below.mono (LW.step HQ.out.2.2.2.1 (below_dr _ _)) HBR.out.1.size), HAL.out⟩
        case measure => simp [intOf]; omega
      have v0 : decide ((0 : Int) < (xn : Int)) = true := by simp; omega
      have v00 : decide (0 < xn) = true := by simp; omega
      have v01 : 0 < xn := by omega
      have hv1 : (xn == 0) = false := by simp [hv0]
      have HV1 := Lib.hid hv1
      clear hv0 hv1
      go_quiet (fail)
      have hm := HBR.out.2.2.2.1 (by rw [HS3.out]; rw [HLV.out, HR0.out, HV1.out]; rfl)
      subst hm
      go_wp2
      go_ret
      exact ⟨rfl, LW.step HQ.out.2.2.2.2.2 (below_dr _ _)⟩
    obtain ⟨m, rfl⟩ : ∃ m, k = m + 1 := ⟨k - 1, by omega⟩
    have hcm := HBR.out.2.2.1 m (its.getD m nokI) (get_l _ _ _ (by omega))
    obtain ⟨y, hy⟩ : ∃ y, its.getD m nokI = y := ⟨_, rfl⟩
    rw [hy] at hcm
    obtain ⟨u0, u1, u2, -, -, -, -⟩ := hcm
    simp only [bV, wV, Nat.add_zero] at u0 u1 u2
    have hbb := cell_lt' u0
    simp only at hbb
    have y0 := fun X => (Below.cell (below_step HQ.out.2.2.2.1 (Below.size HQ.out.2.2.2.1) (aft_below w2 X)) (p := ⟨bb, bo + m * 5, none⟩) hbb).trans u0
    have y1 := fun X => (Below.cell (below_step HQ.out.2.2.2.1 (Below.size HQ.out.2.2.2.1) (aft_below w2 X)) (p := ⟨bb, bo + m * 5 + 1, none⟩) hbb).trans u1
    have y2 := fun X => (Below.cell (below_step HQ.out.2.2.2.1 (Below.size HQ.out.2.2.2.1) (aft_below w2 X)) (p := ⟨bb, bo + m * 5 + 2, none⟩) hbb).trans u2
    have k_less := fun W => less_any y.key x.key W
    simp only [keyV, bV, wV] at k_less
    have hs3 := HS2.out
    rw [show (m + 1 == 0) = false by simp, Bool.false_or, Nat.add_sub_cancel, hy] at hs3
    obtain ⟨bl, hbl⟩ : ∃ bl, lessK y.key x.key = bl := ⟨_, rfl⟩
    rw [hbl] at k_less hs3
    have HKL := Lib.hid k_less
    clear k_less hbl u0 u1 u2 hy
    clear c_qn0 c_qn1 c_qx0 c_qx1 c_qx2 c_qx3 c_qx4
    have x_qn0 := fun X => LK.cell (HQ.out.1.step (aft_below w2 X)) 0
    have x_qn1 := fun X => LK.cell (HQ.out.1.step (aft_below w2 X)) 1
    have x_qx0 := fun X => LK.cell (HQ.out.2.2.2.2.1.step (aft_below w2 X)) 0
    have x_qx1 := fun X => LK.cell (HQ.out.2.2.2.2.1.step (aft_below w2 X)) 1
    have x_qx2 := fun X => LK.cell (HQ.out.2.2.2.2.1.step (aft_below w2 X)) 2
    have x_qx3 := fun X => LK.cell (HQ.out.2.2.2.2.1.step (aft_below w2 X)) 3
    have x_qx4 := fun X => LK.cell (HQ.out.2.2.2.2.1.step (aft_below w2 X)) 4
    simp at x_qn0 x_qn1 x_qx0 x_qx1 x_qx2 x_qx3 x_qx4
    have im1 : (m : Int) < its.length := by omega
    have im2 : ¬ (its.length : Int) ≤ m := by omega
    have e0 : decide ((0 : Int) < ((m + 1 : Nat) : Int)) = true := by rw [decide_eq_true_eq]; omega
    have e1 : decide ((0 : Int) < (m : Int) + 1) = true := by rw [decide_eq_true_eq]; omega
    cases bl
    · have hs4 : stepN ⟨lv, its⟩ (m + 1) = false := hs3
      have HS3 := Lib.hid hs4
      clear hs3 hs4
      refine wp_region_held_drew (S := Cls w2) (by kernel_rfl) (Cls.drew w2) (fun hCl => ?_)
      refine wpAnyH_seg (fuel := 17) (by kernel_rfl) (fun _ d _ _ _ h => by cases d <;> exact h) hCl [0, 1, 2, 3, 4, 5, 6, 7, 8, 9, 10, 11] _ _ _ (by kernel_rfl) (by kernel_rfl) ?_
      simp only [opsOf_cons, opsOf_nil, consOp_some, List.getElem?_toArray, List.getElem?_cons_succ, List.getElem?_cons_zero]
      repeat (first | go_big_quiet_step (fail) | quiet_step (fail))
      refine wpQuiet_nil ?_
      refine wpAnyH_each (fuel := 16) [12] (by kernel_rfl) (by simp) (by kernel_rfl) ?_
      refine Each.cons _ rfl (fun K' hK => ?_) Each.nil
      go_simp
      refine (HKL.out _).mono ?_
      rintro e z1 ⟨rfl, hb⟩
      have hst := below_step hCl.below hCl.below.size hb
      clear hb
      have hCl := Cls.of hst
      refine hK.out (Cls w2) (fun _ h => h) hCl ?_
      clear hK K'
      refine wpAnyH_seg (fuel := 0) (by kernel_rfl) (fun _ d _ _ _ h => by cases d <;> exact h) hCl [13, 14, 15, 16, 17, 18, 19, 20, 21, 22, 23, 24, 25, 26, 27, 28] _ _ _ (by kernel_rfl) (by kernel_rfl) ?_
      simp only [opsOf_cons, opsOf_nil, consOp_some, List.getElem?_toArray, List.getElem?_cons_succ, List.getElem?_cons_zero]
      repeat (first | go_big_quiet_step (fail) | quiet_step (fail))
      refine wpQuiet_nil ?_
      refine wpAnyH_done (by kernel_rfl) ?_ _
      have hm := HBR.out.2.2.2.1 (by rw [HS3.out]; skip)
      subst hm
      go_wp2
      go_ret
      exact ⟨rfl, LW.step HQ.out.2.2.2.2.2 (hst)⟩
    rw [Bool.true_and] at hs3
    have HS3 := Lib.hid hs3
    clear hs3
    cases ab
    · have hlv : decide (lv ≤ 0) = true := by
        have := HLZ.out.2
        rw [decide_eq_false_iff_not] at this
        rw [decide_eq_true_eq]
        omega
      have HLV := Lib.hid hlv
      clear hlv
      refine wp_region_held_drew (S := Cls w2) (by kernel_rfl) (Cls.drew w2) (fun hCl => ?_)
      refine wpAnyH_seg (fuel := 17) (by kernel_rfl) (fun _ d _ _ _ h => by cases d <;> exact h) hCl [0, 1, 2, 3, 4, 5, 6, 7, 8, 9, 10, 11] _ _ _ (by kernel_rfl) (by kernel_rfl) ?_
      simp only [opsOf_cons, opsOf_nil, consOp_some, List.getElem?_toArray, List.getElem?_cons_succ, List.getElem?_cons_zero]
      repeat (first | go_big_quiet_step (fail) | quiet_step (fail))
      refine wpQuiet_nil ?_
      refine wpAnyH_each (fuel := 16) [12] (by kernel_rfl) (by simp) (by kernel_rfl) ?_
      refine Each.cons _ rfl (fun K' hK => ?_) Each.nil
      go_simp
      refine (HKL.out _).mono ?_
      rintro e z1 ⟨rfl, hb⟩
      have hst := below_step hCl.below hCl.below.size hb
      clear hb
      have hCl := Cls.of hst
      refine hK.out (Cls w2) (fun _ h => h) hCl ?_
      clear hK K'
      refine wpAnyH_seg (fuel := 0) (by kernel_rfl) (fun _ d _ _ _ h => by cases d <;> exact h) hCl [13, 14, 15, 16, 17, 18, 19, 20, 21, 22, 23, 24, 25, 26, 27, 28] _ _ _ (by kernel_rfl) (by kernel_rfl) ?_
      simp only [opsOf_cons, opsOf_nil, consOp_some, List.getElem?_toArray, List.getElem?_cons_succ, List.getElem?_cons_zero]
      repeat (first | go_big_quiet_step (fail) | quiet_step (fail))
      refine wpQuiet_nil ?_
      refine wpAnyH_done (by kernel_rfl) ?_ _
      have hok : stepN ⟨lv, its⟩ (m + 1) = true := by rw [HS3.out]; rw [HLV.out]; rfl
      have hallk := fun j (hj : j < (m + 1) + 1) => (Nat.lt_succ_iff_lt_or_eq.1 hj).elim (HBR.out.2.1 j) (fun e => e ▸ hok)
      have HAL := Lib.hid hallk
      clear hallk hok
      go_wp2
      go_roundw
      case rel => exact ⟨(m + 1) + 1, by omega, by go_num, HBR.out.1.trans (Below.mono (LW.step HQ.out.2.2.2.1 (hst)) HBR.out.1.size), HAL.out⟩
      case measure => simp [intOf]; omega
    have hlv : decide (lv ≤ 0) = false := by
      have := HLZ.out.2
      rw [decide_eq_true_eq] at this
      rw [decide_eq_false_iff_not]
      omega
    have HLV := Lib.hid hlv
    clear hlv
    by_cases hr0 : x.ref = 0
    · have r0 : (x.ref == 0) = true := by simp [hr0]
      have HR0 := Lib.hid hr0
      clear hr0
      refine wp_region_held_drew (S := Cls w2) (by kernel_rfl) (Cls.drew w2) (fun hCl => ?_)
      refine wpAnyH_seg (fuel := 17) (by kernel_rfl) (fun _ d _ _ _ h => by cases d <;> exact h) hCl [0, 1, 2, 3, 4, 5, 6, 7, 8, 9, 10, 11] _ _ _ (by kernel_rfl) (by kernel_rfl) ?_
      simp only [opsOf_cons, opsOf_nil, consOp_some, List.getElem?_toArray, List.getElem?_cons_succ, List.getElem?_cons_zero]
      repeat (first | go_big_quiet_step (fail) | quiet_step (fail))
      refine wpQuiet_nil ?_
      refine wpAnyH_each (fuel := 16) [12] (by kernel_rfl) (by simp) (by kernel_rfl) ?_
      refine Each.cons _ rfl (fun K' hK => ?_) Each.nil
      go_simp
      refine (HKL.out _).mono ?_
      rintro e z1 ⟨rfl, hb⟩
      have hst := below_step hCl.below hCl.below.size hb
      clear hb
      have hCl := Cls.of hst
      refine hK.out (Cls w2) (fun _ h => h) hCl ?_
      clear hK K'
      refine wpAnyH_seg (fuel := 0) (by kernel_rfl) (fun _ d _ _ _ h => by cases d <;> exact h) hCl [13, 14, 15, 16, 17, 18, 19, 20, 21, 22, 23, 24, 25, 26, 27, 28] _ _ _ (by kernel_rfl) (by kernel_rfl) ?_
      simp only [opsOf_cons, opsOf_nil, consOp_some, List.getElem?_toArray, List.getElem?_cons_succ, List.getElem?_cons_zero]
      repeat (first | go_big_quiet_step (fail) | quiet_step (fail))
      refine wpQuiet_nil ?_
      refine wpAnyH_done (by kernel_rfl) ?_ _
      have hm := HBR.out.2.2.2.1 (by rw [HS3.out]; rw [HLV.out, HR0.out]; rfl)
      subst hm
      go_wp2
      go_ret
      exact ⟨rfl, LW.step HQ.out.2.2.2.2.2 (hst)⟩
    have r0 : (x.ref == 0) = false := by simp [hr0]
    have hr1 : decide (x.ref ≠ 0) = true := by simp [hr0]
    have HR0 := Lib.hid hr1
    clear hr0 hr1
    by_cases hv0 : xn = 0
    · have v0 : decide ((0 : Int) < (xn : Int)) = false := by simp [hv0]
      have v00 : decide (0 < xn) = false := by simp [hv0]
      have v01 : ¬ 0 < xn := by omega
      have hv1 : (xn == 0) = true := by simp [hv0]
      have HV1 := Lib.hid hv1
      clear hv0 hv1
      refine wp_region_held_drew (S := Cls w2) (by kernel_rfl) (Cls.drew w2) (fun hCl => ?_)
      refine wpAnyH_seg (fuel := 17) (by kernel_rfl) (fun _ d _ _ _ h => by cases d <;> exact h) hCl [0, 1, 2, 3, 4, 5, 6, 7, 8, 9, 10, 11] _ _ _ (by kernel_rfl) (by kernel_rfl) ?_
      simp only [opsOf_cons, opsOf_nil, consOp_some, List.getElem?_toArray, List.getElem?_cons_succ, List.getElem?_cons_zero]
      repeat (first | go_big_quiet_step (fail) | quiet_step (fail))
      refine wpQuiet_nil ?_
      refine wpAnyH_each (fuel := 16) [12] (by kernel_rfl) (by simp) (by kernel_rfl) ?_
      refine Each.cons _ rfl (fun K' hK => ?_) Each.nil
      go_simp
      refine (HKL.out _).mono ?_
      rintro e z1 ⟨rfl, hb⟩
      have hst := below_step hCl.below hCl.below.size hb
      clear hb
      have hCl := Cls.of hst
      refine hK.out (Cls w2) (fun _ h => h) hCl ?_
      clear hK K'
      refine wpAnyH_seg (fuel := 0) (by kernel_rfl) (fun _ d _ _ _ h => by cases d <;> exact h) hCl [13, 14, 15, 16, 17, 18, 19, 20, 21, 22, 23, 24, 25, 26, 27, 28] _ _ _ (by kernel_rfl) (by kernel_rfl) ?_
      simp only [opsOf_cons, opsOf_nil, consOp_some, List.getElem?_toArray, List.getElem?_cons_succ, List.getElem?_cons_zero]
      repeat (first | go_big_quiet_step (fail) | quiet_step (fail))
      refine wpQuiet_nil ?_
      refine wpAnyH_done (by kernel_rfl) ?_ _
      have hok : stepN ⟨lv, its⟩ (m + 1) = true := by rw [HS3.out]; rw [HLV.out, HR0.out, HV1.out]; rfl
      have hallk := fun j (hj : j < (m + 1) + 1) => (Nat.lt_succ_iff_lt_or_eq.1 hj).elim (HBR.out.2.1 j) (fun e => e ▸ hok)
      have HAL := Lib.hid hallk
      clear hallk hok
      go_wp2
      go_roundw
      case rel => exact ⟨(m + 1) + 1, by omega, by go_num, HBR.out.1.trans (Below.mono (LW.step HQ.out.2.2.2.1 (hst)) HBR.out.1.size), HAL.out⟩
      case measure => simp [intOf]; omega
    have v0 : decide ((0 : Int) < (xn : Int)) = true := by simp; omega
    have v00 : decide (0 < xn) = true := by simp; omega
    have v01 : 0 < xn := by omega
    have hv1 : (xn == 0) = false := by simp [hv0]
    have HV1 := Lib.hid hv1
    clear hv0 hv1
    refine wp_region_held_drew (S := Cls w2) (by kernel_rfl) (Cls.drew w2) (fun hCl => ?_)
    refine wpAnyH_seg (fuel := 17) (by kernel_rfl) (fun _ d _ _ _ h => by cases d <;> exact h) hCl [0, 1, 2, 3, 4, 5, 6, 7, 8, 9, 10, 11] _ _ _ (by kernel_rfl) (by kernel_rfl) ?_
    simp only [opsOf_cons, opsOf_nil, consOp_some, List.getElem?_toArray, List.getElem?_cons_succ, List.getElem?_cons_zero]
    repeat (first | go_big_quiet_step (fail) | quiet_step (fail))
    refine wpQuiet_nil ?_
    refine wpAnyH_each (fuel := 16) [12] (by kernel_rfl) (by simp) (by kernel_rfl) ?_
    refine Each.cons _ rfl (fun K' hK => ?_) Each.nil
    go_simp
    refine (HKL.out _).mono ?_
    rintro e z1 ⟨rfl, hb⟩
    have hst := below_step hCl.below hCl.below.size hb
    clear hb
    have hCl := Cls.of hst
    refine hK.out (Cls w2) (fun _ h => h) hCl ?_
    clear hK K'
    refine wpAnyH_seg (fuel := 0) (by kernel_rfl) (fun _ d _ _ _ h => by cases d <;> exact h) hCl [13, 14, 15, 16, 17, 18, 19, 20, 21, 22, 23, 24, 25, 26, 27, 28] _ _ _ (by kernel_rfl) (by kernel_rfl) ?_
    simp only [opsOf_cons, opsOf_nil, consOp_some, List.getElem?_toArray, List.getElem?_cons_succ, List.getElem?_cons_zero]
    repeat (first | go_big_quiet_step (fail) | quiet_step (fail))
    refine wpQuiet_nil ?_
    refine wpAnyH_done (by kernel_rfl) ?_ _
    have hm := HBR.out.2.2.2.1 (by rw [HS3.out]; rw [HLV.out, HR0.out, HV1.out]; rfl)
    subst hm
    go_wp2
    go_ret
    exact ⟨rfl, LW.step HQ.out.2.2.2.2.2 (hst)⟩
  obtain rfl : k = its.length := by omega
  have hm := HYES.out l0 l6 (by omega) HLZ.out.1 hall
  subst hm
  clear hall
  go_wp2
  go_ret
  exact ⟨rfl, HQ.out.2.2⟩
end Go.Proofs.Ytcibihakjcenaaa

