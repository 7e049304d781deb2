/- DropDoes: the words and contracts, part 18. -/
import Derived.Test.YtkfgegdnpinbdaaDropDoesQ1
import Derived.Test.YtkfgegdnpinbdaaDropDoesQ2
import Derived.Test.YtkfgegdnpinbdaaDropDoesQ3
import Derived.Test.YtkfgegdnpinbdaaDropDoesQ4
import Derived.Test.YtkfgegdnpinbdaaDropDoesQ5
import Derived.Test.YtkfgegdnpinbdaaDropDoesQ6
import Derived.Test.YtkfgegdnpinbdaaDropDoesQ7
import Derived.Test.YtkfgegdnpinbdaaDropDoesQ8
import Derived.Test.YtkfgegdnpinbdaaDropDoesQ10
import Derived.Test.YtkfgegdnpinbdaaDropDoesQ11
import Derived.Test.YtkfgegdnpinbdaaDropDoesQ12
import Derived.Test.YtkfgegdnpinbdaaDropDoesQ13
import Derived.Test.YtkfgegdnpinbdaaDropDoesQ14
import Derived.Test.YtkfgegdnpinbdaaDropDoesQ16
import Derived.Test.YtkfgegdnpinbdaaDropDoesQ17
import Derived.WalkKit
import Derived.WalkLawsBesides
import Derived.WalkSpells
import Derived.Lib.Hide
import Derived.Laws.Rows
import Derived.Laws.AppendOwnNone
import Derived.Maps.AppendAt
import Derived.ProofKit
import Derived.Deep.Slices
import Derived.WideShapes
import Derived.RangeFuncNested
import Derived.RangeFuncBound
import Derived.RangeFuncCalls
import Derived.RangeFuncLeaves
import Derived.RangeFuncBox
import Derived.Shelf.Abstract
import Derived.Shelf.RegionOpen
import Derived.OwnWalkIn
import Derived.TacticsInMore
import Derived.LoopNIn
import Derived.LoopIn
import Derived.Lib.AppendZerosOnto
import Derived.Lib.SliceRun
import Derived.Lib.Walk
import Derived.Deep.LoopGhost
import Derived.Laws.CopyOwn
import Derived.Laws.CopyRow
import Derived.OrdersHeld
import Derived.Deep.QuietTactic
import Derived.BigQuiet
import Derived.StillTailTactics
import Derived.OpenShut
import Derived.Deep.DeepCutAuto
import Derived.Laws.MakeOwn
import Derived.Deep.RegionHeld
import Derived.KernelRfl
import Derived.BigFrameIn
import Derived.OrdersIn
import Derived.Sort.CutIn
namespace Go.Proofs.Ytkfgegdnpinbdaa
open Go.RowKit Go.Shelf
attribute [local go_sem] Oper.semAt_some

/-- The frame at the head of the loop. -/
def frL (g p fb fo fc g6 nb no nc ws : Nat) (f : Nat → Value) : List Value := [.pointer (some ⟨g, 0, none⟩), .int .i64 (p : Int), undef, undef, f 4, .slice (some ⟨fb, fo, none⟩) 256 fc, .pointer (some ⟨g6, 0, none⟩), f 7, f 8, f 9, undef, f 11, undef, f 13, f 14, .pointer (some ⟨g, 0, none⟩), .pointer (some ⟨g, 0, none⟩), .pointer (some ⟨g, 0, none⟩), .pointer (some ⟨g, 2, none⟩), .slice (some ⟨nb, no, none⟩) 256 nc, .slice (some ⟨fb, fo, none⟩) 256 fc, .int .i64 (p : Int), .agg #[.int .i64 (p : Int), .int .i64 (-1)], .slice (some ⟨ws, 0, none⟩) 1 1, f 24, f 25, f 26, f 27, f 28, f 29, f 30, f 31, f 32, f 33, f 34, f 35, f 36, f 37, f 38, f 39, f 40, f 41, f 42, f 43, f 44, f 45, f 46, f 47, f 48, f 49, f 50, f 51, f 52, f 53, f 54, f 55, f 56, f 57, f 58, f 59, f 60, f 61, f 62, f 63, f 64, f 65, f 66, f 67, f 68, f 69, f 70, f 71, f 72, f 73, f 74, f 75, f 76, f 77, f 78, f 79, f 80, f 81, f 82, f 83, f 84, f 85, f 86, f 87, f 88, f 89, f 90, f 91, f 92, f 93, f 94, f 95, f 96, f 97, f 98, f 99, f 100, f 101, f 102, f 103, f 104, f 105, f 106, f 107, f 108, f 109, f 110, f 111, f 112, f 113, f 114, f 115, f 116, f 117, f 118, f 119, f 120, f 121, f 122, f 123, f 124, f 125, f 126, f 127, f 128, f 129, f 130, f 131, f 132, f 133, f 134, f 135, f 136, f 137, f 138, f 139]
theorem frL_ok {g p fb fo fc g6 nb no nc ws : Nat} (t : List Value) (h : t = frL g p fb fo fc g6 nb no nc ws (fun n => t.getD n undef)) : ∃ f, t = frL g p fb fo fc g6 nb no nc ws f := ⟨_, h⟩

set_option maxRecDepth 100000 in
set_option maxHeartbeats 4000000 in
theorem bleave_any (lo g nb no nc : Nat) (b u y : Value) (s : StoreL) (p : Nat) (w : World) (h : BenAt w lo g nb no nc b u y s) (hmd : mayD s.disk = true) (hp : p < 256) :
    Calls Try.prog 69 #[.pointer (some ⟨g, 0, none⟩), .int .i64 p] w fun e w' =>
      Below lo w w' ∧ (lvS s p = none → e = .returned (.int .i64 8)) ∧ ∀ now', lvS s p = some now' → e = .returned (.int .i64 0) ∧ BenAt w' lo g nb no nc b u y ⟨s.disk, now', s.last⟩ := by
  have hbl := BL.start h
  obtain ⟨l1, l2, l3, l4⟩ := h.lo_
  have l5 := hbl.gl
  have h256 := h.len
  have hB : LU lo w w := ⟨by omega, Below.refl _ _⟩
  have x0 := blk_cell h.blk 2
  simp at x0
  have k_c := fun V v hh => clone_any v s.now V hh (by omega)
  have HC := Lib.hid k_c
  have HMD := Lib.hid hmd
  obtain ⟨R, hR⟩ : ∃ R, lvS s p = R := ⟨_, rfl⟩
  have HR0 := Lib.hid hR
  rw [hR]
  clear k_c h hmd hR
  have HQ := Lib.hid (And.intro hbl hB)
  clear hbl hB
  refine (callsIn_wide (n := 5)).1 ?_
  refine callsIn_of_wp_marks Try.func69 rfl trivial ?_ rfl
  simp only [Try.ntmps69, List.size_toArray, List.length_cons, List.length_nil, Nat.reduceAdd, Nat.reduceSub, Array.replicate_succ, Array.replicate_zero, List.push_toArray, List.append_toArray, List.nil_append, List.cons_append]
  gi_wp2_with fail
  refine ⟨trivial, ?_⟩
  gi_at_call 101
  refine (callsIn_wide.2 (HC.out w _ (BL.ben HQ.out.1).now.all0)).mono ?_
  rintro e w1 ⟨vf, rfl, hm⟩
  obtain ⟨hbl, hB⟩ := HQ.out
  clear HQ
  have B_f := LM.of hm
  have hst := hm.below
  obtain ⟨fb, fo, fc, rfl, lf, zf, zf1, zf2, -⟩ := hm.bytes.at_n h256 (by omega)
  clear hm x0
  have sz_w1 : w.heap.size ≤ w1.heap.size := hst.size
  replace hbl := hbl.step hst
  replace hB := hB.step hst
  clear hst
  have HQ := Lib.hid (And.intro hbl (And.intro B_f hB))
  clear hbl B_f hB
  gi_wp2_with fail
  have hst := ((Below.refl w1.heap.size w1).alloc (Nat.le_refl _) (.cells #[.int .i64 (p : Int), .int .i64 (-1)] 138)).alloc (by simp) (.cells #[.slice (some ⟨w1.heap.size, 0, none⟩) 1 1] 139)
  have hq := two_new w1 (.cells #[.int .i64 (p : Int), .int .i64 (-1)] 138) (.cells #[.slice (some ⟨w1.heap.size, 0, none⟩) 1 1] 139)
  have q6 := LK.of hq.2
  have hrow := (RowO.one w1 w1.heap.size (Nat.le_refl _) p (-1)).step ((Below.refl _ _).alloc (Nat.le_refl _) (.cells #[.slice (some ⟨w1.heap.size, 0, none⟩) 1 1] 139))
  have sz_w2 : w1.heap.size + 1 < ((w1.alloc (.cells #[.int .i64 (p : Int), .int .i64 (-1)] 138)).alloc (.cells #[.slice (some ⟨w1.heap.size, 0, none⟩) 1 1] 139)).heap.size := by simp
  obtain ⟨hbl, B_f, hB⟩ := HQ.out
  clear HQ
  replace hbl := hbl.step hst
  replace B_f := B_f.step hst
  replace hB := hB.step hst
  obtain ⟨w2, hw⟩ : ∃ v, (w1.alloc (.cells #[.int .i64 (p : Int), .int .i64 (-1)] 138)).alloc (.cells #[.slice (some ⟨w1.heap.size, 0, none⟩) 1 1] 139) = v := ⟨_, rfl⟩
  rw [hw] at hst sz_w2 hbl q6 hrow B_f hB ⊢
  clear hw hst hq
  obtain ⟨g6, hg6⟩ : ∃ x, w1.heap.size + 1 = x := ⟨_, rfl⟩
  rw [hg6] at sz_w2 q6 ⊢
  have HQ := Lib.hid (And.intro hbl (And.intro q6 (And.intro hrow (And.intro B_f hB))))
  clear hbl q6 hrow B_f hB
  refine wpIn_loop_ghost_k (fun gm a wr => ∃ (ds : List Deferred) (t : List Value), (∃ (now : List UInt8) (st : List (Nat × Int)) (v : Value), sumC now ≤ gm ∧ lvF s.disk s.now (sumC now + 1) now st = R ∧ st.length + 5 * sumC now ≤ 400000 ∧ (∀ x ∈ st, x.1 < 256) ∧ BL w lo g nb no nc b u y s now wr ∧ LK g6 (.cells #[v] 139) wr ∧ RowO w1.heap.size v st.reverse wr ∧ LM w.heap.size w1.heap.size (.slice (some ⟨fb, fo, none⟩) 256 fc) s.now wr ∧ MK (g6 + 1) ds wr ∧ LU lo w wr) ∧ (∃ f, t = frL g p fb fo fc g6 nb no nc w1.heap.size f) ∧ a = ({ tmps := t.toArray, defers := ds } : Act)) (sumC s.now) ?atStart ?round
  case atStart =>
    refine ⟨_, _, ?rel0, ?frm0, rfl⟩
    case frm0 => exact frL_ok _ rfl
    exact ⟨s.now, [(p, -1)], _, Nat.le_refl _, HR0.out, by have := sumC_le256 s.now; simp only [List.length_cons, List.length_nil]; omega, fun x hx => by rw [List.mem_singleton.1 hx]; exact hp, HQ.out.1, HQ.out.2.1, HQ.out.2.2.1, HQ.out.2.2.2.1, MK.nil_ _ _, HQ.out.2.2.2.2⟩
  case round =>
  rintro gk a wr ⟨ds, t, hrel, ⟨f, rfl⟩, rfl⟩
  unfold frL
  intro _ _ _ _
  obtain ⟨now, st, v, hgm, hlv, hfew, hpl, hbl, q6, hrow, B_f, hM, hB⟩ := hrel
  clear HQ HC HR0
  have hsz := hbl.size
  have hg6l := q6.lt
  have hR := hrow
  have HQ := Lib.hid (And.intro hbl (And.intro q6 (And.intro hrow (And.intro B_f (And.intro hM hB)))))
  clear hbl q6 hrow B_f hM hB
  have c_q60 := LK.cell HQ.out.2.1 0
  have z_q60 := LK.frozen HQ.out.2.1 0
  simp at c_q60
  obtain ⟨va, vc, rfl⟩ := RowO.form hR
  clear hR
  rw [List.length_reverse] at HQ c_q60
  cases st with
  | nil =>
    have HL := Lib.hid (And.intro hlv HQ.out.1)
    clear hlv
    have hr0 : R = some now := by rw [← HL.out.1]; rfl
    have HBf := Lib.hid (And.intro HQ.out.2.2.2.2.1 (And.intro HQ.out.2.2.2.2.2 hr0))
    clear hr0
    gi_wp2
    refine mk_leaves HBf.out.1 (fun w9 hw9 => ?_)
    refine ⟨.int .i64 0, by simp [results, Try.results69, go_sem], HBf.out.2.1.2.trans (hw9.mono (by omega)), (fun e => by rw [HBf.out.2.2] at e; cases e), fun now2 e => ?_⟩
    rw [HBf.out.2.2] at e
    cases e
    exact ⟨rfl, (HL.out.2.keep (fun k hk => hw9.block k (by omega)) hw9.size).ben⟩
  | cons x st =>
    obtain ⟨xa, xl⟩ := x
    have hxa : xa < 256 := hpl (xa, xl) (List.mem_cons_self ..)
    have hpl2 : ∀ x ∈ st, x.1 < 256 := fun z hz => hpl z (List.mem_cons_of_mem _ hz)
    clear hpl
    rw [List.reverse_cons] at HQ
    obtain ⟨gr, rc, e1, r1, r2, r3, d0, d1, hrow2⟩ := RowO.last HQ.out.2.2.1
    injection e1 with ea el ec
    subst ea ec
    rw [List.length_cons] at HQ c_q60 hfew
    rw [List.length_reverse] at r1 d0 d1 hrow2
    unfold maxLen at r2 zf2
    clear el
    obtain ⟨n, hn⟩ : ∃ n, st.length = n := ⟨_, rfl⟩
    rw [hn] at HQ c_q60 hfew r1 d0 d1 hrow2
    have hgr6 : gr ≠ g6 := RowO.ne HQ.out.2.2.1 (LK.blk HQ.out.2.1) gr rfl
    have hgrl := (RowO.lt HQ.out.2.2.1 gr rfl).1
    obtain ⟨hbl, q6, hrow, B_f, hM, hB⟩ := HQ.out
    clear HQ
    clear hrow
    have hrow := hrow2
    clear hrow2
    have HQ := Lib.hid (And.intro hbl (And.intro q6 (And.intro hrow (And.intro B_f (And.intro hM hB)))))
    clear hbl q6 hrow B_f hM hB
    simp only at d0 d1
    have i1 : ((n + 1 : Nat) : Int) = (n : Int) + 1 := by omega
    have i2 : ¬ (vc : Int) < n := by omega
    have c_g := blk_cell (BL.blk HQ.out.1) 2
    simp at c_g
    have e1 := BL.cell HQ.out.1 xa hxa
    simp only [bV] at e1
    obtain ⟨c, hc⟩ : ∃ c, now.getD xa 0 = c := ⟨_, rfl⟩
    rw [hc] at e1
    have HX := Lib.hid (And.intro hlv (And.intro hpl2 (And.intro hn hc)))
    clear hlv hpl2 hn hc
    have HFW := Lib.hid hfew
    clear hfew
    have s1 := fun W => run_preO (some ⟨gr, 0, none⟩) (n + 1) vc n (by omega) W
    gi_wp2_with fail
    clear d0 d1 e1 c_g s1
    have hrow3 : RowO w1.heap.size (.slice (some ⟨gr, 0, none⟩) n vc) st.reverse (wr.setCell ⟨g6, 0, none⟩ (.slice (some ⟨gr, 0, none⟩) n vc)) := RowO.of HQ.out.2.2.1 fun x hx => (by cases hx; exact set_other wr g6 0 _ gr hgr6)
    obtain ⟨hbl, q6, hrow, B_f, hM, hB⟩ := HQ.out
    clear HQ
    clear hrow
    have HQ := Lib.hid (And.intro hbl (And.intro q6 (And.intro B_f (And.intro hM hB))))
    clear hbl q6 B_f hM hB
    clear z_q60 c_q60
    obtain ⟨hbl, q6, B_f, hM, hB⟩ := HQ.out
    clear HQ
    have hcb := LK.blk q6
    have hF : LK (g6) (.cells #[.slice (some ⟨gr, 0, none⟩) n vc] 139) (wr.setCell ⟨g6, 0, none⟩ (.slice (some ⟨gr, 0, none⟩) n vc)) := LK.of (set_block hcb 0 _)
    have hbel : Below (g6) wr (wr.setCell ⟨g6, 0, none⟩ (.slice (some ⟨gr, 0, none⟩) n vc)) := (Below.refl _ wr).setCell (p := ⟨g6, 0, none⟩) (Nat.le_refl _) _
    have hfr : ∀ x, x < wr.heap.size → (x < g6 ∨ g6 + 1 ≤ x) → (wr.setCell ⟨g6, 0, none⟩ (.slice (some ⟨gr, 0, none⟩) n vc)).heap[x]? = wr.heap[x]? := fun x _ h => (set_other _ _ _ _ _ (by omega))
    have hs4 : (wr.setCell ⟨g6, 0, none⟩ (.slice (some ⟨gr, 0, none⟩) n vc)).heap.size = wr.heap.size := by simp only [World.size_setCell]
    replace hbl := hbl.out (Nat.le_of_eq hs4.symm) hfr (by omega)
    replace B_f := B_f.out (Nat.le_of_eq hs4.symm) hfr (by omega)
    replace hM := hM.out (Nat.le_of_eq hs4.symm) hfr (by omega)
    replace hB := hB.outB hbel (by omega)
    replace q6 := hF
    obtain ⟨w3, hw⟩ : ∃ v, (wr.setCell ⟨g6, 0, none⟩ (.slice (some ⟨gr, 0, none⟩) n vc)) = v := ⟨_, rfl⟩
    rw [hw] at hs4 hbl q6 B_f hM hB hrow3 ⊢
    have sz_w3 := Nat.le_of_eq hs4
    have sy_w3 := Nat.le_of_eq hs4.symm
    clear hw hF hbel hfr hcb hs4
    have HQ := Lib.hid (And.intro hbl (And.intro q6 (And.intro B_f (And.intro hM hB))))
    clear hbl q6 B_f hM hB
    have hz : w3.heap.size = wr.heap.size := by omega
    obtain ⟨hbl, q6, B_f, hM, hB⟩ := HQ.out
    clear HQ
    have hrow := hrow3
    clear hrow3
    have hst := (Below.refl w3.heap.size w3).alloc (Nat.le_refl _) (.cells #[.int .i64 (xa : Int), .int .i64 xl] 138)
    have q7 := LK.new w3 (.cells #[.int .i64 (xa : Int), .int .i64 xl] 138)
    have sz_a : w3.heap.size < (w3.alloc (.cells #[.int .i64 (xa : Int), .int .i64 xl] 138)).heap.size := by simp
    replace hbl := hbl.step hst
    replace q6 := q6.step hst
    replace hrow := hrow.step hst
    replace B_f := B_f.step hst
    replace hM := hM.step hst
    replace hB := hB.step hst
    obtain ⟨w4, hw⟩ : ∃ v, w3.alloc (.cells #[.int .i64 (xa : Int), .int .i64 xl] 138) = v := ⟨_, rfl⟩
    rw [hw] at hst hbl q6 hrow B_f hM hB q7 sz_a ⊢
    rw [hz] at q7 sz_a
    obtain ⟨g7, hg7⟩ : ∃ x, wr.heap.size = x := ⟨_, rfl⟩
    rw [hg7] at sz_a q7 hsz hg6l r3 ⊢
    clear hw hst
    have HQ := Lib.hid (And.intro hbl (And.intro q6 (And.intro hrow (And.intro q7 (And.intro B_f (And.intro hM hB))))))
    clear hbl q6 hrow q7 B_f hM hB
    have c_q60 := LK.cell HQ.out.2.1 0
    have c_q70 := LK.cell HQ.out.2.2.2.1 0
    have c_q71 := LK.cell HQ.out.2.2.2.1 1
    simp at c_q60 c_q70 c_q71
    have i3 : ¬ (256 : Int) ≤ xa := by omega
    have hlv := HX.out.1
    rw [lvF, HX.out.2.2.2] at hlv
    dsimp only at hlv
    have c_g := blk_cell (BL.blk HQ.out.1) 2
    simp at c_g
    have e1 := BL.cell HQ.out.1 xa hxa
    rw [HX.out.2.2.2] at e1
    simp only [bV] at e1
    refine wpIn_wide.2 ?_
    go_quiet (fail)
    clear c_q60 c_q70 c_q71 c_g e1
    obtain ⟨hbl, q6, hrow, q7, B_f, hM, hB⟩ := HQ.out
    clear HQ
    have hst := below_dn w4.heap.size w4 nq
    obtain ⟨w5, hw⟩ : ∃ v, w4.drewN nq = v := ⟨_, rfl⟩
    rw [hw] at hst ⊢
    clear hw
    have sz_w5 : w4.heap.size ≤ w5.heap.size := hst.size
    replace hbl := hbl.step hst
    replace q6 := q6.step hst
    replace hrow := hrow.step hst
    replace q7 := q7.step hst
    replace B_f := B_f.step hst
    replace hM := hM.step hst
    replace hB := hB.step hst
    clear hst
    have HQ := Lib.hid (And.intro hbl (And.intro q6 (And.intro hrow (And.intro q7 (And.intro B_f (And.intro hM hB))))))
    clear hbl q6 hrow q7 B_f hM hB
    have c_q60 := LK.cell HQ.out.2.1 0
    have c_q70 := LK.cell HQ.out.2.2.2.1 0
    have c_q71 := LK.cell HQ.out.2.2.2.1 1
    simp at c_q60 c_q70 c_q71
    have c_g := blk_cell (BL.blk HQ.out.1) 2
    simp at c_g
    have e1 := BL.cell HQ.out.1 xa hxa
    rw [HX.out.2.2.2] at e1
    simp only [bV] at e1
    by_cases hc0 : c = 0
    · subst hc0
      have e0 : ((0 : UInt8).toNat : Int) = 0 := rfl
      rw [e0] at e1
      rw [if_pos rfl] at hlv
      rw [e0]
      clear e0
      have hr := hlv.symm
      have HBf := Lib.hid (And.intro hr (And.intro HQ.out.2.2.2.2.2.1 HQ.out.2.2.2.2.2.2))
      clear hr
      gi_wp2
      refine mk_leaves HBf.out.2.1 (fun w9 hw9 => ?_)
      refine ⟨.int .i64 8, by simp [results, Try.results69, go_sem], HBf.out.2.2.2.trans (hw9.mono (by omega)), (by intros; rfl), fun now2 e => ?_⟩
      rw [HBf.out.1] at e
      cases e
    rw [if_neg hc0] at hlv
    have i4 := u8_nz hc0
    have HLV := Lib.hid hlv
    clear hlv
    gi_wp2_with fail
    refine wpIn_wide.2 ?_
    go_quiet (fail)
    clear c_q60 c_q70 c_q71 c_g e1
    obtain ⟨hbl, q6, hrow, q7, B_f, hM, hB⟩ := HQ.out
    clear HQ
    have hst := below_dn w5.heap.size w5 nq
    obtain ⟨w6, hw⟩ : ∃ v, w5.drewN nq = v := ⟨_, rfl⟩
    rw [hw] at hst ⊢
    clear hw
    have sz_w6 : w5.heap.size ≤ w6.heap.size := hst.size
    replace hbl := hbl.step hst
    replace q6 := q6.step hst
    replace hrow := hrow.step hst
    replace q7 := q7.step hst
    replace B_f := B_f.step hst
    replace hM := hM.step hst
    replace hB := hB.step hst
    clear hst
    have HQ := Lib.hid (And.intro hbl (And.intro q6 (And.intro hrow (And.intro q7 (And.intro B_f (And.intro hM hB))))))
    clear hbl q6 hrow q7 B_f hM hB
    have c_q60 := LK.cell HQ.out.2.1 0
    have c_q70 := LK.cell HQ.out.2.2.2.1 0
    have c_q71 := LK.cell HQ.out.2.2.2.1 1
    simp at c_q60 c_q70 c_q71
    have c_g := blk_cell (BL.blk HQ.out.1) 2
    simp at c_g
    have e1 := BL.cell HQ.out.1 xa hxa
    rw [HX.out.2.2.2] at e1
    simp only [bV] at e1
    by_cases hc1 : 1 < c.toNat
    · skip
      have i5 : (1 : Int) < c.toNat := by omega
      rw [decide_eq_true i5]
      have hlv := HLV.out
      rw [if_pos hc1] at hlv
      have hdn := sumC_dn (l := now) (i := xa) (by rw [HX.out.2.2.2]; exact hc0)
      have e6 := u8_down hc0
      rw [HX.out.2.2.2] at hdn
      have HL2 := Lib.hid (And.intro hlv (And.intro hdn e6))
      clear hlv hdn e6
      gi_wp2_with fail
      refine wpIn_wide.2 ?_
      have dg : g < w6.heap.size := Nat.lt_of_lt_of_le (BL.gl HQ.out.1) (BL.size HQ.out.1)
      have dn : nb < w6.heap.size := Nat.lt_of_lt_of_le (BL.nbl HQ.out.1) (BL.size HQ.out.1)
      have d7 : g7 < w6.heap.size := LK.lt HQ.out.2.2.2.1
      have x1 := fun X => ((aft_below w6 X).cell (p := ⟨g, 2, none⟩) (by show g < w6.heap.size; exact dg)).trans c_g
      have x2 := fun X => ((aft_below w6 X).cell (p := ⟨g7, 0, none⟩) (by show g7 < w6.heap.size; exact d7)).trans c_q70
      have x3 := fun X => ((aft_below w6 X).cell (p := ⟨nb, no + xa, none⟩) (by show nb < w6.heap.size; exact dn)).trans e1
      have hset := BL.set HQ.out.1 xa (c + 255) hxa
      have hzz := BL.thaw HQ.out.1 xa hxa
      have HS := Lib.hid hset
      clear hset
      go_cut [] from 58 to 68 (fun wx => BL w lo g nb no nc b u y s (now.set xa (c + 255)) wx ∧ w6.heap.size ≤ wx.heap.size ∧ (∀ x, x < w6.heap.size → (x < nb ∨ nb + 1 ≤ x) → wx.heap[x]? = w6.heap[x]?) ∧ Below nb w6 wx)
      case first =>
        refine wp_noPanic ?_
        have hp0 := (Below.refl w6.heap.size w6).drew
        refine wp_region_L (S := Cls w6) 11 (by kernel_rfl) (Cls.of hp0) (fun hCl => ?_)
        refine wpAnyL_seg (fuel := 9) (by kernel_rfl) (fun _ d _ _ _ h => by cases d <;> exact h) hCl [0, 5, 6] _ _ _ (by kernel_rfl) (by kernel_rfl) (by kernel_rfl) (by kernel_rfl) ?_
        simp only [opsOf_cons, opsOf_nil, consOp_some, List.getElem?_toArray, List.getElem?_cons_succ, List.getElem?_cons_zero]
        repeat (first | go_big_quiet_step (fail) | quiet_step (fail))
        refine wpQuiet_nil ?_
        refine wpAnyL_each (fuel := 8) [1] (by kernel_rfl) (by simp) (by kernel_rfl) ?_
        refine EachL.cons _ rfl (fun K' hK => ?_) EachL.nil
        go_simp
        have hst := (Below.refl w6.heap.size w6).drew
        have hCl : Cls w6 _ := Cls.of hst
        refine hK.out (.inr hCl) ?_
        clear hK K'
        refine wpAnyL_seg (fuel := 1) (by kernel_rfl) (fun _ d _ _ _ h => by cases d <;> exact h) hCl [2, 3, 4, 7, 8, 9, 10] _ _ _ (by kernel_rfl) (by kernel_rfl) (by kernel_rfl) (by kernel_rfl) ?_
        simp only [opsOf_cons, opsOf_nil, consOp_some, List.getElem?_toArray, List.getElem?_cons_succ, List.getElem?_cons_zero]
        repeat (first | go_big_quiet_step (fail) | quiet_step (fail))
        refine wpQuiet_nil ?_
        refine wpAnyL_each (fuel := 0) [11] (by kernel_rfl) (by simp) (by kernel_rfl) ?_
        refine EachL.cons _ rfl (fun K' hK => ?_) EachL.nil
        have zz : w6.drew.frozen? ⟨nb, no + xa, none⟩ = false := hzz
        have z3 : w6.drew.cell? ⟨nb, no + xa, none⟩ = some (.int .u8 (c.toNat : Int)) := e1
        go_simp
        refine hK.out (.inl rfl) ?_
        clear hK K'
        refine wpAnyL_done (by kernel_rfl) ?_ _
        refine noPanic_normal ?_
        go_wp2
        go_meet
        have hv : (.int .u8 (((c.toNat : Int) - 1) % 256) : Value) = bV (c + 255) := by
          have := c.toNat_lt
          unfold bV
          rw [HL2.out.2.2]
          congr 1
          omega
        have hS := HS.out
        rw [← hv] at hS
        exact ⟨hS.keep (fun _ _ => rfl) (Nat.le_refl _), Nat.le_of_eq (World.size_setCell w6 _ _).symm, fun x _ hd => set_other w6 _ _ _ x (by omega), ((Below.refl nb w6).setCell (p := ⟨nb, no + xa, none⟩) (Nat.le_refl _) _).drew⟩
      case rest =>
        rename World => w7
        obtain ⟨hbl2, hsz2, hfr2, hbe2⟩ := hcut
        clear c_q60 c_q70 c_q71 c_g e1
        obtain ⟨hbl, q6, hrow, q7, B_f, hM, hB⟩ := HQ.out
        clear HQ
        replace hbl := hbl2
        replace q6 := q6.out hsz2 hfr2 (by omega)
        replace hrow := hrow.out hsz2 hfr2 (by omega)
        replace q7 := q7.out hsz2 hfr2 (by omega)
        replace B_f := B_f.out hsz2 hfr2 (by omega)
        replace hM := hM.out hsz2 hfr2 (by omega)
        replace hB := hB.outB hbe2 (by omega)
        have sz_w7 : w6.heap.size ≤ w7.heap.size := hsz2
        clear hbl2 hsz2 hfr2 hbe2 HS hzz x1 x2 x3 dg dn d7
        have HQ := Lib.hid (And.intro hbl (And.intro q6 (And.intro hrow (And.intro q7 (And.intro B_f (And.intro hM hB))))))
        clear hbl q6 hrow q7 B_f hM hB
        have c_q60 := LK.cell HQ.out.2.1 0
        have c_q70 := LK.cell HQ.out.2.2.2.1 0
        have c_q71 := LK.cell HQ.out.2.2.2.1 1
        simp at c_q60 c_q70 c_q71
        gi_wp2
        refine Handed.intro (sumC (now.set xa (c + 255))) ?measure1 ?_
        rotate_left
        first | gi_step | go_step
        refine ⟨_, _, ?rel1, ?frm1, rfl⟩
        case frm1 => exact frL_ok _ rfl
        case rel1 => exact ⟨now.set xa (c + 255), st, _, Nat.le_refl _, by rw [HL2.out.2.1]; exact HL2.out.1, by have := HFW.out; have := HX.out.2.2.1; have := HL2.out.2.1; omega, HX.out.2.1, HQ.out.1, HQ.out.2.1, HQ.out.2.2.1, HQ.out.2.2.2.2.1, HQ.out.2.2.2.2.2.1, HQ.out.2.2.2.2.2.2⟩
        case measure1 => have := HL2.out.2.1; omega
    have i5 : ¬ (1 : Int) < c.toNat := by omega
    rw [decide_eq_false i5]
    have hlv := HLV.out
    rw [if_neg hc1] at hlv
    have hc2 : c.toNat = 1 := by have : c.toNat ≠ 0 := fun e => hc0 (u8_inj e); omega
    have hdn := sumC_nought (l := now) (i := xa) (by rw [HX.out.2.2.2]; exact hc0)
    have k_n := fun V hh => bnode_any lo g nb no nc b u y ⟨s.disk, now, s.last⟩ xa V hh HMD.out hxa
    have hb1 : errBn ⟨s.disk, now, s.last⟩ xa = if errNd (seenD s.disk xa) = 0 then 0 else 8 := by unfold errBn; rw [if_neg (by show ¬ now.getD xa 0 = 0; rw [HX.out.2.2.2]; exact hc0)]
    have hb2 : nodeB ⟨s.disk, now, s.last⟩ xa = if errBn ⟨s.disk, now, s.last⟩ xa = 0 then readNd (seenD s.disk xa) else ⟨0, []⟩ := rfl
    have hmn : errNd (seenD s.disk xa) = 0 → mayN (readNd (seenD s.disk xa)) = true := fun h => (back2 h).1
    obtain ⟨E, hE⟩ : ∃ E, errNd (seenD s.disk (xa : Int)) = E := ⟨_, rfl⟩
    obtain ⟨ND, hND⟩ : ∃ E, readNd (seenD s.disk (xa : Int)) = E := ⟨_, rfl⟩
    obtain ⟨er, her⟩ : ∃ E, errBn ⟨s.disk, now, s.last⟩ xa = E := ⟨_, rfl⟩
    obtain ⟨nd, hnd⟩ : ∃ E, nodeB ⟨s.disk, now, s.last⟩ xa = E := ⟨_, rfl⟩
    rw [her] at hb1 hb2
    rw [hnd] at hb2
    simp only [her, hnd] at k_n
    rw [hE] at hlv hb1 hmn
    rw [hND] at hlv hb2 hmn
    have HN := Lib.hid (And.intro hlv (And.intro hb1 (And.intro hb2 (And.intro hmn (And.intro hdn hc2)))))
    have HK := Lib.hid k_n
    clear hlv hb1 hb2 hmn hdn k_n hE hND her hnd HLV hc1 hc2
    gi_wp2_with fail
    refine ⟨trivial, ?_⟩
    gi_at_call 102
    refine (callsIn_wide.2 (HK.out _ (BL.ben HQ.out.1))).mono ?_
    rintro e w7 ⟨vn, rfl, hm, hst⟩
    clear c_q60 c_q70 c_q71 c_g e1
    obtain ⟨hbl, q6, hrow, q7, B_f, hM, hB⟩ := HQ.out
    clear HQ
    have hI := LS.of hm (Nat.le_refl _)
    obtain ⟨an, cn, rfl, m1, m2, -, -⟩ := hm
    unfold maxLen at m2
    have sz_w7 : w6.heap.size ≤ w7.heap.size := hst.size
    replace hbl := hbl.step hst
    replace q6 := q6.step hst
    replace hrow := hrow.step hst
    replace q7 := q7.step hst
    replace B_f := B_f.step hst
    replace hM := hM.step hst
    replace hB := hB.step hst
    clear hst
    have HQ := Lib.hid (And.intro hbl (And.intro q6 (And.intro hrow (And.intro q7 (And.intro B_f (And.intro hM (And.intro hI hB)))))))
    clear hbl q6 hrow q7 B_f hM hI hB
    have c_q60 := LK.cell HQ.out.2.1 0
    have c_q70 := LK.cell HQ.out.2.2.2.1 0
    have c_q71 := LK.cell HQ.out.2.2.2.1 1
    simp at c_q60 c_q70 c_q71
    gi_wp2_with fail
    clear c_q60 c_q70 c_q71
    obtain ⟨hbl, q6, hrow, q7, B_f, hM, hI, hB⟩ := HQ.out
    clear HQ
    have hst := (Below.refl w7.heap.size w7).alloc (Nat.le_refl _) (.cells #[.int .i64 nd.level, .slice an nd.items.length cn] 47)
    have hlt : w7.heap.size < (w7.alloc (.cells #[.int .i64 nd.level, .slice an nd.items.length cn] 47)).heap.size := by simp
    have q8 := LK.new w7 (.cells #[.int .i64 nd.level, .slice an nd.items.length cn] 47)
    replace hbl := hbl.step hst
    replace q6 := q6.step hst
    replace hrow := hrow.step hst
    replace q7 := q7.step hst
    replace B_f := B_f.step hst
    replace hM := hM.step hst
    replace hI := hI.step hst
    replace hB := hB.step hst
    obtain ⟨w8, hw⟩ : ∃ v, w7.alloc (.cells #[.int .i64 nd.level, .slice an nd.items.length cn] 47) = v := ⟨_, rfl⟩
    rw [hw] at hlt q8 hbl q6 hrow q7 B_f hM hI hB ⊢
    clear hw hst
    have sz_w8 := hlt
    clear hlt
    have HQ := Lib.hid (And.intro hbl (And.intro q6 (And.intro hrow (And.intro q7 (And.intro B_f (And.intro hM (And.intro hI (And.intro q8 hB))))))))
    clear hbl q6 hrow q7 B_f hM hI q8 hB
    have c_q60 := LK.cell HQ.out.2.1 0
    have c_q70 := LK.cell HQ.out.2.2.2.1 0
    have c_q71 := LK.cell HQ.out.2.2.2.1 1
    have c_q80 := LK.cell HQ.out.2.2.2.2.2.2.2.1 0
    have c_q81 := LK.cell HQ.out.2.2.2.2.2.2.2.1 1
    simp at c_q60 c_q70 c_q71 c_q80 c_q81
    have c_g := blk_cell (BL.blk HQ.out.1) 2
    simp at c_g
    have e1 := BL.cell HQ.out.1 xa hxa
    rw [HX.out.2.2.2] at e1
    simp only [bV] at e1
    gi_wp2_with fail
    refine wpIn_wide.2 ?_
    have dg : g < w8.heap.size := Nat.lt_of_lt_of_le (BL.gl HQ.out.1) (BL.size HQ.out.1)
    have dn : nb < w8.heap.size := Nat.lt_of_lt_of_le (BL.nbl HQ.out.1) (BL.size HQ.out.1)
    have d7 : g7 < w8.heap.size := LK.lt HQ.out.2.2.2.1
    have x1 := fun X => ((aft_below w8 X).cell (p := ⟨g, 2, none⟩) (by show g < w8.heap.size; exact dg)).trans c_g
    have x2 := fun X => ((aft_below w8 X).cell (p := ⟨g7, 0, none⟩) (by show g7 < w8.heap.size; exact d7)).trans c_q70
    have x3 := fun X => ((aft_below w8 X).cell (p := ⟨nb, no + xa, none⟩) (by show nb < w8.heap.size; exact dn)).trans e1
    have hset := BL.set HQ.out.1 xa (0) hxa
    have hzz := BL.thaw HQ.out.1 xa hxa
    have HS := Lib.hid hset
    clear hset
    go_cut [] from 76 to 83 (fun wx => BL w lo g nb no nc b u y s (now.set xa (0)) wx ∧ w8.heap.size ≤ wx.heap.size ∧ (∀ x, x < w8.heap.size → (x < nb ∨ nb + 1 ≤ x) → wx.heap[x]? = w8.heap[x]?) ∧ Below nb w8 wx)
    case first =>
      refine wp_noPanic ?_
      have hp0 := (Below.refl w8.heap.size w8).drew
      refine wp_region_L (S := Cls w8) 8 (by kernel_rfl) (Cls.of hp0) (fun hCl => ?_)
      refine wpAnyL_seg (fuel := 6) (by kernel_rfl) (fun _ d _ _ _ h => by cases d <;> exact h) hCl [0, 5, 6] _ _ _ (by kernel_rfl) (by kernel_rfl) (by kernel_rfl) (by kernel_rfl) ?_
      simp only [opsOf_cons, opsOf_nil, consOp_some, List.getElem?_toArray, List.getElem?_cons_succ, List.getElem?_cons_zero]
      repeat (first | go_big_quiet_step (fail) | quiet_step (fail))
      refine wpQuiet_nil ?_
      refine wpAnyL_each (fuel := 5) [1] (by kernel_rfl) (by simp) (by kernel_rfl) ?_
      refine EachL.cons _ rfl (fun K' hK => ?_) EachL.nil
      go_simp
      have hst := (Below.refl w8.heap.size w8).drew
      have hCl : Cls w8 _ := Cls.of hst
      refine hK.out (.inr hCl) ?_
      clear hK K'
      refine wpAnyL_seg (fuel := 1) (by kernel_rfl) (fun _ d _ _ _ h => by cases d <;> exact h) hCl [2, 3, 4, 7] _ _ _ (by kernel_rfl) (by kernel_rfl) (by kernel_rfl) (by kernel_rfl) ?_
      simp only [opsOf_cons, opsOf_nil, consOp_some, List.getElem?_toArray, List.getElem?_cons_succ, List.getElem?_cons_zero]
      repeat (first | go_big_quiet_step (fail) | quiet_step (fail))
      refine wpQuiet_nil ?_
      refine wpAnyL_each (fuel := 0) [8] (by kernel_rfl) (by simp) (by kernel_rfl) ?_
      refine EachL.cons _ rfl (fun K' hK => ?_) EachL.nil
      have zz : w8.drew.frozen? ⟨nb, no + xa, none⟩ = false := hzz
      have z3 : w8.drew.cell? ⟨nb, no + xa, none⟩ = some (.int .u8 (c.toNat : Int)) := e1
      go_simp
      refine hK.out (.inl rfl) ?_
      clear hK K'
      refine wpAnyL_done (by kernel_rfl) ?_ _
      refine noPanic_normal ?_
      go_wp2
      go_meet
      have hv : (.int .u8 0 : Value) = bV (0) := by
        rfl
      have hS := HS.out
      rw [← hv] at hS
      exact ⟨hS.keep (fun _ _ => rfl) (Nat.le_refl _), Nat.le_of_eq (World.size_setCell w8 _ _).symm, fun x _ hd => set_other w8 _ _ _ x (by omega), ((Below.refl nb w8).setCell (p := ⟨nb, no + xa, none⟩) (Nat.le_refl _) _).drew⟩
    case rest =>
      rename World => w9
      obtain ⟨hbl2, hsz2, hfr2, hbe2⟩ := hcut
      clear c_q60 c_q70 c_q71 c_q80 c_q81 c_g e1
      obtain ⟨hbl, q6, hrow, q7, B_f, hM, hI, q8, hB⟩ := HQ.out
      clear HQ
      replace hbl := hbl2
      replace q6 := q6.out hsz2 hfr2 (by omega)
      replace hrow := hrow.out hsz2 hfr2 (by omega)
      replace q7 := q7.out hsz2 hfr2 (by omega)
      replace B_f := B_f.out hsz2 hfr2 (by omega)
      replace hM := hM.out hsz2 hfr2 (by omega)
      replace hI := hI.out hsz2 hfr2 (by omega)
      replace q8 := q8.out hsz2 hfr2 (by omega)
      replace hB := hB.outB hbe2 (by omega)
      have sz_w9 : w8.heap.size ≤ w9.heap.size := hsz2
      clear hbl2 hsz2 hfr2 hbe2 HS hzz x1 x2 x3 dg dn d7
      have HQ := Lib.hid (And.intro hbl (And.intro q6 (And.intro hrow (And.intro q7 (And.intro B_f (And.intro hM (And.intro hI (And.intro q8 hB))))))))
      clear hbl q6 hrow q7 B_f hM hI q8 hB
      have c_q60 := LK.cell HQ.out.2.1 0
      have c_q70 := LK.cell HQ.out.2.2.2.1 0
      have c_q71 := LK.cell HQ.out.2.2.2.1 1
      have c_q80 := LK.cell HQ.out.2.2.2.2.2.2.2.1 0
      have c_q81 := LK.cell HQ.out.2.2.2.2.2.2.2.1 1
      simp at c_q60 c_q70 c_q71 c_q80 c_q81
      have f0 := (Lv.get HQ.out.2.2.2.2.1).1.cellAt xa (s.now.getD xa 0) (get_l _ _ _ (by omega))
      obtain ⟨fv, hfv⟩ : ∃ f, s.now.getD xa 0 = f := ⟨_, rfl⟩
      rw [hfv] at f0
      simp only [bV] at f0
      have hlv := HN.out.1
      rw [hfv] at hlv
      have hb1 := HN.out.2.1
      have hb2 := HN.out.2.2.1
      clear hfv
      by_cases hE0 : E = 0
      case neg =>
        rw [if_neg hE0] at hb1
        rw [if_pos (.inl hE0)] at hlv
        subst hb1
        clear hb2
        have hr := hlv.symm
        clear hlv
        have HBf := Lib.hid (And.intro hr (And.intro HQ.out.2.2.2.2.2.1 HQ.out.2.2.2.2.2.2.2.2))
        clear hr
        gi_wp2
        refine mk_leaves HBf.out.2.1 (fun w9 hw9 => ?_)
        refine ⟨.int .i64 8, by simp [results, Try.results69, go_sem], HBf.out.2.2.2.trans (hw9.mono (by omega)), (by intros; rfl), fun now2 e => ?_⟩
        rw [HBf.out.1] at e
        cases e
      subst hE0
      rw [if_pos rfl] at hb1
      subst hb1
      rw [if_pos rfl] at hb2
      subst hb2
      have hmn := HN.out.2.2.2.1 rfl
      by_cases hf0 : fv = 0
      case pos =>
        rw [if_pos (.inr (.inl hf0))] at hlv
        subst hf0
        have e0 : ((0 : UInt8).toNat : Int) = 0 := rfl
        rw [e0] at f0
        clear e0
        have hr := hlv.symm
        clear hlv hmn
        have HBf := Lib.hid (And.intro hr (And.intro HQ.out.2.2.2.2.2.1 HQ.out.2.2.2.2.2.2.2.2))
        clear hr
        gi_wp2
        refine mk_leaves HBf.out.2.1 (fun w9 hw9 => ?_)
        refine ⟨.int .i64 8, by simp [results, Try.results69, go_sem], HBf.out.2.2.2.trans (hw9.mono (by omega)), (by intros; rfl), fun now2 e => ?_⟩
        rw [HBf.out.1] at e
        cases e
      have i6 := u8_nz hf0
      by_cases hx0 : 0 ≤ xl ∧ nd.level ≠ xl
      case pos =>
        rw [if_pos (.inr (.inr hx0))] at hlv
        have i7 : (0 : Int) ≤ xl := hx0.1
        have i8 : (nd.level != xl) = true := by simp; exact hx0.2
        have i9 : ¬ nd.level = xl := hx0.2
        have hr := hlv.symm
        clear hlv hmn
        have HBf := Lib.hid (And.intro hr (And.intro HQ.out.2.2.2.2.2.1 HQ.out.2.2.2.2.2.2.2.2))
        clear hr
        gi_wp2
        refine mk_leaves HBf.out.2.1 (fun w9 hw9 => ?_)
        refine ⟨.int .i64 8, by simp [results, Try.results69, go_sem], HBf.out.2.2.2.trans (hw9.mono (by omega)), (by intros; rfl), fun now2 e => ?_⟩
        rw [HBf.out.1] at e
        cases e
      rw [if_neg (by rintro (h | h | h); exact h rfl; exact hf0 h; exact hx0 h)] at hlv
      have HL3 := Lib.hid (And.intro hlv hmn)
      have HL3 := Lib.hid (And.intro hlv hmn)
      clear hlv hmn
      have hor : xl < 0 ∨ (0 ≤ xl ∧ nd.level = xl) := by by_cases h : 0 ≤ xl; exact .inr ⟨h, by by_cases h2 : nd.level = xl; exact h2; exact absurd ⟨h, h2⟩ hx0⟩; exact .inl (by omega)
      clear hx0
      gi_upto_region 12 with (fail)
      gi_cut [105] from 84 (fun t wx => t = .bool false ∧ wx = w9)
      case first =>
        have j0 : ((fv.toNat : Int) == 0) = false := by simp only [beq_eq_false_iff_ne]; exact i6
        rcases hor with h | ⟨h1, h2⟩
        · have j1 : ¬ (0 : Int) ≤ xl := by omega
          gi_wp2
          gi_meet
          exact ⟨rfl, rfl⟩
        · have j2 : (nd.level != xl) = false := by simp; exact h2
          clear h2
          have j3 : ((0 : Int) != 0) = false := rfl
          gi_wp2
          gi_meet
          exact ⟨rfl, rfl⟩
      case rest =>
        obtain ⟨rfl, hwc⟩ := hcut
        rw [hwc]
        clear hwc wc
        by_cases hl : 0 < nd.level
        case neg =>
          have hlv := HL3.out.1
          rw [if_neg hl] at hlv
          have HL4 := Lib.hid hlv
          clear hlv
          gi_wp2_with fail
          gi_loopw [126] (fun i wr => ∃ (j : Nat) (nowj : List UInt8), j ≤ nd.items.length ∧ i = .int .i64 j ∧ looseA (now.set xa 0) (nd.items.take j) = some nowj ∧ BL w lo g nb no nc b u y s nowj wr ∧ w9.heap.size ≤ wr.heap.size ∧ (∀ x, x < w9.heap.size → (x < nb ∨ nb + 1 ≤ x) → wr.heap[x]? = w9.heap[x]?) ∧ Below lo w9 wr) (fun i _ => nd.items.length - (intOf i).toNat)
          case atStart => exact ⟨0, _, Nat.zero_le _, rfl, rfl, HQ.out.1, Nat.le_refl _, fun _ _ _ => rfl, Below.refl _ _⟩
          case round =>
            obtain ⟨j, nowj, hj, rfl, h0, hbr, hsr, hfr, hBr⟩ := hrel
            clear c_q60 c_q70 c_q71 c_q80 c_q81 f0
            obtain ⟨hbl, q6, hrow, q7, B_f, hM, hI, q8, hB⟩ := HQ.out
            clear HQ
            clear hbl
            replace q6 := q6.out hsr hfr (by omega)
            replace hrow := hrow.out hsr hfr (by omega)
            replace q7 := q7.out hsr hfr (by omega)
            replace B_f := B_f.out hsr hfr (by omega)
            replace hM := hM.out hsr hfr (by omega)
            replace hI := hI.out hsr hfr (by omega)
            replace q8 := q8.out hsr hfr (by omega)
            replace hB := hB.outB hBr (Nat.le_refl lo)
            have hbl := hbr
            clear hbr
            have HQ := Lib.hid (And.intro hbl (And.intro q6 (And.intro hrow (And.intro q7 (And.intro B_f (And.intro hM (And.intro hI (And.intro q8 hB))))))))
            clear hbl q6 hrow q7 B_f hM hI q8 hB
            have c_q60 := LK.cell HQ.out.2.1 0
            have c_q70 := LK.cell HQ.out.2.2.2.1 0
            have c_q71 := LK.cell HQ.out.2.2.2.1 1
            have c_q80 := LK.cell HQ.out.2.2.2.2.2.2.2.1 0
            have c_q81 := LK.cell HQ.out.2.2.2.2.2.2.2.1 1
            simp at c_q60 c_q70 c_q71 c_q80 c_q81
            have HR := Lib.hid (And.intro h0 (And.intro hsr (And.intro hfr hBr)))
            clear h0 hfr hBr
            by_cases hlt : j < nd.items.length
            case pos =>
              obtain ⟨bb, bo, cb, e1, -, hbb, -, zc, hcell⟩ := (Lv.get HQ.out.2.2.2.2.2.2.1).at_ (by omega)
              injection e1 with e1 _ e2
              subst e1 e2
              obtain ⟨f0, f1, f2, f3, f3w, vx, f4, hvx, -⟩ := hcell j (nd.items.getD j nokI) (get_l _ _ _ hlt)
              have hrx := mayN_refs HL3.out.2 (nd.items.getD j nokI) (List.mem_of_getElem? (get_l _ _ _ hlt))
              have n1 := looseA_next (now.set xa 0) nd.items j hlt nowj HR.out.1
              obtain ⟨x, hx⟩ : ∃ x, nd.items.getD j nokI = x := ⟨_, rfl⟩
              rw [hx] at f0 f1 f2 f3 hvx hrx n1
              obtain ⟨xn, hxn⟩ : ∃ xn, x.val.length = xn := ⟨_, rfl⟩
              obtain ⟨ax, cx, rfl, -, -⟩ := hvx.form hxn
              obtain ⟨xr, hxr⟩ : ∃ xr : Nat, x.ref = xr := ⟨x.ref.toNat, by omega⟩
              rw [hxr] at f3 hrx n1
              rw [Int.toNat_natCast] at n1
              simp only [bV, wV, Nat.add_zero] at f0 f1 f2 f3 f4
              have hn5 : rItemT.n = 5 := rfl
              rw [hn5] at f0 f1 f2 f3 f4
              unfold maxLen at zc
              have HN2 := Lib.hid n1
              clear hvx hcell hx hxn hn5 f3w n1 c_q60 c_q70 c_q71
              obtain ⟨hbl, q6, hrow, q7, B_f, hM, hI, q8, hB⟩ := HQ.out
              clear HQ
              have hR : LW wr wr := Below.refl _ _
              have HQ := Lib.hid (And.intro hbl (And.intro q6 (And.intro hrow (And.intro q7 (And.intro B_f (And.intro hM (And.intro hI (And.intro q8 (And.intro hR hB)))))))))
              clear hbl q6 hrow q7 B_f hM hI q8 hR hB
              gi_upto_region 21 with (fail)
              clear c_q80 c_q81
              obtain ⟨hbl, q6, hrow, q7, B_f, hM, hI, q8, hR, hB⟩ := HQ.out
              clear HQ
              have hst := (Below.refl wr.heap.size wr).alloc (Nat.le_refl _) (.cells #[.int .u8 (x.key.kind.toNat : Int), .int .u32 (x.key.id.toNat : Int), .int .u32 (x.key.off.toNat : Int), .int .i64 xr, .slice ax xn cx] 97)
              have hlt : wr.heap.size < (wr.alloc (.cells #[.int .u8 (x.key.kind.toNat : Int), .int .u32 (x.key.id.toNat : Int), .int .u32 (x.key.off.toNat : Int), .int .i64 xr, .slice ax xn cx] 97)).heap.size := by simp
              have qx := LK.new wr (.cells #[.int .u8 (x.key.kind.toNat : Int), .int .u32 (x.key.id.toNat : Int), .int .u32 (x.key.off.toNat : Int), .int .i64 xr, .slice ax xn cx] 97)
              replace hbl := hbl.step hst
              replace q6 := q6.step hst
              replace hrow := hrow.step hst
              replace q7 := q7.step hst
              replace B_f := B_f.step hst
              replace hM := hM.step hst
              replace hI := hI.step hst
              replace q8 := q8.step hst
              replace hR := hR.step hst
              replace hB := hB.step hst
              obtain ⟨w10, hw⟩ : ∃ v, wr.alloc (.cells #[.int .u8 (x.key.kind.toNat : Int), .int .u32 (x.key.id.toNat : Int), .int .u32 (x.key.off.toNat : Int), .int .i64 xr, .slice ax xn cx] 97) = v := ⟨_, rfl⟩
              rw [hw] at hlt qx hbl q6 hrow q7 B_f hM hI q8 hR hB ⊢
              clear hw hst
              have sz_w10 := hlt
              clear hlt
              have HQ := Lib.hid (And.intro hbl (And.intro q6 (And.intro hrow (And.intro q7 (And.intro B_f (And.intro hM (And.intro hI (And.intro q8 (And.intro hR (And.intro qx hB))))))))))
              clear hbl q6 hrow q7 B_f hM hI q8 hR qx hB
              have c_q60 := LK.cell HQ.out.2.1 0
              have c_q70 := LK.cell HQ.out.2.2.2.1 0
              have c_q71 := LK.cell HQ.out.2.2.2.1 1
              have c_q80 := LK.cell HQ.out.2.2.2.2.2.2.2.1 0
              have c_q81 := LK.cell HQ.out.2.2.2.2.2.2.2.1 1
              have c_qx0 := LK.cell HQ.out.2.2.2.2.2.2.2.2.2.1 0
              have c_qx1 := LK.cell HQ.out.2.2.2.2.2.2.2.2.2.1 1
              have c_qx2 := LK.cell HQ.out.2.2.2.2.2.2.2.2.2.1 2
              have c_qx3 := LK.cell HQ.out.2.2.2.2.2.2.2.2.2.1 3
              have c_qx4 := LK.cell HQ.out.2.2.2.2.2.2.2.2.2.1 4
              simp at c_q60 c_q70 c_q71 c_q80 c_q81 c_qx0 c_qx1 c_qx2 c_qx3 c_qx4
              clear f0 f1 f2 f3 f4
              by_cases hz : xr = 0
              case pos =>
                subst hz
                have HM := Lib.hid (HN2.out.1 rfl)
                gi_wp2
                go_roundw
                case rel => exact ⟨j + 1, nowj, by omega, by go_num, HM.out, HQ.out.1, by omega, fun x hx hd => (Below.block HQ.out.2.2.2.2.2.2.2.2.1 x (by omega)).trans (HR.out.2.2.1 x hx hd), HR.out.2.2.2.trans (Below.mono HQ.out.2.2.2.2.2.2.2.2.1 (by have := (HQ.out.2.2.2.2.2.2.2.2.2.2).1; omega))⟩
                case measure => simp [intOf]; omega
              have i1 : ¬ (xr : Int) = 0 := by omega
              have hp2 : xr < 256 := by omega
              have hlo : lo ≤ wr.heap.size := by omega
              gi_wp2_with fail
              refine ⟨trivial, ?_⟩
              gi_at_call 73
              refine (callsIn_wide.2 (bloose_any lo g nb no nc _ _ _ ⟨s.disk, nowj, s.last⟩ xr w10 (BL.ben HQ.out.1) hp2)).mono ?_
              rintro e z ⟨rfl, hb2, hbel, hsz2, hfr2⟩
              clear c_q60 c_q70 c_q71 c_q80 c_q81 c_qx0 c_qx1 c_qx2 c_qx3 c_qx4
              have hE2 : (nowj.getD xr 0 = 0 ∧ errBl ⟨s.disk, nowj, s.last⟩ xr = 6) ∨ (nowj.getD xr 0 ≠ 0 ∧ errBl ⟨s.disk, nowj, s.last⟩ xr = 0 ∧ dnS ⟨s.disk, nowj, s.last⟩ xr = ⟨s.disk, nowj.set xr (nowj.getD xr 0 + 255), s.last⟩) := by
                rcases dn_cases ⟨s.disk, nowj, s.last⟩ xr with ⟨h1, h2, -⟩ | ⟨h1, h2, h3⟩
                · exact .inl ⟨h1, h2⟩
                · exact .inr ⟨h1, h2, h3⟩
              obtain ⟨er, her⟩ : ∃ e, errBl ⟨s.disk, nowj, s.last⟩ xr = e := ⟨_, rfl⟩
              rw [her] at hE2 ⊢
              clear her
              have HZ := Lib.hid (And.intro hb2 (And.intro hbel (And.intro hsz2 hfr2)))
              clear hb2 hbel hsz2 hfr2
              rcases hE2 with ⟨h1, rfl⟩ | ⟨h1, rfl, h3⟩
              case inl =>
                have h2 := HN2.out.2.2 i1 h1
                have hlv := HL4.out
                rw [h2] at hlv
                have hr := hlv.symm
                clear h1 h2 hlv
                have HBf := Lib.hid (And.intro hr (And.intro (MK.of HQ.out.2.2.2.2.2.1 (fun x hx _ => HZ.out.2.2.2 x (by omega))) (LU.outB HQ.out.2.2.2.2.2.2.2.2.2.2 HZ.out.2.1 (Nat.le_refl lo))))
                clear hr
                gi_wp2
                refine mk_leaves HBf.out.2.1 (fun w9 hw9 => ?_)
                refine ⟨.int .i64 8, by simp [results, Try.results69, go_sem], HBf.out.2.2.2.trans (hw9.mono (by omega)), (by intros; rfl), fun now2 e => ?_⟩
                rw [HBf.out.1] at e
                cases e
              have h2 := HN2.out.2.1 i1 h1
              have hb2 := HZ.out.1
              rw [h3] at hb2
              have hbz := BL.turn HQ.out.1 hb2 (Nat.le_of_eq HZ.out.2.2.1.symm) HZ.out.2.2.2
              have HM := Lib.hid (And.intro h2 hbz)
              clear h1 h2 h3 hb2 hbz
              gi_wp2
              go_roundw
              case rel => exact ⟨j + 1, _, by omega, by go_num, HM.out.1, HM.out.2, by have := HZ.out.2.2.1; omega, fun x hx hd => (HZ.out.2.2.2 x (by omega)).trans ((Below.block HQ.out.2.2.2.2.2.2.2.2.1 x (by omega)).trans (HR.out.2.2.1 x hx hd)), (HR.out.2.2.2.trans (Below.mono HQ.out.2.2.2.2.2.2.2.2.1 (by omega))).trans HZ.out.2.1⟩
              case measure => simp [intOf]; omega
            obtain rfl : j = nd.items.length := by omega
            have h0 := HR.out.1
            rw [List.take_length] at h0
            have hlv := HL4.out
            rw [h0] at hlv
            dsimp only at hlv
            have hs1 := looseA_sum h0
            have hs2 := HN.out.2.2.2.2.1
            have hs3 : lvF s.disk s.now (sumC nowj + 1) nowj st = R := (lvF_any s.disk s.now (sumC nowj + 1) (sumC now) nowj st (by omega) (by omega)).trans hlv
            have HF2 := Lib.hid (And.intro hs3 (show sumC nowj + 1 ≤ sumC now by omega))
            clear h0 hlv hs1 hs2 hs3
            gi_wp2
            refine Handed.intro (sumC nowj) ?measure2 ?_
            rotate_left
            first | gi_step | go_step
            refine ⟨_, _, ?rel2, ?frm2, rfl⟩
            case frm2 => exact frL_ok _ rfl
            case rel2 => exact ⟨nowj, st, _, Nat.le_refl _, HF2.out.1, by have := HFW.out; have := HX.out.2.2.1; have := HF2.out.2; omega, HX.out.2.1, HQ.out.1, HQ.out.2.1, HQ.out.2.2.1, HQ.out.2.2.2.2.1, HQ.out.2.2.2.2.2.1, HQ.out.2.2.2.2.2.2.2.2⟩
            case measure2 => have := HF2.out.2; omega
        have hlv := HL3.out.1
        rw [if_pos hl] at hlv
        have HL4 := Lib.hid hlv
        clear hlv
        gi_upto_region 15 with (fail)
        gi_cut [111] from 24 (fun t wx => t = .func (.func 120) #[] #[.pointer (some ⟨w9.heap.size, 0, none⟩)] ∧ wx = w9.alloc (.cells #[.slice an nd.items.length cn] 45))
        case first =>
          gi_wp2_with (refine ⟨trivial, ?_⟩; gi_at_call 103; refine (backi_in Fence.wide _ trivial rfl _ _ _ _).mono ?_; rintro e w10 ⟨rfl, rfl⟩)
          gi_meet
          exact ⟨rfl, rfl⟩
        case rest =>
          obtain ⟨rfl, hwc⟩ := hcut
          rw [hwc]
          clear hwc wc
          have hbx := (cell_new_l w9 (.slice an nd.items.length cn) 45).1
          have hnew := World.alloc_heap_new w9 (.cells #[.slice an nd.items.length cn] 45)
          clear c_q60 c_q70 c_q71 c_q80 c_q81 f0
          obtain ⟨hbl, q6, hrow, q7, B_f, hM, hI, q8, hB⟩ := HQ.out
          clear HQ
          have hst := (Below.refl w9.heap.size w9).alloc (Nat.le_refl _) (.cells #[.slice an nd.items.length cn] 45)
          have sz_v : w9.heap.size < (w9.alloc (.cells #[.slice an nd.items.length cn] 45)).heap.size := by simp
          obtain ⟨V, hw⟩ : ∃ v, w9.alloc (.cells #[.slice an nd.items.length cn] 45) = v := ⟨_, rfl⟩
          rw [hw] at hst sz_v hbx hnew ⊢
          clear hw
          replace hbl := hbl.step hst
          replace q6 := q6.step hst
          replace hrow := hrow.step hst
          replace q7 := q7.step hst
          replace B_f := B_f.step hst
          replace hM := hM.step hst
          replace hI := hI.step hst
          replace q8 := q8.step hst
          replace hB := hB.step hst
          obtain ⟨gb, hgb⟩ : ∃ x, w9.heap.size = x := ⟨_, rfl⟩
          rw [hgb] at hst sz_v hbx hnew ⊢
          have HQ := Lib.hid (And.intro hbl (And.intro q6 (And.intro hrow (And.intro q7 (And.intro B_f (And.intro hM (And.intro hI (And.intro q8 hB))))))))
          clear hbl q6 hrow q7 B_f hM hI q8 hB
          have c_q60 := LK.cell HQ.out.2.1 0
          have c_q70 := LK.cell HQ.out.2.2.2.1 0
          have c_q71 := LK.cell HQ.out.2.2.2.1 1
          have c_q80 := LK.cell HQ.out.2.2.2.2.2.2.2.1 0
          have c_q81 := LK.cell HQ.out.2.2.2.2.2.2.2.1 1
          simp at c_q60 c_q70 c_q71 c_q80 c_q81
          obtain ⟨bs, hbl2, hba, hbc⟩ := items_of (sl_itemT (Lv.get HQ.out.2.2.2.2.2.2.1))
          have hne : nd.items.length ≠ 0 := by have := (mayN_all HL3.out.2).2.2.1; omega
          obtain ⟨bb, bo, ea, hb1, hb2, hcs⟩ := hbc (by omega)
          subst ea
          clear hbc
          have hlv5 : nd.level < 6 := (mayN_all HL3.out.2).1.2
          have habove := mayN_above HL3.out.2 hl
          have hlen5 := (mayN_all HL3.out.2).2.1
          have hbw : ∀ (i : Fin bs.length), bs[i.1].1 = nd.items.getD i.1 nokI := fun i => (hba i.1 bs[i.1] (by simp)).1
          have q8b := LK.blk HQ.out.2.2.2.2.2.2.2.1
          have q6b := LK.blk HQ.out.2.1
          have hbb6 : bb < V.heap.size := by omega
          have HA := Lib.hid (And.intro hba (And.intro hcs (And.intro hbw (And.intro q8b (And.intro q6b (And.intro habove hbx))))))
          clear hba hcs hbw q8b q6b hbx hnew habove hst
          have hgo : ∀ k, Value.ownBlock (.slice (some ⟨gr, 0, none⟩) n vc) = some k → k ≠ bb ∧ k ≠ gb ∧ k ≠ w7.heap.size := fun k hk => by
            injection hk with hk
            have hk2 : gr = k := hk
            subst hk2
            exact ⟨by omega, by omega, by omega⟩
          gi_wp2_with fail
          refine wpIn_rangeFunc_ownH rfl (by omega) (gf := 120) (lb := #[.pointer (some ⟨gb, 0, none⟩)]) rfl trivial (enters_of Try.func120 (by kernel_rfl) rfl)
            (backi_stops Fence.wide 4 trivial rfl (by omega) gb bb (some ⟨bb, bo, none⟩) cn bs V sz_v hbb6 (by rw [hbl2]; exact HA.out.2.2.2.2.2.2) (by rw [hbl2]; exact m1) m2 (fun _ => ⟨bo, rfl, HA.out.2.1⟩)) KeepI.trans (keepI_b hbb6 sz_v) (Below.refl _ _) (fun _ => rfl)
            (fun pre W => (∃ v, W.heap[g6]? = some (.cells #[v] 139 (0, 0)) ∧ RowO w1.heap.size v (st.reverse ++ pre.map fun i => (bs[i.1].1.ref.toNat, nd.level - 1)) W ∧ (∀ k, v.ownBlock = some k → k ≠ bb ∧ k ≠ gb ∧ k ≠ w7.heap.size) ∧ W.heap[w7.heap.size]? = some (.cells #[.int .i64 nd.level, .slice (some ⟨bb, bo, none⟩) nd.items.length cn] 47 (0, 0))) ∧ Below w1.heap.size V W ∧ DF V W)
            (fun _ _ _ => False)
            (OwnFrom.and (Own.from (fun s A B row hs hg hr => by
              obtain ⟨v, h1, h2, h3, h4⟩ := hs
              exact ⟨v, blk_grown hg hr h1, ownsRow_grown h2 hg hr, h3, blk_grown hg hr h4⟩) _) (OwnFrom.and (ownFrom_below (by omega) (by omega)) (df_own V)))
            (fun _ => Own.from (fun _ _ _ _ hs _ _ => hs) _)
            ⟨⟨_, HA.out.2.2.2.2.1, by rw [List.map_nil, List.append_nil]; exact (HQ.out.2.2.1), hgo, HA.out.2.2.2.1⟩, Below.refl _ _, fun _ h => h⟩
            (fun x a' W => ∃ bx, a' = ({ tmps := #[.pointer (some ⟨g, 0, none⟩), .int .i64 (p : Int), undef, undef, f 4, .slice (some ⟨fb, fo, none⟩) 256 fc, .pointer (some ⟨g6, 0, none⟩), .pointer (some ⟨g7, 0, none⟩), .pointer (some ⟨w7.heap.size, 0, none⟩), .int .i64 0, undef, .pointer (some ⟨bx, 0, none⟩), undef, f 13, f 14, .pointer (some ⟨g, 0, none⟩), .pointer (some ⟨g, 0, none⟩), .pointer (some ⟨g, 0, none⟩), .pointer (some ⟨g, 2, none⟩), .slice (some ⟨nb, no, none⟩) 256 nc, .slice (some ⟨fb, fo, none⟩) 256 fc, .int .i64 (p : Int), .agg #[.int .i64 (p : Int), .int .i64 (-1)], .slice (some ⟨w1.heap.size, 0, none⟩) 1 1, u24, u25, u26, u27, u28, u29, u30, u31, u32, u33, u34, u35, u36, u37, u38, u39, u40, u41, u42, u43, u44, u45, u46, u47, u48, u49, u50, u51, u52, u53, u54, u55, u56, u57, u58, u59, u60, u61, u62, u63, u64, u65, u66, u67, u68, u69, u70, u71, u72, u73, u74, u75, u76, u77, u78, u79, u80, u81, u82, u83, u84, u85, u86, u87, u88, u89, u90, u91, u92, u93, u94, u95, u96, u97, u98, u99, u100, u101, u102, u103, u104, u105, u106, u107, u108, u109, u110, .func (.func 120) #[] #[.pointer (some ⟨gb, 0, none⟩)], .int .i64 (x.1 : Int), .agg #[bV bs[x.1].1.key.kind, wV bs[x.1].1.key.id, wV bs[x.1].1.key.off, .int .i64 bs[x.1].1.ref, bs[x.1].2], u114, u115, u116, u117, u118, u119, u120, u121, u122, u123, u124, u125, u126, u127, u128, u129, u130, u131, u132, u133, u134, u135, u136, u137, u138, u139], defers := [] } : Act) ∧ V.heap.size ≤ bx ∧ W.heap[bx]? = some (.cells #[bV bs[x.1].1.key.kind, wV bs[x.1].1.key.id, wV bs[x.1].1.key.off, .int .i64 bs[x.1].1.ref, bs[x.1].2] 97 (0, 0)))
            ?hax ?assign ?body ?done ?stop
          case hax =>
            intro x a' s W W' row h hg hr
            obtain ⟨bx, h1, h2, h3⟩ := h
            refine ⟨bx, h1, h2, ?_⟩
            refine (hg.block bx (Array.getElem?_eq_some_iff.1 h3).1 (fun e => ?_)).trans h3
            obtain ⟨-, o, ho, hc⟩ := hr bx e.symm
            rw [h3] at ho
            cases ho
            cases hc
          case stop =>
            intro D c pre W _ _ h _
            exact h.elim
          case assign =>
            rintro l pre x W K ⟨⟨v, j1, j2, j3, j4⟩, hBW, hDF⟩ hK
            have hnew := World.alloc_heap_new W (.cells #[bV bs[x.1].1.key.kind, wV bs[x.1].1.key.id, wV bs[x.1].1.key.off, .int .i64 bs[x.1].1.ref, bs[x.1].2] 97)
            have hfr := (Below.refl W.heap.size W).alloc (Nat.le_refl _) (.cells #[bV bs[x.1].1.key.kind, wV bs[x.1].1.key.id, wV bs[x.1].1.key.off, .int .i64 bs[x.1].1.ref, bs[x.1].2] 97)
            have hBs := hBW.size
            have hv := (HA.out.1 x.1 bs[x.1] (by simp)).2.2
            have hHK := hK
            obtain ⟨av, cv, hvf, -, -⟩ := hv.form rfl
            rw [hvf] at hnew hfr ⊢
            have HV := Lib.hid hvf
            have HJ := Lib.hid (And.intro j1 (And.intro j2 (And.intro j3 (And.intro j4 (And.intro hBW hDF)))))
            generalize bs[x.1].1.val.length = dl at *
            have HK2 := Lib.hid hHK
            clear hHK hK hvf hv j1 j2 j3 j4 hBW hDF
            simp only [bV, wV] at hnew hfr ⊢
            gi_wp2
            refine HK2.out _ _ ⟨hfr.size, fun k o _ hko _ => (hfr.block k (Array.getElem?_eq_some_iff.1 hko).1).trans hko⟩ ⟨hfr.block bb (by omega), hfr.block gb (by omega)⟩
              ⟨⟨v, (hfr.block g6 (by omega)).trans HJ.out.1, HJ.out.2.1.step hfr, HJ.out.2.2.1, (hfr.block w7.heap.size (by omega)).trans HJ.out.2.2.2.1⟩, HJ.out.2.2.2.2.1.trans (hfr.mono (by omega)), fun k hk => (hfr.block k (by have := (Array.getElem?_eq_some_iff.1 (HJ.out.2.2.2.2.2 k hk)).1; exact this)).trans (HJ.out.2.2.2.2.2 k hk)⟩ ⟨W.heap.size, ?_, hBs, ?_⟩
            · rw [HV.out]; rfl
            · rw [HV.out]; exact hnew
          case body =>
            rintro l pre x a' W hl - ⟨⟨v, j1, j2, j3, j4⟩, hBW, hDF⟩ ⟨bx, rfl, hbx2, hcell⟩ hlen
            have b3 := blk_cell hcell 3
            have c0 := blk_cell j1 0
            have z0 := blk_frozen j1 0
            have n0 := blk_cell j4 0
            simp at b3 c0 n0
            have hBs := hBW.size
            have hbxw := HA.out.2.2.1 x
            have habx := HA.out.2.2.2.2.2.1 (nd.items.getD x.1 nokI) (List.mem_of_getElem? (get_l _ _ _ (by omega)))
            rw [← hbxw] at habx
            obtain ⟨xr, hxr⟩ : ∃ xr : Nat, bs[x.1].1.ref = xr := ⟨bs[x.1].1.ref.toNat, by omega⟩
            have hxr2 : (pre ++ [x]).map (fun i : Fin bs.length => (bs[i.1].1.ref.toNat, nd.level - 1)) = pre.map (fun i : Fin bs.length => (bs[i.1].1.ref.toNat, nd.level - 1)) ++ [(xr, nd.level - 1)] := by
              rw [List.map_append]
              congr 1
              show [(bs[x.1].1.ref.toNat, nd.level - 1)] = _
              rw [hxr, Int.toNat_natCast]
            have hj2l : (st.reverse ++ pre.map (fun i : Fin bs.length => (bs[i.1].1.ref.toNat, nd.level - 1))).length ≤ 1000000 := by
              rw [List.length_append, List.length_reverse, List.length_map]
              have := HFW.out
              have := HX.out.2.2.1
              omega
            rw [hxr] at b3 ⊢
            have hAl := Below.heap_alloc W (.cells #[.int .i64 (xr : Int), .int .i64 (nd.level - 1)] 138)
            have hnew := World.alloc_heap_new W (.cells #[.int .i64 (xr : Int), .int .i64 (nd.level - 1)] 138)
            have hne6 := RowO.ne j2 j1
            have hj2 := RowO.step j2 ((Below.refl W.heap.size W).alloc (Nat.le_refl _) (.cells #[.int .i64 (xr : Int), .int .i64 (nd.level - 1)] 138))
            obtain ⟨va, vc2, rfl⟩ := RowO.form j2
            obtain ⟨vl, hvl⟩ : ∃ m, (st.reverse ++ pre.map (fun i : Fin bs.length => (bs[i.1].1.ref.toNat, nd.level - 1))).length = m := ⟨_, rfl⟩
            rw [hvl] at c0 j1 j2 j3 hj2 hne6 hj2l
            have hlt6 := (Array.getElem?_eq_some_iff.1 j1).1
            have HP := Lib.hid (And.intro hj2 (And.intro hnew (And.intro hAl (And.intro hne6 (And.intro hj2l (And.intro hxr2 (And.intro j1 (And.intro j3 (And.intro j4 (And.intro hBW (And.intro hDF (And.intro hvl j2))))))))))))
            clear hj2 hnew hAl hne6 hj2l hxr2 j1 j2 j3 j4 hBW hDF hcell hvl hbxw habx hxr
            gi_wp2_with (gi_at_builtin; refine hidp ?_)
            refine Lib.hid ?_
            refine wpListIn_appO rfl (.tmp 114) (.tmp 121) rfl w1.heap.size _ _ rfl HP.out.1 W.heap.size xr (nd.level - 1) rfl HP.out.2.1 (by rw [HP.out.2.2.2.2.2.2.2.2.2.2.2.1]; exact HP.out.2.2.2.2.1) (by rw [World.size_alloc]; omega) ?_
            intro v' w3 hrow3 hg3 hvb
            obtain ⟨va', vc3, rfl⟩ := RowO.form hrow3
            obtain ⟨vn, hvn⟩ : ∃ m, (st.reverse ++ pre.map (fun i : Fin bs.length => (bs[i.1].1.ref.toNat, nd.level - 1)) ++ [(xr, nd.level - 1)]).length = m := ⟨_, rfl⟩
            rw [hvn] at hrow3 hvb ⊢
            clear hvn
            have hk3 : ∀ k, k < W.heap.size → Value.ownBlock (.slice va vl vc2) ≠ some k → w3.heap[k]? = W.heap[k]? := fun k hk hne => (hg3.block k (by rw [World.size_alloc]; omega) (fun e => hne e.symm)).trans (HP.out.2.2.1 k hk)
            have h6 := (hk3 g6 hlt6 (fun e => HP.out.2.2.2.1 g6 e rfl)).trans HP.out.2.2.2.2.2.2.1
            have d0 := blk_cell h6 0
            have y0 := blk_frozen h6 0
            simp at d0
            have hg3s := hg3.size
            have HR := Lib.hid (And.intro hrow3 (And.intro hg3 (And.intro hvb (And.intro hk3 h6))))
            clear hrow3 hg3 hvb hk3 h6
            gi_wp2
            obtain ⟨hrow3, hg3, hvb, hk3, h6⟩ := HR.out
            obtain ⟨hj2, hnew, hAl, hne6, hj2l, hxr2, j1, j3, j4, hBW, hDF, hvl, hj2'⟩ := HP.out
            obtain ⟨W3, hW3⟩ : ∃ Z, w3.setCell ⟨g6, 0, none⟩ (.slice va' vn vc3) = Z := ⟨_, rfl⟩
            have hW3s : W3.heap.size = w3.heap.size := by rw [← hW3]; exact World.size_setCell _ _ _
            have hoth : ∀ k, k < W.heap.size → k ≠ g6 → Value.ownBlock (.slice va vl vc2) ≠ some k → W3.heap[k]? = W.heap[k]? := fun k hk h6' hne => by rw [← hW3]; exact (set_other w3 g6 0 _ k h6').trans (hk3 k hk hne)
            have h6z : W3.heap[g6]? = some (.cells #[.slice va' vn vc3] 139 (0, 0)) := by rw [← hW3]; exact set_block h6 0 _
            have hsz3 : W.heap.size ≤ W3.heap.size := by rw [hW3s]; have := hg3.size; rw [World.size_alloc] at this; omega
            have hobj : ∀ (k : Nat) (o : Obj), W.heap[k]? = some o → o.isCells = false → W3.heap[k]? = some o := fun k o hk ho => (hoth k (Array.getElem?_eq_some_iff.1 hk).1 (fun e => by subst e; rw [j1] at hk; cases hk; cases ho) (fun e => by
              rcases hj2'.2 with ⟨h, -⟩ | ⟨g, cap, cur, h, -, hgb, -⟩
              · rw [h] at e; cases e
              · rw [h] at e
                injection e with e
                have e2 : g = k := e
                subst e2
                rw [hgb] at hk
                cases hk
                cases ho)).trans hk
            have hown3 : ∀ k, Value.ownBlock (.slice va' vn vc3) = some k → k ≠ bb ∧ k ≠ gb ∧ k ≠ w7.heap.size := fun k hk => by
              rcases hvb with e | e
              · exact j3 k (e ▸ hk)
              · rw [e, World.size_alloc] at hk
                injection hk with hk
                subst hk
                exact ⟨by omega, by omega, by omega⟩
            rw [hW3]
            refine ⟨⟨hsz3, fun k o _ hko ho => (hobj k o hko ho).trans hko.symm |>.trans hko⟩, ⟨hoth bb (by omega) (by omega) (fun e => (j3 _ e).1 rfl), hoth gb (by omega) (by omega) (fun e => (j3 _ e).2.1 rfl)⟩, ⟨_, h6z, ?_, hown3, (hoth w7.heap.size (by omega) (by omega) (fun e => (j3 _ e).2.2 rfl)).trans j4⟩, hBW.trans ?_, fun k hk => hobj k _ (hDF k hk) rfl⟩
            · rw [hxr2, ← List.append_assoc]
              exact hrow3.of fun k hk => by rw [← hW3]; exact set_other w3 g6 0 _ k (hrow3.ne h6 k hk)
            · refine ⟨?_, ?_, ?_, hsz3, fun k hk => hoth k (by omega) (by omega) (fun e => by have := (hj2'.lt k e).1; omega)⟩
              · rw [← hW3]; exact hg3.os
              · rw [← hW3]; exact hg3.tape
              · rw [← hW3]; exact hg3.output
          case done =>
            rintro D xs W hD rfl ⟨⟨v, j1, j2, j3, j4⟩, hBW, hDF⟩ hK
            have hmap := backF_all bs.length (fun i : Fin bs.length => (bs[i.1].1.ref.toNat, nd.level - 1)) (nd.items.map fun y => (y.ref.toNat, nd.level - 1)) (by rw [List.length_map]; exact hbl2.symm) (fun i => by rw [List.getElem?_map, get_l nd.items nokI i.1 (by have := i.2; omega), HA.out.2.2.1 i]; rfl)
            rw [hmap, ← List.reverse_append] at j2
            have hlv := HL4.out
            have hs2 := HN.out.2.2.2.2.1
            have hs3 := (lvF_any s.disk s.now (sumC (now.set xa 0) + 1) (sumC now) (now.set xa 0) ((nd.items.map fun y => (y.ref.toNat, nd.level - 1)) ++ st) (by omega) (by omega)).trans hlv
            have hBs := hBW.size
            have hMK := MK.cons (MK.df (HQ.out.2.2.2.2.2.1) hDF) hK (by omega) (MK.lt (HQ.out.2.2.2.2.2.1) hD)
            have HF := Lib.hid (And.intro hs3 (And.intro hs2 (And.intro j1 (And.intro j2 (And.intro hBW hMK)))))
            clear hmap j1 j2 j3 j4 hBW hDF hK hlv hs2 hs3 hMK
            gi_wp2
            refine Handed.intro (sumC (now.set xa 0)) ?measure3 ?_
            rotate_left
            first | gi_step | go_step
            refine ⟨_, _, ?rel3, ?frm3, rfl⟩
            case frm3 => exact frL_ok _ rfl
            case rel3 => exact ⟨now.set xa 0, (nd.items.map fun y => (y.ref.toNat, nd.level - 1)) ++ st, v, Nat.le_refl _, HF.out.1, by rw [List.length_append, List.length_map]; have := HFW.out; have := HX.out.2.2.1; have := HF.out.2.1; omega,
              fun z hz => by
                rcases List.mem_append.1 hz with hz | hz
                · obtain ⟨y, hy, rfl⟩ := List.mem_map.1 hz
                  have := HA.out.2.2.2.2.2.1 y hy
                  show y.ref.toNat < 256
                  omega
                · exact HX.out.2.1 z hz,
              (HQ.out.1).keep (fun k hk => HF.out.2.2.2.2.1.block k (by omega)) hBs, LK.of HF.out.2.2.1, HF.out.2.2.2.1, LM.out (n0 := w1.heap.size) (h0 := W.heap.size) (HQ.out.2.2.2.2.1) hBs (fun x hx hd => HF.out.2.2.2.2.1.block x (by omega)) (.inl (Nat.le_refl _)), HF.out.2.2.2.2.2, LU.outB (HQ.out.2.2.2.2.2.2.2.2) HF.out.2.2.2.2.1 (by omega)⟩
            case measure3 => have := HF.out.2.1; omega
end Go.Proofs.Ytkfgegdnpinbdaa

