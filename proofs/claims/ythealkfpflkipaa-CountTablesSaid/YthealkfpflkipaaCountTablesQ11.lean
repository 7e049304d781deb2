/- CountTables: the words and contracts, part 11. -/
import Derived.Test.YthealkfpflkipaaCountTablesQ1
import Derived.Test.YthealkfpflkipaaCountTablesQ2
import Derived.Test.YthealkfpflkipaaCountTablesQ3
import Derived.Test.YthealkfpflkipaaCountTablesQ4
import Derived.Test.YthealkfpflkipaaCountTablesQ5
import Derived.Test.YthealkfpflkipaaCountTablesQ6
import Derived.Test.YthealkfpflkipaaCountTablesQ7
import Derived.Test.YthealkfpflkipaaCountTablesQ8
import Derived.Test.YthealkfpflkipaaCountTablesQ9
import Derived.Test.YthealkfpflkipaaCountTablesQ10
import Derived.WalkKit
import Derived.WalkLawsBesides
import Derived.WalkSpells
import Derived.Lib.Hide
import Derived.Laws.Rows
import Derived.Laws.AppendOwnNone
import Derived.Maps.AppendAt
import Derived.ProofKit
import Derived.Deep.Slices
import Derived.WideShapes
import Derived.RangeFuncNested
import Derived.RangeFuncBound
import Derived.RangeFuncCalls
import Derived.RangeFuncLeaves
import Derived.RangeFuncBox
import Derived.Shelf.Abstract
import Derived.Shelf.RegionOpen
import Derived.OwnWalkIn
import Derived.TacticsInMore
import Derived.LoopNIn
import Derived.LoopIn
import Derived.Lib.AppendZerosOnto
import Derived.Lib.SliceRun
import Derived.Lib.Walk
import Derived.Deep.LoopGhost
import Derived.Laws.CopyOwn
import Derived.OrdersHeld
import Derived.Deep.QuietTactic
import Derived.BigQuiet
import Derived.StillTailTactics
import Derived.OpenShut
import Derived.Deep.DeepCutAuto
import Derived.Laws.CopyRow
import Derived.Laws.MakeOwn
import Derived.Deep.RegionHeld
import Derived.KernelRfl
import Derived.BigFrameIn
namespace Go.Proofs.Ythealkfpflkipaa
open Go.RowKit Go.Shelf
attribute [local go_sem] Oper.semAt_some

/-- A disk, a place, an error, behind the writing of some pieces. -/
def stepC (t : List UInt8) (s : DiskL × Int × Int) (x : Fin 2) : DiskL × Int × Int := if s.2.2 ≠ 0 then s else (writeD s.1 s.2.1 ((t.drop (x.1 * 128)).take 128), s.2.1 + 1, errW s.1 s.2.1 ((t.drop (x.1 * 128)).take 128))
def stC (t : List UInt8) (d : DiskL) (p : Int) (xs : List (Fin 2)) : DiskL × Int × Int := xs.foldl (stepC t) (d, p, 0)
theorem stC_app (t : List UInt8) (d : DiskL) (p : Int) (xs : List (Fin 2)) (x : Fin 2) : stC t d p (xs ++ [x]) = stepC t (stC t d p xs) x := by
  unfold stC
  rw [List.foldl_append, List.foldl_cons, List.foldl_nil]
theorem stC_snoc (t : List UInt8) (d : DiskL) (p : Int) (xs : List (Fin 2)) (x : Fin 2) (h : (stC t d p xs).2.2 = 0) :
    stC t d p (xs ++ [x]) = (writeD (stC t d p xs).1 (stC t d p xs).2.1 ((t.drop (x.1 * 128)).take 128), (stC t d p xs).2.1 + 1, errW (stC t d p xs).1 (stC t d p xs).2.1 ((t.drop (x.1 * 128)).take 128)) := by
  rw [stC_app, stepC, if_neg (by simp [h])]
theorem stC_at (t : List UInt8) (d : DiskL) (p : Int) (xs : List (Fin 2)) : p ≤ (stC t d p xs).2.1 ∧ (stC t d p xs).2.1 ≤ p + xs.length := by
  have h : ∀ (xs : List (Fin 2)) (s : DiskL × Int × Int), s.2.1 ≤ (xs.foldl (stepC t) s).2.1 ∧ (xs.foldl (stepC t) s).2.1 ≤ s.2.1 + xs.length := by
    intro xs
    induction xs with
    | nil => intro s; simp
    | cons x xs ih =>
      intro s
      simp only [List.foldl_cons, List.length_cons]
      have h1 := ih (stepC t s x)
      have h2 : s.2.1 ≤ (stepC t s x).2.1 ∧ (stepC t s x).2.1 ≤ s.2.1 + 1 := by
        unfold stepC
        split
        · omega
        · simp only
          omega
      omega
  exact h xs (d, p, 0)
def errX (d : DiskL) (s : Int) (t : List UInt8) : Int := if errP d s ≠ 0 then errP d s else if mayT t then (stC t d (plcP d s) (chL 2)).2.2 else 8
def outX (d : DiskL) (s : Int) (t : List UInt8) : DiskL := if errX d s t = 0 then (stC t d (plcP d s) (chL 2)).1 else ⟨[], []⟩
theorem stC_one (t : List UInt8) (d : DiskL) (p : Int) (h : (stC t d p (chL 1)).2.2 ≠ 0) : (stC t d p (chL 2)).2.2 = (stC t d p (chL 1)).2.2 := by
  have e : stC t d p (chL 2) = stepC t (stC t d p (chL 1)) 1 := stC_app t d p (chL 1) 1
  rw [e, stepC, if_pos h]

/-- What lies in the call's own boxes while the pieces are written. -/
structure CwS (lo n0 ga : Nat) (D : DiskL) (a : Int) (some_ : Prop) (W : World) : Prop where
  dsk : ∃ b u, W.heap[n0]? = some (.cells #[b, u] 26 (0, 0)) ∧ DiskV W 0 W.heap.size b u D ∧ (some_ → DiskT W lo W.heap.size b u D)
  at_ : W.heap[ga]? = some (.cells #[.int .i64 a] 3 (0, 0))
  err : W.heap[ga + 1]? = some (.cells #[.int .i64 0] 29 (0, 0))
  rd : W.heap[n0 + 1]? = some (.cells #[.slice none 0 0, .slice none 0 0] 26 (0, 0))
  re : W.heap[n0 + 2]? = some (.cells #[.int .i64 0] 29 (0, 0))
theorem grown_ck {W W' : World} {row : Option Nat} (hg : W.grownBy W' row) (hr : ∀ r, row = some r → ∃ o : Obj, W.heap[r]? = some o ∧ o.isCells = false) : CKc W W' := fun _ _ h => ⟨cell_kept h hg hr, frozen_kept h hg hr⟩
theorem blk_grown {W W' : World} {row : Option Nat} (hg : W.grownBy W' row) (hr : ∀ r, row = some r → ∃ o : Obj, W.heap[r]? = some o ∧ o.isCells = false) {g : Nat} {cs : Array Value} {T : TypeId} {f : Nat × Nat} (h : W.heap[g]? = some (.cells cs T f)) : W'.heap[g]? = some (.cells cs T f) := by
  refine (hg.block g (Array.getElem?_eq_some_iff.1 h).1 (fun e => ?_)).trans h
  obtain ⟨o, ho, hc⟩ := hr g e.symm
  rw [h] at ho
  cases ho
  cases hc
theorem CwS.own {lo n0 ga : Nat} {D : DiskL} {a : Int} {some_ : Prop} {W W' : World} {row : Option Nat} (h : CwS lo n0 ga D a some_ W) (hg : W.grownBy W' row) (hr : ∀ r, row = some r → ∃ o : Obj, W.heap[r]? = some o ∧ o.isCells = false) : CwS lo n0 ga D a some_ W' := by
  obtain ⟨⟨b, u, h1, h2, h3⟩, h4, h5, h6, h7⟩ := h
  have hk := grown_ck hg hr
  exact ⟨⟨b, u, blk_grown hg hr h1, DiskV.more ⟨Sl.ck rBytes_ck h2.1 hk, Sl.ck rWrite_ck h2.2 hk⟩ (Nat.le_refl _) hg.size, fun hs => DiskT.more ⟨Sl.ck rBytesT_ck (h3 hs).1 hk, Sl.ck rWriteT_ck (h3 hs).2 hk⟩ (Nat.le_refl _) hg.size⟩, blk_grown hg hr h4, blk_grown hg hr h5, blk_grown hg hr h6, blk_grown hg hr h7⟩

set_option maxRecDepth 100000 in
set_option maxHeartbeats 1000000 in
/-- count.Write, of what may not be written. -/
theorem cwrite_no (b u : Value) (d : DiskL) (s : Int) (v : Value) (t : List UInt8) (w : World) (h : DiskV w 0 w.heap.size b u d) (hv : Bytes w 0 w.heap.size v t) (he : errP d s ≠ 0 ∨ mayT t = false) :
    Calls Try.prog 13 #[.agg #[b, u], .int .i64 s, v] w fun e w' => e = .returned (.tuple #[.agg #[.slice none 0 0, .slice none 0 0], .int .i64 (errX d s t)]) ∧ Below w.heap.size w w' := by
  obtain ⟨ab, cb, rfl, g1, g2, -, -⟩ := h.1
  obtain ⟨au, cu, rfl, g3, g4, -, -⟩ := h.2
  obtain ⟨av, cv, rfl, g5, g6⟩ := hv.form rfl
  unfold maxLen at g2 g4 g6
  have hst := (((Below.refl w.heap.size w).alloc (Nat.le_refl _) (.cells #[.slice ab d.blocks.length cb, .slice au d.waits.length cu] 26)).alloc (by simp) (.cells #[.slice none 0 0, .slice none 0 0] 26)).alloc (by simp; omega) (.cells #[.int .i64 0] 29)
  have hq := three_new w (.cells #[.slice ab d.blocks.length cb, .slice au d.waits.length cu] 26) (.cells #[.slice none 0 0, .slice none 0 0] 26) (.cells #[.int .i64 0] 29)
  have qd := LK.of hq.1
  have qr := LK.of hq.2.1
  have qe := LK.of hq.2.2
  have hB : LW w _ := hst
  have hD := (LD.of h (Nat.le_refl _)).step hst
  have hT := (LB.of hv (Nat.le_refl _)).step hst
  have sz_V : w.heap.size + 2 < (((w.alloc (.cells #[.slice ab d.blocks.length cb, .slice au d.waits.length cu] 26)).alloc (.cells #[.slice none 0 0, .slice none 0 0] 26)).alloc (.cells #[.int .i64 0] 29)).heap.size := by simp
  obtain ⟨V, hV⟩ : ∃ V, ((w.alloc (.cells #[.slice ab d.blocks.length cb, .slice au d.waits.length cu] 26)).alloc (.cells #[.slice none 0 0, .slice none 0 0] 26)).alloc (.cells #[.int .i64 0] 29) = V := ⟨_, rfl⟩
  rw [hV] at hB hD hT qd qr qe sz_V
  clear h hst hv hq
  obtain ⟨ep, hep⟩ : ∃ ep, errP d s = ep := ⟨_, rfl⟩
  obtain ⟨pp, hpp⟩ : ∃ pp, plcP d s = pp := ⟨_, rfl⟩
  have k_plc := fun V b u hh => cplace_any b u d s V hh
  have k_chk := fun V hh => ccheck_any (.slice av t.length cv) t V hh
  rw [hep, hpp] at k_plc
  have hE : (ep ≠ 0 ∧ errX d s t = ep) ∨ (ep = 0 ∧ (if mayT t then (0 : Int) else 8) = 8 ∧ errX d s t = 8) := by
    unfold errX
    rw [hep] at he ⊢
    by_cases hz : ep = 0
    · right
      rcases he with h | h
      · exact absurd hz h
      · exact ⟨hz, by rw [h]; rfl, by rw [h, if_neg (by simp [hz])]; rfl⟩
    · left
      rw [if_pos hz]
      exact ⟨hz, rfl⟩
  generalize errX d s t = ex at *
  generalize (if mayT t then (0 : Int) else 8) = em at *
  have HE := Lib.hid hE
  clear hE he hep hpp
  have HC := Lib.hid (And.intro k_plc k_chk)
  clear k_plc k_chk
  have HQ := Lib.hid (And.intro qd (And.intro qr (And.intro qe (And.intro hD (And.intro hT hB)))))
  clear qd qr qe hD hT hB
  have c_qd0 := LK.cell HQ.out.1 0
  have c_qd1 := LK.cell HQ.out.1 1
  simp at c_qd0 c_qd1
  go_enter Try.func13, Try.ntmps13
  go_upto_region 1 with (fail)
  clear hV
  go_wp2_with fail
  refine (HC.out.1 V _ _ HQ.out.2.2.2.1.v).mono ?_
  rintro e w1 ⟨rfl, hst⟩
  clear c_qd0 c_qd1
  obtain ⟨qd, qr, qe, hD, hT, hB⟩ := HQ.out
  clear HQ
  have sz_w1 : V.heap.size ≤ w1.heap.size := hst.size
  replace qd := qd.step hst
  replace qr := qr.step hst
  replace qe := qe.step hst
  replace hD := hD.step hst
  replace hT := hT.step hst
  replace hB := hB.step hst
  clear hst
  have HQ := Lib.hid (And.intro qd (And.intro qr (And.intro qe (And.intro hD (And.intro hT hB)))))
  clear qd qr qe hD hT hB
  have c_qd0 := LK.cell HQ.out.1 0
  have c_qd1 := LK.cell HQ.out.1 1
  simp at c_qd0 c_qd1
  clear c_qd0 c_qd1
  go_upto_region 2 with (fail)
  obtain ⟨qd, qr, qe, hD, hT, hB⟩ := HQ.out
  clear HQ
  have hst := ((Below.refl w1.heap.size w1).alloc (Nat.le_refl _) (.cells #[.int .i64 pp] 3)).alloc (by simp) (.cells #[.int .i64 ep] 29)
  have hlt : w1.heap.size + 1 < ((w1.alloc (.cells #[.int .i64 pp] 3)).alloc (.cells #[.int .i64 ep] 29)).heap.size := by simp
  have hq := two_new w1 (.cells #[.int .i64 pp] 3) (.cells #[.int .i64 ep] 29)
  have qa := LK.of hq.1
  have qb := LK.of hq.2
  replace qd := qd.step hst
  replace qr := qr.step hst
  replace qe := qe.step hst
  replace hD := hD.step hst
  replace hT := hT.step hst
  replace hB := hB.step hst
  obtain ⟨w2, hw⟩ : ∃ v, (w1.alloc (.cells #[.int .i64 pp] 3)).alloc (.cells #[.int .i64 ep] 29) = v := ⟨_, rfl⟩
  rw [hw] at hlt qa qb qd qr qe hD hT hB ⊢
  clear hw hst hq
  have sz_w2 := hlt
  clear hlt
  have HQ := Lib.hid (And.intro qd (And.intro qr (And.intro qe (And.intro hD (And.intro hT (And.intro qa (And.intro qb hB)))))))
  clear qd qr qe hD hT qa qb hB
  have c_qa0 := LK.cell HQ.out.2.2.2.2.2.1 0
  have c_qb0 := LK.cell HQ.out.2.2.2.2.2.2.1 0
  have c_qr0 := LK.cell HQ.out.2.1 0
  have c_qr1 := LK.cell HQ.out.2.1 1
  have z_qr0 := LK.frozen HQ.out.2.1 0
  have z_qr1 := LK.frozen HQ.out.2.1 1
  have c_qe0 := LK.cell HQ.out.2.2.1 0
  have z_qe0 := LK.frozen HQ.out.2.2.1 0
  simp at c_qa0 c_qb0 c_qr0 c_qr1 c_qe0
  have hBf := HQ.out.2.2.2.2.2.2.2
  rcases HE.out with ⟨hne, rfl⟩ | ⟨rfl, rfl, rfl⟩
  · have i1 : (ex != 0) = true := by simp [hne]
    clear hne
    go_wp2
    go_region
    all_goals
      go_wp2
      refine bodyPost_ret (v := .tuple #[.agg #[.slice none 0 0, .slice none 0 0], .int .i64 ex]) (by simp [results, Try.results13, go_sem, c_qr0, c_qr1, c_qe0]) rfl ⟨rfl, ?_⟩
      exact (((Below.setCell hBf (p := ⟨w.heap.size + 1, 0, none⟩) (Nat.le_succ _) _).setCell (p := ⟨w.heap.size + 1, 1, none⟩) (Nat.le_succ _) _).setCell (p := ⟨w.heap.size + 1 + 1, 0, none⟩) (by show w.heap.size ≤ w.heap.size + 1 + 1; omega) _).drew
  · go_wp2_with fail
    refine (HC.out.2 _ HQ.out.2.2.2.2.1.v).mono ?_
    rintro e w9 ⟨rfl, rfl⟩
    go_wp2
    refine bodyPost_ret (v := .tuple #[.agg #[.slice none 0 0, .slice none 0 0], .int .i64 8]) (by simp [results, Try.results13, go_sem, c_qr0, c_qr1, c_qe0]) rfl ⟨rfl, ?_⟩
    exact (((Below.setCell hBf (p := ⟨w.heap.size + 1, 0, none⟩) (Nat.le_succ _) _).setCell (p := ⟨w.heap.size + 1, 1, none⟩) (Nat.le_succ _) _).setCell (p := ⟨w.heap.size + 1 + 1, 0, none⟩) (by show w.heap.size ≤ w.heap.size + 1 + 1; omega) _)

set_option maxRecDepth 100000 in
set_option maxHeartbeats 2000000 in
/-- count.Write, of what may be written. -/
theorem cwrite_yes (b u : Value) (d : DiskL) (s : Int) (v : Value) (t : List UInt8) (w : World) (h : DiskV w 0 w.heap.size b u d) (hv : Bytes w 0 w.heap.size v t) (he : errP d s = 0) (hmt : mayT t = true) :
    Calls Try.prog 13 #[.agg #[b, u], .int .i64 s, v] w fun e w' => ∃ b' u', e = .returned (.tuple #[.agg #[b', u'], .int .i64 (errX d s t)]) ∧ MadeD w w' b' u' (outX d s t) := by
  obtain ⟨ab, cb, rfl, g1, g2, -, -⟩ := h.1
  obtain ⟨au, cu, rfl, g3, g4, -, -⟩ := h.2
  have htl := mayT_len hmt
  obtain ⟨tb, tf, cv, rfl, -, ht1, g5, g6, -⟩ := hv.at_n htl (by omega)
  have HV0 := Lib.hid hv
  unfold maxLen at g2 g4 g6
  have hst := (((Below.refl w.heap.size w).alloc (Nat.le_refl _) (.cells #[.slice ab d.blocks.length cb, .slice au d.waits.length cu] 26)).alloc (by simp) (.cells #[.slice none 0 0, .slice none 0 0] 26)).alloc (by simp; omega) (.cells #[.int .i64 0] 29)
  have hq := three_new w (.cells #[.slice ab d.blocks.length cb, .slice au d.waits.length cu] 26) (.cells #[.slice none 0 0, .slice none 0 0] 26) (.cells #[.int .i64 0] 29)
  have qd := LK.of hq.1
  have qr := LK.of hq.2.1
  have qe := LK.of hq.2.2
  have hB : LW w _ := hst
  have hD := (LD.of h (Nat.le_refl _)).step hst
  have hT := (LB.of hv (Nat.le_refl _)).step hst
  have sz_V : w.heap.size + 2 < (((w.alloc (.cells #[.slice ab d.blocks.length cb, .slice au d.waits.length cu] 26)).alloc (.cells #[.slice none 0 0, .slice none 0 0] 26)).alloc (.cells #[.int .i64 0] 29)).heap.size := by simp
  obtain ⟨V, hV⟩ : ∃ V, ((w.alloc (.cells #[.slice ab d.blocks.length cb, .slice au d.waits.length cu] 26)).alloc (.cells #[.slice none 0 0, .slice none 0 0] 26)).alloc (.cells #[.int .i64 0] 29) = V := ⟨_, rfl⟩
  rw [hV] at hB hD hT qd qr qe sz_V
  clear h hst hv hq
  obtain ⟨pp, hpp⟩ : ∃ pp, plcP d s = pp := ⟨_, rfl⟩
  have k_plc := fun V b u hh => cplace_any b u d s V hh
  have k_chk := fun V hh => ccheck_any (.slice (some ⟨tb, tf, none⟩) 256 cv) t V hh
  rw [he, hpp] at k_plc
  rw [hmt, if_pos rfl] at k_chk
  have hEX : errX d s t = (stC t d pp (chL 2)).2.2 := by unfold errX; rw [he, if_neg (by simp), hmt, if_pos rfl, hpp]
  have hOX : (stC t d pp (chL 2)).2.2 = 0 → outX d s t = (stC t d pp (chL 2)).1 := fun h => by unfold outX; rw [hEX, if_pos h, hpp]
  have hOZ : (stC t d pp (chL 2)).2.2 ≠ 0 → outX d s t = ⟨[], []⟩ := fun h => by unfold outX; rw [hEX, if_neg h]
  have hp1 : 0 ≤ pp ∧ pp ≤ 6 := by
    have := errP_zero he
    rw [← hpp]
    unfold plcP
    rw [he, if_pos rfl]
    omega
  obtain ⟨hp0, hp1⟩ := hp1
  rw [hEX]
  generalize outX d s t = ox at *
  have HE := Lib.hid (And.intro hOX (And.intro hOZ htl))
  clear he hpp hmt hEX hOX hOZ htl
  have HC := Lib.hid (And.intro k_plc k_chk)
  clear k_plc k_chk
  have HQ := Lib.hid (And.intro qd (And.intro qr (And.intro qe (And.intro hD (And.intro hT hB)))))
  clear qd qr qe hD hT hB
  have c_qd0 := LK.cell HQ.out.1 0
  have c_qd1 := LK.cell HQ.out.1 1
  simp at c_qd0 c_qd1
  refine (callsIn_wide (n := 4)).1 ?_
  refine callsIn_of_wp_marks Try.func13 rfl trivial ?_ rfl
  simp only [Try.ntmps13, List.size_toArray, List.length_cons, List.length_nil, Nat.reduceAdd, Nat.reduceSub, Array.replicate_succ, Array.replicate_zero, List.push_toArray, List.append_toArray, List.nil_append, List.cons_append]
  gi_wp2_with fail
  clear hV
  refine ⟨trivial, ?_⟩
  gi_at_call 41
  refine (callsIn_wide.2 (HC.out.1 V _ _ HQ.out.2.2.2.1.v)).mono ?_
  rintro e w1 ⟨rfl, hst⟩
  clear c_qd0 c_qd1
  obtain ⟨qd, qr, qe, hD, hT, hB⟩ := HQ.out
  clear HQ
  have sz_w1 : V.heap.size ≤ w1.heap.size := hst.size
  replace qd := qd.step hst
  replace qr := qr.step hst
  replace qe := qe.step hst
  replace hD := hD.step hst
  replace hT := hT.step hst
  replace hB := hB.step hst
  clear hst
  have HQ := Lib.hid (And.intro qd (And.intro qr (And.intro qe (And.intro hD (And.intro hT hB)))))
  clear qd qr qe hD hT hB
  gi_wp2_with fail
  obtain ⟨qd, qr, qe, hD, hT, hB⟩ := HQ.out
  clear HQ
  have hst := ((Below.refl w1.heap.size w1).alloc (Nat.le_refl _) (.cells #[.int .i64 pp] 3)).alloc (by simp) (.cells #[.int .i64 0] 29)
  have hlt : w1.heap.size + 1 < ((w1.alloc (.cells #[.int .i64 pp] 3)).alloc (.cells #[.int .i64 0] 29)).heap.size := by simp
  have hq := two_new w1 (.cells #[.int .i64 pp] 3) (.cells #[.int .i64 0] 29)
  have qa := LK.of hq.1
  have qb := LK.of hq.2
  replace qd := qd.step hst
  replace qr := qr.step hst
  replace qe := qe.step hst
  replace hD := hD.step hst
  replace hT := hT.step hst
  replace hB := hB.step hst
  obtain ⟨w2, hw⟩ : ∃ v, (w1.alloc (.cells #[.int .i64 pp] 3)).alloc (.cells #[.int .i64 0] 29) = v := ⟨_, rfl⟩
  rw [hw] at hlt qa qb qd qr qe hD hT hB ⊢
  clear hw hst hq
  have sz_w2 := hlt
  clear hlt
  have HQ := Lib.hid (And.intro qd (And.intro qr (And.intro qe (And.intro hD (And.intro hT (And.intro qa (And.intro qb hB)))))))
  clear qd qr qe hD hT qa qb hB
  refine ⟨trivial, ?_⟩
  gi_at_call 18
  refine (callsIn_wide.2 (HC.out.2 _ HQ.out.2.2.2.2.1.v)).mono ?_
  rintro e w9 ⟨rfl, rfl⟩
  gi_wp2_with fail
  refine ⟨trivial, ?_⟩
  gi_at_call 42
  refine (chunk_in Fence.wide _ trivial rfl _ _ _ _).mono ?_
  rintro e w' ⟨rfl, rfl⟩
  obtain ⟨qd, qr, qe, hD, hT, qa, qb, hB⟩ := HQ.out
  clear HQ
  have hst := ((Below.refl w9.heap.size w9).alloc (Nat.le_refl _) (.cells #[.slice (some ⟨tb, tf, none⟩) 256 cv] 22)).alloc (by simp) (.cells #[.int .i64 128] 3)
  have hlt : w9.heap.size + 1 < ((w9.alloc (.cells #[.slice (some ⟨tb, tf, none⟩) 256 cv] 22)).alloc (.cells #[.int .i64 128] 3)).heap.size := by simp
  have hq := two_new w9 (.cells #[.slice (some ⟨tb, tf, none⟩) 256 cv] 22) (.cells #[.int .i64 128] 3)
  have qs := LK.of hq.1
  have qm := LK.of hq.2
  replace qd := qd.step hst
  replace qr := qr.step hst
  replace qe := qe.step hst
  replace hD := hD.step hst
  replace hT := hT.step hst
  replace qa := qa.step hst
  replace qb := qb.step hst
  replace hB := hB.step hst
  obtain ⟨w3, hw⟩ : ∃ v, (w9.alloc (.cells #[.slice (some ⟨tb, tf, none⟩) 256 cv] 22)).alloc (.cells #[.int .i64 128] 3) = v := ⟨_, rfl⟩
  rw [hw] at hlt qs qm qd qr qe hD hT qa qb hB ⊢
  clear hw hst hq
  have sz_w3 := hlt
  clear hlt
  have HQ := Lib.hid (And.intro qd (And.intro qr (And.intro qe (And.intro hD (And.intro hT (And.intro qa (And.intro qb (And.intro qs (And.intro qm hB)))))))))
  clear qd qr qe hD hT qa qb qs qm hB
  have hlt0 : w.heap.size + 2 < w9.heap.size := by omega
  have ct0 := LK.cell HQ.out.2.2.2.2.2.2.2.1 0
  have ct1 := LK.cell HQ.out.2.2.2.2.2.2.2.2.1 0
  simp at ct0 ct1
  have HB3 : Hid (Below w.heap.size w w3) := Lib.hid HQ.out.2.2.2.2.2.2.2.2.2
  have HT := Lib.hid (And.intro ct0 ct1)
  clear ct0 ct1
  gi_wp2_with fail
  refine wpIn_rangeFunc_ownF rfl (by omega) (gf := 72) (lb := #[.pointer (some ⟨w9.heap.size, 0, none⟩), .pointer (some ⟨w9.heap.size + 1, 0, none⟩)]) rfl trivial (enters_of Try.func72 (by kernel_rfl) rfl)
    (chunk1_stops Fence.wide 3 trivial rfl (by omega) w9.heap.size w.heap.size tb tf cv g5 (by unfold maxLen; exact g6) w3 (by omega) HT.out.1 HT.out.2) KeepC.trans (keepC_b (by omega) (by omega)) (Below.refl _ _) (fun _ => rfl)
    (fun pre W => ((stC t d pp pre).2.2 = 0 ∧ CwS w3.heap.size w.heap.size w1.heap.size (stC t d pp pre).1 (stC t d pp pre).2.1 (pre ≠ []) W) ∧ Below w.heap.size w3 W)
    (fun c pre W => (c = .ret ∧ (stC t d pp pre).2.2 ≠ 0 ∧ W.heap[w.heap.size + 1]? = some (.cells #[.slice none 0 0, .slice none 0 0] 26 (0, 0)) ∧ W.heap[w.heap.size + 2]? = some (.cells #[.int .i64 (stC t d pp pre).2.2] 29 (0, 0))) ∧ Below w.heap.size w3 W)
    (OwnFrom.and (Own.from (fun s A B row hs hg hr => ⟨hs.1, hs.2.own hg hr⟩) _) (ownFrom_below (by omega) (by omega)))
    (fun c => OwnFrom.and (Own.from (fun s A B row hs hg hr => ⟨hs.1, hs.2.1, blk_grown hg hr hs.2.2.1, blk_grown hg hr hs.2.2.2⟩) _) (ownFrom_below (by omega) (by omega)))
    ⟨⟨rfl, ⟨_, _, HQ.out.1.blk, HQ.out.2.2.2.1.v, fun h => absurd rfl h⟩, HQ.out.2.2.2.2.2.1.blk, HQ.out.2.2.2.2.2.2.1.blk, HQ.out.2.1.blk, HQ.out.2.2.1.blk⟩, Below.refl _ _⟩
    ?a1 ?assign ?body ?done ?stop
  case assign =>
    intro l x W K hK
    have HK := Lib.hid hK
    clear hK
    unfold encC
    gi_wp2
    exact HK.out
  case body =>
    rintro l pre x W ⟨⟨hz, ⟨⟨b2, u2, q0, hdv, hdt⟩, qa, qb, qr, qe⟩⟩, hBW⟩ hlen
    have hsn := stC_snoc t d pp pre x hz
    have hpa := stC_at t d pp pre
    obtain ⟨D, hD⟩ : ∃ D, (stC t d pp pre).1 = D := ⟨_, rfl⟩
    obtain ⟨a, ha⟩ : ∃ a, (stC t d pp pre).2.1 = a := ⟨_, rfl⟩
    have hBw := HB3.out.trans hBW
    have hcut := ((HV0.out.below hBw (Nat.le_refl _)).cut (x.1 * 128) 128 128 (by rw [HE.out.2.2]; have := x.2; omega) (by omega) (by unfold maxLen; omega)).more (Nat.le_refl _) hBw.size
    have hhl : ((t.drop (x.1 * 128)).take 128).length = 128 := by have := HE.out.2.2; have := x.2; simp; omega
    obtain ⟨hf, hhf⟩ : ∃ hf, (t.drop (x.1 * 128)).take 128 = hf := ⟨_, rfl⟩
    rw [hD, ha, hhf] at hsn
    rw [hhf] at hcut hhl
    rw [hD] at hdv hdt
    rw [ha] at qa hpa
    have kw := dwrite_any b2 u2 D a _ hf W hdv hcut
    obtain ⟨e1, he1⟩ : ∃ e1, errW D a hf = e1 := ⟨_, rfl⟩
    obtain ⟨D1, hD1⟩ : ∃ D1, writeD D a hf = D1 := ⟨_, rfl⟩
    rw [he1, hD1] at hsn kw
    obtain ⟨ab2, cb2, rfl, -, -, -, -⟩ := hdv.1
    obtain ⟨au2, cu2, rfl, -, -, -, -⟩ := hdv.2
    have c0 := blk_cell q0 0
    have c1 := blk_cell q0 1
    have c2 := blk_cell qa 0
    simp at c0 c1 c2
    have HP := Lib.hid (And.intro q0 (And.intro qa (And.intro qb (And.intro qr (And.intro qe (And.intro hBW (And.intro hsn kw)))))))
    have hal : a ≤ 100 ∧ 0 ≤ a := by omega
    obtain ⟨ha1, ha2⟩ := hal
    have hga : w1.heap.size + 1 < W.heap.size := (Array.getElem?_eq_some_iff.1 qb).1
    clear hBw q0 qa qb qr qe hBW hsn kw hz hdv hdt hcut hhl hhf hD ha he1 hD1 hpa
    gi_wp2_with fail
    refine ⟨trivial, ?_⟩
    gi_at_call 43
    refine (CallsIn.inRound l (callsIn_wide.2 HP.out.2.2.2.2.2.2.2)).mono ?_
    rintro e z ⟨b3, u3, rfl, hm⟩
    obtain ⟨q0, qa, qb, qr, qe, hBW, hsn, -⟩ := HP.out
    have hzs := hm.below.size
    replace q0 := (hm.below.block _ (Array.getElem?_eq_some_iff.1 q0).1).trans q0
    replace qa := (hm.below.block _ (Array.getElem?_eq_some_iff.1 qa).1).trans qa
    replace qb := (hm.below.block _ (Array.getElem?_eq_some_iff.1 qb).1).trans qb
    replace qr := (hm.below.block _ (Array.getElem?_eq_some_iff.1 qr).1).trans qr
    replace qe := (hm.below.block _ (Array.getElem?_eq_some_iff.1 qe).1).trans qe
    have hBz := hBW.trans (hm.below.mono (HB3.out.trans hBW).size)
    have hWs := hBW.size
    obtain ⟨ab3, cb3, rfl, -, -, -, -⟩ := hm.v0.1
    obtain ⟨au3, cu3, rfl, -, -, -, -⟩ := hm.v0.2
    clear c0 c1 c2
    have c0 := blk_cell q0 0
    have c1 := blk_cell q0 1
    have c2 := blk_cell qa 0
    have c3 := blk_cell qb 0
    have c4 := blk_cell qr 0
    have c5 := blk_cell qr 1
    have c6 := blk_cell qe 0
    simp at c0 c1 c2 c3 c4 c5 c6
    have f0 := blk_frozen q0 0
    have f1 := blk_frozen q0 1
    have f2 := blk_frozen qa 0
    have f3 := blk_frozen qb 0
    have f4 := blk_frozen qr 0
    have f5 := blk_frozen qr 1
    have f6 := blk_frozen qe 0
    have HP2 := Lib.hid (And.intro q0 (And.intro qa (And.intro qb (And.intro qr (And.intro qe (And.intro hBW (And.intro hsn (And.intro hBz hm))))))))
    clear q0 qa qb qr qe hBW hsn hBz hm HP
    have hne1 : w1.heap.size ≠ w.heap.size := by omega
    have hne2 : w1.heap.size ≠ w.heap.size + 1 := by omega
    have hne3 : w1.heap.size ≠ w.heap.size + 1 + 1 := by omega
    have hW3 : w9.heap.size + 1 < W.heap.size := by omega
    by_cases hz1 : e1 = 0
    · subst hz1
      gi_wp2
      obtain ⟨q0, qa, qb, qr, qe, hBW, hsn, hBz, hm⟩ := HP2.out
      obtain ⟨Z, hZ⟩ : ∃ Z, (((z.setCell ⟨w.heap.size, 0, none⟩ (.slice ab3 D1.blocks.length cb3)).setCell ⟨w.heap.size, 1, none⟩ (.slice au3 D1.waits.length cu3)).setCell ⟨w1.heap.size + 1, 0, none⟩ (.int .i64 0)).setCell ⟨w1.heap.size, 0, none⟩ (.int .i64 (a + 1)) = Z := ⟨_, rfl⟩
      have hoth : ∀ k, k ≠ w.heap.size → k ≠ w1.heap.size → k ≠ w1.heap.size + 1 → Z.heap[k]? = z.heap[k]? := fun k h1 h2 h3 => by rw [← hZ]; exact (set_other _ _ _ _ k h2).trans ((set_other _ _ _ _ k h3).trans ((set_other _ _ _ _ k h1).trans (set_other z _ _ _ k h1)))
      have hko : KeepsOthers W Z := by rw [← hZ]; exact (KeepsOthers.trans ⟨hm.below.size, fun k o hk _ => (hm.below.block k (Array.getElem?_eq_some_iff.1 hk).1).trans hk⟩ (KeepsOthers.setCell _ _ _)).trans (((KeepsOthers.setCell _ _ _).trans (KeepsOthers.setCell _ _ _)).trans (KeepsOthers.setCell _ _ _))
      have hzZ : Z.heap.size = z.heap.size := by rw [← hZ]; simp only [World.size_setCell]
      have hBZ : Below w.heap.size z Z := ⟨by rw [← hZ]; rfl, by rw [← hZ]; rfl, by rw [← hZ]; rfl, by omega, fun k hk => hoth k (by omega) (by omega) (by omega)⟩
      have q0' : Z.heap[w.heap.size]? = some (.cells #[.slice ab3 D1.blocks.length cb3, .slice au3 D1.waits.length cu3] 26 (0, 0)) := by rw [← hZ]; exact (set_other _ _ _ _ _ (by omega)).trans ((set_other _ _ _ _ _ (by omega)).trans (set_block (set_block q0 0 _) 1 _))
      have qa' : Z.heap[w1.heap.size]? = some (.cells #[.int .i64 (a + 1)] 3 (0, 0)) := by rw [← hZ]; exact set_block ((set_other _ _ _ _ _ (by omega)).trans ((set_other _ _ _ _ _ (by omega)).trans ((set_other _ _ _ _ _ (by omega)).trans qa))) 0 _
      have qb' : Z.heap[w1.heap.size + 1]? = some (.cells #[.int .i64 0] 29 (0, 0)) := by rw [← hZ]; exact (set_other _ _ _ _ _ (by omega)).trans (set_block ((set_other _ _ _ _ _ (by omega)).trans ((set_other _ _ _ _ _ (by omega)).trans qb)) 0 _)
      have hkp : ∀ lo hi, w3.heap.size ≤ lo → Kp lo hi z Z := fun lo hi h b o h1 _ => ⟨heap_cell (hoth b (by omega) (by omega) (by omega)) o, heap_frozen (hoth b (by omega) (by omega) (by omega)) o⟩
      have hdk := (hm.disk.kept (hkp _ _ (by omega))).more (show w3.heap.size ≤ W.heap.size by omega) (show z.heap.size ≤ Z.heap.size by omega)
      have hkc : ∀ g, g = w9.heap.size ∨ g = w9.heap.size + 1 → Z.cell? ⟨g, 0, none⟩ = W.cell? ⟨g, 0, none⟩ := fun g hg => (heap_cell (hoth g (by omega) (by omega) (by omega)) 0).trans (hm.below.cell (p := ⟨g, 0, none⟩) (by show g < W.heap.size; omega))
      rw [hZ]
      clear hZ
      refine ⟨hko, ⟨(hm.below.mono (by omega)).trans hBZ, hkc _ (.inl rfl), hkc _ (.inr rfl)⟩, ⟨by rw [hsn], ?_⟩, hBz.trans hBZ⟩
      rw [hsn]
      exact ⟨⟨_, _, q0', hdk.v.more (Nat.zero_le _) (Nat.le_refl _), fun _ => hdk⟩, qa', qb', (hoth _ (by omega) (by omega) (by omega)).trans qr, (hoth _ (by omega) (by omega) (by omega)).trans qe⟩
    · have i1 : (e1 != 0) = true := by simp [hz1]
      gi_wp2
      gi_region
      all_goals
        gi_wp2
        obtain ⟨q0, qa, qb, qr, qe, hBW, hsn, hBz, hm⟩ := HP2.out
        obtain ⟨Z3, hZ3⟩ : ∃ Z, ((z.setCell ⟨w.heap.size, 0, none⟩ (.slice ab3 D1.blocks.length cb3)).setCell ⟨w.heap.size, 1, none⟩ (.slice au3 D1.waits.length cu3)).setCell ⟨w1.heap.size + 1, 0, none⟩ (.int .i64 e1) = Z := ⟨_, rfl⟩
        have hoth3 : ∀ k, k ≠ w.heap.size → k ≠ w1.heap.size + 1 → Z3.heap[k]? = z.heap[k]? := fun k h1 h3 => by rw [← hZ3]; exact (set_other _ _ _ _ k h3).trans ((set_other _ _ _ _ k h1).trans (set_other z _ _ _ k h1))
        have hko3 : KeepsOthers z Z3 := by rw [← hZ3]; exact ((KeepsOthers.setCell _ _ _).trans (KeepsOthers.setCell _ _ _)).trans (KeepsOthers.setCell _ _ _)
        have hb3 : Below w.heap.size z Z3 := by rw [← hZ3]; exact (((Below.refl _ z).setCell (p := ⟨w.heap.size, 0, none⟩) (Nat.le_refl _) _).setCell (p := ⟨w.heap.size, 1, none⟩) (Nat.le_refl _) _).setCell (p := ⟨w1.heap.size + 1, 0, none⟩) (by show w.heap.size ≤ w1.heap.size + 1; omega) _
        rw [hZ3]
        have qr3 := (hoth3 (w.heap.size + 1) (by omega) (by omega)).trans qr
        have qe3 := (hoth3 (w.heap.size + 2) (by omega) (by omega)).trans qe
        clear hZ3 hoth3
        obtain ⟨Z, hZ⟩ : ∃ Z, ((Z3.setCell ⟨w.heap.size + 1, 0, none⟩ (.slice none 0 0)).setCell ⟨w.heap.size + 1, 1, none⟩ (.slice none 0 0)).setCell ⟨w.heap.size + 1 + 1, 0, none⟩ (.int .i64 e1) = Z := ⟨_, rfl⟩
        have hko : KeepsOthers Z3 Z := by rw [← hZ]; exact ((KeepsOthers.setCell _ _ _).trans (KeepsOthers.setCell _ _ _)).trans (KeepsOthers.setCell _ _ _)
        have hb4 : Below w.heap.size Z3 Z := by rw [← hZ]; exact (((Below.refl _ Z3).setCell (p := ⟨w.heap.size + 1, 0, none⟩) (Nat.le_succ _) _).setCell (p := ⟨w.heap.size + 1, 1, none⟩) (Nat.le_succ _) _).setCell (p := ⟨w.heap.size + 1 + 1, 0, none⟩) (by show w.heap.size ≤ w.heap.size + 1 + 1; omega) _
        have qr' : Z.heap[w.heap.size + 1]? = some (.cells #[.slice none 0 0, .slice none 0 0] 26 (0, 0)) := by rw [← hZ]; exact (set_other _ _ _ _ _ (by omega)).trans (set_block (set_block qr3 0 _) 1 _)
        have qe' : Z.heap[w.heap.size + 2]? = some (.cells #[.int .i64 e1] 29 (0, 0)) := by rw [← hZ]; exact set_block ((set_other _ _ _ _ _ (by omega)).trans ((set_other _ _ _ _ _ (by omega)).trans qe3)) 0 _
        rw [hZ]
        clear hZ
        have hkz : KeepsOthers W Z := (KeepsOthers.trans ⟨hm.below.size, fun k o hk _ => (hm.below.block k (Array.getElem?_eq_some_iff.1 hk).1).trans hk⟩ hko3).trans hko
        have hbf := ((hBz.trans hb3).trans hb4).drew
        exact ⟨⟨hkz.size, hkz.same⟩, ⟨rfl, by rw [hsn]; exact hz1, qr', by rw [hsn]; exact qe'⟩, hbf⟩
  case done =>
    rintro D' xs W hD rfl ⟨⟨hz, ⟨⟨b2, u2, q0, hdv, hdt⟩, qa, qb, qr, qe⟩⟩, hBW⟩ hK
    have hdt2 := hdt (by decide)
    obtain ⟨ab2, cb2, rfl, -, -, -, -⟩ := hdv.1
    obtain ⟨au2, cu2, rfl, -, -, -, -⟩ := hdv.2
    obtain ⟨D, hDD⟩ : ∃ D, (stC t d pp (chL 2)).1 = D := ⟨_, rfl⟩
    rw [hDD] at q0 hdt2
    have c0 := blk_cell q0 0
    have c1 := blk_cell q0 1
    have c4 := blk_cell qr 0
    have c5 := blk_cell qr 1
    have c6 := blk_cell qe 0
    simp at c0 c1 c4 c5 c6
    have f4 := blk_frozen qr 0
    have f5 := blk_frozen qr 1
    have f6 := blk_frozen qe 0
    have hsW := hBW.size
    have HP := Lib.hid (And.intro hz (And.intro hdt2 (And.intro qr (And.intro qe (And.intro (HB3.out.trans hBW) hK)))))
    have HDD := Lib.hid hDD
    clear hz hdv hdt hdt2 q0 qa qb qr qe hBW hK hDD
    gi_wp2
    obtain ⟨hz, hdt2, qr, qe, hBw, hK⟩ := HP.out
    obtain ⟨Z, hZ⟩ : ∃ Z, ((W.setCell ⟨w.heap.size + 1, 0, none⟩ (.slice ab2 D.blocks.length cb2)).setCell ⟨w.heap.size + 1, 1, none⟩ (.slice au2 D.waits.length cu2)).setCell ⟨w.heap.size + 1 + 1, 0, none⟩ (.int .i64 0) = Z := ⟨_, rfl⟩
    have hoth : ∀ k, k ≠ w.heap.size + 1 → k ≠ w.heap.size + 2 → Z.heap[k]? = W.heap[k]? := fun k h1 h2 => by rw [← hZ]; exact (set_other _ _ _ _ k h2).trans ((set_other _ _ _ _ k h1).trans (set_other W _ _ _ k h1))
    have hK2 : Z.heap[D']? = some (.deferred (some [])) := (hoth D' (by omega) (by omega)).trans hK
    have qr' : Z.heap[w.heap.size + 1]? = some (.cells #[.slice ab2 D.blocks.length cb2, .slice au2 D.waits.length cu2] 26 (0, 0)) := by rw [← hZ]; exact (set_other _ _ _ _ _ (by omega)).trans (set_block (set_block qr 0 _) 1 _)
    have qe' : Z.heap[w.heap.size + 2]? = some (.cells #[.int .i64 0] 29 (0, 0)) := by rw [← hZ]; exact set_block ((set_other _ _ _ _ _ (by omega)).trans ((set_other _ _ _ _ _ (by omega)).trans qe)) 0 _
    have hzZ : Z.heap.size = W.heap.size := by rw [← hZ]; simp only [World.size_setCell]
    have hBZ : Below w.heap.size w Z := by rw [← hZ]; exact ((hBw.setCell (p := ⟨w.heap.size + 1, 0, none⟩) (Nat.le_succ _) _).setCell (p := ⟨w.heap.size + 1, 1, none⟩) (Nat.le_succ _) _).setCell (p := ⟨w.heap.size + 1 + 1, 0, none⟩) (by show w.heap.size ≤ w.heap.size + 1 + 1; omega) _
    have hdk := (hdt2.kept (w' := Z) fun b o h1 _ => ⟨heap_cell (hoth b (by omega) (by omega)) o, heap_frozen (hoth b (by omega) (by omega)) o⟩)
    rw [hZ]
    clear hZ
    refine ⟨by simp, .inl ⟨_, _, rfl, run_takeDeferred hK2, ?_⟩⟩
    have hgr := grownBy_putObj' Z D' (.deferred none)
    have hrr : ∀ r, some D' = some r → ∃ o : Obj, Z.heap[r]? = some o ∧ o.isCells = false := fun r e => by cases e; exact ⟨_, hK2, rfl⟩
    have hck := grown_ck hgr hrr
    have qr2 := blk_grown hgr hrr qr'
    have qe2 := blk_grown hgr hrr qe'
    have s0 := blk_cell qr2 0
    have s1 := blk_cell qr2 1
    have s2 := blk_cell qe2 0
    simp at s0 s1 s2
    have hB2 := belowK_b (w := w) (Nat.le_refl _) Z D' (.deferred (some [])) (.deferred none) (by omega) hK2 rfl rfl
    refine ⟨.tuple #[.agg #[.slice ab2 D.blocks.length cb2, .slice au2 D.waits.length cu2], .int .i64 0], by simp [results, Try.results13, go_sem, s0, s1, s2], _, _, by rw [hz], ?_, hBZ.trans hB2⟩
    rw [HE.out.1 hz, HDD.out]
    exact DiskT.more ⟨Sl.ck rBytesT_ck hdk.1 hck, Sl.ck rWriteT_ck hdk.2 hck⟩ (by omega) (by rw [← hzZ]; exact hgr.size)
  case stop =>
    rintro D' c pre W hD hpre ⟨⟨rfl, hne, qr, qe⟩, hBW⟩ hK
    have hee : (stC t d pp (chL 2)).2.2 = (stC t d pp pre).2.2 := by
      rcases hpre with rfl | rfl
      · exact stC_one t d pp hne
      · rfl
    have hox := HE.out.2.1 (by rw [hee]; exact hne)
    obtain ⟨er, her⟩ : ∃ er, (stC t d pp pre).2.2 = er := ⟨_, rfl⟩
    rw [her] at qe hee
    have hgr := grownBy_putObj' W D' (.deferred none)
    have hrr : ∀ r, some D' = some r → ∃ o : Obj, W.heap[r]? = some o ∧ o.isCells = false := fun r e => by cases e; exact ⟨_, hK, rfl⟩
    have qr2 := blk_grown hgr hrr qr
    have qe2 := blk_grown hgr hrr qe
    have s0 := blk_cell qr2 0
    have s1 := blk_cell qr2 1
    have s2 := blk_cell qe2 0
    simp at s0 s1 s2
    have hB2 := belowK_b (w := w) (Nat.le_refl _) W D' (.deferred (some [])) (.deferred none) (by omega) hK rfl rfl
    have HF := Lib.hid (And.intro (HB3.out.trans hBW) (And.intro hB2 (And.intro hK (And.intro hee hox))))
    clear hne hee hox her qr qe hBW hK hgr hrr qr2 qe2 hB2 hpre
    gi_wp2
    refine ⟨by simp, .inl ⟨_, _, rfl, run_takeDeferred HF.out.2.2.1, ?_⟩⟩
    exact ⟨.tuple #[.agg #[.slice none 0 0, .slice none 0 0], .int .i64 er], by simp [results, Try.results13, go_sem, s0, s1, s2], _, _, by rw [HF.out.2.2.2.1], by rw [HF.out.2.2.2.2]; exact MadeD.nil_ (HF.out.1.trans HF.out.2.1)⟩

/-- count.Write. -/
theorem cwrite_any (b u : Value) (d : DiskL) (s : Int) (v : Value) (t : List UInt8) (w : World) (h : DiskV w 0 w.heap.size b u d) (hv : Bytes w 0 w.heap.size v t) :
    Calls Try.prog 13 #[.agg #[b, u], .int .i64 s, v] w fun e w' => ∃ b' u', e = .returned (.tuple #[.agg #[b', u'], .int .i64 (errX d s t)]) ∧ MadeD w w' b' u' (outX d s t) := by
  have hno : errP d s ≠ 0 ∨ mayT t = false → outX d s t = ⟨[], []⟩ := fun hh => by
    have : errX d s t ≠ 0 := by
      unfold errX
      by_cases hz : errP d s = 0
      · rw [if_neg (by simp [hz])]
        rcases hh with h1 | h1
        · exact absurd hz h1
        · rw [h1, if_neg (by decide)]; decide
      · rw [if_pos hz]; exact hz
    unfold outX
    rw [if_neg this]
  by_cases hz : errP d s = 0
  · cases hm : mayT t with
    | true => exact cwrite_yes b u d s v t w h hv hz hm
    | false => exact (cwrite_no b u d s v t w h hv (.inr hm)).mono fun e w' ⟨he, hb⟩ => ⟨_, _, he, by rw [hno (.inr hm)]; exact MadeD.nil_ hb⟩
  · exact (cwrite_no b u d s v t w h hv (.inl hz)).mono fun e w' ⟨he, hb⟩ => ⟨_, _, he, by rw [hno (.inl hz)]; exact MadeD.nil_ hb⟩
end Go.Proofs.Ythealkfpflkipaa

