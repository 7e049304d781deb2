/- RoomDoes: the words and contracts, part 16. -/
import Derived.Test.YtkfgegdnpinbdaaRoomDoesQ1
import Derived.Test.YtkfgegdnpinbdaaRoomDoesQ2
import Derived.Test.YtkfgegdnpinbdaaRoomDoesQ3
import Derived.Test.YtkfgegdnpinbdaaRoomDoesQ4
import Derived.Test.YtkfgegdnpinbdaaRoomDoesQ5
import Derived.Test.YtkfgegdnpinbdaaRoomDoesQ6
import Derived.Test.YtkfgegdnpinbdaaRoomDoesQ7
import Derived.Test.YtkfgegdnpinbdaaRoomDoesQ8
import Derived.Test.YtkfgegdnpinbdaaRoomDoesQ9
import Derived.Test.YtkfgegdnpinbdaaRoomDoesQ10
import Derived.Test.YtkfgegdnpinbdaaRoomDoesQ11
import Derived.Test.YtkfgegdnpinbdaaRoomDoesQ12
import Derived.Test.YtkfgegdnpinbdaaRoomDoesQ13
import Derived.Test.YtkfgegdnpinbdaaRoomDoesQ14
import Derived.Test.YtkfgegdnpinbdaaRoomDoesQ15
import Derived.WalkKit
import Derived.WalkLawsBesides
import Derived.WalkSpells
import Derived.Lib.Hide
import Derived.Laws.Rows
import Derived.Laws.AppendOwnNone
import Derived.Maps.AppendAt
import Derived.RangeFuncNested
import Derived.RangeFuncBound
import Derived.RangeFuncCalls
import Derived.RangeFuncLeaves
import Derived.RangeFuncBox
import Derived.Shelf.Abstract
import Derived.Shelf.RegionOpen
import Derived.OwnWalkIn
import Derived.TacticsInMore
import Derived.LoopNIn
import Derived.LoopIn
import Derived.ProofKit
import Derived.Deep.Slices
import Derived.WideShapes
import Derived.OrdersHeld
import Derived.Deep.QuietTactic
import Derived.BigQuiet
import Derived.StillTailTactics
import Derived.OpenShut
import Derived.Lib.SliceRun
import Derived.Lib.AppendZerosOnto
import Derived.Lib.Walk
import Derived.Deep.LoopGhost
import Derived.Laws.CopyOwn
import Derived.Deep.DeepCutAuto
import Derived.Laws.CopyRow
import Derived.Laws.MakeOwn
import Derived.Deep.RegionHeld
import Derived.KernelRfl
import Derived.BigFrameIn
import Derived.OrdersIn
namespace Go.Proofs.Ytkfgegdnpinbdaa
open Go.RowKit

set_option linter.unusedSimpArgs false
/-- A disk whose data lies in T, or from lo on, below hi. -/
def LG (T : World) (lo hi : Nat) (b u : Value) (d : DiskL) (V : World) : Prop := Lv lo hi (fun W => ∀ X : World, hi ≤ X.heap.size → CKc T X → (∀ k, lo ≤ k → k < hi → X.heap[k]? = W.heap[k]?) → DiskV X 0 X.heap.size b u d) V
theorem LG.of {T w w' : World} {b u : Value} {d : DiskL} (h : GotT T w w' b u d) : LG T w.heap.size w'.heap.size b u d w' :=
  ⟨Nat.le_refl _, fun _ hW X hs hc hk => h.disk X hs hc fun k h1 h2 => (hk k h1 h2).trans (hW k h1 h2)⟩
theorem LG.step {T V V' : World} {lo hi : Nat} {b u : Value} {d : DiskL} (h : LG T lo hi b u d V) (hb : Below V.heap.size V V') : LG T lo hi b u d V' := Lv.step h hb
theorem LG.out {T V V' : World} {lo hi n0 h0 : Nat} {b u : Value} {d : DiskL} (h : LG T lo hi b u d V) (hs : V.heap.size ≤ V'.heap.size) (hf : ∀ x, x < V.heap.size → (x < n0 ∨ h0 ≤ x) → V'.heap[x]? = V.heap[x]?) (hd : hi ≤ n0 ∨ h0 ≤ lo) : LG T lo hi b u d V' := Lv.out h hs hf hd
theorem LG.v {T V : World} {lo hi : Nat} {b u : Value} {d : DiskL} (h : LG T lo hi b u d V) (hc : CKc T V) : DiskV V 0 V.heap.size b u d := (Lv.get h) V (Lv.hi_le h) hc fun _ _ _ => rfl
/-- A store whose data lies in T, or in what was made from w on. -/
structure GotS (T w w' : World) (b u x y : Value) (s : StoreL) : Prop where
  store : ∀ W : World, w'.heap.size ≤ W.heap.size → CKc T W → (∀ k, w.heap.size ≤ k → k < w'.heap.size → W.heap[k]? = w'.heap[k]?) → StoreV W 0 W.heap.size b u x y s
  below : Below w.heap.size w w'
theorem GotS.got {T w w' : World} {b u x y : Value} {s : StoreL} (h : GotS T w w' b u x y s) (hc : CKc T w) : StoreV w' 0 w'.heap.size b u x y s := h.store w' (Nat.le_refl _) (hc.trans (CKc.below h.below)) (fun _ _ _ => rfl)
def LGS (T : World) (lo hi : Nat) (b u x y : Value) (s : StoreL) (V : World) : Prop := Lv lo hi (fun W => ∀ X : World, hi ≤ X.heap.size → CKc T X → (∀ k, lo ≤ k → k < hi → X.heap[k]? = W.heap[k]?) → StoreV X 0 X.heap.size b u x y s) V
theorem LGS.of {T w w' : World} {b u x y : Value} {s : StoreL} (h : GotS T w w' b u x y s) : LGS T w.heap.size w'.heap.size b u x y s w' :=
  ⟨Nat.le_refl _, fun _ hW X hs hc hk => h.store X hs hc fun k h1 h2 => (hk k h1 h2).trans (hW k h1 h2)⟩
theorem LGS.step {T V V' : World} {lo hi : Nat} {b u x y : Value} {s : StoreL} (h : LGS T lo hi b u x y s V) (hb : Below V.heap.size V V') : LGS T lo hi b u x y s V' := Lv.step h hb
theorem LGS.out {T V V' : World} {lo hi n0 h0 : Nat} {b u x y : Value} {s : StoreL} (h : LGS T lo hi b u x y s V) (hs : V.heap.size ≤ V'.heap.size) (hf : ∀ x, x < V.heap.size → (x < n0 ∨ h0 ≤ x) → V'.heap[x]? = V.heap[x]?) (hd : hi ≤ n0 ∨ h0 ≤ lo) : LGS T lo hi b u x y s V' := Lv.out h hs hf hd
theorem LGS.v {T V : World} {lo hi : Nat} {b u x y : Value} {s : StoreL} (h : LGS T lo hi b u x y s V) (hc : CKc T V) : StoreV V 0 V.heap.size b u x y s := (Lv.get h) V (Lv.hi_le h) hc fun _ _ _ => rfl
theorem storeT_at {T w : World} {b u x y : Value} {s : StoreL} (hc : CKc T w) (hs : T.heap.size ≤ w.heap.size) (h : StoreV T 0 T.heap.size b u x y s) : StoreV w 0 w.heap.size b u x y s :=
  ⟨diskT_at hc hs h.1, bytesT_at hc hs h.2.1, bytesT_at hc hs h.2.2⟩
/-- What stays is still there behind a step that turned blocks from w on alone. -/
theorem CKc.fr {T w V : World} (hc : CKc T w) (h : LW w V) : CKc T V := hc.trans (CKc.below h)
/-- A block taken, of a store that may be. -/
def atR (s : StoreL) : Int := match freeS s with
  | [] => -1
  | p :: _ => if 4096 ≤ s.disk.waits.length then -1 else (p : Int)
def tkR (s : StoreL) (b : List UInt8) : StoreL := match freeS s with
  | [] => s
  | p :: _ => if 4096 ≤ s.disk.waits.length then s else ⟨⟨s.disk.blocks, s.disk.waits ++ [⟨(p : Int), b⟩]⟩, s.now.set p 1, s.last⟩
theorem tk_cases (s : StoreL) (b : List UInt8) : (freeS s = [] ∧ atR s = -1 ∧ tkR s b = s) ∨ ∃ p r, freeS s = p :: r ∧ (8 ≤ p ∧ p < 256) ∧ ((4096 ≤ s.disk.waits.length ∧ atR s = -1 ∧ tkR s b = s) ∨
    (s.disk.waits.length < 4096 ∧ atR s = (p : Int) ∧ tkR s b = ⟨⟨s.disk.blocks, s.disk.waits ++ [⟨(p : Int), b⟩]⟩, s.now.set p 1, s.last⟩)) := by
  unfold atR tkR
  rcases hf : freeS s with _ | ⟨p, r⟩
  · exact .inl ⟨rfl, rfl, rfl⟩
  · have hp : p ∈ freeN s 256 := by show p ∈ freeS s; rw [hf]; exact List.mem_cons_self
    obtain ⟨h1, h2⟩ := freeN_mem.1 hp
    refine .inr ⟨p, r, rfl, ⟨(noneAt_iff.1 h2).1, h1⟩, ?_⟩
    dsimp only
    by_cases h : 4096 ≤ s.disk.waits.length
    · rw [if_pos h, if_pos h]; exact .inl ⟨h, rfl, rfl⟩
    · rw [if_neg h, if_neg h]; exact .inr ⟨by omega, rfl, rfl⟩
/-- The program's words for the same. -/
theorem tk_is {s : StoreL} {b : List UInt8} (hm : mayS s = true) (hl : b.length = 128) : (atR s < 0 ∧ errTk s b = 9 ∧ atTk s b = 0 ∧ takeS s b = noS) ∨ (0 ≤ atR s ∧ errTk s b = 0 ∧ atTk s b = atR s ∧ takeS s b = tkR s b) := by
  have hz : ∀ e : Int, e ≠ 0 → errTk s b = e → atTk s b = 0 ∧ takeS s b = noS := fun e h1 h2 => by unfold atTk takeS; rw [h2, if_neg h1, if_neg h1]; exact ⟨rfl, rfl⟩
  have he0 : freeS s = [] → errTk s b = 9 := fun h => by unfold errTk; rw [hm, if_pos rfl, if_pos hl, h]
  have he1 : ∀ p r, freeS s = p :: r → errTk s b = errW s.disk p b := fun p r h => by unfold errTk; rw [hm, if_pos rfl, if_pos hl, h]
  have hmd := (mayS_iff.1 hm).1
  rcases tk_cases s b with ⟨h1, h2, -⟩ | ⟨p, r, h1, h2, ⟨h3, h4, -⟩ | ⟨h3, h4, h5⟩⟩
  · have he := he0 h1
    exact .inl ⟨by rw [h2]; decide, he, hz 9 (by decide) he⟩
  · have he := he1 p r h1
    have h9 : errW s.disk p b = 9 := by
      have hw := (may_len hmd).2.1
      have ha : errA s.disk (p : Int) = 0 := by rw [errA_may _ hmd, if_neg (by omega)]
      unfold errW
      rw [ha, if_neg (by simp), if_neg (by simpa using hl), if_pos (by omega)]
    rw [h9] at he
    exact .inl ⟨by rw [h4]; decide, he, hz 9 (by decide) he⟩
  · have he := he1 p r h1
    have h9 : errW s.disk p b = 0 := by
      have ha : errA s.disk (p : Int) = 0 := by rw [errA_may _ hmd, if_neg (by omega)]
      unfold errW
      rw [ha, if_neg (by simp), if_neg (by simpa using hl), if_neg (by omega)]
    rw [h9] at he
    have hh : headS s = p := by unfold headS; rw [h1]; rfl
    refine .inr ⟨by omega, he, ?_, ?_⟩
    · unfold atTk
      rw [if_pos he, hh, h4]
    · unfold takeS
      rw [if_pos he, hh, h5]
      unfold writeD
      rw [if_pos h9]
set_option maxRecDepth 100000 in
set_option maxHeartbeats 2000000 in
theorem rstaken_T (b_s u_s x_s y_s : Value) (s : StoreL) (v_b : Value) (b : List UInt8) (w T : World) (hck : CKc T w) (hsT : T.heap.size ≤ w.heap.size) (hT_s : StoreV T 0 T.heap.size b_s u_s x_s y_s s) (hT_b : Bytes T 0 T.heap.size v_b b) (hm : mayS s = true) :
    Calls Try.prog 41 #[.agg #[b_s, u_s, x_s, y_s], v_b] w fun e w' => ∃ b' u' x' y', e = .returned (.tuple #[.agg #[b', u', x', y'], .int .i64 (atR s)]) ∧ GotS T w w' b' u' x' y' (tkR s b) := by
  have h_s := storeT_at hck hsT hT_s
  have h_b := bytesT_at hck hsT hT_b
  have HT := Lib.hid (And.intro hck (And.intro hsT (And.intro hT_s hT_b)))
  clear hck hsT hT_s hT_b
  obtain ⟨ab_s, cb_s, rfl, gb_s, gc_s, -, -⟩ := h_s.1.1
  obtain ⟨au_s, cu_s, rfl, gu_s, gv_s, -, -⟩ := h_s.1.2
  obtain ⟨ax_s, cx_s, rfl, gx_s, gz_s⟩ := h_s.2.1.form rfl
  obtain ⟨ay_s, cy_s, rfl, gy_s, gw_s⟩ := h_s.2.2.form rfl
  unfold maxLen at gc_s gv_s gz_s gw_s
  obtain ⟨a_b, c_b, rfl, g_b, gm_b⟩ := h_b.form rfl
  unfold maxLen at gm_b
  have hst := (((Below.refl w.heap.size w).alloc (Nat.le_refl _) (.cells #[.slice ab_s s.disk.blocks.length cb_s, .slice au_s s.disk.waits.length cu_s, .slice ax_s s.now.length cx_s, .slice ay_s s.last.length cy_s] 28)).alloc (by simp) (.cells #[.slice none 0 0, .slice none 0 0, .slice none 0 0, .slice none 0 0] 28))
  have hq := two_new w (.cells #[.slice ab_s s.disk.blocks.length cb_s, .slice au_s s.disk.waits.length cu_s, .slice ax_s s.now.length cx_s, .slice ay_s s.last.length cy_s] 28) (.cells #[.slice none 0 0, .slice none 0 0, .slice none 0 0, .slice none 0 0] 28)
  have q_s := LK.of hq.1
  have q_r := LK.of hq.2
  have hB : LW w _ := hst
  have O_s := (LO.of h_s (Nat.le_refl _)).step hst
  have B_b := (LB.of h_b (Nat.le_refl _)).step hst
  have sz_V : w.heap.size + 1 < ((w.alloc (.cells #[.slice ab_s s.disk.blocks.length cb_s, .slice au_s s.disk.waits.length cu_s, .slice ax_s s.now.length cx_s, .slice ay_s s.last.length cy_s] 28)).alloc (.cells #[.slice none 0 0, .slice none 0 0, .slice none 0 0, .slice none 0 0] 28)).heap.size := by simp
  obtain ⟨V, hV⟩ : ∃ V, ((w.alloc (.cells #[.slice ab_s s.disk.blocks.length cb_s, .slice au_s s.disk.waits.length cu_s, .slice ax_s s.now.length cx_s, .slice ay_s s.last.length cy_s] 28)).alloc (.cells #[.slice none 0 0, .slice none 0 0, .slice none 0 0, .slice none 0 0] 28)) = V := ⟨_, rfl⟩
  rw [hV] at sz_V q_s q_r O_s B_b hB
  clear hst h_s h_b hq
  have HQ := Lib.hid (And.intro q_s (And.intro q_r (And.intro O_s (And.intro B_b hB))))
  clear q_s q_r O_s B_b hB
  have c_q_s0 := LK.cell HQ.out.1 0
  have c_q_s1 := LK.cell HQ.out.1 1
  have c_q_s2 := LK.cell HQ.out.1 2
  have c_q_s3 := LK.cell HQ.out.1 3
  have c_q_r0 := LK.cell HQ.out.2.1 0
  have c_q_r1 := LK.cell HQ.out.2.1 1
  have c_q_r2 := LK.cell HQ.out.2.1 2
  have c_q_r3 := LK.cell HQ.out.2.1 3
  simp at c_q_s0 c_q_s1 c_q_s2 c_q_s3 c_q_r0 c_q_r1 c_q_r2 c_q_r3
  have hE := tk_cases s b
  have hmd := (mayS_iff.1 hm).1
  have hwl := (may_len hmd).2.1
  have h256 := mayT_len (mayS_iff.1 hm).2.1
  have k_a := fun V b u x y hh => rsall_any b u x y s V hh hm
  generalize atR s = ta at *
  generalize tkR s b = ts at *
  generalize freeS s = fs at *
  have HE := Lib.hid (And.intro hE (And.intro hwl h256))
  clear hE hmd hwl h256 hm
  have HC := Lib.hid (k_a)
  clear k_a
  go_enter Try.func41, Try.ntmps41
  go_upto_region 1 with (fail)
  clear hV
  go_wp2_with fail
  refine (HC.out _ _ _ _ _ HQ.out.2.2.1.v).mono ?_
  rintro e w1 ⟨vl, rfl, hsl, hst⟩
  clear c_q_s0 c_q_s1 c_q_s2 c_q_s3 c_q_r0 c_q_r1 c_q_r2 c_q_r3
  obtain ⟨q_s, q_r, O_s, B_b, hB⟩ := HQ.out
  clear HQ
  have S_l := LS.of hsl (Nat.le_refl _)
  obtain ⟨al, cl, rfl, -, -, -, -⟩ := id hsl
  clear hsl
  have sz_w1 : V.heap.size ≤ w1.heap.size := hst.size
  replace q_s := q_s.step hst
  replace q_r := q_r.step hst
  replace O_s := O_s.step hst
  replace B_b := B_b.step hst
  replace hB := hB.step hst
  clear hst
  have HQ := Lib.hid (And.intro q_s (And.intro q_r (And.intro O_s (And.intro B_b (And.intro S_l hB)))))
  clear q_s q_r O_s B_b S_l hB
  have c_q_s0 := LK.cell HQ.out.1 0
  have c_q_s1 := LK.cell HQ.out.1 1
  have c_q_s2 := LK.cell HQ.out.1 2
  have c_q_s3 := LK.cell HQ.out.1 3
  have c_q_r0 := LK.cell HQ.out.2.1 0
  have c_q_r1 := LK.cell HQ.out.2.1 1
  have c_q_r2 := LK.cell HQ.out.2.1 2
  have c_q_r3 := LK.cell HQ.out.2.1 3
  simp at c_q_s0 c_q_s1 c_q_s2 c_q_s3 c_q_r0 c_q_r1 c_q_r2 c_q_r3
  rcases HE.out.1 with ⟨rfl, rfl, hts⟩ | ⟨p, r, rfl, ⟨p8, p9⟩, hE2⟩
  · skip
    clear c_q_s0 c_q_s1 c_q_s2 c_q_s3 c_q_r0 c_q_r1 c_q_r2 c_q_r3
    have c_q_s0 := LK.cell HQ.out.1 0
    have c_q_s1 := LK.cell HQ.out.1 1
    have c_q_s2 := LK.cell HQ.out.1 2
    have c_q_s3 := LK.cell HQ.out.1 3
    have c_q_r0 := LK.cell HQ.out.2.1 0
    have c_q_r1 := LK.cell HQ.out.2.1 1
    have c_q_r2 := LK.cell HQ.out.2.1 2
    have c_q_r3 := LK.cell HQ.out.2.1 3
    have z_q_r0 := LK.frozen HQ.out.2.1 0
    have z_q_r1 := LK.frozen HQ.out.2.1 1
    have z_q_r2 := LK.frozen HQ.out.2.1 2
    have z_q_r3 := LK.frozen HQ.out.2.1 3
    simp at c_q_s0 c_q_s1 c_q_s2 c_q_s3 c_q_r0 c_q_r1 c_q_r2 c_q_r3
    have HTS := Lib.hid hts
    clear hts
    have hBf := HQ.out.2.2.2.2.2
    have szr := LK.lt HQ.out.2.1
    go_wp2
    refine bodyPost_ret (v := .tuple #[.agg #[.slice ab_s s.disk.blocks.length cb_s, .slice au_s s.disk.waits.length cu_s, .slice ax_s s.now.length cx_s, .slice ay_s s.last.length cy_s], .int .i64 (-1)]) (by simp [results, Try.results41, go_sem, c_q_r0, c_q_r1, c_q_r2, c_q_r3]) rfl ⟨_, _, _, _, rfl, ?_⟩
    rw [HTS.out]
    refine ⟨fun X hs hc _ => storeT_at hc (Nat.le_trans HT.out.2.1 (Nat.le_trans (Nat.le_of_lt (by omega : w.heap.size < w1.heap.size)) (Nat.le_trans (Nat.le_of_eq (by simp only [World.size_setCell])) hs))) HT.out.2.2.1, ?_⟩
    exact Below.trans hBf (below_four w1 _ _ _ _ (Nat.le_succ _))
  have il : (intsOf (p :: r)).length = r.length + 1 := by simp [intsOf]
  skip
  obtain ⟨n1, hn1⟩ : ∃ n, (intsOf (p :: r)).length = n := ⟨_, rfl⟩
  have hn0 : ¬ (n1 : Int) = 0 := by omega
  have hn2 : ¬ (n1 : Int) ≤ 0 := by omega
  have hn3 : (0 : Int) < n1 := by omega
  rcases hE2 with ⟨hw, rfl, hts⟩ | ⟨hw, rfl, hts⟩
  · have iw : decide ((4096 : Int) ≤ (s.disk.waits.length : Int)) = true := by simp; omega
    rw [hn1]
    clear c_q_s0 c_q_s1 c_q_s2 c_q_s3 c_q_r0 c_q_r1 c_q_r2 c_q_r3
    have c_q_s0 := LK.cell HQ.out.1 0
    have c_q_s1 := LK.cell HQ.out.1 1
    have c_q_s2 := LK.cell HQ.out.1 2
    have c_q_s3 := LK.cell HQ.out.1 3
    have c_q_r0 := LK.cell HQ.out.2.1 0
    have c_q_r1 := LK.cell HQ.out.2.1 1
    have c_q_r2 := LK.cell HQ.out.2.1 2
    have c_q_r3 := LK.cell HQ.out.2.1 3
    have z_q_r0 := LK.frozen HQ.out.2.1 0
    have z_q_r1 := LK.frozen HQ.out.2.1 1
    have z_q_r2 := LK.frozen HQ.out.2.1 2
    have z_q_r3 := LK.frozen HQ.out.2.1 3
    simp at c_q_s0 c_q_s1 c_q_s2 c_q_s3 c_q_r0 c_q_r1 c_q_r2 c_q_r3
    have HTS := Lib.hid hts
    clear hts
    have hBf := HQ.out.2.2.2.2.2
    have szr := LK.lt HQ.out.2.1
    go_wp2
    refine bodyPost_ret (v := .tuple #[.agg #[.slice ab_s s.disk.blocks.length cb_s, .slice au_s s.disk.waits.length cu_s, .slice ax_s s.now.length cx_s, .slice ay_s s.last.length cy_s], .int .i64 (-1)]) (by simp [results, Try.results41, go_sem, c_q_r0, c_q_r1, c_q_r2, c_q_r3]) rfl ⟨_, _, _, _, rfl, ?_⟩
    rw [HTS.out]
    refine ⟨fun X hs hc _ => storeT_at hc (Nat.le_trans HT.out.2.1 (Nat.le_trans (Nat.le_of_lt (by omega : w.heap.size < w1.heap.size)) (Nat.le_trans (Nat.le_of_eq (by simp only [World.size_setCell])) hs))) HT.out.2.2.1, ?_⟩
    exact Below.trans hBf (below_four w1 _ _ _ _ (Nat.le_succ _))
  have HTS := Lib.hid hts
  clear hts
  have iw : decide ((4096 : Int) ≤ (s.disk.waits.length : Int)) = false := by simp; omega
  obtain ⟨a0, c0, e0, -, zc0, zc, -⟩ := id (Lv.get HQ.out.2.2.2.2.1)
  injection e0 with e0 e1 e2
  subst e0 e2
  clear e1
  obtain ⟨bl, ol, rfl, hbl, hbu, hcl⟩ := zc (by rw [il]; omega)
  have cp := (hcl 0 (p : Int) (by simp [intsOf])).1
  simp at cp
  unfold maxLen at zc0
  have HP := Lib.hid (And.intro hbl (And.intro hbu hw))
  clear hcl zc hw hbl hbu
  have S_c : Lv V.heap.size w1.heap.size (fun W => W.cell? ⟨bl, ol, none⟩ = some (.int .i64 (p : Int))) w1 := Lv.imp HQ.out.2.2.2.2.1 fun W hW => by
    obtain ⟨a1, c1, e1, -, -, zc, -⟩ := hW
    injection e1 with e1 e2 e3
    subst e1
    obtain ⟨b1, o1, e2, -, -, hcl⟩ := zc (by rw [il]; omega)
    injection e2 with e2
    injection e2 with e2 e3
    subst e2 e3
    have := (hcl 0 (p : Int) (by simp [intsOf])).1
    simpa using this
  rw [hn1]
  clear il cp
  obtain ⟨q_s, q_r, O_s, B_b, S_l, hB⟩ := HQ.out
  clear HQ
  clear S_l
  have HQ := Lib.hid (And.intro q_s (And.intro q_r (And.intro O_s (And.intro B_b (And.intro S_c hB)))))
  clear q_s q_r O_s B_b S_c hB
  clear c_q_s0 c_q_s1 c_q_s2 c_q_s3 c_q_r0 c_q_r1 c_q_r2 c_q_r3
  have c_q_s0 := LK.cell HQ.out.1 0
  have c_q_s1 := LK.cell HQ.out.1 1
  have c_q_s2 := LK.cell HQ.out.1 2
  have c_q_s3 := LK.cell HQ.out.1 3
  have c_q_r0 := LK.cell HQ.out.2.1 0
  have c_q_r1 := LK.cell HQ.out.2.1 1
  have c_q_r2 := LK.cell HQ.out.2.1 2
  have c_q_r3 := LK.cell HQ.out.2.1 3
  simp at c_q_s0 c_q_s1 c_q_s2 c_q_s3 c_q_r0 c_q_r1 c_q_r2 c_q_r3
  have wfp : (Lit.int .i64 (p : Int)).wf = true := WalkArith.wf_i64 (by omega)
  have ip0 : ¬ (p : Int) < 0 := by omega
  go_upto_region 4 with (fail)
  clear c_q_s0 c_q_s1 c_q_s2 c_q_s3 c_q_r0 c_q_r1 c_q_r2 c_q_r3
  obtain ⟨Pr, hPr⟩ : ∃ Pr : World → Prop, ∀ X, Pr X ↔ Below w1.heap.size w1 X := ⟨_, fun _ => Iff.rfl⟩
  have hp0 : Pr w1.drew := (hPr _).2 (Below.refl _ w1).drew
  have x0 := fun X => LK.cell (HQ.out.1.step ((hPr _).1 (selW_pr hp0 X))) 0
  have x1 := fun X => LK.cell (HQ.out.1.step ((hPr _).1 (selW_pr hp0 X))) 1
  have x2 := fun X => LK.cell (HQ.out.1.step ((hPr _).1 (selW_pr hp0 X))) 2
  have x3 := fun X => LK.cell (HQ.out.1.step ((hPr _).1 (selW_pr hp0 X))) 3
  simp at x0 x1 x2 x3
  have xc := fun X => Lv.get (Lv.step HQ.out.2.2.2.2.1 ((hPr _).1 (selW_pr hp0 X)))
  refine wp_region_L (S := Kl Pr w1.drew) 8 (by kernel_rfl) (Kl.of hp0) (fun hCl => ?_)
  refine wpAnyL_seg (fuel := 3) (by kernel_rfl) (fun _ d _ _ _ h => by cases d <;> exact h) hCl [0, 1, 2, 3, 4, 5] _ _ _ (by kernel_rfl) (by kernel_rfl) (by kernel_rfl) (by kernel_rfl) ?_
  simp only [opsOf_cons, opsOf_nil, consOp_some, List.getElem?_toArray, List.getElem?_cons_succ, List.getElem?_cons_zero]
  repeat (first | go_big_quiet_step (fail) | quiet_step (fail))
  refine wpQuiet_nil ?_
  refine wpAnyL_each (fuel := 2) [6] (by kernel_rfl) (by simp) (by kernel_rfl) ?_
  refine EachL.cons _ rfl (fun K' hK => ?_) EachL.nil
  go_simp
  refine (rwithT _ _ s.disk (p : Int) _ b _ T (CKc.fr HT.out.1 (LW.step HQ.out.2.2.2.2.2 (Below.refl _ w1).drew)) (Nat.le_trans HT.out.2.1 (by show w.heap.size ≤ w1.heap.size; omega)) HT.out.2.2.1.1 HT.out.2.2.2 wfp (by have := HP.out.2.2; omega)).mono ?_
  rintro e z4 ⟨b1, u1, rfl, hg⟩
  have hdv := (hg.got (CKc.fr HT.out.1 (LW.step HQ.out.2.2.2.2.2 (Below.refl _ w1).drew))).disk
  obtain ⟨ab_n, cb_n, rfl, -, -, -, -⟩ := id hdv.1
  obtain ⟨au_n, cu_n, rfl, -, -, -, -⟩ := id hdv.2
  clear hdv
  have hst4 : Below w1.heap.size w1 z4 := (Below.refl _ w1).drew.trans hg.below
  have hst := (hPr _).2 hst4
  have HG := Lib.hid (And.intro hg hst4)
  clear hg hst4
  have hCl : Kl Pr w1.drew _ := Kl.of hst
  refine hK.out (.inr hCl) ?_
  clear hK K'
  refine wpAnyL_seg (fuel := 1) (by kernel_rfl) (fun _ d _ _ _ h => by cases d <;> exact h) hCl [7] _ _ _ (by kernel_rfl) (by kernel_rfl) (by kernel_rfl) (by kernel_rfl) ?_
  simp only [opsOf_cons, opsOf_nil, consOp_some, List.getElem?_toArray, List.getElem?_cons_succ, List.getElem?_cons_zero]
  repeat (first | go_big_quiet_step (fail) | quiet_step (fail))
  refine wpQuiet_nil ?_
  refine wpAnyL_each (fuel := 0) [8] (by kernel_rfl) (by simp) (by kernel_rfl) ?_
  refine EachL.cons _ rfl (fun K' hK => ?_) EachL.nil
  have r0 := LK.cell (HQ.out.1.step HG.out.2) 0
  have r1 := LK.cell (HQ.out.1.step HG.out.2) 1
  have r2 := LK.cell (HQ.out.1.step HG.out.2) 2
  have r3 := LK.cell (HQ.out.1.step HG.out.2) 3
  simp at r0 r1 r2 r3
  have s0 := LK.frozen (HQ.out.1.step HG.out.2) 0
  have s1 := LK.frozen (HQ.out.1.step HG.out.2) 1
  have s2 := LK.frozen (HQ.out.1.step HG.out.2) 2
  have s3 := LK.frozen (HQ.out.1.step HG.out.2) 3
  go_simp
  refine hK.out (.inl rfl) ?_
  clear hK K'
  refine wpAnyL_done (by kernel_rfl) ?_ _
  clear x0 x1 x2 x3 xc r0 r1 r2 r3 s0 s1 s2 s3
  obtain ⟨q_s, q_r, O_s, B_b, S_c, hB⟩ := HQ.out
  clear HQ
  have D_n := LG.of HG.out.1
  change LG T w1.heap.size _ _ _ _ _ at D_n
  have hwd : (s.disk.waits ++ [(⟨(p : Int), b⟩ : WrL)]).length = s.disk.waits.length + 1 := by simp
  simp only [List.length_append, List.length_cons, List.length_nil, Nat.zero_add] at D_n
  have hst := HG.out.2
  have sz_z4 : w1.heap.size ≤ z4.heap.size := hst.size
  replace q_s := q_s.step hst
  replace q_r := q_r.step hst
  replace O_s := O_s.step hst
  replace B_b := B_b.step hst
  replace S_c := S_c.step hst
  replace hB := hB.step hst
  clear hst hCl
  have HQ := Lib.hid (And.intro q_s (And.intro q_r (And.intro O_s (And.intro B_b (And.intro S_c (And.intro D_n hB))))))
  clear q_s q_r O_s B_b S_c D_n hB
  obtain ⟨q_s, q_r, O_s, B_b, S_c, D_n, hB⟩ := HQ.out
  clear HQ
  have hcb := LK.blk q_s
  have hF : LK (w.heap.size) (.cells #[.slice ab_n s.disk.blocks.length cb_n, .slice au_n (s.disk.waits.length + 1) cu_n, .slice ax_s s.now.length cx_s, .slice ay_s s.last.length cy_s] 28) ((z4.setCell ⟨w.heap.size, 0, none⟩ (.slice ab_n s.disk.blocks.length cb_n)).setCell ⟨w.heap.size, 1, none⟩ (.slice au_n (s.disk.waits.length + 1) cu_n)) := LK.of (set_block (set_block hcb 0 _) 1 _)
  have hbel : Below (w.heap.size) z4 ((z4.setCell ⟨w.heap.size, 0, none⟩ (.slice ab_n s.disk.blocks.length cb_n)).setCell ⟨w.heap.size, 1, none⟩ (.slice au_n (s.disk.waits.length + 1) cu_n)) := ((Below.refl _ z4).setCell (p := ⟨w.heap.size, 0, none⟩) (Nat.le_refl _) _).setCell (p := ⟨w.heap.size, 1, none⟩) (Nat.le_refl _) _
  have hfr : ∀ x, x < z4.heap.size → (x < w.heap.size ∨ w.heap.size + 1 ≤ x) → ((z4.setCell ⟨w.heap.size, 0, none⟩ (.slice ab_n s.disk.blocks.length cb_n)).setCell ⟨w.heap.size, 1, none⟩ (.slice au_n (s.disk.waits.length + 1) cu_n)).heap[x]? = z4.heap[x]? := fun x _ h => (set_other _ _ _ _ _ (by omega)).trans ((set_other _ _ _ _ _ (by omega)))
  have hs4 : ((z4.setCell ⟨w.heap.size, 0, none⟩ (.slice ab_n s.disk.blocks.length cb_n)).setCell ⟨w.heap.size, 1, none⟩ (.slice au_n (s.disk.waits.length + 1) cu_n)).heap.size = z4.heap.size := by simp only [World.size_setCell]
  replace q_r := q_r.out (Nat.le_of_eq hs4.symm) hfr (by omega)
  replace O_s := O_s.out (Nat.le_of_eq hs4.symm) hfr (by omega)
  replace B_b := B_b.out (Nat.le_of_eq hs4.symm) hfr (by omega)
  replace S_c := S_c.out (Nat.le_of_eq hs4.symm) hfr (by omega)
  replace D_n := D_n.out (Nat.le_of_eq hs4.symm) hfr (by omega)
  replace hB := hB.outB hbel (by omega)
  replace q_s := hF
  obtain ⟨w2, hw⟩ : ∃ v, ((z4.setCell ⟨w.heap.size, 0, none⟩ (.slice ab_n s.disk.blocks.length cb_n)).setCell ⟨w.heap.size, 1, none⟩ (.slice au_n (s.disk.waits.length + 1) cu_n)) = v := ⟨_, rfl⟩
  rw [hw] at hs4 q_s q_r O_s B_b S_c D_n hB ⊢
  have sz_w2 := Nat.le_of_eq hs4
  have sy_w2 := Nat.le_of_eq hs4.symm
  clear hw hF hbel hfr hcb hs4
  have HQ := Lib.hid (And.intro q_s (And.intro q_r (And.intro O_s (And.intro B_b (And.intro S_c (And.intro D_n hB))))))
  clear q_s q_r O_s B_b S_c D_n hB
  have c_q_s0 := LK.cell HQ.out.1 0
  have c_q_s1 := LK.cell HQ.out.1 1
  have c_q_s2 := LK.cell HQ.out.1 2
  have c_q_s3 := LK.cell HQ.out.1 3
  have c_q_r0 := LK.cell HQ.out.2.1 0
  have c_q_r1 := LK.cell HQ.out.2.1 1
  have c_q_r2 := LK.cell HQ.out.2.1 2
  have c_q_r3 := LK.cell HQ.out.2.1 3
  simp at c_q_s0 c_q_s1 c_q_s2 c_q_s3 c_q_r0 c_q_r1 c_q_r2 c_q_r3
  go_upto_region 5 with (fail)
  clear c_q_s0 c_q_s1 c_q_s2 c_q_s3 c_q_r0 c_q_r1 c_q_r2 c_q_r3
  obtain ⟨Pr, hPr⟩ : ∃ Pr : World → Prop, ∀ X, Pr X ↔ Below w2.heap.size w2 X := ⟨_, fun _ => Iff.rfl⟩
  have hp0 : Pr w2.drew := (hPr _).2 (Below.refl _ w2).drew
  have x0 := fun X => LK.cell (HQ.out.1.step ((hPr _).1 (selW_pr hp0 X))) 0
  have x1 := fun X => LK.cell (HQ.out.1.step ((hPr _).1 (selW_pr hp0 X))) 1
  have x2 := fun X => LK.cell (HQ.out.1.step ((hPr _).1 (selW_pr hp0 X))) 2
  have x3 := fun X => LK.cell (HQ.out.1.step ((hPr _).1 (selW_pr hp0 X))) 3
  simp at x0 x1 x2 x3
  have xc := fun X => Lv.get (Lv.step HQ.out.2.2.2.2.1 ((hPr _).1 (selW_pr hp0 X)))
  refine wp_region_L (S := Kl Pr w2.drew) 7 (by kernel_rfl) (Kl.of hp0) (fun hCl => ?_)
  refine wpAnyL_seg (fuel := 3) (by kernel_rfl) (fun _ d _ _ _ h => by cases d <;> exact h) hCl [0, 1, 2, 3, 4] _ _ _ (by kernel_rfl) (by kernel_rfl) (by kernel_rfl) (by kernel_rfl) ?_
  simp only [opsOf_cons, opsOf_nil, consOp_some, List.getElem?_toArray, List.getElem?_cons_succ, List.getElem?_cons_zero]
  repeat (first | go_big_quiet_step (fail) | quiet_step (fail))
  refine wpQuiet_nil ?_
  refine wpAnyL_each (fuel := 2) [5] (by kernel_rfl) (by simp) (by kernel_rfl) ?_
  refine EachL.cons _ rfl (fun K' hK => ?_) EachL.nil
  go_simp
  refine (rwitht_any _ s.now p 1 _ (HQ.out.2.2.1.step (Below.refl _ w2).drew).n HE.out.2.2 p9).mono ?_
  rintro e z5 ⟨u1, rfl, hg⟩
  obtain ⟨ax_n, cx_n, rfl, -, -⟩ := hg.bytes.form rfl
  have hst4 : Below w2.heap.size w2 z5 := (Below.refl _ w2).drew.trans hg.below
  have hst := (hPr _).2 hst4
  have HG := Lib.hid (And.intro hg hst4)
  clear hg hst4
  have hCl : Kl Pr w2.drew _ := Kl.of hst
  refine hK.out (.inr hCl) ?_
  clear hK K'
  refine wpAnyL_seg (fuel := 1) (by kernel_rfl) (fun _ d _ _ _ h => by cases d <;> exact h) hCl [6] _ _ _ (by kernel_rfl) (by kernel_rfl) (by kernel_rfl) (by kernel_rfl) ?_
  simp only [opsOf_cons, opsOf_nil, consOp_some, List.getElem?_toArray, List.getElem?_cons_succ, List.getElem?_cons_zero]
  repeat (first | go_big_quiet_step (fail) | quiet_step (fail))
  refine wpQuiet_nil ?_
  refine wpAnyL_each (fuel := 0) [7] (by kernel_rfl) (by simp) (by kernel_rfl) ?_
  refine EachL.cons _ rfl (fun K' hK => ?_) EachL.nil
  have r0 := LK.cell (HQ.out.1.step HG.out.2) 0
  have r1 := LK.cell (HQ.out.1.step HG.out.2) 1
  have r2 := LK.cell (HQ.out.1.step HG.out.2) 2
  have r3 := LK.cell (HQ.out.1.step HG.out.2) 3
  simp at r0 r1 r2 r3
  have s0 := LK.frozen (HQ.out.1.step HG.out.2) 0
  have s1 := LK.frozen (HQ.out.1.step HG.out.2) 1
  have s2 := LK.frozen (HQ.out.1.step HG.out.2) 2
  have s3 := LK.frozen (HQ.out.1.step HG.out.2) 3
  go_simp
  refine hK.out (.inl rfl) ?_
  clear hK K'
  refine wpAnyL_done (by kernel_rfl) ?_ _
  clear x0 x1 x2 x3 xc r0 r1 r2 r3 s0 s1 s2 s3
  obtain ⟨q_s, q_r, O_s, B_b, S_c, D_n, hB⟩ := HQ.out
  clear HQ
  have B_n := LM.of HG.out.1
  change LM w2.heap.size _ _ _ _ at B_n
  simp only [List.length_set] at B_n
  have hst := HG.out.2
  have sz_z5 : w2.heap.size ≤ z5.heap.size := hst.size
  replace q_s := q_s.step hst
  replace q_r := q_r.step hst
  replace O_s := O_s.step hst
  replace B_b := B_b.step hst
  replace S_c := S_c.step hst
  replace D_n := D_n.step hst
  replace hB := hB.step hst
  clear hst hCl
  have HQ := Lib.hid (And.intro q_s (And.intro q_r (And.intro O_s (And.intro B_b (And.intro S_c (And.intro D_n (And.intro B_n hB)))))))
  clear q_s q_r O_s B_b S_c D_n B_n hB
  obtain ⟨q_s, q_r, O_s, B_b, S_c, D_n, B_n, hB⟩ := HQ.out
  clear HQ
  have hcb := LK.blk q_s
  have hF : LK (w.heap.size) (.cells #[.slice ab_n s.disk.blocks.length cb_n, .slice au_n (s.disk.waits.length + 1) cu_n, .slice ax_n s.now.length cx_n, .slice ay_s s.last.length cy_s] 28) (z5.setCell ⟨w.heap.size, 2, none⟩ (.slice ax_n s.now.length cx_n)) := LK.of (set_block hcb 2 _)
  have hbel : Below (w.heap.size) z5 (z5.setCell ⟨w.heap.size, 2, none⟩ (.slice ax_n s.now.length cx_n)) := (Below.refl _ z5).setCell (p := ⟨w.heap.size, 2, none⟩) (Nat.le_refl _) _
  have hfr : ∀ x, x < z5.heap.size → (x < w.heap.size ∨ w.heap.size + 1 ≤ x) → (z5.setCell ⟨w.heap.size, 2, none⟩ (.slice ax_n s.now.length cx_n)).heap[x]? = z5.heap[x]? := fun x _ h => (set_other _ _ _ _ _ (by omega))
  have hs4 : (z5.setCell ⟨w.heap.size, 2, none⟩ (.slice ax_n s.now.length cx_n)).heap.size = z5.heap.size := by simp only [World.size_setCell]
  replace q_r := q_r.out (Nat.le_of_eq hs4.symm) hfr (by omega)
  replace O_s := O_s.out (Nat.le_of_eq hs4.symm) hfr (by omega)
  replace B_b := B_b.out (Nat.le_of_eq hs4.symm) hfr (by omega)
  replace S_c := S_c.out (Nat.le_of_eq hs4.symm) hfr (by omega)
  replace D_n := D_n.out (Nat.le_of_eq hs4.symm) hfr (by omega)
  replace B_n := B_n.out (Nat.le_of_eq hs4.symm) hfr (by omega)
  replace hB := hB.outB hbel (by omega)
  replace q_s := hF
  obtain ⟨w3, hw⟩ : ∃ v, (z5.setCell ⟨w.heap.size, 2, none⟩ (.slice ax_n s.now.length cx_n)) = v := ⟨_, rfl⟩
  rw [hw] at hs4 q_s q_r O_s B_b S_c D_n B_n hB ⊢
  have sz_w3 := Nat.le_of_eq hs4
  have sy_w3 := Nat.le_of_eq hs4.symm
  clear hw hF hbel hfr hcb hs4
  have HQ := Lib.hid (And.intro q_s (And.intro q_r (And.intro O_s (And.intro B_b (And.intro S_c (And.intro D_n (And.intro B_n hB)))))))
  clear q_s q_r O_s B_b S_c D_n B_n hB
  have c_q_s0 := LK.cell HQ.out.1 0
  have c_q_s1 := LK.cell HQ.out.1 1
  have c_q_s2 := LK.cell HQ.out.1 2
  have c_q_s3 := LK.cell HQ.out.1 3
  have c_q_r0 := LK.cell HQ.out.2.1 0
  have c_q_r1 := LK.cell HQ.out.2.1 1
  have c_q_r2 := LK.cell HQ.out.2.1 2
  have c_q_r3 := LK.cell HQ.out.2.1 3
  simp at c_q_s0 c_q_s1 c_q_s2 c_q_s3 c_q_r0 c_q_r1 c_q_r2 c_q_r3
  go_upto_region 6 with (fail)
  clear c_q_s0 c_q_s1 c_q_s2 c_q_s3 c_q_r0 c_q_r1 c_q_r2 c_q_r3
  have c_q_s0 := LK.cell HQ.out.1 0
  have c_q_s1 := LK.cell HQ.out.1 1
  have c_q_s2 := LK.cell HQ.out.1 2
  have c_q_s3 := LK.cell HQ.out.1 3
  have c_q_r0 := LK.cell HQ.out.2.1 0
  have c_q_r1 := LK.cell HQ.out.2.1 1
  have c_q_r2 := LK.cell HQ.out.2.1 2
  have c_q_r3 := LK.cell HQ.out.2.1 3
  have z_q_r0 := LK.frozen HQ.out.2.1 0
  have z_q_r1 := LK.frozen HQ.out.2.1 1
  have z_q_r2 := LK.frozen HQ.out.2.1 2
  have z_q_r3 := LK.frozen HQ.out.2.1 3
  simp at c_q_s0 c_q_s1 c_q_s2 c_q_s3 c_q_r0 c_q_r1 c_q_r2 c_q_r3
  have cp := Lv.get HQ.out.2.2.2.2.1
  have hbr : bl ≠ w.heap.size + 1 := by have := HP.out.1; omega
  have hbr2 : ¬ w.heap.size + 1 = bl := fun e => hbr e.symm
  have szr := LK.lt HQ.out.2.1
  go_region
  have hDn := HQ.out.2.2.2.2.2.1
  have hBn := HQ.out.2.2.2.2.2.2.1
  have hBf := HQ.out.2.2.2.2.2.2.2
  have HF := Lib.hid (And.intro hDn (And.intro hBn hBf))
  clear hDn hBn hBf
  go_wp2
  refine bodyPost_ret (v := .tuple #[.agg #[.slice ab_n s.disk.blocks.length cb_n, .slice au_n (s.disk.waits.length + 1) cu_n, .slice ax_n s.now.length cx_n, .slice ay_s s.last.length cy_s], .int .i64 (p : Int)]) (by simp [results, Try.results41, go_sem, c_q_r0, c_q_r1, c_q_r2, c_q_r3]) rfl ⟨_, _, _, _, rfl, ?_⟩
  rw [HTS.out]
  have hso : ∀ k, k ≠ w.heap.size + 1 → ((((w3.setCell ⟨w.heap.size + 1, 0, none⟩ (.slice ab_n s.disk.blocks.length cb_n)).setCell ⟨w.heap.size + 1, 1, none⟩ (.slice au_n (s.disk.waits.length + 1) cu_n)).setCell ⟨w.heap.size + 1, 2, none⟩ (.slice ax_n s.now.length cx_n)).setCell ⟨w.heap.size + 1, 3, none⟩ (.slice ay_s s.last.length cy_s)).heap[k]? = w3.heap[k]? := fun k h => (set_other _ _ _ _ _ h).trans ((set_other _ _ _ _ _ h).trans ((set_other _ _ _ _ _ h).trans (set_other _ _ _ _ _ h)))
  have hsx : ((((w3.setCell ⟨w.heap.size + 1, 0, none⟩ (.slice ab_n s.disk.blocks.length cb_n)).setCell ⟨w.heap.size + 1, 1, none⟩ (.slice au_n (s.disk.waits.length + 1) cu_n)).setCell ⟨w.heap.size + 1, 2, none⟩ (.slice ax_n s.now.length cx_n)).setCell ⟨w.heap.size + 1, 3, none⟩ (.slice ay_s s.last.length cy_s)).heap.size = w3.heap.size := by simp only [World.size_setCell]
  refine ⟨fun X hs hc hk => ?_, Below.trans HF.out.2.2 (below_four w3 _ _ _ _ (Nat.le_succ _)).drew⟩
  change ((((w3.setCell ⟨w.heap.size + 1, 0, none⟩ (.slice ab_n s.disk.blocks.length cb_n)).setCell ⟨w.heap.size + 1, 1, none⟩ (.slice au_n (s.disk.waits.length + 1) cu_n)).setCell ⟨w.heap.size + 1, 2, none⟩ (.slice ax_n s.now.length cx_n)).setCell ⟨w.heap.size + 1, 3, none⟩ (.slice ay_s s.last.length cy_s)).heap.size ≤ X.heap.size at hs
  change ∀ k, w.heap.size ≤ k → k < ((((w3.setCell ⟨w.heap.size + 1, 0, none⟩ (.slice ab_n s.disk.blocks.length cb_n)).setCell ⟨w.heap.size + 1, 1, none⟩ (.slice au_n (s.disk.waits.length + 1) cu_n)).setCell ⟨w.heap.size + 1, 2, none⟩ (.slice ax_n s.now.length cx_n)).setCell ⟨w.heap.size + 1, 3, none⟩ (.slice ay_s s.last.length cy_s)).heap.size → X.heap[k]? = ((((w3.setCell ⟨w.heap.size + 1, 0, none⟩ (.slice ab_n s.disk.blocks.length cb_n)).setCell ⟨w.heap.size + 1, 1, none⟩ (.slice au_n (s.disk.waits.length + 1) cu_n)).setCell ⟨w.heap.size + 1, 2, none⟩ (.slice ax_n s.now.length cx_n)).setCell ⟨w.heap.size + 1, 3, none⟩ (.slice ay_s s.last.length cy_s)).heap[k]? at hk
  rw [hsx] at hs hk
  have hTX : T.heap.size ≤ X.heap.size := by have := HT.out.2.1; omega
  have hq1 := Lv.hi_le HF.out.1
  have hq2 := Lv.hi_le HF.out.2.1
  have hkk : ∀ k, w.heap.size + 2 ≤ k → k < w3.heap.size → X.heap[k]? = w3.heap[k]? := fun k h1 h2 => (hk k (by omega) h2).trans (hso k (by omega))
  have hd := Lv.get HF.out.1 X (by omega) hc (fun k h1 h2 => hkk k (by omega) (by omega))
  have hn := (HF.out.2.1.2 X (fun k h1 h2 => hkk k (by omega) (by omega))).1
  have hlen : ∀ l : List UInt8, StoreV X 0 X.heap.size (.slice ab_n s.disk.blocks.length cb_n) (.slice au_n (s.disk.waits.length + 1) cu_n) (.slice ax_n s.now.length cx_n) (.slice ay_s s.last.length cy_s) ⟨⟨s.disk.blocks, s.disk.waits ++ [⟨(p : Int), b⟩]⟩, s.now.set p 1, s.last⟩ := fun _ => ⟨hd, hn.more (Nat.zero_le _) (by omega), bytesT_at hc hTX HT.out.2.2.1.2.2⟩
  exact hlen []
end Go.Proofs.Ytkfgegdnpinbdaa

namespace Go.Proofs.Ytkfgegdnpinbdaa
open Go.RowKit

set_option maxRecDepth 100000 in
set_option maxHeartbeats 1000000 in
theorem snode_no (b_s u_s x_s y_s : Value) (s : StoreL) (p : Int) (w : World) (h_s : StoreV w 0 w.heap.size b_s u_s x_s y_s s) (hne : errAs s p ≠ 0) :
    Calls Try.prog 13 #[.agg #[b_s, u_s, x_s, y_s], .int .i64 p] w fun e w' => e = .returned (.tuple #[.agg #[.int .i64 0, .slice none 0 0], .int .i64 (errAs s p)]) ∧ Below w.heap.size w w' := by
  obtain ⟨ab_s, cb_s, rfl, gb_s, gc_s, -, -⟩ := h_s.1.1
  obtain ⟨au_s, cu_s, rfl, gu_s, gv_s, -, -⟩ := h_s.1.2
  obtain ⟨ax_s, cx_s, rfl, gx_s, gz_s⟩ := h_s.2.1.form rfl
  obtain ⟨ay_s, cy_s, rfl, gy_s, gw_s⟩ := h_s.2.2.form rfl
  unfold maxLen at gc_s gv_s gz_s gw_s
  have hst := (((Below.refl w.heap.size w).alloc (Nat.le_refl _) (.cells #[.slice ab_s s.disk.blocks.length cb_s, .slice au_s s.disk.waits.length cu_s, .slice ax_s s.now.length cx_s, .slice ay_s s.last.length cy_s] 28)).alloc (by simp) (.cells #[.int .i64 0, .slice none 0 0] 47))
  have hq := two_new w (.cells #[.slice ab_s s.disk.blocks.length cb_s, .slice au_s s.disk.waits.length cu_s, .slice ax_s s.now.length cx_s, .slice ay_s s.last.length cy_s] 28) (.cells #[.int .i64 0, .slice none 0 0] 47)
  have q_s := LK.of hq.1
  have q_r := LK.of hq.2
  have hB : LW w _ := hst
  have O_s := (LO.of h_s (Nat.le_refl _)).step hst
  have sz_V : w.heap.size + 1 < ((w.alloc (.cells #[.slice ab_s s.disk.blocks.length cb_s, .slice au_s s.disk.waits.length cu_s, .slice ax_s s.now.length cx_s, .slice ay_s s.last.length cy_s] 28)).alloc (.cells #[.int .i64 0, .slice none 0 0] 47)).heap.size := by simp
  obtain ⟨V, hV⟩ : ∃ V, ((w.alloc (.cells #[.slice ab_s s.disk.blocks.length cb_s, .slice au_s s.disk.waits.length cu_s, .slice ax_s s.now.length cx_s, .slice ay_s s.last.length cy_s] 28)).alloc (.cells #[.int .i64 0, .slice none 0 0] 47)) = V := ⟨_, rfl⟩
  rw [hV] at sz_V q_s q_r O_s hB
  clear hst h_s hq
  have HQ := Lib.hid (And.intro q_s (And.intro q_r (And.intro O_s hB)))
  clear q_s q_r O_s hB
  have c_q_s0 := LK.cell HQ.out.1 0
  have c_q_s1 := LK.cell HQ.out.1 1
  have c_q_s2 := LK.cell HQ.out.1 2
  have c_q_s3 := LK.cell HQ.out.1 3
  have c_q_r0 := LK.cell HQ.out.2.1 0
  have c_q_r1 := LK.cell HQ.out.2.1 1
  simp at c_q_s0 c_q_s1 c_q_s2 c_q_s3 c_q_r0 c_q_r1
  obtain ⟨ea, hea⟩ : ∃ e, errAs s p = e := ⟨_, rfl⟩
  have k_a := fun V b u x y hh => sasked_any b u x y s p V hh
  rw [hea] at k_a hne ⊢
  clear hea
  have HC := Lib.hid (k_a)
  clear k_a
  go_enter Try.func13, Try.ntmps13
  go_upto_region 1 with (fail)
  clear hV
  go_wp2_with fail
  refine (HC.out _ _ _ _ _ HQ.out.2.2.1.v).mono ?_
  rintro e w1 ⟨rfl, hst⟩
  clear c_q_s0 c_q_s1 c_q_s2 c_q_s3 c_q_r0 c_q_r1
  obtain ⟨q_s, q_r, O_s, hB⟩ := HQ.out
  clear HQ
  have sz_w1 : V.heap.size ≤ w1.heap.size := hst.size
  replace q_s := q_s.step hst
  replace q_r := q_r.step hst
  replace O_s := O_s.step hst
  replace hB := hB.step hst
  clear hst
  have HQ := Lib.hid (And.intro q_s (And.intro q_r (And.intro O_s hB)))
  clear q_s q_r O_s hB
  have c_q_s0 := LK.cell HQ.out.1 0
  have c_q_s1 := LK.cell HQ.out.1 1
  have c_q_s2 := LK.cell HQ.out.1 2
  have c_q_s3 := LK.cell HQ.out.1 3
  have c_q_r0 := LK.cell HQ.out.2.1 0
  have c_q_r1 := LK.cell HQ.out.2.1 1
  have z_q_r0 := LK.frozen HQ.out.2.1 0
  have z_q_r1 := LK.frozen HQ.out.2.1 1
  simp at c_q_s0 c_q_s1 c_q_s2 c_q_s3 c_q_r0 c_q_r1
  have i1 : (ea != 0) = true := by simp [hne]
  clear hne
  go_wp2
  refine bodyPost_ret (v := .tuple #[.agg #[.int .i64 0, .slice none 0 0], .int .i64 ea]) (by simp [results, Try.results13, go_sem, c_q_r0, c_q_r1]) rfl ⟨rfl, ?_⟩
  exact (Below.setCell HQ.out.2.2.2 (p := ⟨w.heap.size + 1, 0, none⟩) (Nat.le_succ _) _).setCell (p := ⟨w.heap.size + 1, 1, none⟩) (Nat.le_succ _) _

end Go.Proofs.Ytkfgegdnpinbdaa

namespace Go.Proofs.Ytkfgegdnpinbdaa
open Go.RowKit Go.Shelf
attribute [local go_sem] Oper.semAt_some

set_option maxRecDepth 100000 in
set_option maxHeartbeats 1000000 in
theorem seen_any (d : DiskL) (b_d u_d : Value) (pn : Nat) (w : World) (h_d : DiskV w 0 w.heap.size b_d u_d d) (hmd : mayD d = true) (hp : pn < 256) :
    Calls Try.prog 47 #[.agg #[b_d, u_d], .int .i64 (pn : Int)] w fun e w' => ∃ v, e = .returned v ∧ Bytes w' 0 w'.heap.size v (seenD d pn) ∧ Below w.heap.size w w' := by
  obtain ⟨ab_d, cb_d, rfl, gb_d, gc_d, -, -⟩ := h_d.1
  obtain ⟨au_d, cu_d, rfl, gu_d, gv_d, -, -⟩ := h_d.2
  unfold maxLen at gc_d gv_d
  have hst := ((((Below.refl w.heap.size w).alloc (Nat.le_refl _) (.cells #[.slice ab_d d.blocks.length cb_d, .slice au_d d.waits.length cu_d] 25)).alloc (by simp) (.cells #[.int .i64 (pn : Int)] 3)).alloc (by simp; omega) (.cells #[.slice none 0 0] 26))
  have hq := three_new w (.cells #[.slice ab_d d.blocks.length cb_d, .slice au_d d.waits.length cu_d] 25) (.cells #[.int .i64 (pn : Int)] 3) (.cells #[.slice none 0 0] 26)
  have q_d := LK.of hq.1
  have q_p := LK.of hq.2.1
  have q_r := LK.of hq.2.2
  have hB : LW w _ := hst
  have D_d := (LD.of h_d (Nat.le_refl _)).step hst
  have sz_V : w.heap.size + 2 < (((w.alloc (.cells #[.slice ab_d d.blocks.length cb_d, .slice au_d d.waits.length cu_d] 25)).alloc (.cells #[.int .i64 (pn : Int)] 3)).alloc (.cells #[.slice none 0 0] 26)).heap.size := by simp
  obtain ⟨V, hV⟩ : ∃ V, (((w.alloc (.cells #[.slice ab_d d.blocks.length cb_d, .slice au_d d.waits.length cu_d] 25)).alloc (.cells #[.int .i64 (pn : Int)] 3)).alloc (.cells #[.slice none 0 0] 26)) = V := ⟨_, rfl⟩
  rw [hV] at sz_V q_d q_p q_r D_d hB
  clear hst h_d hq
  have HQ := Lib.hid (And.intro q_d (And.intro q_p (And.intro q_r (And.intro D_d hB))))
  clear q_d q_p q_r D_d hB
  have c_q_d0 := LK.cell HQ.out.1 0
  have c_q_d1 := LK.cell HQ.out.1 1
  have c_q_p0 := LK.cell HQ.out.2.1 0
  have c_q_r0 := LK.cell HQ.out.2.2.1 0
  simp at c_q_d0 c_q_d1 c_q_p0 c_q_r0
  have HM := Lib.hid (may_len hmd)
  have hpl : pn < d.blocks.length := by have := HM.out.1; omega
  clear hmd
  have HD0 := Lib.hid (Lv.get HQ.out.2.2.2.1)
  refine (callsIn_wide (n := 5)).1 ?_
  refine callsIn_of_wp_marks Try.func47 rfl trivial ?_ rfl
  simp only [Try.ntmps47, List.size_toArray, List.length_cons, List.length_nil, Nat.reduceAdd, Nat.reduceSub, Array.replicate_succ, Array.replicate_zero, List.push_toArray, List.append_toArray, List.nil_append, List.cons_append]
  gi_wp2_with (refine ⟨trivial, ?_⟩; gi_at_call 84; refine (backw_in Fence.wide _ trivial rfl _ _ _ _).mono ?_; rintro e w2 ⟨rfl, rfl⟩)
  clear hV
  have hbx := cell_new_l V (.slice au_d d.waits.length cu_d) 23
  have hsV : V.heap.size < (V.alloc (.cells #[.slice au_d d.waits.length cu_d] 23)).heap.size := by simp
  clear c_q_d0 c_q_d1 c_q_p0 c_q_r0
  obtain ⟨q_d, q_p, q_r, D_d, hB⟩ := HQ.out
  clear HQ
  have hst : Below V.heap.size V (V.alloc (.cells #[.slice au_d d.waits.length cu_d] 23)) := (Below.refl V.heap.size V).alloc (Nat.le_refl _) _
  obtain ⟨V2, hV2⟩ : ∃ v, V.alloc (.cells #[.slice au_d d.waits.length cu_d] 23) = v := ⟨_, rfl⟩
  rw [hV2] at hbx hst hsV ⊢
  clear hV2
  replace q_d := q_d.step hst
  replace q_p := q_p.step hst
  replace q_r := q_r.step hst
  replace D_d := D_d.step hst
  replace hB := hB.step hst
  have HQ := Lib.hid (And.intro q_d (And.intro q_p (And.intro q_r (And.intro D_d hB))))
  clear q_d q_p q_r D_d hB
  obtain ⟨gb, hgb⟩ : ∃ v, V.heap.size = v := ⟨_, rfl⟩
  rw [hgb] at hbx hsV sz_V ⊢
  obtain ⟨bs, hbl, hba, hbc⟩ := writes_of (Lv.get HQ.out.2.2.2.1).2
  have HA := Lib.hid (And.intro hbl (And.intro hba hbc))
  have HX := Lib.hid (And.intro hbx hsV)
  have HD2 := Lib.hid (Lv.get HQ.out.2.2.2.1)
  clear hbl hba hbc hbx hst hgb
  gi_wp2_with fail
  refine wpIn_rangeFunc_ownH rfl (by omega) (gf := 109) (lb := #[.pointer (some ⟨gb, 0, none⟩)]) rfl trivial (enters_of Try.func109 (by kernel_rfl) rfl)
    (backw_stops Fence.wide 4 trivial rfl (by omega) gb w.heap.size au_d cu_d bs V2 HX.out.2 (by omega) (by rw [HA.out.1]; exact HX.out.1.1) (by rw [HA.out.1]; exact gu_d) gv_d HA.out.2.2) KeepB.trans (keepB_b (by omega) HX.out.2) (Below.refl _ _) (fun _ => rfl)
    (fun pre W => (∀ i ∈ pre, bs[i.1].1 ≠ (pn : Int)) ∧ Below V2.heap.size V2 W)
    (fun c pre W => (∃ Wx, (c = .ret ∧ ∃ pre' x, pre = pre' ++ [x] ∧ (∀ i ∈ pre', bs[i.1].1 ≠ (pn : Int)) ∧ bs[x.1].1 = (pn : Int) ∧ Wx.cell? ⟨w.heap.size + 1 + 1, 0, none⟩ = some bs[x.1].2) ∧ CK Wx W) ∧ Below w.heap.size V2 W)
    ((ownFrom_pure _ _).and (ownFrom_below (Nat.le_refl _) (Nat.le_refl _)))
    (fun c => ((ck_own _).from _).and (ownFrom_below (n₀ := w.heap.size) (B := V2.heap.size) (w₀ := V2) (show w.heap.size ≤ V2.heap.size by omega) (show w.heap.size ≤ V2.heap.size by omega)))
    ⟨fun _ h => (by cases h), Below.refl _ _⟩
    (fun x a' W => ∃ bx, a' = ({ tmps := #[.agg #[.slice ab_d d.blocks.length cb_d, .slice au_d d.waits.length cu_d], .int .i64 (pn : Int), .pointer (some ⟨w.heap.size, 0, none⟩), .pointer (some ⟨w.heap.size + 1, 0, none⟩), .pointer (some ⟨w.heap.size + 1 + 1, 0, none⟩), undef, .pointer (some ⟨bx, 0, none⟩), .pointer (some ⟨w.heap.size, 1, none⟩), .slice au_d d.waits.length cu_d, .func (.func 109) #[] #[.pointer (some ⟨gb, 0, none⟩)], .int .i64 (x.1 : Int), .agg #[.int .i64 bs[x.1].1, bs[x.1].2], undef, undef, undef, undef, undef, undef, undef, undef, undef, undef, undef], defers := [] } : Act) ∧ V2.heap.size ≤ bx ∧ W.heap[bx]? = some (.cells #[.int .i64 bs[x.1].1, bs[x.1].2] 92 (0, 0)))
    ?hax ?assign ?body ?done ?stop
  case hax =>
    intro x a' s W W' row h hg hr
    obtain ⟨bx, h1, h2, h3⟩ := h
    refine ⟨bx, h1, h2, ?_⟩
    refine (hg.block bx (Array.getElem?_eq_some_iff.1 h3).1 (fun e => ?_)).trans h3
    obtain ⟨-, o, ho, hc⟩ := hr bx e.symm
    rw [h3] at ho
    cases ho
    cases hc
  case assign =>
    rintro l pre x W K ⟨hU, hBW⟩ hK
    obtain ⟨e1, e2⟩ := HA.out.2.1 x.1 bs[x.1] (by simp)
    have hnew := World.alloc_heap_new W (.cells #[.int .i64 bs[x.1].1, bs[x.1].2] 92)
    have hfr := (Below.refl W.heap.size W).alloc (Nat.le_refl _) (.cells #[.int .i64 bs[x.1].1, bs[x.1].2] 92)
    have hHK := hK
    obtain ⟨av, cv, hv, -, -⟩ := e2.form rfl
    rw [hv] at hnew hfr ⊢
    have HV := Lib.hid hv
    generalize (d.waits.getD x.1 ⟨0, []⟩).data.length = dl at *
    have HK := Lib.hid hHK
    clear hHK hK e1 e2 hv
    gi_wp2
    refine HK.out _ _ ⟨hfr.size, fun k o _ hko _ => (hfr.block k (Array.getElem?_eq_some_iff.1 hko).1).trans hko⟩ ⟨hfr.mono (by have := hBW.size; omega), hfr.cell (p := ⟨gb, 0, none⟩) (Nat.lt_of_lt_of_le HX.out.2 hBW.size)⟩ ⟨hU, below_step hBW hBW.size hfr⟩ ⟨W.heap.size, ?_, hBW.size, by rw [HV.out]; exact hnew⟩
    rw [HV.out]
  case body =>
    rintro l pre x a' W hl - ⟨hU, hBW⟩ ⟨bx, rfl, hbx, hcell⟩ hlen
    have b0 := blk_cell hcell 0
    have b1 := blk_cell hcell 1
    simp at b0 b1
    have m1 := (hBW.cell (p := ⟨w.heap.size + 1, 0, none⟩) (by show w.heap.size + 1 < V2.heap.size; omega)).trans (by simpa using LK.cell (HQ.out.2.1) 0 : V2.cell? ⟨w.heap.size + 1, 0, none⟩ = some (.int .i64 pn))
    have r6 := (hBW.block (w.heap.size + 2) (by omega)).trans (LK.blk (HQ.out.2.2.1))
    have m6 := blk_cell r6 0
    have z6 := blk_frozen r6 0
    simp at m6
    have HP := Lib.hid (And.intro hU (And.intro hBW r6))
    clear hU hBW hcell r6
    obtain ⟨xa2, hxa⟩ : ∃ xa, bs[x.1].1 = xa := ⟨_, rfl⟩
    obtain ⟨xv, hxv⟩ : ∃ xv, bs[x.1].2 = xv := ⟨_, rfl⟩
    rw [hxa] at b0
    rw [hxv] at b1
    rw [hxa, hxv]
    obtain ⟨-, e2⟩ := HA.out.2.1 x.1 bs[x.1] (by simp)
    obtain ⟨av, cv, hv, -, -⟩ := e2.form rfl
    clear e2
    generalize (d.waits.getD x.1 ⟨0, []⟩).data.length = dl at *
    rw [hxv] at hv
    subst hv
    have HXA := Lib.hid (And.intro hxa hxv)
    clear hxa hxv
    by_cases hat : xa2 = (pn : Int)
    · have dt : (xa2 == (pn : Int)) = true := by simp [hat]
      gi_wp2
      refine ⟨⟨Nat.le_of_eq (World.size_setCell _ _ _).symm, fun k o hVk hk _ => (set_other W _ _ _ k (by omega)).trans hk⟩, ⟨_, ⟨rfl, pre, x, rfl, HP.out.1, by rw [HXA.out.1]; exact hat, ?_⟩, CK.refl _⟩, (HP.out.2.1.mono (by omega)).setCell (p := ⟨w.heap.size + 1 + 1, 0, none⟩) (by show w.heap.size ≤ w.heap.size + 1 + 1; omega) _⟩
      rw [HXA.out.2]
      exact World.cell?_setCell_same' _ _ _ (by rw [m6]; rfl)
    · have dt : (xa2 == (pn : Int)) = false := by simp [hat]
      gi_wp2
      refine ⟨KeepsFrom.refl _ _, KeepB.refl _ _ _, fun i hi => ?_, HP.out.2.1⟩
      rcases List.mem_append.1 hi with hi | hi
      · exact HP.out.1 i hi
      · obtain rfl := List.mem_singleton.1 hi
        rw [HXA.out.1]
        exact hat
  case done =>
    rintro D xs W hD rfl ⟨hU, hBW⟩ hK
    have hBw : Below w.heap.size w W := below_step (HQ.out.2.2.2.2) (Below.size (HQ.out.2.2.2.2)) hBW
    have hseen : seenD d pn = d.blocks.getD pn [] := by
      unfold seenD
      rw [lastW_none d.waits pn (fun y hy => by
        obtain ⟨j, hj⟩ := List.mem_iff_getElem?.1 hy
        have hjl := (List.getElem?_eq_some_iff.1 hj).1
        have hjb : j < bs.length := by have := HA.out.1; omega
        have := hU ⟨j, hjb⟩ ((backF_mem _ _ _).2 (by omega))
        rw [(HA.out.2.1 j bs[j] (by simp [hjb])).1, List.getD_eq_getElem?_getD, hj] at this
        exact this)]
      rfl
    obtain ⟨bb, bo, cb2, e2, -, z1, z2, z3, hbe⟩ := HD2.out.1.at_ (by omega)
    injection e2 with ea _ ec
    subst ea ec
    obtain ⟨v, hv, hvb⟩ := hbe pn (d.blocks.getD pn []) (get_l _ _ _ hpl)
    have HS := Lib.hid hseen
    obtain ⟨dat, hdat⟩ : ∃ dat, d.blocks.getD pn [] = dat := ⟨_, rfl⟩
    rw [hdat] at hvb HS
    obtain ⟨xa, xc, rfl, -, -⟩ := hvb.form rfl
    have hv' : W.cell? ⟨bb, bo + pn, none⟩ = some (.slice xa dat.length xc) := (hBW.cell (p := ⟨bb, bo + pn, none⟩) (by show bb < V2.heap.size; omega)).trans (by simpa [rBytes] using hv)
    have m0 := (hBW.cell (p := ⟨w.heap.size, 0, none⟩) (by show w.heap.size < V2.heap.size; omega)).trans (LK.cell (HQ.out.1) 0)
    have m1 := (hBW.cell (p := ⟨w.heap.size + 1, 0, none⟩) (by show w.heap.size + 1 < V2.heap.size; omega)).trans (LK.cell (HQ.out.2.1) 0)
    have r6 := (hBW.block (w.heap.size + 2) (by omega)).trans (LK.blk (HQ.out.2.2.1))
    have m6 := blk_cell r6 0
    have z6 := blk_frozen r6 0
    simp at m0 m1 m6
    have HP := Lib.hid (And.intro hvb (And.intro hBw (And.intro hBW (And.intro hK r6))))
    unfold maxLen at z3
    clear hbe hv hvb hseen hdat hU hBW hK hBw r6
    gi_wp2
    obtain ⟨hvb, hBw, hBW, hK, r6⟩ := HP.out
    have hVW := hBW.size
    have hoth : ∀ k, k ≠ w.heap.size + 2 → (W.setCell ⟨w.heap.size + 1 + 1, 0, none⟩ (.slice xa dat.length xc)).heap[k]? = W.heap[k]? := fun k h1 => set_other W _ _ _ k h1
    have hK2 := (hoth D (by omega)).trans hK
    have hc2 : (W.setCell ⟨w.heap.size + 1 + 1, 0, none⟩ (.slice xa dat.length xc)).cell? ⟨w.heap.size + 2, 0, none⟩ = some (.slice xa dat.length xc) := World.cell?_setCell_same' _ _ _ (by rw [m6]; rfl)
    have hBf := hBw.setCell (p := ⟨w.heap.size + 1 + 1, 0, none⟩) (by show w.heap.size ≤ w.heap.size + 1 + 1; omega) (.slice xa dat.length xc)
    have hBz := (Below.refl w.heap.size W).setCell (p := ⟨w.heap.size + 1 + 1, 0, none⟩) (by show w.heap.size ≤ w.heap.size + 1 + 1; omega) (.slice xa dat.length xc)
    have hsz : (W.setCell ⟨w.heap.size + 1 + 1, 0, none⟩ (.slice xa dat.length xc)).heap.size = W.heap.size := World.size_setCell _ _ _
    generalize (W.setCell ⟨w.heap.size + 1 + 1, 0, none⟩ (.slice xa dat.length xc)) = zf at *
    have hB2 := (belowK_b (w := w) (Nat.le_refl _) zf D (.deferred (some [])) (.deferred none) (by omega) hK2 rfl rfl)
    have hck2 : CK zf (zf.putObj D (.deferred none)) := ⟨by simp, fun a v h => ⟨cell_kept h (grownBy_putObj' zf D (.deferred none)) (fun r e => by cases e; exact ⟨_, hK2, rfl⟩), frozen_kept h (grownBy_putObj' zf D (.deferred none)) (fun r e => by cases e; exact ⟨_, hK2, rfl⟩)⟩⟩
    have s2 := (hck2.2 _ _ hc2).1
    have hfin := hBf.trans hB2
    refine ⟨by simp, .inl ⟨_, _, rfl, run_takeDeferred hK2, ?_⟩⟩
    refine ⟨.slice xa dat.length xc, by simp [results, Try.results47, go_sem, s2], _, rfl, ?_, hfin⟩
    rw [HS.out]
    exact (hvb.below ((hBW.mono (by omega)).trans (hBz.trans hB2)) (Nat.le_refl _)).more (Nat.le_refl _) hfin.size
  case stop =>
    rintro D c pre W hD ⟨k, hk, hpre⟩ ⟨⟨Wx, ⟨rfl, pre', x, rfl, hU, hx, hc6⟩, hck⟩, hB⟩ hK
    have hseen : seenD d pn = (d.waits.getD x.1 ⟨0, []⟩).data := by
      cases k with
      | zero => simp [backF] at hpre
      | succ k =>
        rw [backF_succ _ k (bs.length - 1 - k) (by omega) (by omega)] at hpre
        obtain ⟨h1, h2⟩ := List.append_inj' hpre rfl
        have h3 := List.cons.inj h2
        have hx1 : x.1 = bs.length - 1 - k := by rw [h3.1]
        unfold seenD
        rw [lastW_at d.waits pn x.1 (by have := HA.out.1; omega) (by rw [← (HA.out.2.1 x.1 bs[x.1] (by simp)).1]; exact hx) (fun j hj hjl => by
          have hjb : j < bs.length := by have := HA.out.1; omega
          rw [← (HA.out.2.1 j bs[j] (by simp [hjb])).1]
          exact hU ⟨j, hjb⟩ (by rw [h1]; exact (backF_mem _ _ _).2 (by show bs.length ≤ j + k; omega)))]
    obtain ⟨-, e2⟩ := HA.out.2.1 x.1 bs[x.1] (by simp)
    have hB2 := (belowK_b (w := w) (Nat.le_refl _) W D (.deferred (some [])) (.deferred none) (by omega) hK rfl rfl)
    have hck2 : CK W (W.putObj D (.deferred none)) := ⟨by simp, fun a v h => ⟨cell_kept h (grownBy_putObj' W D (.deferred none)) (fun r e => by cases e; exact ⟨_, hK, rfl⟩), frozen_kept h (grownBy_putObj' W D (.deferred none)) (fun r e => by cases e; exact ⟨_, hK, rfl⟩)⟩⟩
    have s2 := (hck2.2 _ _ (hck.2 _ _ hc6).1).1
    have hfin := (Below.trans (HQ.out.2.2.2.2) hB).trans hB2
    have HS := Lib.hid (And.intro hseen (And.intro e2 (And.intro hB (And.intro hB2 hfin))))
    clear hseen e2 hB hB2 hfin
    gi_wp2
    refine ⟨by simp, .inl ⟨_, _, rfl, run_takeDeferred hK, ?_⟩⟩
    refine ⟨bs[x.1].2, by simp [results, Try.results47, go_sem, s2], _, rfl, ?_, HS.out.2.2.2.2⟩
    rw [HS.out.1]
    exact (HS.out.2.1.below (HS.out.2.2.1.trans HS.out.2.2.2.1) (Nat.le_refl _)).more (Nat.le_refl _) HS.out.2.2.2.2.size

def errSn (s : StoreL) (p : Int) : Int := if errAs s p ≠ 0 then errAs s p else if errNd (seenD s.disk p) = 0 then 0 else 8
def nodeS (s : StoreL) (p : Int) : NodeL := if errSn s p = 0 then readNd (seenD s.disk p) else ⟨0, []⟩

set_option maxRecDepth 100000 in
set_option maxHeartbeats 1000000 in
theorem snode_any (b_s u_s x_s y_s : Value) (s : StoreL) (p : Int) (w : World) (h_s : StoreV w 0 w.heap.size b_s u_s x_s y_s s) :
    Calls Try.prog 13 #[.agg #[b_s, u_s, x_s, y_s], .int .i64 p] w fun e w' => ∃ v, e = .returned (.tuple #[.agg #[.int .i64 (nodeS s p).level, v], .int .i64 (errSn s p)]) ∧ Sl rItemT w' w.heap.size w'.heap.size v (nodeS s p).items ∧ Below w.heap.size w w' := by
  by_cases hne : errAs s p = 0
  case neg =>
    have h1 : errSn s p = errAs s p := by unfold errSn; rw [if_pos hne]
    have h2 : nodeS s p = ⟨0, []⟩ := by unfold nodeS; rw [h1, if_neg hne]
    rw [h1, h2]
    exact (snode_no b_s u_s x_s y_s s p w h_s hne).mono fun e w' hh => ⟨_, hh.1, Sl.nil_ _ _ _, hh.2⟩
  obtain ⟨hm, h8, h9, -⟩ := errAs_zero hne
  obtain ⟨pn, rfl⟩ : ∃ pn : Nat, p = pn := ⟨p.toNat, by omega⟩
  obtain ⟨ab_s, cb_s, rfl, gb_s, gc_s, -, -⟩ := h_s.1.1
  obtain ⟨au_s, cu_s, rfl, gu_s, gv_s, -, -⟩ := h_s.1.2
  obtain ⟨ax_s, cx_s, rfl, gx_s, gz_s⟩ := h_s.2.1.form rfl
  obtain ⟨ay_s, cy_s, rfl, gy_s, gw_s⟩ := h_s.2.2.form rfl
  unfold maxLen at gc_s gv_s gz_s gw_s
  have hst := (((Below.refl w.heap.size w).alloc (Nat.le_refl _) (.cells #[.slice ab_s s.disk.blocks.length cb_s, .slice au_s s.disk.waits.length cu_s, .slice ax_s s.now.length cx_s, .slice ay_s s.last.length cy_s] 28)).alloc (by simp) (.cells #[.int .i64 0, .slice none 0 0] 47))
  have hq := two_new w (.cells #[.slice ab_s s.disk.blocks.length cb_s, .slice au_s s.disk.waits.length cu_s, .slice ax_s s.now.length cx_s, .slice ay_s s.last.length cy_s] 28) (.cells #[.int .i64 0, .slice none 0 0] 47)
  have q_s := LK.of hq.1
  have q_r := LK.of hq.2
  have hB : LW w _ := hst
  have O_s := (LO.of h_s (Nat.le_refl _)).step hst
  have sz_V : w.heap.size + 1 < ((w.alloc (.cells #[.slice ab_s s.disk.blocks.length cb_s, .slice au_s s.disk.waits.length cu_s, .slice ax_s s.now.length cx_s, .slice ay_s s.last.length cy_s] 28)).alloc (.cells #[.int .i64 0, .slice none 0 0] 47)).heap.size := by simp
  obtain ⟨V, hV⟩ : ∃ V, ((w.alloc (.cells #[.slice ab_s s.disk.blocks.length cb_s, .slice au_s s.disk.waits.length cu_s, .slice ax_s s.now.length cx_s, .slice ay_s s.last.length cy_s] 28)).alloc (.cells #[.int .i64 0, .slice none 0 0] 47)) = V := ⟨_, rfl⟩
  rw [hV] at sz_V q_s q_r O_s hB
  clear hst h_s hq
  have HQ := Lib.hid (And.intro q_s (And.intro q_r (And.intro O_s hB)))
  clear q_s q_r O_s hB
  have c_q_s0 := LK.cell HQ.out.1 0
  have c_q_s1 := LK.cell HQ.out.1 1
  have c_q_s2 := LK.cell HQ.out.1 2
  have c_q_s3 := LK.cell HQ.out.1 3
  have c_q_r0 := LK.cell HQ.out.2.1 0
  have c_q_r1 := LK.cell HQ.out.2.1 1
  simp at c_q_s0 c_q_s1 c_q_s2 c_q_s3 c_q_r0 c_q_r1
  have hmd := (mayS_iff.1 hm).1
  have k_a := fun V b u x y hh => sasked_any b u x y s (pn : Int) V hh
  rw [hne] at k_a
  have k_s := fun V b u hh => seen_any s.disk b u pn V hh hmd (by omega)
  have k_r := fun V v hh => nread_any v (seenD s.disk pn) V hh
  have hE : errSn s (pn : Int) = if errNd (seenD s.disk pn) = 0 then 0 else 8 := by unfold errSn; rw [hne, if_neg (by decide)]
  have hN : nodeS s (pn : Int) = if errSn s (pn : Int) = 0 then readNd (seenD s.disk pn) else ⟨0, []⟩ := rfl
  obtain ⟨SD, hSD⟩ : ∃ x, seenD s.disk (pn : Int) = x := ⟨_, rfl⟩
  rw [hSD] at hE hN
  simp only [hSD] at k_s k_r
  obtain ⟨ER, hER⟩ : ∃ x, errNd SD = x := ⟨_, rfl⟩
  obtain ⟨ND, hND⟩ : ∃ x, readNd SD = x := ⟨_, rfl⟩
  rw [hER] at hE
  rw [hND] at hN
  simp only [hER, hND] at k_r
  obtain ⟨es, hes⟩ : ∃ x, errSn s (pn : Int) = x := ⟨_, rfl⟩
  obtain ⟨ns, hns⟩ : ∃ x, nodeS s (pn : Int) = x := ⟨_, rfl⟩
  rw [hes] at hE hN
  rw [hns] at hN
  simp only [hes, hns]
  have HE := Lib.hid (And.intro hE hN)
  clear hE hN hSD hER hND hes hns hm hne hmd
  have HC := Lib.hid (And.intro k_a (And.intro k_s k_r))
  clear k_a k_s k_r
  go_enter Try.func13, Try.ntmps13
  go_upto_region 1 with (fail)
  clear hV
  go_wp2_with fail
  refine (HC.out.1 _ _ _ _ _ HQ.out.2.2.1.v).mono ?_
  rintro e w1 ⟨rfl, hst⟩
  clear c_q_s0 c_q_s1 c_q_s2 c_q_s3 c_q_r0 c_q_r1
  obtain ⟨q_s, q_r, O_s, hB⟩ := HQ.out
  clear HQ
  have sz_w1 : V.heap.size ≤ w1.heap.size := hst.size
  replace q_s := q_s.step hst
  replace q_r := q_r.step hst
  replace O_s := O_s.step hst
  replace hB := hB.step hst
  clear hst
  have HQ := Lib.hid (And.intro q_s (And.intro q_r (And.intro O_s hB)))
  clear q_s q_r O_s hB
  have c_q_s0 := LK.cell HQ.out.1 0
  have c_q_s1 := LK.cell HQ.out.1 1
  have c_q_s2 := LK.cell HQ.out.1 2
  have c_q_s3 := LK.cell HQ.out.1 3
  have c_q_r0 := LK.cell HQ.out.2.1 0
  have c_q_r1 := LK.cell HQ.out.2.1 1
  simp at c_q_s0 c_q_s1 c_q_s2 c_q_s3 c_q_r0 c_q_r1
  go_wp2_with fail
  refine (HC.out.2.1 _ _ _ HQ.out.2.2.1.d).mono ?_
  rintro e w2 ⟨v1, rfl, hv, hst⟩
  clear c_q_s0 c_q_s1 c_q_s2 c_q_s3 c_q_r0 c_q_r1
  obtain ⟨q_s, q_r, O_s, hB⟩ := HQ.out
  clear HQ
  have B_v := LB.of hv (Nat.le_refl _)
  have sz_w2 : w1.heap.size ≤ w2.heap.size := hst.size
  replace q_s := q_s.step hst
  replace q_r := q_r.step hst
  replace O_s := O_s.step hst
  replace hB := hB.step hst
  clear hst
  have HQ := Lib.hid (And.intro q_s (And.intro q_r (And.intro O_s (And.intro B_v hB))))
  clear q_s q_r O_s B_v hB
  have c_q_s0 := LK.cell HQ.out.1 0
  have c_q_s1 := LK.cell HQ.out.1 1
  have c_q_s2 := LK.cell HQ.out.1 2
  have c_q_s3 := LK.cell HQ.out.1 3
  have c_q_r0 := LK.cell HQ.out.2.1 0
  have c_q_r1 := LK.cell HQ.out.2.1 1
  simp at c_q_s0 c_q_s1 c_q_s2 c_q_s3 c_q_r0 c_q_r1
  go_wp2_with fail
  refine (HC.out.2.2 _ _ HQ.out.2.2.2.1.v).mono ?_
  rintro e w3 ⟨u, rfl, hm⟩
  clear c_q_s0 c_q_s1 c_q_s2 c_q_s3 c_q_r0 c_q_r1
  obtain ⟨q_s, q_r, O_s, B_v, hB⟩ := HQ.out
  clear HQ
  have hst := hm.below
  have S_u := LS.of hm.items (Nat.le_refl _)
  obtain ⟨au2, cu2, rfl, -, -⟩ := hm.items
  clear hm
  have sz_w3 : w2.heap.size ≤ w3.heap.size := hst.size
  replace q_s := q_s.step hst
  replace q_r := q_r.step hst
  replace O_s := O_s.step hst
  replace B_v := B_v.step hst
  replace hB := hB.step hst
  clear hst
  have HQ := Lib.hid (And.intro q_s (And.intro q_r (And.intro O_s (And.intro B_v (And.intro S_u hB)))))
  clear q_s q_r O_s B_v S_u hB
  have c_q_s0 := LK.cell HQ.out.1 0
  have c_q_s1 := LK.cell HQ.out.1 1
  have c_q_s2 := LK.cell HQ.out.1 2
  have c_q_s3 := LK.cell HQ.out.1 3
  have c_q_r0 := LK.cell HQ.out.2.1 0
  have c_q_r1 := LK.cell HQ.out.2.1 1
  have z_q_r0 := LK.frozen HQ.out.2.1 0
  have z_q_r1 := LK.frozen HQ.out.2.1 1
  simp at c_q_s0 c_q_s1 c_q_s2 c_q_s3 c_q_r0 c_q_r1
  go_upto_region 5 with (fail)
  clear z_q_r0 z_q_r1 c_q_s0 c_q_s1 c_q_s2 c_q_s3 c_q_r0 c_q_r1
  obtain ⟨q_s, q_r, O_s, B_v, S_u, hB⟩ := HQ.out
  clear HQ
  have hst := (Below.refl w3.heap.size w3).alloc (Nat.le_refl _) (.cells #[.int .i64 ND.level, .slice au2 ND.items.length cu2] 47)
  have hlt : w3.heap.size < (w3.alloc (.cells #[.int .i64 ND.level, .slice au2 ND.items.length cu2] 47)).heap.size := by simp
  have q_n := LK.new w3 (.cells #[.int .i64 ND.level, .slice au2 ND.items.length cu2] 47)
  replace q_s := q_s.step hst
  replace q_r := q_r.step hst
  replace O_s := O_s.step hst
  replace B_v := B_v.step hst
  replace S_u := S_u.step hst
  replace hB := hB.step hst
  obtain ⟨w4, hw⟩ : ∃ v, w3.alloc (.cells #[.int .i64 ND.level, .slice au2 ND.items.length cu2] 47) = v := ⟨_, rfl⟩
  rw [hw] at hlt q_n q_s q_r O_s B_v S_u hB ⊢
  clear hw hst
  have sz_w4 := hlt
  clear hlt
  have HQ := Lib.hid (And.intro q_s (And.intro q_r (And.intro O_s (And.intro B_v (And.intro S_u (And.intro q_n hB))))))
  clear q_s q_r O_s B_v S_u q_n hB
  have c_q_s0 := LK.cell HQ.out.1 0
  have c_q_s1 := LK.cell HQ.out.1 1
  have c_q_s2 := LK.cell HQ.out.1 2
  have c_q_s3 := LK.cell HQ.out.1 3
  have c_q_r0 := LK.cell HQ.out.2.1 0
  have c_q_r1 := LK.cell HQ.out.2.1 1
  have c_q_n0 := LK.cell HQ.out.2.2.2.2.2.1 0
  have c_q_n1 := LK.cell HQ.out.2.2.2.2.2.1 1
  simp at c_q_s0 c_q_s1 c_q_s2 c_q_s3 c_q_r0 c_q_r1 c_q_n0 c_q_n1
  have y0 := LK.frozen HQ.out.2.1 0
  have y1 := LK.frozen HQ.out.2.1 1
  by_cases hz : ER = 0
  · subst hz
    have hE := HE.out.1
    rw [if_pos rfl] at hE
    have hN := HE.out.2
    rw [if_pos hE] at hN
    subst hE hN
    go_wp2
    refine bodyPost_ret (v := .tuple #[.agg #[.int .i64 ns.level, .slice au2 ns.items.length cu2], .int .i64 0]) (by simp [results, Try.results13, go_sem, c_q_r0, c_q_r1]) rfl ⟨_, rfl, ?_, ?_⟩
    · have hfr : ∀ x, x < w4.heap.size → (x < w.heap.size + 1 ∨ w.heap.size + 2 ≤ x) → ((w4.setCell ⟨w.heap.size + 1, 0, none⟩ (.int .i64 ns.level)).setCell ⟨w.heap.size + 1, 1, none⟩ (.slice au2 ns.items.length cu2)).heap[x]? = w4.heap[x]? := fun x _ h => (set_other _ _ _ _ _ (by omega)).trans (set_other _ _ _ _ _ (by omega))
      have hS := LS.out HQ.out.2.2.2.2.1 (by simp only [World.size_setCell]; exact Nat.le_refl _) hfr (.inr (by omega))
      exact Sl.more (Lv.get hS) (by omega) (Lv.hi_le hS)
    · exact (Below.setCell HQ.out.2.2.2.2.2.2 (p := ⟨w.heap.size + 1, 0, none⟩) (Nat.le_succ _) _).setCell (p := ⟨w.heap.size + 1, 1, none⟩) (Nat.le_succ _) _
  · have i1 : (ER == 0) = false := by simp [hz]
    have i2 : (ER != 0) = true := by simp [hz]
    have hE := HE.out.1
    rw [if_neg hz] at hE
    have hN := HE.out.2
    rw [if_neg (by rw [hE]; decide)] at hN
    subst hE hN
    go_wp2
    refine bodyPost_ret (v := .tuple #[.agg #[.int .i64 0, .slice none 0 0], .int .i64 8]) (by simp [results, Try.results13, go_sem, c_q_r0, c_q_r1]) rfl ⟨_, rfl, ?_, ?_⟩
    · exact Sl.nil_ _ _ _
    · exact (Below.setCell HQ.out.2.2.2.2.2.2 (p := ⟨w.heap.size + 1, 0, none⟩) (Nat.le_succ _) _).setCell (p := ⟨w.heap.size + 1, 1, none⟩) (Nat.le_succ _) _

end Go.Proofs.Ytkfgegdnpinbdaa

