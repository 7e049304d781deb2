/- FindNames: the words and contracts, part 12. -/
import Derived.Test.YtcibihakjcenaaaFindNamesQ1
import Derived.Test.YtcibihakjcenaaaFindNamesQ2
import Derived.Test.YtcibihakjcenaaaFindNamesQ3
import Derived.Test.YtcibihakjcenaaaFindNamesQ4
import Derived.Test.YtcibihakjcenaaaFindNamesQ5
import Derived.Test.YtcibihakjcenaaaFindNamesQ6
import Derived.Test.YtcibihakjcenaaaFindNamesQ7
import Derived.Test.YtcibihakjcenaaaFindNamesQ8
import Derived.Test.YtcibihakjcenaaaFindNamesQ9
import Derived.Test.YtcibihakjcenaaaFindNamesQ10
import Derived.Test.YtcibihakjcenaaaFindNamesQ11
import Derived.WalkKit
import Derived.WalkLawsBesides
import Derived.WalkSpells
import Derived.Lib.Hide
import Derived.Laws.Rows
import Derived.Laws.AppendOwnNone
import Derived.Maps.AppendAt
import Derived.ProofKit
import Derived.Deep.Slices
import Derived.WideShapes
import Derived.RangeFuncNested
import Derived.RangeFuncBound
import Derived.RangeFuncCalls
import Derived.RangeFuncLeaves
import Derived.RangeFuncBox
import Derived.Shelf.Abstract
import Derived.Shelf.RegionOpen
import Derived.OwnWalkIn
import Derived.TacticsInMore
import Derived.LoopNIn
import Derived.LoopIn
import Derived.Lib.AppendZerosOnto
import Derived.Lib.SliceRun
import Derived.Lib.Walk
import Derived.Deep.LoopGhost
import Derived.Laws.CopyOwn
import Derived.Laws.CopyRow
import Derived.OrdersHeld
import Derived.Deep.QuietTactic
import Derived.BigQuiet
import Derived.StillTailTactics
import Derived.OpenShut
import Derived.Deep.DeepCutAuto
import Derived.Laws.MakeOwn
import Derived.Deep.RegionHeld
import Derived.KernelRfl
import Derived.BigFrameIn
import Derived.OrdersIn
namespace Go.Proofs.Ytcibihakjcenaaa
open Go.RowKit

/-- All places of items are shared, in order; the first that is refused ends it. -/
def shE : StoreL → List ItemL → Int
  | _, [] => 0
  | s, x :: l => if x.ref = 0 then shE s l else if errBs s x.ref.toNat = 0 then shE (upS s x.ref.toNat) l else errBs s x.ref.toNat
def shS : StoreL → List ItemL → StoreL
  | s, [] => s
  | s, x :: l => if x.ref = 0 then shS s l else if errBs s x.ref.toNat = 0 then shS (upS s x.ref.toNat) l else s
theorem shS_app (s : StoreL) (l m : List ItemL) (h : shE s l = 0) : shS s (l ++ m) = shS (shS s l) m ∧ shE s (l ++ m) = shE (shS s l) m := by
  induction l generalizing s with
  | nil => exact ⟨rfl, rfl⟩
  | cons x l ih =>
    simp only [shE, shS, List.cons_append] at h ⊢
    split
    · rename_i h0
      rw [if_pos h0] at h
      exact ih s h
    · rename_i h0
      rw [if_neg h0] at h
      split
      · rename_i h1
        rw [if_pos h1] at h
        exact ih _ h
      · rename_i h1
        rw [if_neg h1] at h
        exact absurd h h1
theorem up_share {s : StoreL} {p : Nat} (hm : mayS s = true) (h8 : 8 ≤ p) (h9 : p < 256) (h : errBs s p = 0) : errSh s (p : Int) = 0 ∧ upS s p = shareS s (p : Int) := by
  have hs : errSh s (p : Int) = 0 := by
    rcases up_cases s p with ⟨_, h2, _⟩ | ⟨_, h2, _⟩ | ⟨h1, h2, _, _⟩
    · rw [h] at h2; cases h2
    · rw [h] at h2; cases h2
    · have hA : errAs s (p : Int) = 0 := by
        unfold errAs
        rw [if_pos hm, if_neg (by omega), Int.toNat_natCast, if_neg h1]
      unfold errSh
      rw [hA, if_neg (by decide), Int.toNat_natCast, if_neg h2]
  refine ⟨hs, ?_⟩
  rw [(share_is hs).1]
  unfold upS
  rw [if_pos h, Int.toNat_natCast]
/-- All that is so of a store whose blocks were shared. -/
theorem shS_is (s : StoreL) (l : List ItemL) (hm : mayS s = true) (hr : ∀ x ∈ l, x.ref = 0 ∨ (8 ≤ x.ref ∧ x.ref < 256)) :
    mayS (shS s l) = true ∧ (shS s l).disk = s.disk ∧ (shS s l).last = s.last ∧ freeS (shS s l) = freeS s := by
  induction l generalizing s with
  | nil => exact ⟨hm, rfl, rfl, rfl⟩
  | cons x l ih =>
    simp only [shS]
    have hr' := fun y hy => hr y (List.mem_cons_of_mem _ hy)
    split
    · exact ih s hm hr'
    · rename_i h0
      split
      · rename_i h1
        obtain h | ⟨h8, h9⟩ := hr x (List.mem_cons_self ..)
        · exact absurd h h0
        · obtain ⟨e1, e2⟩ := up_share hm (by omega) (by omega) h1
          obtain ⟨i1, i2, -, -, -, -, i7⟩ := share_is e1
          rw [← e2] at i1 i2 i7
          obtain ⟨j1, j2, j3, j4⟩ := ih _ i2 hr'
          exact ⟨j1, by rw [j2, i1], by rw [j3, i1], j4.trans i7⟩
      · exact ⟨hm, rfl, rfl, rfl⟩
theorem shE_next (s : StoreL) (l : List ItemL) (j : Nat) (hj : j < l.length) (h : shE s (l.take j) = 0) :
    ((l.getD j nokI).ref = 0 → shE s (l.take (j + 1)) = 0 ∧ shS s (l.take (j + 1)) = shS s (l.take j)) ∧
    ((l.getD j nokI).ref ≠ 0 → errBs (shS s (l.take j)) (l.getD j nokI).ref.toNat = 0 → shE s (l.take (j + 1)) = 0 ∧ shS s (l.take (j + 1)) = upS (shS s (l.take j)) (l.getD j nokI).ref.toNat) ∧
    ((l.getD j nokI).ref ≠ 0 → errBs (shS s (l.take j)) (l.getD j nokI).ref.toNat ≠ 0 → shE s l = errBs (shS s (l.take j)) (l.getD j nokI).ref.toNat) := by
  have e1 : l.take (j + 1) = l.take j ++ [l.getD j nokI] := by rw [List.take_add_one, get_l l nokI j hj]; rfl
  have e2 : l = l.take j ++ (l.getD j nokI :: l.drop (j + 1)) := by
    have e3 := List.take_append_drop (j + 1) l
    rw [e1, List.append_assoc] at e3
    exact e3.symm
  obtain ⟨a1, a2⟩ := shS_app s (l.take j) [l.getD j nokI] h
  obtain ⟨b1, b2⟩ := shS_app s (l.take j) (l.getD j nokI :: l.drop (j + 1)) h
  rw [← e1] at a1 a2
  rw [← e2] at b1 b2
  refine ⟨fun h0 => ?_, fun h0 h1 => ?_, fun h0 h1 => ?_⟩
  · rw [a1, a2]; simp only [shS, shE]; rw [if_pos h0, if_pos h0]; exact ⟨rfl, rfl⟩
  · rw [a1, a2]; simp only [shS, shE]; rw [if_neg h0, if_neg h0, if_pos h1, if_pos h1]; exact ⟨rfl, rfl⟩
  · rw [b2]; simp only [shE]; rw [if_neg h0, if_neg h1]
def errMk (s : StoreL) (n : NodeL) : Int := if mayN n then (if shE s n.items = 0 then errTk (shS s n.items) (blockN n) else shE s n.items) else 8
def mkS (s : StoreL) (n : NodeL) : StoreL := takeS (shS s n.items) (blockN n)
def atMk (s : StoreL) (n : NodeL) : Int := if errMk s n = 0 then headS (shS s n.items) else 0
theorem may_refs {n : NodeL} (h : mayN n = true) : ∀ y ∈ n.items, y.ref = 0 ∨ (8 ≤ y.ref ∧ y.ref < 256) := by
  intro y hy
  have h := mayN_items h y hy
  unfold mayI at h
  simp at h
  omega
/-- What Make comes to, behind all is shared. -/
theorem mk_cases {s : StoreL} {n : NodeL} (hs : mayS s = true) (hm : mayN n = true) (h0 : shE s n.items = 0) (hb : (blockN n).length = 128) :
    (shS s n.items).disk = s.disk ∧ (shS s n.items).last = s.last ∧ mayT (shS s n.items).now = true ∧
    (freeS (shS s n.items) = [] → errMk s n = 9 ∧ atMk s n = 0) ∧ ∀ k r, freeS (shS s n.items) = k :: r →
      (s.disk.waits.length = 4096 → errMk s n = 9 ∧ atMk s n = 0) ∧ (s.disk.waits.length ≠ 4096 → errMk s n = 0 ∧ atMk s n = k ∧ mkS s n = ⟨⟨s.disk.blocks, s.disk.waits ++ [⟨(k : Int), blockN n⟩]⟩, (shS s n.items).now.set k 1, s.last⟩) := by
  obtain ⟨i1, i2, i3, i4⟩ := shS_is s n.items hs (may_refs hm)
  have hE : errMk s n = errTk (shS s n.items) (blockN n) := by unfold errMk; rw [hm, if_pos rfl, if_pos h0]
  have hmd := (mayS_iff.1 i1).1
  refine ⟨i2, i3, (mayS_iff.1 i1).2.1, fun hf => ?_, fun k r hf => ?_⟩
  · have : errMk s n = 9 := by rw [hE]; unfold errTk; rw [i1, if_pos rfl, if_pos hb, hf]
    exact ⟨this, by unfold atMk; rw [this]; rfl⟩
  · have hh : headS (shS s n.items) = k := by unfold headS; rw [hf]; rfl
    obtain ⟨p1, p2, -, -⟩ := head_free (s := shS s n.items) (r := r) (by rw [hh]; exact hf)
    have hA : errA (shS s n.items).disk (k : Int) = 0 := by unfold errA; rw [hmd, if_pos rfl, if_neg (by omega)]
    have hW : errTk (shS s n.items) (blockN n) = if s.disk.waits.length = 4096 then 9 else 0 := by
      unfold errTk
      rw [i1, if_pos rfl, if_pos hb, hf]
      show errW (shS s n.items).disk (k : Int) (blockN n) = _
      unfold errW
      rw [hA, if_neg (by decide), if_neg (by omega), i2]
    refine ⟨fun hw => ?_, fun hw => ?_⟩
    · have : errMk s n = 9 := by rw [hE, hW, if_pos hw]
      exact ⟨this, by unfold atMk; rw [this]; rfl⟩
    · rw [if_neg hw] at hW
      have : errMk s n = 0 := by rw [hE, hW]
      refine ⟨this, by unfold atMk; rw [if_pos this, hh], ?_⟩
      unfold mkS
      rw [(take_is hW).1, hh, i2, i3]
/-- Nothing turned below lo. -/
def LU (lo : Nat) (w V : World) : Prop := lo ≤ V.heap.size ∧ Below lo w V
theorem LU.step {lo : Nat} {w V V' : World} (h : LU lo w V) (hb : Below V.heap.size V V') : LU lo w V' := ⟨Nat.le_trans h.1 hb.size, h.2.trans (hb.mono h.1)⟩
theorem LU.outB {lo n0 : Nat} {w V V' : World} (h : LU lo w V) (hb : Below n0 V V') (hn : lo ≤ n0) : LU lo w V' := ⟨Nat.le_trans h.1 hb.size, h.2.trans (hb.mono hn)⟩
/-- A row of writes of the call's own, behind one was appended to a full row. -/
theorem waits_row {W : World} {nb g n : Nat} {a : Option Addr} {l : List WrL} (h : Sl rWrite (hideW W (hidN nb g)) 0 W.heap.size (.slice a n n) l) (hnb : nb < W.heap.size) (hg : g < W.heap.size) :
    ∃ olds : List Value, olds.length = n * 2 ∧ (∀ b, a = some b → ∀ j u, olds[j]? = some u → W.cell? (b.add j) = some u) ∧ (a = none → n = 0 ∧ n = 0) ∧
      ∀ (Z : World) (T : TypeId) (v' : Value) (k : Int) (v : Value) (d : List UInt8), W.grownBy Z none → Z.ownsRow W.heap.size T 2 v' (n + 1) (olds ++ [.int .i64 k, v]) → (Lit.int .i64 k).wf = true →
        Bytes (hideW Z (hidN nb g)) 0 Z.heap.size v d → Sl rWrite (hideW Z (hidN nb g)) 0 Z.heap.size v' (l ++ [⟨k, d⟩]) := by
  obtain ⟨bs, hbl, hba, hbc⟩ := writes_of h
  obtain ⟨a', c', e, h1, h2, h3, h4⟩ := h
  injection e with e1 e2 e3
  subst e1 e3
  have hn : l.length = n := e2.symm
  have hS : ∀ k, W.heap.size ≤ k → hidN nb g k = false := fun k hk => by simp [hidN]; omega
  refine ⟨(List.range (n * 2)).map fun j => if j % 2 = 0 then .int .i64 (l.getD (j / 2) ⟨0, []⟩).at_ else (bs.getD (j / 2) (0, undef)).2, by simp, ?_, fun e => ⟨h4 e, h4 e⟩, ?_⟩
  · intro b hb j u hu
    rw [List.getElem?_map] at hu
    rcases Nat.lt_or_ge j (n * 2) with hj | hj
    · rw [List.getElem?_range hj] at hu
      injection hu with hu
      dsimp only at hu
      obtain ⟨b', off, ea, -, hc⟩ := hbc (by omega)
      rw [hb] at ea
      injection ea with ea
      subst ea
      have hi : j / 2 < bs.length := by omega
      obtain ⟨c0, c1⟩ := hc (j / 2) _ (get_l bs (0, undef) _ hi)
      have e0 := (hba (j / 2) _ (get_l bs (0, undef) _ hi)).1
      rw [Addr.add_lit]
      rcases Nat.mod_two_eq_zero_or_one j with hm | hm
      · rw [if_pos hm] at hu
        rw [← hu, ← e0, show off + j = off + j / 2 * 2 by omega]
        exact (hideW_out W _ _ _ c0).1
      · rw [if_neg (by omega)] at hu
        rw [← hu, show off + j = off + j / 2 * 2 + 1 by omega]
        exact (hideW_out W _ _ _ c1).1
    · rw [List.getElem?_eq_none (by simpa using hj)] at hu
      cases hu
  · intro Z T v' k v d hgr hown hwf hv
    have hck : CKc (hideW W (hidN nb g)) (hideW Z (hidN nb g)) := hideW_ck fun k hk hS => ⟨hS, hgr.block k hk (fun e => by cases e)⟩
    have hsz : W.heap.size ≤ Z.heap.size := hgr.size
    rcases hown.2 with ⟨rfl, h0⟩ | ⟨g', cap, cur, rfl, hg', hh, q1, q2, q3, q4⟩
    · omega
    · have hgl : g' < Z.heap.size := (Array.getElem?_eq_some_iff.1 hh).1
      have hcell : ∀ j u, ((List.range (n * 2)).map (fun j => if j % 2 = 0 then Value.int .i64 (l.getD (j / 2) ⟨0, []⟩).at_ else (bs.getD (j / 2) (0, undef)).2) ++ [.int .i64 k, v])[j]? = some u → (hideW Z (hidN nb g)).cell? ⟨g', 0 + j, none⟩ = some u := by
        intro j u hu
        rw [hideW_cell _ _ _ (hS g' hg'), cell_of_row Z g' (0 + j) cur T (0, 0) hh, ← hu, ← q4, List.getElem?_take, if_pos]
        · simp
        · have := (List.getElem?_eq_some_iff.1 hu).1
          simp at this
          omega
      refine ⟨some ⟨g', 0, none⟩, cap, by rw [List.length_append, hn]; rfl, by rw [List.length_append, hn]; exact q1, q2, fun _ => ⟨g', 0, rfl, Nat.zero_le _, hgl, fun i x hx => ?_⟩, fun e => by cases e⟩
      rcases Nat.lt_or_ge i n with hi | hi
      · rw [List.getElem?_append_left (by omega)] at hx
        obtain ⟨b', off, ea, -, -, hc⟩ := h3 (by omega)
        obtain ⟨f0, f1, vx, f2, f3⟩ := hc i x hx
        have hbx := hba i _ (get_l bs (0, undef) i (by omega))
        have hx2 : l.getD i ⟨0, []⟩ = x := by rw [List.getD_eq_getElem?_getD, hx]; rfl
        rw [hx2] at hbx
        refine ⟨hcell (i * 2 + 0) _ ?_, f1, (bs.getD i (0, undef)).2, hcell (i * 2 + 1) _ ?_, (hbx.2.ck hck).more (Nat.le_refl _) hsz⟩
        · rw [List.getElem?_append_left (by simp; omega), List.getElem?_map, List.getElem?_range (by omega)]
          simp only [Option.map_some]
          rw [if_pos (by omega), show (i * 2 + 0) / 2 = i by omega, hx2]
        · rw [List.getElem?_append_left (by simp; omega), List.getElem?_map, List.getElem?_range (by omega)]
          simp only [Option.map_some]
          rw [if_neg (by omega), show (i * 2 + 1) / 2 = i by omega]
      · have hil : i = n := by
          have := (List.getElem?_eq_some_iff.1 hx).1
          simp at this
          omega
        subst hil
        rw [List.getElem?_append_right (by omega), hn, Nat.sub_self] at hx
        injection hx with hx
        subst hx
        refine ⟨hcell (i * 2 + 0) _ ?_, hwf, v, hcell (i * 2 + 1) _ ?_, hv⟩
        · rw [List.getElem?_append_right (by simp)]
          simp
        · rw [List.getElem?_append_right (by simp)]
          simp [show i * 2 + 1 - i * 2 = 1 by omega]
end Go.Proofs.Ytcibihakjcenaaa

