/- CountSums: the words and contracts, part 4. -/
import Derived.Test.YtfdogefoodljaaaCountSumsQ1
import Derived.Test.YtfdogefoodljaaaCountSumsQ2
import Derived.Test.YtfdogefoodljaaaChecked
import Derived.WalkKit
import Derived.WalkLawsBesides
import Derived.WalkSpells
import Derived.Lib.Hide
import Derived.Laws.Rows
import Derived.Laws.AppendOwnNone
import Derived.Maps.AppendAt
import Derived.OrdersHeld
import Derived.Deep.QuietTactic
import Derived.BigQuiet
import Derived.StillTailTactics
import Derived.ProofKit
import Derived.Deep.Slices
import Derived.WideShapes
import Derived.OpenShut
import Derived.RangeFuncNested
import Derived.RangeFuncBound
import Derived.RangeFuncCalls
import Derived.RangeFuncLeaves
import Derived.RangeFuncBox
import Derived.Shelf.Abstract
import Derived.Shelf.RegionOpen
import Derived.OwnWalkIn
import Derived.TacticsInMore
import Derived.LoopNIn
import Derived.LoopIn
import Derived.Lib.SliceRun
import Derived.Lib.AppendZerosOnto
import Derived.Lib.Walk
import Derived.Deep.LoopGhost
import Derived.Laws.CopyOwn
namespace Go.Proofs.Ytfdogefoodljaaa
open Go.RowKit

/-- The worlds that lie behind w: below w's size nothing has turned. Told by a world of any make. -/
noncomputable def aft (w W : World) : World := by
  classical exact if Below w.heap.size w W then W else w
theorem aft_below (w W : World) : Below w.heap.size w (aft w W) := by
  unfold aft
  split
  · assumption
  · exact Below.refl _ _
theorem aft_of {w W : World} (h : Below w.heap.size w W) : aft w W = W := by
  unfold aft
  rw [if_pos h]
def Cls (w : World) (w' : World) : Prop := ∃ W, w' = aft w W
attribute [go_sem] Cls
theorem Cls.of {w w' : World} (h : Below w.heap.size w w') : Cls w w' := ⟨w', (aft_of h).symm⟩
theorem Cls.below {w w' : World} (h : Cls w w') : Below w.heap.size w w' := by obtain ⟨W, rfl⟩ := h; exact aft_below w W
theorem Cls.sub {w w1 : World} (h : Below w.heap.size w w1) : ∀ W, Cls w1 W → Cls w W := fun _ hW => Cls.of (below_step h h.size hW.below)
theorem Cls.refl (w : World) : Cls w w := Cls.of (Below.refl _ _)
theorem Cls.drew (w : World) : Cls w w.drew := Cls.of (Below.refl _ _).drew

/-- Operations that yield a value and enter nothing. -/
def calmOp (o : Oper) : Bool :=
  match o.op with
  | .move _ | .assign _ | .pick .. | .load .. | .binOp .. | .unOp .. | .convert .. | .slice .. | .fieldAddr .. | .field .. | .indexAddr .. | .index .. | .extract .. => true
  | .call { callee := .builtin .len, .. } => true
  | _ => false

section
variable {P : Program} {ops : Array Oper} {Q : Exit → Act → World → Prop} {md : Region.Mode} {S S' : World → Prop} {C : World → Prop}

theorem val_of {s : Sem Value} {w : World} {v : Value} (h : Oper.quietUpon P C w v ((do pure (Next.value (← s)) : Sem Next).run P w)) : ((do pure (Next.value (← s)) : Sem Next).run P w) = .ok (.value v) w := by
  simp only [Sem.run_bind] at h ⊢
  cases hs : s.run P w with
  | ok x w' =>
    rw [hs] at h
    simp only [Result.andThen, Sem.run_pure, Oper.quietUpon] at h ⊢
    obtain ⟨rfl, rfl⟩ := h
    rfl
  | halt x w' =>
    rw [hs] at h
    simp only [Result.andThen, Oper.quietUpon] at h

theorem calm_val {o : Oper} {a : Act} {w : World} {v : Value} (hc : calmOp o = true) (h : o.quietAt P a C w v) : (execOp a.eval o).run P w = .ok (.value v) w := by
  unfold Oper.quietAt at h
  obtain ⟨dst, op, ty, pos, aft, gd⟩ := o
  unfold calmOp at hc
  cases op with
  | move x =>
    simp only [execOp, Sem.run_pure, Oper.quietUpon] at h ⊢
    obtain ⟨_, rfl⟩ := h; rfl
  | assign x =>
    simp only [execOp, Sem.run_pure, Oper.quietUpon] at h ⊢
    obtain ⟨_, rfl⟩ := h; rfl
  | pick c x y =>
    have e : execOp a.eval { dst := dst, op := .pick c x y, type := ty, pos := pos, after := aft, guard := gd } = (do pure (Next.value (← (do pure (if ← asBool (a.eval c) then a.eval x else a.eval y) : Sem Value))) : Sem Next) := by
      simp [execOp]
    rw [e] at h ⊢
    exact val_of h
  | call c =>
    obtain ⟨callee, args, tys⟩ := c
    cases callee with
    | builtin b =>
      cases b with
      | len =>
        have e : execOp a.eval { dst := dst, op := .call { callee := .builtin .len, args := args, argTypes := tys }, type := ty, pos := pos, after := aft, guard := gd } = (do pure (Next.value (← Builtin.len_ tys ty (args.map a.eval))) : Sem Next) := by
          simp [execOp, resolve, invoke, builtin]
        rw [e] at h ⊢
        exact val_of h
      | _ => simp at hc
    | _ => simp at hc
  | load t x => exact val_of h
  | binOp op xt x y yt => exact val_of h
  | unOp op t x => exact val_of h
  | convert s d x => exact val_of h
  | slice t x lo hi mx => exact val_of h
  | fieldAddr s x f => exact val_of h
  | field xt x f => exact val_of h
  | indexAddr t x ix => exact val_of h
  | index xt x ix => exact val_of h
  | extract t ix => exact val_of h
  | _ => simp at hc

/-- A list of operations that may be taken one behind the other, first. -/
def segOk (md : Region.Mode) (ops : Array Oper) : List Nat → Array Bool → Bool
  | [], _ => true
  | i :: q, listed => (Region.ready md ops listed).contains i && Region.free md ops listed i && ((ops[i]?).map calmOp).getD false && segOk md ops q (listed.setIfInBounds i true)
def listAll : List Nat → Array Bool → Array Bool
  | [], l => l
  | i :: q, l => listAll q (l.setIfInBounds i true)
def consOp : Option Oper → List Oper → List Oper
  | some o, l => o :: l
  | none, l => l
theorem consOp_some (o : Oper) (l : List Oper) : consOp (some o) l = o :: l := rfl
def opsOf (ops : Array Oper) : List Nat → List Oper
  | [] => []
  | i :: q => consOp ops[i]? (opsOf ops q)
theorem opsOf_nil (ops : Array Oper) : opsOf ops [] = [] := rfl
theorem opsOf_cons (ops : Array Oper) (i : Nat) (q : List Nat) : opsOf ops (i :: q) = consOp ops[i]? (opsOf ops q) := rfl

theorem wpAnyH_seg (hs : Region.noSelect ops = true) (hQ : ∀ c (d : Option Tmp) (v : Value) (a : Act) w, Q (.panic c) (a.put d v) w → Q (.panic c) a w) {fuel : Nat} {w : World} (hS : S w) :
    ∀ (q : List Nat) (n : Nat) (listed : Array Bool) (a : Act), segOk md ops q listed = true → n = q.length + fuel →
      wpQuiet P ops S (fun a' => wpAnyH P md ops Q S fuel (listAll q listed) a' w) (opsOf ops q) a → wpAnyH P md ops Q S n listed a w
  | [], n, listed, a, _, hn, h => by
    subst hn
    simpa [opsOf, wpQuiet, listAll] using h
  | i :: q, n, listed, a, hok, hn, h => by
    simp only [segOk, Bool.and_eq_true] at hok
    obtain ⟨⟨⟨hr, hf⟩, hc⟩, hok'⟩ := hok
    cases hoi : ops[i]? with
    | none => simp [hoi] at hc
    | some o =>
      simp only [hoi, Option.map_some, Option.getD_some] at hc
      have hl' : opsOf ops (i :: q) = o :: opsOf ops q := by rw [opsOf_cons, hoi, consOp_some]
      rw [hl'] at h
      obtain rfl : n = (q.length + fuel) + 1 := by simp at hn; omega
      simp only [wpQuiet] at h
      split at h
      · rename_i hw
        obtain ⟨v, hv, hK⟩ := h
        exact wpAnyH_take hoi hs hf hr (fun c a w => hQ c _ _ a w) (.inl ⟨hw, fun w' hw' => calm_val hc (hv w' hw')⟩) hS (wpAnyH_seg hs hQ hS q _ _ _ hok' rfl hK)
      · rename_i hw
        exact wpAnyH_take hoi hs hf hr (fun c a w => hQ c _ _ a w) (.inr ⟨by simpa using hw, rfl⟩) hS (wpAnyH_seg hs hQ hS q _ _ _ hok' rfl h)

/-- A narrower class serves. -/
theorem wpAnyH_strong (hsub : ∀ W, S' W → S W) : ∀ (fuel : Nat) (listed : Array Bool) (a : Act) (w : World), wpAnyH P md ops Q S' fuel listed a w → wpAnyH P md ops Q S fuel listed a w
  | 0, _, _, _, h => h
  | fuel + 1, _, _, _, h => ⟨h.1, fun i hi => wpOp_mono (fun a' w' h' => ⟨hsub _ h'.1, wpAnyH_strong hsub fuel _ a' w' h'.2⟩) (h.2 i hi)⟩

/-- What is still to come behind an operation that was carried out: in a narrower class. -/
def After (P : Program) (md : Region.Mode) (ops : Array Oper) (Q : Exit → Act → World → Prop) (S : World → Prop) (fuel : Nat) (listed : Array Bool) (K : Act → World → Prop) : Prop :=
  ∀ (S' : World → Prop) a w, (∀ W, S' W → S W) → S' w → wpAnyH P md ops Q S' fuel listed a w → K a w
theorem After.out {fuel : Nat} {listed : Array Bool} {K : Act → World → Prop} (h : After P md ops Q S fuel listed K) (S' : World → Prop) {a : Act} {w : World} (hsub : ∀ W, S' W → S W) (hS : S' w) (hW : wpAnyH P md ops Q S' fuel listed a w) : K a w := h S' a w hsub hS hW

/-- Each of those that may come up now. -/
def Each (P : Program) (md : Region.Mode) (ops : Array Oper) (Q : Exit → Act → World → Prop) (S : World → Prop) (fuel : Nat) (listed : Array Bool) (a : Act) (w : World) (rs : List Nat) : Prop :=
  ∀ i ∈ rs, wpOp P ops Q i (fun a' w' => S w' ∧ wpAnyH P md ops Q S fuel (listed.setIfInBounds i true) a' w') a w
theorem Each.nil {fuel : Nat} {listed : Array Bool} {a : Act} {w : World} : Each P md ops Q S fuel listed a w [] := fun _ h => by cases h
theorem Each.cons {fuel : Nat} {listed : Array Bool} {a : Act} {w : World} {i : Nat} {rs : List Nat} (o : Oper) (ho : ops[i]? = some o)
    (h : ∀ K' : Act → World → Prop, After P md ops Q S fuel (listed.setIfInBounds i true) K' → if Region.wanted o (yielded ops a.tmps) = true then Oper.wp P o a w K' Q else K' (a.put o.dst undef) w)
    (hs : Each P md ops Q S fuel listed a w rs) : Each P md ops Q S fuel listed a w (i :: rs) := fun j hj => by
  rcases List.mem_cons.1 hj with rfl | hj
  · exact wpOp_step ho (fun K' hK => h K' (fun S' a w hsub hS hW => hK a w ⟨hsub _ hS, wpAnyH_strong hsub _ _ _ _ hW⟩))
  · exact hs j hj
theorem wpAnyH_each {n fuel : Nat} {listed : Array Bool} {a : Act} {w : World} (rs : List Nat) (hr : Region.ready md ops listed = rs) (hne : rs ≠ []) (hn : n = fuel + 1)
    (h : Each P md ops Q S fuel listed a w rs) : wpAnyH P md ops Q S n listed a w := by
  subst hn
  exact wpAnyH_all hr hne h
end
end Go.Proofs.Ytfdogefoodljaaa

namespace Go.Proofs.Ytfdogefoodljaaa
open Go.RowKit

def dstOf (ops : Array Oper) (i : Nat) : Option Tmp := (ops[i]?).bind (·.dst)
/-- The values of some operations, put where they belong. -/
def putAll (ops : Array Oper) (vs : Nat → Value) : List Nat → Act → Act
  | [], a => a
  | i :: is, a => putAll ops vs is (a.put (dstOf ops i) (vs i))
section
variable {ops : Array Oper}
end

section
variable {P : Program} {ops : Array Oper} {Q : Exit → Act → World → Prop} {md : Region.Mode} {S : World → Prop}

/-- Each operation of some: with what it waits for being good. -/
def OpsI (P : Program) (ops : Array Oper) (Q : Exit → Act → World → Prop) (S : World → Prop) (G : Nat → Value → World → Prop) (deps : Nat → List Nat) (is : List Nat) (a0 : Act) (l : List Nat) : Prop :=
  ∀ i ∈ l, ∀ o, ops[i]? = some o → ∀ (vs : Nat → Value) (W : World), S W → (∀ j ∈ deps i, G j (vs j) W) → ∀ K : Act → World → Prop,
    (∀ v W', G i v W' → Below W.heap.size W W' → K ((putAll ops vs is a0).put o.dst v) W') →
    if Region.wanted o (yielded ops (putAll ops vs is a0).tmps) = true then Oper.wp P o (putAll ops vs is a0) W K Q else K ((putAll ops vs is a0).put o.dst undef) W
theorem OpsI.nil {G : Nat → Value → World → Prop} {deps : Nat → List Nat} {is : List Nat} {a0 : Act} : OpsI P ops Q S G deps is a0 [] := fun _ h => by cases h
theorem OpsI.cons {G : Nat → Value → World → Prop} {deps : Nat → List Nat} {is : List Nat} {a0 : Act} {i : Nat} {l : List Nat} (o : Oper) (ho : ops[i]? = some o)
    (h : ∀ (vs : Nat → Value) (W : World), S W → (∀ j ∈ deps i, G j (vs j) W) → ∀ K : Act → World → Prop,
      (∀ v W', G i v W' → Below W.heap.size W W' → K ((putAll ops vs is a0).put o.dst v) W') →
      if Region.wanted o (yielded ops (putAll ops vs is a0).tmps) = true then Oper.wp P o (putAll ops vs is a0) W K Q else K ((putAll ops vs is a0).put o.dst undef) W)
    (hs : OpsI P ops Q S G deps is a0 l) : OpsI P ops Q S G deps is a0 (i :: l) := fun j hj o' ho' => by
  rcases List.mem_cons.1 hj with rfl | hj
  · rw [ho] at ho'; cases ho'; exact h
  · exact hs j hj o' ho'

theorem getD_any (L : Array Bool) (i : Nat) (d e : Bool) (h : i < L.size) : L.getD i d = L.getD i e := by simp [Array.getD, h]

attribute [go_sem] putAll dstOf

end
end Go.Proofs.Ytfdogefoodljaaa

namespace Go.Proofs.Ytfdogefoodljaaa
open Go.RowKit Go.ChangeShapes Go.WideShapes Go.Deep

/-- The fields of a struct: where each begins, and its type. -/
def fieldsOf (P : Program) (t : TypeId) : Option (List (Nat × TypeId)) :=
  match P.underlying t with
  | some (.struct fs) => some (fs.toList.map fun f => (f.offset, f.type))
  | _ => none

section
variable {H : Type} {enc : TypeId × Value → H} {P : Program} {w : World} {base : Nat} {spare : Nat → Bool} {held : Bool} {fuel : Nat} {t : TypeId} {cs : List Value} {x : DataW H × List MemPlace}
theorem trod_parts {l : List (Nat × TypeId)} (ht : fieldsOf P t = some l) (h : DataW.trod enc P w base spare held fuel t cs = some x) :
    cs.length = P.cellsOf t ∧ ∃ n, ∀ f ∈ l, ∃ y, DataW.trod enc P w base spare held n f.2 ((cs.drop f.1).take (P.cellsOf f.2)) = some y := by
  unfold fieldsOf at ht
  split at ht
  · rename_i fs hu
    cases ht
    obtain ⟨h1, n, h2⟩ := trod_fields hu h
    refine ⟨h1, n, fun f hf => ?_⟩
    obtain ⟨g, hg, rfl⟩ := List.mem_map.1 hf
    exact h2 g hg
  · cases ht
theorem okW_struct {r : Reach} {v : Value} {l : List (Nat × TypeId)} (ht : fieldsOf P t = some l) (h : Value.okWide P w r base t v) : ∃ cs, v = .agg cs ∧ cs.size = P.cellsOf t := by
  unfold fieldsOf at ht
  split at ht
  · rename_i fs hu
    exact okWide_struct hu h
  · cases ht
end

def rU8 : Rd UInt8 where
  n := 1
  R _ _ _ x f := f 0 = some (bV x)
  keep _ h := h
  more _ _ h := h
  ext he h := (he 0 (by decide)) ▸ h
theorem Sl.bytes {w : World} {lo hi : Nat} {v : Value} {l : List UInt8} (h : Sl rU8 w lo hi v l) : Bytes w lo hi v l := by
  obtain ⟨a, c, e, h1, h2, h3, h4⟩ := h
  refine ⟨a, c, e, h1, h2, fun hp => ?_, h4⟩
  obtain ⟨b, off, ea, hlo, hhi, hc⟩ := h3 hp
  refine ⟨b, off, ea, hlo, hhi, fun i x hx => ?_⟩
  have := hc i x hx
  simpa [rU8] using this
theorem u8_of {n : Int} (h : (Lit.int .u8 n).wf = true) : ∃ x : UInt8, Value.int .u8 n = bV x := by
  obtain ⟨h1, h2⟩ := bounds_u8 h
  refine ⟨UInt8.ofNat n.toNat, ?_⟩
  simp [bV]
  omega
section
variable {P : Program} {e : TypeId}
theorem opens_u8 (he : P.underlying e = some (.int .u8)) : Opens P e rU8 := fun h _ => by
  obtain ⟨n, rfl, _, hw⟩ := DataW.trod_int he h
  obtain ⟨x, hx⟩ := u8_of hw
  exact ⟨x, by rw [hx]; rfl⟩
variable {H : Type} {enc : TypeId × Value → H} {w : World} {base : Nat} {spare : Nat → Bool} {held : Bool} {fuel : Nat} {t : TypeId} {cs : List Value} {x : DataW H × List MemPlace}
theorem open_bytes (ht : P.underlying t = some (.slice e)) (he : P.underlying e = some (.int .u8)) (hc : P.cellsOf e = 1) (h : DataW.trod enc P w base spare held fuel t cs = some x) :
    ∃ v l, cs = [v] ∧ Bytes w 0 w.heap.size v l := by
  obtain ⟨v, l, h1, h2⟩ := open_sl (r := rU8) ht hc (by decide) (opens_u8 he) h
  exact ⟨v, l, h1, h2.bytes⟩
theorem opens_bytes {u : TypeId} (ht : P.underlying e = some (.slice u)) (he : P.underlying u = some (.int .u8)) (hc : P.cellsOf u = 1) : Opens P e rBytes := fun h _ => by
  obtain ⟨v, l, rfl, h2⟩ := open_bytes ht he hc h
  exact ⟨l, v, rfl, h2⟩
theorem opens_write {ti tb u : TypeId} (ht : fieldsOf P e = some [(0, ti), (1, tb)]) (hi : P.underlying ti = some (.int .i64)) (hci : P.cellsOf ti = 1) (hcb : P.cellsOf tb = 1)
    (hb : P.underlying tb = some (.slice u)) (hu : P.underlying u = some (.int .u8)) (hc : P.cellsOf u = 1) : Opens P e rWrite := fun {H enc w base spare held fuel cs x} h hl => by
  obtain ⟨_, n, hf⟩ := trod_parts ht h
  obtain ⟨y0, h0⟩ := hf (0, ti) (by simp)
  obtain ⟨y1, h1⟩ := hf (1, tb) (by simp)
  dsimp only at h0 h1
  rw [hci] at h0
  rw [hcb] at h1
  obtain ⟨k, e0, _, hw⟩ := DataW.trod_int hi h0
  obtain ⟨v, l, e1, hB⟩ := open_bytes hb hu hc h1
  match cs, hl with
  | [c0, c1], _ =>
    simp at e0 e1
    subst e0 e1
    exact ⟨⟨k, l⟩, rfl, hw, _, rfl, hB⟩
theorem open_disk {tbs tws tw ti tb u : TypeId} (ht : fieldsOf P e = some [(0, tbs), (1, tws)]) (hbs : P.underlying tbs = some (.slice tb)) (hws : P.underlying tws = some (.slice tw)) (cbs : P.cellsOf tbs = 1) (cws : P.cellsOf tws = 1)
    (htw : fieldsOf P tw = some [(0, ti), (1, tb)]) (cw : P.cellsOf tw = 2) (hi : P.underlying ti = some (.int .i64)) (hci : P.cellsOf ti = 1) (hcb : P.cellsOf tb = 1) (ce : P.cellsOf e = 2)
    (hb : P.underlying tb = some (.slice u)) (hu : P.underlying u = some (.int .u8)) (hc : P.cellsOf u = 1) (h : DataW.trod enc P w base spare held fuel e cs = some x) :
    ∃ (b v : Value) (d : DiskL), cs = [b, v] ∧ DiskV w 0 w.heap.size b v d := by
  obtain ⟨hl, n, hf⟩ := trod_parts ht h
  obtain ⟨y0, h0⟩ := hf (0, tbs) (by simp)
  obtain ⟨y1, h1⟩ := hf (1, tws) (by simp)
  dsimp only at h0 h1
  rw [cbs] at h0
  rw [cws] at h1
  rw [ce] at hl
  obtain ⟨v0, l0, e0, B0⟩ := open_sl (r := rBytes) hbs hcb (by decide) (opens_bytes hb hu hc) h0
  obtain ⟨v1, l1, e1, B1⟩ := open_sl (r := rWrite) hws cw (by decide) (opens_write htw hi hci hcb hb hu hc) h1
  match cs, hl with
  | [c0, c1], _ =>
    simp at e0 e1
    subst e0 e1
    exact ⟨_, _, ⟨l0, l1⟩, rfl, B0, B1⟩
end
end Go.Proofs.Ytfdogefoodljaaa

namespace Go.Proofs.Ytfdogefoodljaaa
open Go.RowKit

theorem OwnB.empty (w : World) (base : Nat) (e : TypeId) (h : base ≤ w.heap.size) : OwnB base e (w.alloc (.cells #[] e)) (.slice (some ⟨w.heap.size, 0, none⟩) 0 0) [] :=
  ⟨rfl, .inr ⟨w.heap.size, 0, #[], rfl, h, World.alloc_heap_new w _, Nat.le_refl _, Nat.zero_le _, rfl, rfl⟩⟩
set_option maxRecDepth 100000 in
/-- bytes.Clone. -/
theorem bclone_any (v : Value) (l : List UInt8) (w : World) (hI : Bytes w 0 w.heap.size v l) (hl : l.length ≤ 1000000000) :
    Calls Try.prog 90 #[v] w fun e w' => ∃ u, e = .returned u ∧ MadeB w w' u l := by
  obtain ⟨a, c, rfl, g1, g2, g3, g4⟩ := id hI
  clear g3
  have hnil := fun (w : World) (a : Option Addr) (n c n' c' : Nat) => Lib.run_eql_slice_nil (P := Try.prog) w 22 5 a n c n' c' Try.underlying22
  rcases a with _ | a
  · have hc := g4 rfl
    subst hc
    have : l = [] := List.eq_nil_of_length_eq_zero (by omega)
    subst this
    go_enter Try.func90, Try.ntmps90
    go_wp2
    go_ret
    exact ⟨_, rfl, MadeB.nil_ (Below.refl _ _)⟩
  · have hI1 := hI.step ((Below.refl w.heap.size w).alloc (Nat.le_refl _) (.cells #[] 5))
    have hown := OwnB.empty w w.heap.size 5 (Nat.le_refl _)
    go_enter Try.func90, Try.ntmps90
    go_wp2_with (at_builtin; refine wpList_appB rfl _ _ 22 rfl w.heap.size 5 Try.underlying22 info_u8 _ [] rfl hown _ _ _ l rfl hI1 (by simp; omega) (by simp) ?_; intro v1 w1 hown1 hB1)
    go_ret
    exact ⟨_, rfl, hown1.made (((Below.refl w.heap.size w).alloc (Nat.le_refl _) _).trans hB1)⟩
theorem cv_of {w : World} {lo hi : Nat} {v : Value} {l : List UInt8} (h : Bytes w lo hi v l) : (convert 22 9 v).run Try.prog w = .ok (.string ⟨l.toArray⟩) w :=
  conv_bytes (P := Try.prog) h 22 9 5 Try.underlying22 Try.underlying5 Try.underlying9
end Go.Proofs.Ytfdogefoodljaaa

namespace Go.Proofs.Ytfdogefoodljaaa
open Go.RowKit

set_option maxRecDepth 100000 in
set_option maxHeartbeats 2000000 in
/-- slices.Grow(nil, n). -/
theorem grow_nil (n : Nat) (w : World) (hn : n ≤ 1000000) :
    Calls Try.prog 92 #[.slice none 0 0, .int .i64 n] w fun e w' => ∃ v, e = .returned v ∧ OwnB w.heap.size 5 w' v [] ∧ Below w.heap.size w w' := by
  rcases Nat.eq_zero_or_pos n with rfl | hp
  · go_enter Try.func92, Try.ntmps92
    go_wp2
    go_ret
    exact ⟨_, rfl, OwnB.nil_ _ _ _, Below.refl _ _⟩
  · obtain ⟨i0, hi0, hz0, hz1, hz2⟩ := info_parts info_u8
    have hold : (Builtin.firstCells i0.size 0 (.slice none 0 0)).run Try.prog w.drew = .ok ([] : List Value).toArray w.drew := run_firstCells_none w.drew i0.size 0 0 0
    have hrz : ∀ ty, (Builtin.append_ #[22, 3] ty #[.slice none 0 0, .int .i64 (n : Int)]).run Try.prog w =
        .ok (.slice (some ⟨w.heap.size, 0, none⟩) n (grownCap w n 0 5)) (w.drew.alloc (.cells (([] : List Value).toArray ++ Builtin.zeroCells (Value.int .u8 0).cells n ++ Builtin.zeroCells (Value.int .u8 0).cells (grownCap w n 0 5 - n)) 5)) := fun ty => by
      have h := Lib.run_append_grow_zeros w 22 3 ty 5 i0 (.int .u8 0) .i64 .i64 Try.underlying22 Try.underlying3 hi0 hz0 none 0 0 [] hold n (by omega) (by omega) (by omega) (by omega)
        (by rw [hz2]; omega) (by rw [Nat.zero_add]; exact growslice_fits (by omega) (by rw [hz2]; omega))
      rw [Nat.zero_add] at h
      exact h
    have hG := grownCap_ge w n 0 5
    have hG2 := grownCap_le_maxLen w n 0 5 (by unfold maxLen; omega)
    generalize grownCap w n 0 5 = G at *
    have hG3 : G ≤ 9223372036854775807 := by unfold maxLen at hG2; omega
    have HG2 := Lib.hid hG2
    clear hG2 hold
    go_enter Try.func92, Try.ntmps92
    go_wp2_with (at_builtin; refine Lib.wpList_append_run _ rfl _ _ _ _ rfl _ _ rfl rfl _ _ (hrz _) ?_)
    go_ret
    refine ⟨_, rfl, ⟨by simp, .inr ⟨w.heap.size, G, _, rfl, Nat.le_refl _, World.alloc_heap_new w _, Nat.zero_le _, HG2.out, ?_, by simp⟩⟩, ((Below.refl _ _).alloc (Nat.le_refl _) _).drew⟩
    simp [Builtin.zeroCells]
    omega

end Go.Proofs.Ytfdogefoodljaaa

