/- Arguments that come in, opened: bytes, places and bytes, items, disks, stores. Plain lemmas over any program. -/
import Derived.Test.YtldidclnfkmonaaDat
import Derived.OpenShut
namespace Go.Proofs.Ytldidclnfkmonaa
open Go.RowKit Go.ChangeShapes Go.WideShapes Go.Deep

/-- The fields of a struct: where each begins, and its type. -/
def fieldsOf (P : Program) (t : TypeId) : Option (List (Nat × TypeId)) :=
  match P.underlying t with
  | some (.struct fs) => some (fs.toList.map fun f => (f.offset, f.type))
  | _ => none

section
variable {H : Type} {enc : TypeId × Value → H} {P : Program} {w : World} {base : Nat} {spare : Nat → Bool} {held : Bool} {fuel : Nat} {t : TypeId} {cs : List Value} {x : DataW H × List MemPlace}
theorem trod_parts {l : List (Nat × TypeId)} (ht : fieldsOf P t = some l) (h : DataW.trod enc P w base spare held fuel t cs = some x) :
    cs.length = P.cellsOf t ∧ ∃ n, ∀ f ∈ l, ∃ y, DataW.trod enc P w base spare held n f.2 ((cs.drop f.1).take (P.cellsOf f.2)) = some y := by
  unfold fieldsOf at ht
  split at ht
  · rename_i fs hu
    cases ht
    obtain ⟨h1, n, h2⟩ := trod_fields hu h
    refine ⟨h1, n, fun f hf => ?_⟩
    obtain ⟨g, hg, rfl⟩ := List.mem_map.1 hf
    exact h2 g hg
  · cases ht
theorem trod_boolv (ht : P.underlying t = some .bool) (h : DataW.trod enc P w base spare held fuel t cs = some x) : ∃ b, cs = [.bool b] := by
  cases fuel with
  | zero => simp [DataW.trod] at h
  | succ n =>
    unfold DataW.trod at h
    rw [ht] at h
    split at h <;> simp_all
theorem okW_struct {r : Reach} {v : Value} {l : List (Nat × TypeId)} (ht : fieldsOf P t = some l) (h : Value.okWide P w r base t v) : ∃ cs, v = .agg cs ∧ cs.size = P.cellsOf t := by
  unfold fieldsOf at ht
  split at ht
  · rename_i fs hu
    exact okWide_struct hu h
  · cases ht
theorem okW_bool {r : Reach} {v : Value} (ht : P.underlying t = some .bool) (h : Value.okWide P w r base t v) : ∃ b, v = .bool b := by
  simp only [Value.okWide, ht, Cell.okWide] at h
  cases v <;> simp_all [Cell.ok]
end

def rU8 : Rd UInt8 where
  n := 1
  R _ _ _ x f := f 0 = some (bV x)
  keep _ h := h
  more _ _ h := h
  ext he h := (he 0 (by decide)) ▸ h
theorem Sl.bytes {w : World} {lo hi : Nat} {v : Value} {l : List UInt8} (h : Sl rU8 w lo hi v l) : Bytes w lo hi v l := by
  obtain ⟨a, c, e, h1, h2, h3, h4⟩ := h
  refine ⟨a, c, e, h1, h2, fun hp => ?_, h4⟩
  obtain ⟨b, off, ea, hlo, hhi, hc⟩ := h3 hp
  refine ⟨b, off, ea, hlo, hhi, fun i x hx => ?_⟩
  have := hc i x hx
  simpa [rU8] using this
theorem u8_of {n : Int} (h : (Lit.int .u8 n).wf = true) : ∃ x : UInt8, Value.int .u8 n = bV x := by
  obtain ⟨h1, h2⟩ := bounds_u8 h
  refine ⟨UInt8.ofNat n.toNat, ?_⟩
  simp [bV]
  omega
theorem u32_of {n : Int} (h : (Lit.int .u32 n).wf = true) : ∃ x : UInt32, Value.int .u32 n = wV x := by
  obtain ⟨h1, h2⟩ := bounds_u32 h
  refine ⟨UInt32.ofNat n.toNat, ?_⟩
  simp [wV]
  omega

section
variable {P : Program} {e : TypeId}
theorem opens_int {k : IntKind} (he : P.underlying e = some (.int k)) : Opens P e (rInt k) := fun h _ => by
  obtain ⟨n, rfl, _, hw⟩ := DataW.trod_int he h
  exact ⟨n, rfl, hw⟩
theorem opens_bool (he : P.underlying e = some .bool) : Opens P e rBool := fun h _ => by
  obtain ⟨b, rfl⟩ := trod_boolv he h
  exact ⟨b, rfl⟩
theorem opens_u8 (he : P.underlying e = some (.int .u8)) : Opens P e rU8 := fun h _ => by
  obtain ⟨n, rfl, _, hw⟩ := DataW.trod_int he h
  obtain ⟨x, hx⟩ := u8_of hw
  exact ⟨x, by rw [hx]; rfl⟩
variable {H : Type} {enc : TypeId × Value → H} {w : World} {base : Nat} {spare : Nat → Bool} {held : Bool} {fuel : Nat} {t : TypeId} {cs : List Value} {x : DataW H × List MemPlace}
theorem open_bytes (ht : P.underlying t = some (.slice e)) (he : P.underlying e = some (.int .u8)) (hc : P.cellsOf e = 1) (h : DataW.trod enc P w base spare held fuel t cs = some x) :
    ∃ v l, cs = [v] ∧ Bytes w 0 w.heap.size v l := by
  obtain ⟨v, l, h1, h2⟩ := open_sl (r := rU8) ht hc (by decide) (opens_u8 he) h
  exact ⟨v, l, h1, h2.bytes⟩
theorem opens_bytes {u : TypeId} (ht : P.underlying e = some (.slice u)) (he : P.underlying u = some (.int .u8)) (hc : P.cellsOf u = 1) : Opens P e rBytes := fun h _ => by
  obtain ⟨v, l, rfl, h2⟩ := open_bytes ht he hc h
  exact ⟨l, v, rfl, h2⟩
theorem opens_write {ti tb u : TypeId} (ht : fieldsOf P e = some [(0, ti), (1, tb)]) (hi : P.underlying ti = some (.int .i64)) (hci : P.cellsOf ti = 1) (hcb : P.cellsOf tb = 1)
    (hb : P.underlying tb = some (.slice u)) (hu : P.underlying u = some (.int .u8)) (hc : P.cellsOf u = 1) : Opens P e rWrite := fun {H enc w base spare held fuel cs x} h hl => by
  obtain ⟨_, n, hf⟩ := trod_parts ht h
  obtain ⟨y0, h0⟩ := hf (0, ti) (by simp)
  obtain ⟨y1, h1⟩ := hf (1, tb) (by simp)
  dsimp only at h0 h1
  rw [hci] at h0
  rw [hcb] at h1
  obtain ⟨k, e0, _, hw⟩ := DataW.trod_int hi h0
  obtain ⟨v, l, e1, hB⟩ := open_bytes hb hu hc h1
  match cs, hl with
  | [c0, c1], _ =>
    simp at e0 e1
    subst e0 e1
    exact ⟨⟨k, l⟩, rfl, hw, _, rfl, hB⟩
theorem open_key {tk t8 t32 : TypeId} (ht : fieldsOf P tk = some [(0, t8), (1, t32), (2, t32)]) (h8 : P.underlying t8 = some (.int .u8)) (h32 : P.underlying t32 = some (.int .u32)) (c8 : P.cellsOf t8 = 1) (c32 : P.cellsOf t32 = 1) (ck : P.cellsOf tk = 3)
    (h : DataW.trod enc P w base spare held fuel tk cs = some x) : ∃ k : KeyL, cs = [bV k.kind, wV k.id, wV k.off] := by
  obtain ⟨hl, n, hf⟩ := trod_parts ht h
  obtain ⟨y0, h0⟩ := hf (0, t8) (by simp)
  obtain ⟨y1, h1⟩ := hf (1, t32) (by simp)
  obtain ⟨y2, h2⟩ := hf (2, t32) (by simp)
  dsimp only at h0 h1 h2
  rw [c8] at h0
  rw [c32] at h1 h2
  rw [ck] at hl
  obtain ⟨k0, e0, _, w0⟩ := DataW.trod_int h8 h0
  obtain ⟨k1, e1, _, w1⟩ := DataW.trod_int h32 h1
  obtain ⟨k2, e2, _, w2⟩ := DataW.trod_int h32 h2
  obtain ⟨x0, g0⟩ := u8_of w0
  obtain ⟨x1, g1⟩ := u32_of w1
  obtain ⟨x2, g2⟩ := u32_of w2
  match cs, hl with
  | [c0, c1, c2], _ =>
    simp at e0 e1 e2
    subst e0 e1 e2
    rw [g0, g1, g2]
    exact ⟨⟨x0, x1, x2⟩, rfl⟩
theorem open_item {tk t8 t32 ti tb u : TypeId} (ht : fieldsOf P e = some [(0, tk), (3, ti), (4, tb)]) (hk : fieldsOf P tk = some [(0, t8), (1, t32), (2, t32)]) (h8 : P.underlying t8 = some (.int .u8)) (h32 : P.underlying t32 = some (.int .u32)) (c8 : P.cellsOf t8 = 1) (c32 : P.cellsOf t32 = 1) (ck : P.cellsOf tk = 3)
    (hi : P.underlying ti = some (.int .i64)) (hci : P.cellsOf ti = 1) (hcb : P.cellsOf tb = 1) (ce : P.cellsOf e = 5)
    (hb : P.underlying tb = some (.slice u)) (hu : P.underlying u = some (.int .u8)) (hc : P.cellsOf u = 1) (h : DataW.trod enc P w base spare held fuel e cs = some x) :
    ∃ (k : KeyL) (n : Int) (v : Value) (l : List UInt8), cs = [bV k.kind, wV k.id, wV k.off, .int .i64 n, v] ∧ (Lit.int .i64 n).wf = true ∧ Bytes w 0 w.heap.size v l := by
  obtain ⟨hl, n, hf⟩ := trod_parts ht h
  obtain ⟨y0, h0⟩ := hf (0, tk) (by simp)
  obtain ⟨y1, h1⟩ := hf (3, ti) (by simp)
  obtain ⟨y2, h2⟩ := hf (4, tb) (by simp)
  dsimp only at h0 h1 h2
  rw [ck] at h0
  rw [hci] at h1
  rw [hcb] at h2
  rw [ce] at hl
  obtain ⟨k, e0⟩ := open_key hk h8 h32 c8 c32 ck h0
  obtain ⟨m, e1, _, hw⟩ := DataW.trod_int hi h1
  obtain ⟨v, l, e2, hB⟩ := open_bytes hb hu hc h2
  match cs, hl with
  | [c0, c1, c2, c3, c4], _ =>
    simp at e0 e1 e2
    obtain ⟨rfl, rfl, rfl⟩ := e0
    subst e1 e2
    exact ⟨k, m, _, l, rfl, hw, hB⟩
theorem opens_item {tk t8 t32 ti tb u : TypeId} (ht : fieldsOf P e = some [(0, tk), (3, ti), (4, tb)]) (hk : fieldsOf P tk = some [(0, t8), (1, t32), (2, t32)]) (h8 : P.underlying t8 = some (.int .u8)) (h32 : P.underlying t32 = some (.int .u32)) (c8 : P.cellsOf t8 = 1) (c32 : P.cellsOf t32 = 1) (ck : P.cellsOf tk = 3)
    (hi : P.underlying ti = some (.int .i64)) (hci : P.cellsOf ti = 1) (hcb : P.cellsOf tb = 1) (ce : P.cellsOf e = 5)
    (hb : P.underlying tb = some (.slice u)) (hu : P.underlying u = some (.int .u8)) (hc : P.cellsOf u = 1) : Opens P e rItem := fun h _ => by
  obtain ⟨k, n, v, l, rfl, hw, hB⟩ := open_item ht hk h8 h32 c8 c32 ck hi hci hcb ce hb hu hc h
  exact ⟨⟨k, n, l⟩, rfl, rfl, rfl, rfl, hw, v, rfl, hB⟩
theorem open_super {t32 ti tl : TypeId} (ht : fieldsOf P e = some [(0, t32), (1, ti), (2, t32), (3, t32), (4, tl)]) (h32 : P.underlying t32 = some (.int .u32)) (c32 : P.cellsOf t32 = 1)
    (hi : P.underlying ti = some (.int .i64)) (hci : P.cellsOf ti = 1) (hcl : P.cellsOf tl = 1) (ce : P.cellsOf e = 5) (hl' : P.underlying tl = some (.slice ti)) (h : DataW.trod enc P w base spare held fuel e cs = some x) :
    ∃ (g nx tb : UInt32) (n : Int) (v : Value) (l : List Int), cs = [wV g, .int .i64 n, wV nx, wV tb, v] ∧ (Lit.int .i64 n).wf = true ∧ Sl (rInt .i64) w 0 w.heap.size v l := by
  obtain ⟨hl, n, hf⟩ := trod_parts ht h
  obtain ⟨y0, h0⟩ := hf (0, t32) (by simp)
  obtain ⟨y1, h1⟩ := hf (1, ti) (by simp)
  obtain ⟨y2, h2⟩ := hf (2, t32) (by simp)
  obtain ⟨y3, h3⟩ := hf (3, t32) (by simp)
  obtain ⟨y4, h4⟩ := hf (4, tl) (by simp)
  dsimp only at h0 h1 h2 h3 h4
  rw [c32] at h0 h2 h3
  rw [hci] at h1
  rw [hcl] at h4
  rw [ce] at hl
  obtain ⟨k0, e0, _, w0⟩ := DataW.trod_int h32 h0
  obtain ⟨k1, e1, _, w1⟩ := DataW.trod_int hi h1
  obtain ⟨k2, e2, _, w2⟩ := DataW.trod_int h32 h2
  obtain ⟨k3, e3, _, w3⟩ := DataW.trod_int h32 h3
  obtain ⟨v, l, e4, hB⟩ := open_sl (r := rInt .i64) hl' hci (by decide) (opens_int hi) h4
  obtain ⟨x0, g0⟩ := u32_of w0
  obtain ⟨x2, g2⟩ := u32_of w2
  obtain ⟨x3, g3⟩ := u32_of w3
  match cs, hl with
  | [c0, c1, c2, c3, c4], _ =>
    simp at e0 e1 e2 e3 e4
    subst e0 e1 e2 e3 e4
    rw [g0, g2, g3]
    exact ⟨x0, x2, x3, k1, _, l, rfl, w1, hB⟩
theorem open_disk {tbs tws tw ti tb u : TypeId} (ht : fieldsOf P e = some [(0, tbs), (1, tws)]) (hbs : P.underlying tbs = some (.slice tb)) (hws : P.underlying tws = some (.slice tw)) (cbs : P.cellsOf tbs = 1) (cws : P.cellsOf tws = 1)
    (htw : fieldsOf P tw = some [(0, ti), (1, tb)]) (cw : P.cellsOf tw = 2) (hi : P.underlying ti = some (.int .i64)) (hci : P.cellsOf ti = 1) (hcb : P.cellsOf tb = 1) (ce : P.cellsOf e = 2)
    (hb : P.underlying tb = some (.slice u)) (hu : P.underlying u = some (.int .u8)) (hc : P.cellsOf u = 1) (h : DataW.trod enc P w base spare held fuel e cs = some x) :
    ∃ (b v : Value) (d : DiskL), cs = [b, v] ∧ DiskV w 0 w.heap.size b v d := by
  obtain ⟨hl, n, hf⟩ := trod_parts ht h
  obtain ⟨y0, h0⟩ := hf (0, tbs) (by simp)
  obtain ⟨y1, h1⟩ := hf (1, tws) (by simp)
  dsimp only at h0 h1
  rw [cbs] at h0
  rw [cws] at h1
  rw [ce] at hl
  obtain ⟨v0, l0, e0, B0⟩ := open_sl (r := rBytes) hbs hcb (by decide) (opens_bytes hb hu hc) h0
  obtain ⟨v1, l1, e1, B1⟩ := open_sl (r := rWrite) hws cw (by decide) (opens_write htw hi hci hcb hb hu hc) h1
  match cs, hl with
  | [c0, c1], _ =>
    simp at e0 e1
    subst e0 e1
    exact ⟨_, _, ⟨l0, l1⟩, rfl, B0, B1⟩
theorem arg_arr4 {r : Reach} {v : Value} {d : DataW H} {p : List MemPlace} (ht : P.underlying t = some (.array 4 e)) (he : P.underlying e = some (.int .u8)) (hce : P.cellsOf e = 1) (hct : P.cellsOf t = 4)
    (hv : Value.okWide P w r base t v) (h : DataW.Trod enc P w 0 spare held t v d p) : ∃ l : List UInt8, v = .agg (l.map bV).toArray ∧ l.length = 4 := by
  simp only [Value.okWide, ht] at hv
  obtain ⟨cs, rfl, hsz, _⟩ := hv
  rw [hct] at hsz
  obtain ⟨⟨c0, c1, c2, c3, rfl⟩⟩ : Nonempty (∃ c0 c1 c2 c3, cs = #[c0, c1, c2, c3]) := by
    obtain ⟨l⟩ := cs
    match l, hsz with
    | [c0, c1, c2, c3], _ => exact ⟨c0, c1, c2, c3, rfl⟩
  obtain ⟨fuel, hf⟩ := h
  have key : ∀ i, i < 4 → ∃ y, DataW.trod enc P w 0 spare held (fuel - 1) e (((Value.agg #[c0, c1, c2, c3]).cells.toList.drop (i * P.cellsOf e)).take (P.cellsOf e)) = some y := by
    intro i hi
    cases fuel with
    | zero => simp [DataW.trod] at hf
    | succ n =>
      unfold DataW.trod at hf
      rw [ht] at hf
      simp only at hf
      split at hf
      · obtain ⟨z, hz, _⟩ := Option.map_eq_some_iff.1 hf
        have hzl := mapM_some_length hz
        obtain ⟨y, hy⟩ : ∃ y, z[i]? = some y := ⟨z[i]'(by rw [hzl]; simpa using hi), by simp⟩
        exact ⟨y, (mapM_some_get hz i i (by simp [hi])).trans hy⟩
      · cases hf
  rw [hce] at key
  obtain ⟨_, k0⟩ := key 0 (by decide)
  obtain ⟨_, k1⟩ := key 1 (by decide)
  obtain ⟨_, k2⟩ := key 2 (by decide)
  obtain ⟨_, k3⟩ := key 3 (by decide)
  obtain ⟨n0, e0, _, w0⟩ := DataW.trod_int he k0
  obtain ⟨n1, e1, _, w1⟩ := DataW.trod_int he k1
  obtain ⟨n2, e2, _, w2⟩ := DataW.trod_int he k2
  obtain ⟨n3, e3, _, w3⟩ := DataW.trod_int he k3
  obtain ⟨x0, g0⟩ := u8_of w0
  obtain ⟨x1, g1⟩ := u8_of w1
  obtain ⟨x2, g2⟩ := u8_of w2
  obtain ⟨x3, g3⟩ := u8_of w3
  simp [Value.cells] at e0 e1 e2 e3
  exact ⟨[x0, x1, x2, x3], by simp [e0, e1, e2, e3, g0, g1, g2, g3], rfl⟩
end
end Go.Proofs.Ytldidclnfkmonaa
