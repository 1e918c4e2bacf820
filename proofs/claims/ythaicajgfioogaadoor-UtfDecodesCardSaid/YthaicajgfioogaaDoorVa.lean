/- Abstract values: Go values as pure data, the relation to the model's values in a world, and what a step of a run keeps. -/
import Derived.WalkKit
import Derived.Test.YthaicajgfioogaaDoorGlob
set_option linter.unusedSimpArgs false
set_option linter.unusedVariables false
namespace Go.Proofs.YthaicajgfioogaaDoor.V
open Go

/-- Who may append to a slice in place: nobody knows (sh), its capacity is its length (full), the token k's holder. -/
inductive Own where
  | sh | full | tok (k : Nat)
  deriving DecidableEq

inductive AV where
  | any
  | lit (v : Value)
  | str (l : List UInt8)
  | sl (o : Own) (s : Nat) (xs : List AV)
  | agg (cs : List AV)
  | tup (vs : List AV)
  | ip (x : AV)
  | mp (k off : Nat)
  | msl (k off len cap : Nat)
  | fn (f : Fn) (first captured : List AV)
  | ifc (t : TypeId) (v : AV)

instance : Inhabited AV := ⟨.any⟩
abbrev AV.int (k : IntKind) (n : Int) : AV := .lit (.int k n)
abbrev AV.bool (b : Bool) : AV := .lit (.bool b)

def AV.flat : AV → List AV
  | .agg cs => cs
  | x => [x]
def flats (xs : List AV) : List AV := xs.flatMap AV.flat
/-- One cell's value, surely. -/
def AV.scalar : AV → Bool
  | .lit v => v.oneCell'
  | .str _ | .sl _ _ _ | .ip _ | .mp _ _ | .msl _ _ _ _ | .fn _ _ _ | .ifc _ _ => true
  | _ => false
def AV.okv : AV → Bool
  | .agg cs => cs.all AV.scalar
  | x => x.scalar

inductive AObj where
  | cells (cs : List AV)
  | grow (s n : Nat)

structure Gh where
  imm : Nat → Nat → Prop
  blk : Nat → Nat
  own : Nat → Option Addr × Nat

inductive Rel (G : Gh) (H : List AObj) (w : World) : AV → Value → Prop
  | any (v : Value) : Rel G H w .any v
  | lit (v : Value) : Rel G H w (.lit v) v
  | str (l : List UInt8) : Rel G H w (.str l) (.string ⟨l.toArray⟩)
  | sl (o : Own) (s : Nat) (xs : List AV) (a : Option Addr) (len cap : Nat) (val : Nat → Value) (hl : len = xs.length) (hcap : len ≤ cap)
      (hs : ∀ x ∈ xs, x.flat.length = s ∧ x.okv = true)
      (hc : ∀ j x, (flats xs)[j]? = some x → ∃ b off, a = some ⟨b, off, none⟩ ∧ G.imm b (off + j) ∧ w.cell? ⟨b, off + j, none⟩ = some (val j))
      (hr : ∀ j x, (flats xs)[j]? = some x → Rel G H w x (val j))
      (hf : o = .full → cap = len)
      (ha : 0 < len → a.isSome = true)
      (ho : ∀ k, o = .tok k → ∃ n, H[k]? = some (.grow s n) ∧ xs.length ≤ n ∧ (xs.length = n → G.own k = (a, cap))) : Rel G H w (.sl o s xs) (.slice a len cap)
  | agg (cs : List AV) (arr : Array Value) (hl : arr.size = cs.length) (hr : ∀ (j : Nat) (x : AV) (v : Value), cs[j]? = some x → arr[j]? = some v → Rel G H w x v) : Rel G H w (.agg cs) (.agg arr)
  | tup (cs : List AV) (arr : Array Value) (hl : arr.size = cs.length) (hr : ∀ (j : Nat) (x : AV) (v : Value), cs[j]? = some x → arr[j]? = some v → Rel G H w x v) : Rel G H w (.tup cs) (.tuple arr)
  | ip (x : AV) (b off : Nat) (val : Nat → Value) (hc : ∀ j y, x.flat[j]? = some y → G.imm b (off + j) ∧ w.cell? ⟨b, off + j, none⟩ = some (val j))
      (hr : ∀ j y, x.flat[j]? = some y → Rel G H w y (val j)) : Rel G H w (.ip x) (.pointer (some ⟨b, off, none⟩))
  | mp (k off : Nat) (cs : List AV) (h : H[k]? = some (.cells cs)) : Rel G H w (.mp k off) (.pointer (some ⟨G.blk k, off, none⟩))
  | msl (k off len cap : Nat) (cs : List AV) (h : H[k]? = some (.cells cs)) (hcap : len ≤ cap) : Rel G H w (.msl k off len cap) (.slice (some ⟨G.blk k, off, none⟩) len cap)
  | fn (f : Fn) (fs cs : List AV) (fa ca : Array Value) (hf : fa.size = fs.length) (hc : ca.size = cs.length)
      (hrf : ∀ (j : Nat) (x : AV) (v : Value), fs[j]? = some x → fa[j]? = some v → Rel G H w x v)
      (hrc : ∀ (j : Nat) (x : AV) (v : Value), cs[j]? = some x → ca[j]? = some v → Rel G H w x v) : Rel G H w (.fn f fs cs) (.func f fa ca)
  | ifc (t : TypeId) (x : AV) (v : Value) (h : Rel G H w x v) : Rel G H w (.ifc t x) (.iface t v)

/-- What a step keeps of an abstract object. -/
def objKept (G G' : Gh) (H' : List AObj) (k : Nat) : Option AObj → Prop
  | some (.cells cs) => (∃ cs', H'[k]? = some (.cells cs') ∧ cs'.length = cs.length) ∧ G'.blk k = G.blk k
  | some (.grow s n) => ∃ n', H'[k]? = some (.grow s n') ∧ n ≤ n' ∧ (n' = n → G'.own k = G.own k)
  | none => True

structure Step (G : Gh) (H : List AObj) (w : World) (G' : Gh) (H' : List AObj) (w' : World) : Prop where
  os : w'.os = w.os
  tape : w'.tape = w.tape
  output : w'.output = w.output
  size : w.heap.size ≤ w'.heap.size
  imm : ∀ b off, G.imm b off → G'.imm b off
  cell : ∀ b off, G.imm b off → w'.cell? ⟨b, off, none⟩ = w.cell? ⟨b, off, none⟩
  whole : ∀ b, (∀ off, G.imm b off) → w'.heap[b]? = w.heap[b]?
  obj : ∀ k, objKept G G' H' k H[k]?

theorem Step.refl (G : Gh) (H : List AObj) (w : World) : Step G H w G H w :=
  ⟨rfl, rfl, rfl, Nat.le_refl _, fun _ _ h => h, fun _ _ _ => rfl, fun _ _ => rfl, fun k => by
    cases h : H[k]? with
    | none => trivial
    | some o => cases o with
      | cells cs => exact ⟨⟨cs, h, rfl⟩, rfl⟩
      | grow s n => exact ⟨n, h, Nat.le_refl _, fun _ => rfl⟩⟩

theorem Step.trans {G₁ G₂ G₃ : Gh} {H₁ H₂ H₃ : List AObj} {w₁ w₂ w₃ : World} (h : Step G₁ H₁ w₁ G₂ H₂ w₂) (k : Step G₂ H₂ w₂ G₃ H₃ w₃) : Step G₁ H₁ w₁ G₃ H₃ w₃ :=
  ⟨k.os.trans h.os, k.tape.trans h.tape, k.output.trans h.output, Nat.le_trans h.size k.size, fun b o hi => k.imm b o (h.imm b o hi),
   fun b o hi => (k.cell b o (h.imm b o hi)).trans (h.cell b o hi), fun b hi => (k.whole b fun o => h.imm b o (hi o)).trans (h.whole b hi), fun i => by
    have h1 := h.obj i
    have h2 := k.obj i
    cases e : H₁[i]? with
    | none => trivial
    | some o => cases o with
      | cells cs =>
        rw [e] at h1
        obtain ⟨⟨cs', e', l'⟩, b'⟩ := h1
        rw [e'] at h2
        obtain ⟨⟨cs'', e'', l''⟩, b''⟩ := h2
        exact ⟨⟨cs'', e'', l''.trans l'⟩, b''.trans b'⟩
      | grow s n =>
        rw [e] at h1
        obtain ⟨n', e', l', o'⟩ := h1
        rw [e'] at h2
        obtain ⟨n'', e'', l'', o''⟩ := h2
        refine ⟨n'', e'', Nat.le_trans l' l'', fun hn => ?_⟩
        have : n' = n := by omega
        rw [o'' (by omega), o' this]⟩

theorem Rel.mono {G G' : Gh} {H H' : List AObj} {w w' : World} (h : Step G H w G' H' w') {x : AV} {v : Value} (r : Rel G H w x v) : Rel G' H' w' x v := by
  induction r with
  | any v => exact .any v
  | lit v => exact .lit v
  | str l => exact .str l
  | sl o s xs a len cap val hl hcap hs hc hr hf ha ho ih =>
    refine .sl o s xs a len cap val hl hcap hs (fun j x e => ?_) ih hf ha (fun k e => ?_)
    · obtain ⟨b, off, ea, hi, hw⟩ := hc j x e
      exact ⟨b, off, ea, h.imm _ _ hi, (h.cell _ _ hi).trans hw⟩
    · obtain ⟨n, en, hn, hown⟩ := ho k e
      have := h.obj k
      rw [en] at this
      obtain ⟨n', en', hle, ho'⟩ := this
      exact ⟨n', en', by omega, fun e' => by rw [ho' (by omega)]; exact hown (by omega)⟩
  | agg cs arr hl hr ih => exact .agg cs arr hl ih
  | tup cs arr hl hr ih => exact .tup cs arr hl ih
  | ip x b off val hc hr ih => exact .ip x b off val (fun j y e => ⟨h.imm _ _ (hc j y e).1, (h.cell _ _ (hc j y e).1).trans (hc j y e).2⟩) ih
  | mp k off cs e =>
    have := h.obj k
    rw [e] at this
    obtain ⟨⟨cs', e', _⟩, eb⟩ := this
    rw [← eb]
    exact .mp k off cs' e'
  | msl k off len cap cs e hcap =>
    have := h.obj k
    rw [e] at this
    obtain ⟨⟨cs', e', _⟩, eb⟩ := this
    rw [← eb]
    exact .msl k off len cap cs' e' hcap
  | fn f fs cs fa ca hf hc _ _ ihf ihc => exact .fn f fs cs fa ca hf hc ihf ihc
  | ifc t x v _ ih => exact .ifc t x v ih

/-- The block that an abstract object may be written in. -/
def site (G : Gh) (H : List AObj) (k : Nat) : Option Nat :=
  match H[k]? with
  | some (.cells _) => some (G.blk k)
  | some (.grow _ n) => match G.own k with
    | (some a, cap) => if n < cap then some a.block else none
    | _ => none
  | none => none

/-- The listed package variables hold what they hold. -/
def TabsIn (G : Gh) (w : World) : Prop := ∀ g j v, (gtab g)[j]? = some v → G.imm g j ∧ w.cell? ⟨g, j, none⟩ = some v
theorem TabsIn.step {G G' : Gh} {H H' : List AObj} {w w' : World} (h : TabsIn G w) (st : Step G H w G' H' w') : TabsIn G' w' := fun g j v e =>
  ⟨st.imm _ _ (h g j v e).1, (st.cell _ _ (h g j v e).1).trans (h g j v e).2⟩

structure HInv (G : Gh) (H : List AObj) (w : World) : Prop where
  lt : ∀ b off, G.imm b off → b < w.heap.size
  cells : ∀ k cs, H[k]? = some (.cells cs) → ∃ arr T fr, w.heap[G.blk k]? = some (.cells arr T fr) ∧ arr.size = cs.length ∧
    (∀ (j : Nat) (x : AV) (v : Value), cs[j]? = some x → arr[j]? = some v → Rel G H w x v) ∧ (∀ off, ¬ G.imm (G.blk k) off) ∧ (∀ off, off < cs.length → w.frozen? ⟨G.blk k, off, none⟩ = false)
  grow : ∀ k s n, H[k]? = some (.grow s n) → 0 < s ∧ n ≤ (G.own k).2 ∧ (n < (G.own k).2 → ∃ b off arr T fr, (G.own k).1 = some ⟨b, off, none⟩ ∧
    w.heap[b]? = some (.cells arr T fr) ∧ off + (G.own k).2 * s ≤ arr.size ∧ (∀ j, off + n * s ≤ j → j < off + (G.own k).2 * s → ¬ G.imm b j ∧ w.frozen? ⟨b, j, none⟩ = false))
  apart : ∀ k k' b, site G H k = some b → site G H k' = some b → k = k'
  tabs : TabsIn G w

theorem HInv.site_lt {G : Gh} {H : List AObj} {w : World} (h : HInv G H w) {k b : Nat} (e : site G H k = some b) : b < w.heap.size := by
  unfold site at e
  split at e
  · rename_i cs hk
    obtain ⟨arr, T, fr, hb, _⟩ := h.cells k cs hk
    cases e
    rcases Nat.lt_or_ge (G.blk k) w.heap.size with hl | hl
    · exact hl
    · simp [Array.getElem?_eq_none hl] at hb
  · rename_i s n hk
    split at e
    · rename_i a cap ho
      split at e
      · rename_i hc
        obtain ⟨_, _, hg⟩ := h.grow k s n hk
        rw [ho] at hg
        obtain ⟨b', off, arr, T, fr, ea, hb, _⟩ := hg hc
        cases e
        cases ea
        rcases Nat.lt_or_ge b' w.heap.size with hl | hl
        · exact hl
        · simp [Array.getElem?_eq_none hl] at hb
      · cases e
    · cases e
  · cases e

/-- Values without references to abstract objects from m on. -/
inductive Low (m : Nat) : AV → Prop
  | any : Low m .any
  | lit (v : Value) : Low m (.lit v)
  | str (l : List UInt8) : Low m (.str l)
  | sl (o : Own) (s : Nat) (xs : List AV) (ho : ∀ k, o = .tok k → k < m) (h : ∀ x ∈ flats xs, Low m x) : Low m (.sl o s xs)
  | agg (cs : List AV) (h : ∀ x ∈ cs, Low m x) : Low m (.agg cs)
  | tup (cs : List AV) (h : ∀ x ∈ cs, Low m x) : Low m (.tup cs)
  | ip (x : AV) (h : ∀ y ∈ x.flat, Low m y) : Low m (.ip x)
  | mp (k off : Nat) (h : k < m) : Low m (.mp k off)
  | msl (k off len cap : Nat) (h : k < m) : Low m (.msl k off len cap)
  | fn (f : Fn) (fs cs : List AV) (hf : ∀ x ∈ fs, Low m x) (hc : ∀ x ∈ cs, Low m x) : Low m (.fn f fs cs)
  | ifc (t : TypeId) (x : AV) (h : Low m x) : Low m (.ifc t x)

theorem lt_of_get {α : Type} {l : List α} {k : Nat} {x : α} (h : l[k]? = some x) : k < l.length := by
  rcases Nat.lt_or_ge k l.length with hl | hl
  · exact hl
  · simp [List.getElem?_eq_none hl] at h

theorem Rel.low {G : Gh} {H : List AObj} {w : World} {x : AV} {v : Value} (r : Rel G H w x v) : Low H.length x := by
  induction r with
  | any v => exact .any
  | lit v => exact .lit v
  | str l => exact .str l
  | sl o s xs a len cap val hl hcap hs hc hr hf ha ho ih =>
    refine .sl o s xs (fun k e => ?_) (fun x hx => ?_)
    · obtain ⟨n, en, _⟩ := ho k e
      exact lt_of_get en
    · obtain ⟨j, hj⟩ := List.mem_iff_getElem?.1 hx
      exact ih j x hj
  | agg cs arr hl hr ih =>
    refine .agg cs fun x hx => ?_
    obtain ⟨j, hj⟩ := List.mem_iff_getElem?.1 hx
    have : j < arr.size := by rw [hl]; exact lt_of_get hj
    exact ih j x arr[j] hj (Array.getElem?_eq_getElem this)
  | tup cs arr hl hr ih =>
    refine .tup cs fun x hx => ?_
    obtain ⟨j, hj⟩ := List.mem_iff_getElem?.1 hx
    have : j < arr.size := by rw [hl]; exact lt_of_get hj
    exact ih j x arr[j] hj (Array.getElem?_eq_getElem this)
  | ip x b off val hc hr ih =>
    refine .ip x fun y hy => ?_
    obtain ⟨j, hj⟩ := List.mem_iff_getElem?.1 hy
    exact ih j y hj
  | mp k off cs e => exact .mp k off (lt_of_get e)
  | msl k off len cap cs e hcap => exact .msl k off len cap (lt_of_get e)
  | fn f fs cs fa ca hf hc _ _ ihf ihc =>
    refine .fn f fs cs (fun x hx => ?_) (fun x hx => ?_)
    · obtain ⟨j, hj⟩ := List.mem_iff_getElem?.1 hx
      have : j < fa.size := by rw [hf]; exact lt_of_get hj
      exact ihf j x fa[j] hj (Array.getElem?_eq_getElem this)
    · obtain ⟨j, hj⟩ := List.mem_iff_getElem?.1 hx
      have : j < ca.size := by rw [hc]; exact lt_of_get hj
      exact ihc j x ca[j] hj (Array.getElem?_eq_getElem this)
  | ifc t x v _ ih => exact .ifc t x ih

/-- What refers to no object from m on reads the same where the objects from m on are dropped. -/
theorem Rel.cut {G : Gh} {H : List AObj} {w : World} {x : AV} {v : Value} (m : Nat) (r : Rel G H w x v) (hx : Low m x) : Rel G (H.take m) w x v := by
  have tk : ∀ (k : Nat), k < m → (H.take m)[k]? = H[k]? := fun k hk => by simp [hk]
  induction r with
  | any v => exact .any v
  | lit v => exact .lit v
  | str l => exact .str l
  | sl o s xs a len cap val hl hcap hs hc hr hf ha ho ih =>
    cases hx with
    | sl _ _ _ hk h =>
      refine .sl o s xs a len cap val hl hcap hs hc (fun j x e => ih j x e (h x (List.mem_iff_getElem?.2 ⟨j, e⟩))) hf ha (fun k e => ?_)
      obtain ⟨n, en, hn⟩ := ho k e
      exact ⟨n, by rw [tk k (hk k e)]; exact en, hn⟩
  | agg cs arr hl hr ih =>
    cases hx with
    | agg _ h => exact .agg cs arr hl fun j x v e e' => ih j x v e e' (h x (List.mem_iff_getElem?.2 ⟨j, e⟩))
  | tup cs arr hl hr ih =>
    cases hx with
    | tup _ h => exact .tup cs arr hl fun j x v e e' => ih j x v e e' (h x (List.mem_iff_getElem?.2 ⟨j, e⟩))
  | ip x b off val hc hr ih =>
    cases hx with
    | ip _ h => exact .ip x b off val hc fun j y e => ih j y e (h y (List.mem_iff_getElem?.2 ⟨j, e⟩))
  | mp k off cs e =>
    cases hx with
    | mp _ _ h => exact .mp k off cs (by rw [tk k h]; exact e)
  | msl k off len cap cs e hcap =>
    cases hx with
    | msl _ _ _ _ h => exact .msl k off len cap cs (by rw [tk k h]; exact e) hcap
  | fn f fs cs fa ca hf hc _ _ ihf ihc =>
    cases hx with
    | fn _ _ _ h1 h2 => exact .fn f fs cs fa ca hf hc (fun j x v e e' => ihf j x v e e' (h1 x (List.mem_iff_getElem?.2 ⟨j, e⟩))) (fun j x v e e' => ihc j x v e e' (h2 x (List.mem_iff_getElem?.2 ⟨j, e⟩)))
  | ifc t x v _ ih =>
    cases hx with
    | ifc _ _ h => exact .ifc t x v (ih h)

theorem Low.mono {m n : Nat} (hmn : m ≤ n) {x : AV} (h : Low m x) : Low n x := by
  induction h with
  | any => exact .any
  | lit v => exact .lit v
  | str l => exact .str l
  | sl o s xs ho _ ih => exact .sl o s xs (fun k e => Nat.lt_of_lt_of_le (ho k e) hmn) ih
  | agg cs _ ih => exact .agg cs ih
  | tup cs _ ih => exact .tup cs ih
  | ip x _ ih => exact .ip x ih
  | mp k off h => exact .mp k off (Nat.lt_of_lt_of_le h hmn)
  | msl k off len cap h => exact .msl k off len cap (Nat.lt_of_lt_of_le h hmn)
  | fn f fs cs _ _ ihf ihc => exact .fn f fs cs ihf ihc
  | ifc t x _ ih => exact .ifc t x ih

/-- Dropping the objects from m on, where those that stay refer to none of them. -/
theorem HInv.cut {G : Gh} {H : List AObj} {w : World} (h : HInv G H w) (m : Nat) (hl : ∀ k cs, k < m → H[k]? = some (.cells cs) → ∀ x ∈ cs, Low m x) : HInv G (H.take m) w := by
  have tk : ∀ (k : Nat) o, (H.take m)[k]? = some o → k < m ∧ H[k]? = some o := fun k o e => by
    rw [List.getElem?_take] at e
    split at e
    · exact ⟨by assumption, e⟩
    · cases e
  refine ⟨h.lt, fun k cs e => ?_, fun k s n e => h.grow k s n (tk k _ e).2, fun k k' b e e' => ?_, h.tabs⟩
  · obtain ⟨hk, e'⟩ := tk k _ e
    obtain ⟨arr, T, fr, hb, hs, hr, hf⟩ := h.cells k cs e'
    exact ⟨arr, T, fr, hb, hs, fun j x v ex ev => (hr j x v ex ev).cut m (hl k cs hk e' x (List.mem_iff_getElem?.2 ⟨j, ex⟩)), hf⟩
  · have st : ∀ k b, site G (H.take m) k = some b → site G H k = some b := fun k b e => by
      unfold site at e ⊢
      cases ho : (H.take m)[k]? with
      | none => rw [ho] at e; cases e
      | some o => rw [(tk k o ho).2]; rw [ho] at e; exact e
    exact h.apart k k' b (st k b e) (st k' b e')

/-- A step that ends with more objects is one that ends with the old number of them. -/
theorem Step.cut {G G' : Gh} {H H' : List AObj} {w w' : World} (h : Step G H w G' H' w') {m : Nat} (hm : H.length ≤ m) : Step G H w G' (H'.take m) w' := by
  refine ⟨h.os, h.tape, h.output, h.size, h.imm, h.cell, h.whole, fun k => ?_⟩
  have := h.obj k
  cases e : H[k]? with
  | none => trivial
  | some o =>
    have hk : k < m := Nat.lt_of_lt_of_le (lt_of_get e) hm
    have tk : (H'.take m)[k]? = H'[k]? := by simp [hk]
    rw [e] at this
    cases o with
    | cells cs => exact ⟨by rw [tk]; exact this.1, this.2⟩
    | grow s n => simpa only [objKept, tk] using this

end Go.Proofs.YthaicajgfioogaaDoor.V
