/- New memory that nobody writes; slice expressions, fields, conversions, literals. -/
import Derived.Test.YthaicajgfioogaaDoorVd
set_option linter.unusedSimpArgs false
set_option linter.unusedVariables false
namespace Go.Proofs.YthaicajgfioogaaDoor.V
open Go

theorem heap_none {w : World} {b : Nat} (h : w.heap.size ≤ b) : w.heap[b]? = none := Array.getElem?_eq_none h
theorem heap_lt {w : World} {b : Nat} {o : Obj} (h : w.heap[b]? = some o) : b < w.heap.size := by
  rcases Nat.lt_or_ge b w.heap.size with hl | hl
  · exact hl
  · rw [heap_none hl] at h; cases h

/-- A world that is the old one with new blocks. -/
structure More (w w' : World) : Prop where
  os : w'.os = w.os
  tape : w'.tape = w.tape
  output : w'.output = w.output
  size : w.heap.size ≤ w'.heap.size
  old : ∀ b, b < w.heap.size → w'.heap[b]? = w.heap[b]?
theorem More.refl (w : World) : More w w := ⟨rfl, rfl, rfl, Nat.le_refl _, fun _ _ => rfl⟩
theorem More.drew {w w' : World} (h : More w w') : More w w'.drew := ⟨h.os, h.tape, h.output, h.size, h.old⟩
theorem More.alloc {w w' : World} (h : More w w') (o : Obj) : More w (w'.alloc o) :=
  ⟨h.os, h.tape, h.output, by have := h.size; simp; omega, fun b hb => (RowKit.Below.heap_alloc w' o b (Nat.lt_of_lt_of_le hb h.size)).trans (h.old b hb)⟩

def addImm (G : Gh) (w w' : World) : Gh := { G with imm := fun b off => G.imm b off ∨ (w.heap.size ≤ b ∧ b < w'.heap.size) }
theorem More.step {G : Gh} {H : List AObj} {w w' : World} (h : More w w') (hi : HInv G H w) : Step G H w (addImm G w w') H w' :=
  ⟨h.os, h.tape, h.output, h.size, fun _ _ hb => .inl hb, fun b off hb => World.cell?_of_block (w := w) (h.old b (hi.lt b off hb)), fun b hb => h.old b (hi.lt b 0 (hb 0)), fun k => by
    cases e : H[k]? with
    | none => trivial
    | some o => cases o with
      | cells cs => exact ⟨⟨cs, e, rfl⟩, rfl⟩
      | grow s n => exact ⟨n, e, Nat.le_refl _, fun _ => rfl⟩⟩
theorem More.inv {G : Gh} {H : List AObj} {w w' : World} (h : More w w') (hi : HInv G H w) : HInv (addImm G w w') H w' := by
  have st := h.step hi
  refine ⟨fun b off hb => ?_, fun k cs e => ?_, fun k s n e => ?_, fun k k' b => hi.apart k k' b, hi.tabs.step st⟩
  · rcases hb with hb | hb
    · exact Nat.lt_of_lt_of_le (hi.lt b off hb) h.size
    · exact hb.2
  · obtain ⟨arr, T, fr, hb, hs, hr, hf⟩ := hi.cells k cs e
    have hlt := heap_lt hb
    refine ⟨arr, T, fr, (h.old _ hlt).trans hb, hs, fun j x v ex ev => (hr j x v ex ev).mono st, fun off => ?_, fun off ho => ?_⟩
    · rintro (h1 | h1)
      · exact hf.1 off h1
      · have : G.blk k < w.heap.size := hlt
        have h2 : w.heap.size ≤ G.blk k := h1.1
        omega
    · exact (World.frozen?_of_block (w := w) (h.old _ hlt)).trans (hf.2 off ho)
  · obtain ⟨h0, h1, h2⟩ := hi.grow k s n e
    refine ⟨h0, h1, fun hn => ?_⟩
    obtain ⟨b, off, arr, T, fr, ea, hb, hsz, hj⟩ := h2 hn
    have hlt := heap_lt hb
    refine ⟨b, off, arr, T, fr, ea, (h.old _ hlt).trans hb, hsz, fun j h3 h4 => ⟨?_, ?_⟩⟩
    · rintro (h5 | h5)
      · exact (hj j h3 h4).1 h5
      · omega
    · exact (World.frozen?_of_block (w := w) (h.old _ hlt)).trans (hj j h3 h4).2

section
variable {P : Program} {env : Env} {H : List AObj} {dst : Option Tmp} {ty : TypeId} {pos : String} {after : Array Edge} {guard : Option (Nat × Bool)}

/-- A number in a slot, or a default where there is no slot. -/
def numOr (d : Int) : Option AV → Option Int
  | none => some d
  | some (.lit (.int _ i)) => some i
  | _ => none
theorem numOr_run {G : Gh} {w : World} {d i : Int} {x : Option AV} {v : Option Value} (h : numOr d x = some i) (hr : ∀ y, x = some y → ∃ u, v = some u ∧ Rel G H w y u) (hn : x = none → v = none) :
    (v = none ∧ x = none ∧ i = d) ∨ ∃ k, v = some (.int k i) := by
  unfold numOr at h
  split at h
  · cases h; exact .inl ⟨hn rfl, rfl, rfl⟩
  · obtain ⟨u, rfl, hu⟩ := hr _ rfl
    cases h
    exact .inr ⟨_, by rw [rel_lit_inv hu]⟩
  · cases h
theorem run_bounds {w : World} {isSlice : Bool} {len cap : Nat} {lo hi mx : Option Value} {l h m : Int}
    (hl : (lo = none ∧ l = 0) ∨ ∃ k, lo = some (.int k l)) (hh : (hi = none ∧ mx = none ∧ h = len) ∨ ∃ k, hi = some (.int k h)) (hm : (mx = none ∧ m = cap) ∨ ∃ k, mx = some (.int k m))
    (h0 : 0 ≤ l) (h1 : l ≤ h) (h2 : h ≤ m) (h3 : m ≤ cap) (h4 : h ≤ cap) : (Instr.sliceBounds isSlice len cap lo hi mx).run P w = .ok (l.toNat, h.toNat, m.toNat) w := by
  have b0 : ∀ (k : IntKind) (i : Int) (y : Nat) (c : BoundsCode), 0 ≤ i → i ≤ (y : Int) → (Instr.sliceBound (.int k i) y c).run P w = .ok i.toNat w := fun k i y c h0 h1 => run_sliceBound w k i y c h0 h1
  have hh0 : 0 ≤ h := by omega
  have hm0 : 0 ≤ m := by omega
  have hhm : h ≤ (m.toNat : Int) := by omega
  have hlh : l ≤ (h.toNat : Int) := by omega
  have hll : l ≤ (len : Int) → l.toNat ≤ len := by omega
  rcases hl with ⟨rfl, rfl⟩ | ⟨k1, rfl⟩ <;> rcases hm with ⟨rfl, rfl⟩ | ⟨k3, rfl⟩ <;> rcases hh with ⟨rfl, e2, rfl⟩ | ⟨k2, rfl⟩ <;> (try cases e2) <;>
    simp only [Instr.sliceBounds, Sem.run_bind, Sem.run_pure, Result.andThen_ok, b0 _ _ _ _ h0 hlh, b0 _ _ _ _ hh0 hhm, b0 _ _ _ _ hh0 h4, b0 _ _ _ _ hm0 h3, Int.toNat_natCast, Int.toNat_zero] <;>
    first | rfl | (rw [b0 _ _ _ _ h0 h1]; rfl) | (rw [b0 _ _ _ _ h0 (by omega)]; rfl) | skip

/-- An optional operand's abstract value. -/
def evO (env : Env) (x : Option Operand) : Option AV := x.map (ev env)
theorem evO_rel {n : Nat} {G : Gh} {a : Act} {w : World} (s : Sat n G env H a w) {x : Option Operand} {d i : Int} (h : numOr d (evO env x) = some i) :
    (x.map a.eval = none ∧ x = none ∧ i = d) ∨ ∃ k, x.map a.eval = some (.int k i) := by
  cases x with
  | none => simp only [evO, Option.map_none, numOr, Option.some.injEq] at h; exact .inl ⟨rfl, rfl, h.symm⟩
  | some x =>
    right
    have r := s.ev x
    simp only [evO, Option.map_some] at h
    generalize ev env x = y at h r
    unfold numOr at h
    split at h
    · rename_i e; cases e
    · rename_i e
      cases e
      cases h
      exact ⟨_, by rw [Option.map_some, rel_lit_inv r]⟩
    · cases h

/-- 'x[lo:hi]', 'x[lo:hi:mx]' at strings, slices that nobody writes, slices of an object, arrays of an object. -/
def qSlice (L : Tab) (t : TypeId) (x : AV) (lo hi mx : Option AV) : Option (Prop × AV) :=
  match (L t).k, x with
  | .str, .str s => match numOr 0 lo, numOr s.length hi, mx with
    | some l, some h, none => some (0 ≤ l ∧ l ≤ h ∧ h ≤ s.length, .str ((s.drop l.toNat).take (h.toNat - l.toNat)))
    | _, _, _ => none
  | .slice e, .sl o z xs => match numOr 0 lo, numOr xs.length hi, mx with
    | some l, some h, none => some (0 ≤ l ∧ l ≤ h ∧ h ≤ xs.length ∧ z = (L e).size ∧ 0 < z ∧ (L e).k ≠ .other, .sl (if l = 0 ∧ h = xs.length then o else .sh) z ((xs.drop l.toNat).take (h.toNat - l.toNat)))
    | some l, some h, some (.lit (.int _ m)) => some (hi.isSome = true ∧ 0 ≤ l ∧ l ≤ h ∧ h ≤ xs.length ∧ m = h ∧ z = (L e).size ∧ 0 < z ∧ (L e).k ≠ .other, .sl .full z ((xs.drop l.toNat).take (h.toNat - l.toNat)))
    | _, _, _ => none
  | .slice e, .msl k off len cap => match numOr 0 lo, numOr len hi, mx with
    | some l, some h, none => some (0 ≤ l ∧ l ≤ h ∧ h ≤ cap ∧ (L e).k ≠ .other, .msl k (if (cap : Int) = l then off else off + l.toNat * (L e).size) (h.toNat - l.toNat) (cap - l.toNat))
    | _, _, _ => none
  | .arr n e, .mp k off => match numOr 0 lo, numOr n hi, mx with
    | some l, some h, none => some (0 ≤ l ∧ l ≤ h ∧ h ≤ n ∧ (L e).k ≠ .other, .msl k (if (n : Int) = l then off else off + l.toNat * (L e).size) (h.toNat - l.toNat) (n - l.toNat))
    | _, _, _ => none
  | _, _ => none
theorem rel_sub {G : Gh} {w : World} {o o' : Own} {z : Nat} {xs : List AV} {ad : Option Addr} {len cap : Nat} (r : Rel G H w (.sl o z xs) (.slice ad len cap)) {l h m : Nat} (hlh : l ≤ h) (hh : h ≤ xs.length) (hm : h ≤ m)
    (hmc : m ≤ cap) (ho' : ∀ k, o' ≠ .tok k) (hf' : o' = .full → m = h) : Rel G H w (.sl o' z ((xs.drop l).take (h - l))) (.slice (if m = l then ad else ad.map (·.add (l * z))) (h - l) (m - l)) := by
  cases r with
  | sl _ _ _ _ _ _ val hl hcap huni hc hr hf ha ho =>
    have hflat : flats ((xs.drop l).take (h - l)) = ((flats xs).drop (l * z)).take ((h - l) * z) := by
      rw [flats_take (s := z) _ (fun x hx => (huni x (List.mem_of_mem_drop hx)).1), flats_drop l fun x hx => (huni x hx).1]
    have hsub : ∀ (j : Nat) x, (flats ((xs.drop l).take (h - l)))[j]? = some x → (flats xs)[l * z + j]? = some x := fun j x e => by
      rw [hflat, List.getElem?_take] at e
      split at e
      · rwa [List.getElem?_drop] at e
      · cases e
    refine .sl o' z _ _ _ _ (fun j => val (l * z + j)) (by rw [List.length_take, List.length_drop]; omega) (by omega) (fun x hx => huni x (List.mem_of_mem_drop (List.mem_of_mem_take hx))) (fun j x e => ?_) (fun j x e => hr _ x (hsub j x e)) (fun e => by have := hf' e; omega) (fun h0 => ?_) (fun k e => absurd e (ho' k))
    · obtain ⟨b, off, ea, hi, hw⟩ := hc _ x (hsub j x e)
      have hne : m ≠ l := fun e' => by
        have : h - l = 0 := by omega
        rw [this] at e
        simp [flats] at e
      subst ea
      exact ⟨b, off + l * z, by rw [if_neg hne]; simp [addr_add], by rw [Nat.add_assoc]; exact hi, by rw [Nat.add_assoc]; exact hw⟩
    · have := ha (by omega)
      split <;> simp [this]

theorem run_slice_sl {L : Tab} (hL : TabOk P L) {w : World} {t e : TypeId} (hu : P.underlying t = some (.slice e)) (he : (L e).k ≠ .other) {ad : Option Addr} {len cap : Nat} {lo hi mx : Option Value} {l h m : Int}
    (hb : (Instr.sliceBounds true len cap lo hi mx).run P w = .ok (l.toNat, h.toNat, m.toNat) w) :
    (Instr.sliceAt t (.slice ad len cap) lo hi mx).run P w = .ok (.slice (if m.toNat = l.toNat then ad else ad.map (·.add (l.toNat * (L e).size))) (h.toNat - l.toNat) (m.toNat - l.toNat)) w := by
  simp [Instr.sliceAt, Instr.slice, run_underlying hu, hb, run_size hL he]

theorem still_slice {L : Tab} (hL : TabOk P L) {t : TypeId} {x : Operand} {lo hi mx : Option Operand} {p : Prop} {z : AV} (h : qSlice L t (ev env x) (evO env lo) (evO env hi) (evO env mx) = some (p, z)) :
    Still P ⟨dst, .slice t x lo hi mx, ty, pos, after, guard⟩ env H p z := fun hp _ G a w s => by
  have rx := s.ev x
  unfold qSlice at h
  split at h
  · rename_i l hk ex
    have hu := (hL t (by rw [hk]; simp)).1
    rw [hk] at hu
    rw [ex] at rx
    have hx := rel_str_inv rx
    split at h
    · rename_i lv hv el eh em
      cases h
      have hmx : mx = none := by cases mx with | none => rfl | some _ => cases em
      subst hmx
      have h1 := evO_rel s el
      have h2 := evO_rel s eh
      have hb := run_bounds (P := P) (w := w) (isSlice := false) (len := l.length) (cap := l.length) (lo := lo.map a.eval) (hi := hi.map a.eval) (mx := none) (l := lv) (h := hv) (m := (l.length : Int))
        (h1.imp (fun h => ⟨h.1, h.2.2⟩) id) (h2.imp (fun h => ⟨h.1, rfl, h.2.2⟩) id) (.inl ⟨rfl, rfl⟩) hp.1 hp.2.1 hp.2.2 (Int.le_refl _) hp.2.2
      refine ⟨.string ((ByteArray.mk l.toArray).extract lv.toNat hv.toNat), ?_, ?_⟩
      · simp [execOp, hx, Instr.sliceAt, Instr.slice, run_underlying hu, size_mk, hb]
      · have : (ByteArray.mk l.toArray).extract lv.toNat hv.toNat = ⟨((l.drop lv.toNat).take (hv.toNat - lv.toNat)).toArray⟩ := by
          apply ByteArray.ext
          simp [ByteArray.data_extract]
        rw [this]
        exact .str _
    · cases h
  · rename_i e o sz xs hk ex
    have hu := (hL t (by rw [hk]; simp)).1
    rw [hk] at hu
    rw [ex] at rx
    generalize hv' : a.eval x = v at rx
    have rx' := rx
    cases rx with
    | sl _ _ _ ad len cap val hl hcap huni hc hr hf ha ho =>
    subst hl
    split at h
    · rename_i lv hv el eh em
      cases h
      have hmx : mx = none := by cases mx with | none => rfl | some _ => cases em
      subst hmx
      obtain ⟨p0, p1, p2, p3, p4, p5⟩ := hp
      subst p3
      have h1 := evO_rel s el
      have h2 := evO_rel s eh
      have hb := run_bounds (P := P) (w := w) (isSlice := true) (len := xs.length) (cap := cap) (lo := lo.map a.eval) (hi := hi.map a.eval) (mx := none) (l := lv) (h := hv) (m := (cap : Int))
        (h1.imp (fun h => ⟨h.1, h.2.2⟩) id) (h2.imp (fun h => ⟨h.1, rfl, h.2.2⟩) id) (.inl ⟨rfl, rfl⟩) p0 p1 (by omega) (Int.le_refl _) (by omega)
      refine ⟨_, by simp [execOp, hv', run_slice_sl hL hu p5 hb]; rfl, ?_⟩
      by_cases hkeep : lv = 0 ∧ hv = xs.length
      · obtain ⟨rfl, rfl⟩ := hkeep
        have e0 : (if cap = (0 : Int).toNat then ad else ad.map (·.add ((0 : Int).toNat * (L e).size))) = ad := by
          split
          · rfl
          · cases ad <;> simp [Addr.add]
        simp only [true_and, if_true, Int.toNat_natCast, Int.toNat_zero, List.drop_zero, Nat.sub_zero, List.take_length]
        simp only [Int.toNat_zero] at e0
        rw [e0]
        exact rx'
      · rw [if_neg hkeep]
        exact rel_sub rx' (by omega) (by omega) (by simp; omega) (by simp) (fun k e => by cases e) (fun e => by cases e)
    · rename_i lv hv ki mv el eh em
      cases h
      obtain ⟨ph, p0, p1, p2, p3, p4, p5, p6⟩ := hp
      subst p4
      subst p3
      have h1 := evO_rel s el
      have h2 := evO_rel s eh
      have h3 : ∃ k, mx.map a.eval = some (.int k mv) := by
        have := evO_rel (d := 0) s (show numOr 0 (evO env mx) = some mv by rw [em]; rfl)
        rcases this with ⟨_, e', _⟩ | h
        · subst e'; cases em
        · exact h
      have h2' : (hi.map a.eval = none ∧ mx.map a.eval = none ∧ mv = (xs.length : Int)) ∨ ∃ k, hi.map a.eval = some (.int k mv) := by
        rcases h2 with ⟨e1, e2, e3⟩ | h
        · exfalso
          subst e2
          simp [evO] at ph
        · exact .inr h
      have hb := run_bounds (P := P) (w := w) (isSlice := true) (len := xs.length) (cap := cap) (lo := lo.map a.eval) (hi := hi.map a.eval) (mx := mx.map a.eval) (l := lv) (h := mv) (m := mv)
        (h1.imp (fun h => ⟨h.1, h.2.2⟩) id) h2' (.inr h3) p0 p1 (Int.le_refl _) (by omega) (by omega)
      refine ⟨_, by simp [execOp, hv', run_slice_sl hL hu p6 hb]; rfl, ?_⟩
      exact rel_sub rx' (by omega) (by omega) (Nat.le_refl _) (by omega) (fun k e => by cases e) (fun _ => rfl)
    · cases h
  · rename_i e k off len cap hk ex
    have hu := (hL t (by rw [hk]; simp)).1
    rw [hk] at hu
    rw [ex] at rx
    generalize hv' : a.eval x = v at rx
    cases rx with
    | msl _ _ _ _ cs hk' hcap =>
    split at h
    · rename_i lv hv el eh em
      cases h
      have hmx : mx = none := by cases mx with | none => rfl | some _ => cases em
      subst hmx
      obtain ⟨p0, p1, p2, p5⟩ := hp
      have h1 := evO_rel s el
      have h2 := evO_rel s eh
      have hb := run_bounds (P := P) (w := w) (isSlice := true) (len := len) (cap := cap) (lo := lo.map a.eval) (hi := hi.map a.eval) (mx := none) (l := lv) (h := hv) (m := (cap : Int))
        (h1.imp (fun h => ⟨h.1, h.2.2⟩) id) (h2.imp (fun h => ⟨h.1, rfl, h.2.2⟩) id) (.inl ⟨rfl, rfl⟩) p0 p1 (by omega) (Int.le_refl _) (by omega)
      refine ⟨_, by simp [execOp, hv', run_slice_sl hL hu p5 hb]; rfl, ?_⟩
      have e0 : (if cap = lv.toNat then some (Addr.mk (G.blk k) off none) else (some (Addr.mk (G.blk k) off none)).map (·.add (lv.toNat * (L e).size))) = some ⟨G.blk k, if (cap : Int) = lv then off else off + lv.toNat * (L e).size, none⟩ := by
        by_cases hc : (cap : Int) = lv
        · rw [if_pos hc, if_pos (by omega)]
        · rw [if_neg hc, if_neg (by omega)]; simp [addr_add]
      simp only [Option.map_some] at e0 ⊢
      rw [e0]
      exact .msl _ _ _ _ cs hk' (by omega)
    · cases h
  · rename_i n e k off hk ex
    have hu := (hL t (by rw [hk]; simp)).1
    rw [hk] at hu
    rw [ex] at rx
    generalize hv' : a.eval x = v at rx
    cases rx with
    | mp _ _ cs hk' =>
    split at h
    · rename_i lv hv el eh em
      cases h
      have hmx : mx = none := by cases mx with | none => rfl | some _ => cases em
      subst hmx
      obtain ⟨p0, p1, p2, p5⟩ := hp
      have h1 := evO_rel s el
      have h2 := evO_rel s eh
      have hb := run_bounds (P := P) (w := w) (isSlice := false) (len := n) (cap := n) (lo := lo.map a.eval) (hi := hi.map a.eval) (mx := none) (l := lv) (h := hv) (m := (n : Int))
        (h1.imp (fun h => ⟨h.1, h.2.2⟩) id) (h2.imp (fun h => ⟨h.1, rfl, h.2.2⟩) id) (.inl ⟨rfl, rfl⟩) p0 p1 (by omega) (Int.le_refl _) (by omega)
      refine ⟨_, by simp [execOp, hv', Instr.sliceAt, run_underlying hu, Instr.sureAddr, hb, run_size hL p5]; rfl, ?_⟩
      have e0 : (if n = lv.toNat then Addr.mk (G.blk k) off none else (Addr.mk (G.blk k) off none).add (lv.toNat * (L e).size)) = ⟨G.blk k, if (n : Int) = lv then off else off + lv.toNat * (L e).size, none⟩ := by
        by_cases hc : (n : Int) = lv
        · rw [if_pos hc, if_pos (by omega)]
        · rw [if_neg hc, if_neg (by omega)]; simp [addr_add]
      rw [e0]
      exact .msl _ _ _ _ cs hk' (by omega)
    · cases h
  · cases h
end
end Go.Proofs.YthaicajgfioogaaDoor.V
