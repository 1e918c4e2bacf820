/- Operations that read memory, or make memory that nobody writes. -/
import Derived.Test.YthaicajgfioogaaDoorVc
set_option linter.unusedSimpArgs false
set_option linter.unusedVariables false
namespace Go.Proofs.YthaicajgfioogaaDoor.V
open Go

theorem flats_cons (x : AV) (xs : List AV) : flats (x :: xs) = x.flat ++ flats xs := by simp [flats]
theorem flats_len {s : Nat} : ∀ {xs : List AV}, (∀ x ∈ xs, x.flat.length = s) → (flats xs).length = xs.length * s
  | [], _ => by simp [flats]
  | x :: xs, h => by
    rw [flats_cons, List.length_append, h x (List.mem_cons_self ..), flats_len fun y hy => h y (List.mem_cons_of_mem _ hy), List.length_cons, Nat.succ_mul, Nat.add_comm]
theorem flats_drop {s : Nat} : ∀ {xs : List AV} (l : Nat), (∀ x ∈ xs, x.flat.length = s) → flats (xs.drop l) = (flats xs).drop (l * s)
  | [], l, _ => by simp [flats]
  | x :: xs, 0, _ => by simp
  | x :: xs, l + 1, h => by
    rw [List.drop_succ_cons, flats_drop l fun y hy => h y (List.mem_cons_of_mem _ hy), flats_cons, List.drop_append]
    have := h x (List.mem_cons_self ..)
    have e1 : List.drop ((l + 1) * s) x.flat = [] := List.drop_eq_nil_of_le (by rw [this, Nat.succ_mul]; omega)
    have e2 : (l + 1) * s - x.flat.length = l * s := by rw [this, Nat.succ_mul]; omega
    rw [e1, e2, List.nil_append]
theorem flats_take {s : Nat} : ∀ {xs : List AV} (l : Nat), (∀ x ∈ xs, x.flat.length = s) → flats (xs.take l) = (flats xs).take (l * s)
  | [], l, _ => by simp [flats]
  | x :: xs, 0, _ => by simp [flats]
  | x :: xs, l + 1, h => by
    rw [List.take_succ_cons, flats_cons, flats_take l fun y hy => h y (List.mem_cons_of_mem _ hy), flats_cons, List.take_append]
    have := h x (List.mem_cons_self ..)
    have e1 : List.take ((l + 1) * s) x.flat = x.flat := List.take_of_length_le (by rw [this, Nat.succ_mul]; omega)
    have e2 : (l + 1) * s - x.flat.length = l * s := by rw [this, Nat.succ_mul]; omega
    rw [e1, e2]
theorem flats_get {s : Nat} {xs : List AV} (h : ∀ x ∈ xs, x.flat.length = s) {i j : Nat} {x y : AV} (hx : xs[i]? = some x) (hy : x.flat[j]? = some y) : (flats xs)[i * s + j]? = some y := by
  have hi := lt_of_get hx
  have e : flats (xs.drop i) = (flats xs).drop (i * s) := flats_drop i h
  have e2 : xs.drop i = x :: xs.drop (i + 1) := by
    rw [List.drop_eq_getElem_cons hi]
    have := List.getElem?_eq_getElem hi
    rw [hx] at this
    cases this
    rfl
  rw [e2, flats_cons] at e
  have h3 : ((flats xs).drop (i * s))[j]? = some y := by rw [← e, List.getElem?_append_left (lt_of_get hy)]; exact hy
  rw [List.getElem?_drop] at h3
  exact h3
theorem flats_append (xs ys : List AV) : flats (xs ++ ys) = flats xs ++ flats ys := by simp [flats]

theorem addr_add (b off n : Nat) : (Addr.mk b off none).add n = ⟨b, off + n, none⟩ := by
  unfold Addr.add
  split
  · rename_i h; subst h; rfl
  · rfl

/-- The place of a slice that holds something. -/
theorem Rel.sl_addr {G : Gh} {H : List AObj} {w : World} {o : Own} {s : Nat} {xs : List AV} {v : Value} (h : Rel G H w (.sl o s xs) v) (hs : 0 < s) (hx : 0 < xs.length) :
    ∃ b off cap, v = .slice (some ⟨b, off, none⟩) xs.length cap ∧ xs.length ≤ cap ∧ (∀ j y, (flats xs)[j]? = some y → G.imm b (off + j) ∧ ∃ u, w.cell? ⟨b, off + j, none⟩ = some u ∧ Rel G H w y u) := by
  cases h with
  | sl _ _ _ ad len cap val hl hcap huni hc hr hf ha ho =>
    have huni := fun x hx => (huni x hx).1
    have h0 : 0 < (flats xs).length := by rw [flats_len huni]; exact Nat.mul_pos hx hs
    obtain ⟨b, off, e, _⟩ := hc 0 _ (List.getElem?_eq_getElem h0)
    subst e
    subst hl
    refine ⟨b, off, cap, rfl, hcap, fun j y hj => ?_⟩
    obtain ⟨b', off', e', hi, hw⟩ := hc j y hj
    cases e'
    exact ⟨hi, val j, hw, hr j y hj⟩
theorem Rel.sl_uni {G : Gh} {H : List AObj} {w : World} {o : Own} {s : Nat} {xs : List AV} {v : Value} (h : Rel G H w (.sl o s xs) v) : ∀ x ∈ xs, x.flat.length = s := by
  cases h with
  | sl _ _ _ ad len cap val hl hcap huni => exact fun x hx => (huni x hx).1
theorem Rel.sl_okv {G : Gh} {H : List AObj} {w : World} {o : Own} {s : Nat} {xs : List AV} {v : Value} (h : Rel G H w (.sl o s xs) v) : ∀ x ∈ xs, x.okv = true := by
  cases h with
  | sl _ _ _ ad len cap val hl hcap huni => exact fun x hx => (huni x hx).2

theorem rel_ip_of {G : Gh} {H : List AObj} {w : World} {x : AV} {b off : Nat} (h : ∀ j y, x.flat[j]? = some y → G.imm b (off + j) ∧ ∃ u, w.cell? ⟨b, off + j, none⟩ = some u ∧ Rel G H w y u) : Rel G H w (.ip x) (.pointer (some ⟨b, off, none⟩)) := by
  refine .ip x b off (fun j => (w.cell? ⟨b, off + j, none⟩).getD undef) (fun j y e => ?_) (fun j y e => ?_)
  · obtain ⟨h1, u, h2, _⟩ := h j y e
    exact ⟨h1, by rw [h2]; rfl⟩
  · obtain ⟨_, u, h2, h3⟩ := h j y e
    rw [h2]
    exact h3
theorem rel_sl_of {G : Gh} {H : List AObj} {w : World} {s : Nat} {xs : List AV} {b off len cap : Nat} (hl : len = xs.length) (hcap : len ≤ cap) (hs : ∀ x ∈ xs, x.flat.length = s ∧ x.okv = true)
    (h : ∀ j y, (flats xs)[j]? = some y → G.imm b (off + j) ∧ ∃ u, w.cell? ⟨b, off + j, none⟩ = some u ∧ Rel G H w y u) : Rel G H w (.sl .sh s xs) (.slice (some ⟨b, off, none⟩) len cap) := by
  refine .sl .sh s xs _ _ _ (fun j => (w.cell? ⟨b, off + j, none⟩).getD undef) hl hcap hs (fun j y e => ?_) (fun j y e => ?_) (fun e => by cases e) (fun _ => rfl) (fun k e => by cases e)
  · obtain ⟨h1, u, h2, _⟩ := h j y e
    exact ⟨b, off, rfl, h1, by rw [h2]; rfl⟩
  · obtain ⟨_, u, h2, h3⟩ := h j y e
    rw [h2]
    exact h3

section
variable {P : Program} {env : Env} {H : List AObj} {dst : Option Tmp} {ty : TypeId} {pos : String} {after : Array Edge} {guard : Option (Nat × Bool)}

theorem info_of {L : Tab} (hL : TabOk P L) {t : TypeId} (ht : (L t).k ≠ .other) : ∃ i, P.info? t = some i ∧ i.size = (L t).size ∧ i.bytes = (L t).bytes :=
  let ⟨_, i, _, h1, h2, h3, _⟩ := hL t ht
  ⟨i, h1, h2, h3⟩
theorem run_size {L : Tab} (hL : TabOk P L) {t : TypeId} (ht : (L t).k ≠ .other) (w : World) : (sizeOf t).run P w = .ok (L t).size w := by
  obtain ⟨i, h1, h2, _⟩ := info_of hL ht
  simp [sizeOf, typeInfo, h1, h2]
theorem run_isAgg {L : Tab} (hL : TabOk P L) {t : TypeId} (ht : (L t).k ≠ .other) (w : World) : (isAgg t).run P w = .ok (L t).k.agg w := by
  have h := (hL t ht).1
  cases hk : (L t).k with
  | other => exact absurd hk ht
  | one =>
    rw [hk] at h
    obtain ⟨d, hd, hr⟩ := h
    simp [isAgg, run_underlying hd, TK.agg]
    cases d <;> simp_all
  | struct fs =>
    rw [hk] at h
    obtain ⟨a, ha, _⟩ := h
    simp [isAgg, run_underlying ha, TK.agg]
  | bool | int _ | str | slice _ | arr _ _ | ptr _ =>
    rw [hk] at h
    simp [isAgg, run_underlying h, TK.agg]

def okGet (l : LT) (cs : List AV) (off : Nat) : Prop := l.k ≠ .other ∧ (if l.k.agg then off + l.size ≤ cs.length else off < cs.length ∧ (cs.getD off .any).flat = [cs.getD off .any])
def getPart (l : LT) (cs : List AV) (off : Nat) : AV := if l.k.agg then .agg ((cs.drop off).take l.size) else cs.getD off .any
theorem rel_ip_part {G : Gh} {w : World} {y : AV} {b off o : Nat} {l : LT} (r : Rel G H w (.ip y) (.pointer (some ⟨b, off, none⟩))) (h3 : okGet l y.flat o) : Rel G H w (.ip (getPart l y.flat o)) (.pointer (some ⟨b, off + o, none⟩)) := by
  cases r with
  | ip _ _ _ val hc hr =>
    refine rel_ip_of fun j u hj => ?_
    have hj' : y.flat[o + j]? = some u := by
      unfold getPart okGet at *
      cases hg : l.k.agg with
      | true =>
        simp only [hg, if_true, AV.flat] at hj
        rw [List.getElem?_take] at hj
        split at hj
        · rwa [List.getElem?_drop] at hj
        · cases hj
      | false =>
        simp only [hg, Bool.false_eq_true, if_false] at hj h3
        obtain ⟨_, h4, h5⟩ := h3
        rw [h5] at hj
        cases j with
        | zero => simp only [List.getElem?_cons_zero, Option.some.injEq] at hj; rw [← hj, Nat.add_zero]; simp [List.getD, List.getElem?_eq_getElem h4]
        | succ j => simp at hj
    rw [Nat.add_assoc]
    exact ⟨(hc _ u hj').1, _, (hc _ u hj').2, hr _ u hj'⟩
/-- The address of a slice's element, or of an array's. -/
def qIndexAddr (L : Tab) (t : TypeId) (x : AV) (i : AV) : Option (Prop × AV) :=
  match i with
  | .lit (.int _ i) =>
    match (L t).k, x with
    | .slice e, .sl _ s xs => some (0 ≤ i ∧ i < xs.length ∧ s = (L e).size ∧ 0 < s ∧ (L e).k ≠ .other, .ip (xs.getD i.toNat .any))
    | .slice e, .msl k off len _ => some (0 ≤ i ∧ i < len ∧ (L e).k ≠ .other, .mp k (off + i.toNat * (L e).size))
    | .arr n e, .mp k off => some (0 ≤ i ∧ i < n ∧ (L e).k ≠ .other, .mp k (off + i.toNat * (L e).size))
    | .arr n e, .ip y => some (0 ≤ i ∧ i < n ∧ (L e).k ≠ .other ∧ okGet (L e) y.flat (i.toNat * (L e).size), .ip (getPart (L e) y.flat (i.toNat * (L e).size)))
    | _, _ => none
  | _ => none
theorem still_indexAddr {L : Tab} (hL : TabOk P L) {t : TypeId} {x i : Operand} {p : Prop} {z : AV} (h : qIndexAddr L t (ev env x) (ev env i) = some (p, z)) :
    Still P ⟨dst, .indexAddr t x i, ty, pos, after, guard⟩ env H p z := fun hp _ G a w s => by
  have rx := s.ev x
  have ri := s.ev i
  unfold qIndexAddr at h
  split at h
  · rename_i ki iv ei
    rw [ei] at ri
    have hi := rel_lit_inv ri
    split at h
    · rename_i e o sz xs hk ex
      have hu := (hL t (by rw [hk]; simp)).1
      rw [hk] at hu
      rw [ex] at rx
      cases h
      obtain ⟨h0, h1, h2, h3, h4⟩ := hp
      subst h2
      obtain ⟨b, off, cap, hv, hcap, hc⟩ := rx.sl_addr h3 (by omega)
      have huni := rx.sl_uni
      have hel : P.elem t = e := by simp [Program.elem, show P.underlying t = some (.slice e) from hu]
      have hlt : iv.toNat < xs.length := by omega
      refine ⟨.pointer (some ⟨b, off + iv.toNat * (L e).size, none⟩), ?_, rel_ip_of fun j y hy => ?_⟩
      · simp [execOp, hv, hi, run_indexAt_slice w t _ _ _ _ _ (by rw [hel]; exact hu), hel, h0, h1, run_size hL h4, addr_add]
      · have hg : xs[iv.toNat]? = some (xs.getD iv.toNat .any) := by simp [List.getD, List.getElem?_eq_getElem hlt]
        have := hc _ _ (flats_get huni hg hy)
        rwa [← Nat.add_assoc] at this
    · rename_i e k off len cap hk ex
      have hu := (hL t (by rw [hk]; simp)).1
      rw [hk] at hu
      rw [ex] at rx
      cases h
      obtain ⟨h0, h1, h4⟩ := hp
      have hel : P.elem t = e := by simp [Program.elem, show P.underlying t = some (.slice e) from hu]
      generalize hv : a.eval x = v at rx
      cases rx with
      | msl _ _ _ _ cs hk' hcap =>
        refine ⟨.pointer (some ⟨G.blk k, off + iv.toNat * (L e).size, none⟩), ?_, .mp _ _ cs hk'⟩
        simp [execOp, hv, hi, run_indexAt_slice w t _ _ _ _ _ (by rw [hel]; exact hu), hel, h0, h1, run_size hL h4, addr_add]
    · rename_i n e k off hk ex
      have hu := (hL t (by rw [hk]; simp)).1
      rw [hk] at hu
      rw [ex] at rx
      cases h
      obtain ⟨h0, h1, h4⟩ := hp
      have hel : P.elem t = e := by simp [Program.elem, show P.underlying t = some (.array n e) from hu]
      have hal : P.arrayLen t = n := by simp [Program.arrayLen, show P.underlying t = some (.array n e) from hu]
      generalize hv : a.eval x = v at rx
      cases rx with
      | mp _ _ cs hk' =>
        refine ⟨.pointer (some ⟨G.blk k, off + iv.toNat * (L e).size, none⟩), ?_, .mp _ _ cs hk'⟩
        simp [execOp, hv, hi, run_indexAt_array w t _ _ _ (by rw [hel, hal]; exact hu), hel, hal, h0, h1, run_size hL h4, addr_add]
    · rename_i n e y hk ex
      have hu := (hL t (by rw [hk]; simp)).1
      rw [hk] at hu
      rw [ex] at rx
      cases h
      obtain ⟨h0, h1, h4, h5⟩ := hp
      have hel : P.elem t = e := by simp [Program.elem, show P.underlying t = some (.array n e) from hu]
      have hal : P.arrayLen t = n := by simp [Program.arrayLen, show P.underlying t = some (.array n e) from hu]
      generalize hv : a.eval x = v at rx
      have rx' := rx
      cases rx with
      | ip _ b off val hc hr =>
        refine ⟨.pointer (some ⟨b, off + iv.toNat * (L e).size, none⟩), ?_, rel_ip_part rx' h5⟩
        simp [execOp, hv, hi, run_indexAt_array w t _ _ _ (by rw [hel, hal]; exact hu), hel, hal, h0, h1, run_size hL h4, addr_add]
    · cases h
  · cases h

/-- A string's byte. -/
def qIndex (L : Tab) (t : TypeId) (x : AV) (i : AV) : Option (Prop × AV) :=
  match (L t).k, x, i with
  | .str, .str l, .lit (.int _ i) => some (0 ≤ i ∧ i < l.length, .int .u8 ((l.getD i.toNat 0).toNat : Int))
  | _, _, _ => none
theorem still_index {L : Tab} (hL : TabOk P L) {t : TypeId} {x i : Operand} {p : Prop} {z : AV} (h : qIndex L t (ev env x) (ev env i) = some (p, z)) :
    Still P ⟨dst, .index t x i, ty, pos, after, guard⟩ env H p z := fun hp _ G a w s => by
  have rx := s.ev x
  have ri := s.ev i
  unfold qIndex at h
  split at h
  · rename_i l k iv hk ex ei
    have hu := (hL t (by rw [hk]; simp)).1
    rw [hk] at hu
    rw [ex] at rx
    rw [ei] at ri
    have hi := rel_lit_inv ri
    have hx := rel_str_inv rx
    cases h
    have hlt : iv.toNat < l.length := by omega
    refine ⟨_, ?_, .lit _⟩
    have h2 : (0 ≤ iv ∧ iv < ((ByteArray.mk l.toArray).size : Nat)) := ⟨hp.1, hp.2⟩
    simp only [execOp, hx, hi, run_index_string w t _ _ _ hu, Sem.run_bind, dif_pos h2, Result.andThen_ok, Sem.run_pure]
    congr 2
    simp only [List.getD, List.getElem?_eq_getElem hlt, Option.getD_some]
    rfl
  · cases h

/-- May a value of this shape be loaded at a type of this kind? -/
def okLoad (l : LT) (y : AV) : Prop := l.k ≠ .other ∧ (if l.k.agg then y = .agg y.flat ∧ y.flat.length = l.size else y.flat = [y])
def qLoad (L : Tab) (H : List AObj) (t : TypeId) (x : AV) : Option (Prop × AV) :=
  match x with
  | .ip y => some (okLoad (L t) y, y)
  | .mp k off => match H[k]? with
    | some (.cells cs) => some (okGet (L t) cs off, getPart (L t) cs off)
    | none => none
    | some (.grow _ _) => none
  | _ => none
theorem run_loadVar_of {L : Tab} (hL : TabOk P L) {t : TypeId} {w : World} {b off : Nat} (ht : (L t).k ≠ .other) (cs : List Value) (h : ∀ (j : Nat) v, cs[j]? = some v → w.cell? ⟨b, off + j, none⟩ = some v)
    (hn : cs.length = if (L t).k.agg then (L t).size else 1) : (loadVar t ⟨b, off, none⟩).run P w = .ok (if (L t).k.agg then .agg cs.toArray else cs.getD 0 undef) w := by
  simp only [loadVar, Sem.run_bind, run_isAgg hL ht, Result.andThen_ok]
  cases hg : (L t).k.agg with
  | true =>
    rw [hg] at hn
    simp only [if_true] at hn
    have := run_loadCells_list (P := P) w ⟨b, off, none⟩ cs (fun j v e => by rw [addr_add]; exact h j v e)
    rw [hn] at this
    simp [run_size hL ht, this]
  | false =>
    rw [hg] at hn
    match cs, hn with
    | [u], _ =>
      have := h 0 u rfl
      simp [run_load, show w.cell? ⟨b, off, none⟩ = some u from this]
theorem exists_vals {G : Gh} {w : World} {b off : Nat} : ∀ (l : List AV), (∀ (j : Nat) y, l[j]? = some y → ∃ u, w.cell? ⟨b, off + j, none⟩ = some u ∧ Rel G H w y u) →
    ∃ cs : List Value, cs.length = l.length ∧ (∀ (j : Nat) v, cs[j]? = some v → w.cell? ⟨b, off + j, none⟩ = some v) ∧ (∀ (j : Nat) y v, l[j]? = some y → cs[j]? = some v → Rel G H w y v) := by
  intro l h
  refine ⟨(List.range l.length).map fun j => (w.cell? ⟨b, off + j, none⟩).getD undef, by simp, fun j v e => ?_, fun j y v e e' => ?_⟩
  · rw [List.getElem?_map] at e
    have hj : j < l.length := by
      have := lt_of_get (show ((List.range l.length).map fun j => (w.cell? ⟨b, off + j, none⟩).getD undef)[j]? = some v by rw [List.getElem?_map]; exact e)
      simpa using this
    obtain ⟨u, hu, _⟩ := h j _ (List.getElem?_eq_getElem hj)
    simp [hj, hu] at e
    rw [hu, e]
  · have hj := lt_of_get e
    obtain ⟨u, hu, hr⟩ := h j y e
    simp [hj, hu] at e'
    exact e' ▸ hr
theorem load_run {L : Tab} (hL : TabOk P L) {t : TypeId} {x : AV} {p : Prop} {z : AV} (h : qLoad L H t x = some (p, z)) (hp : p) {G : Gh} {w : World} (hi : HInv G H w) {v : Value} (rx : Rel G H w x v) :
    ∃ ad u, v = .pointer (some ad) ∧ (loadVar t ad).run P w = .ok u w ∧ Rel G H w z u := by
  unfold qLoad at h
  split at h
  · rename_i y
    cases h
    obtain ⟨ht, hy⟩ := hp
    cases rx with
    | ip _ b off val hc hr =>
      obtain ⟨cs, hl, h1, h2⟩ := exists_vals (G := G) (H := H) (w := w) (b := b) (off := off) z.flat (fun j u e => ⟨val j, (hc j u e).2, hr j u e⟩)
      cases hg : (L t).k.agg with
      | true =>
        rw [hg] at hy
        simp only [if_true] at hy
        refine ⟨_, .agg cs.toArray, rfl, ?_, ?_⟩
        · simp [run_loadVar_of hL ht cs h1 (by rw [hl, hg]; simpa using hy.2), hg]
        · rw [hy.1]
          exact .agg _ _ (by simpa using hl) fun j u v e e' => h2 j u v (by simpa using e) (by simpa using e')
      | false =>
        rw [hg] at hy
        simp only [Bool.false_eq_true, if_false] at hy
        refine ⟨_, cs.getD 0 undef, rfl, ?_, ?_⟩
        · simp [run_loadVar_of hL ht cs h1 (by rw [hl, hg, hy]; rfl), hg]
        · rw [hy] at h2 hl
          have h0 : 0 < cs.length := by rw [hl]; simp
          exact h2 0 z _ rfl (by simp [List.getElem?_eq_getElem h0])
  · rename_i k off
    split at h
    · rename_i cs hk
      cases h
      obtain ⟨ht, hy⟩ := hp
      cases rx with
      | mp =>
        obtain ⟨arr, T, fr, hb, hsz, hr, _⟩ := hi.cells k cs hk
        have hcell : ∀ j (hj : j < arr.size), w.cell? ⟨G.blk k, j, none⟩ = some arr[j] := fun j hj => by simp [World.cell?, hb, Array.getElem?_eq_getElem hj]
        cases hg : (L t).k.agg with
        | true =>
          rw [hg] at hy
          simp only [if_true] at hy
          obtain ⟨us, hl, h1, h2⟩ := exists_vals (G := G) (H := H) (w := w) (b := G.blk k) (off := off) ((cs.drop off).take (L t).size) (fun j u e => by
            rw [List.getElem?_take] at e
            split at e
            · rw [List.getElem?_drop] at e
              have hj := lt_of_get e
              exact ⟨_, hcell (off + j) (by omega), hr _ _ _ e (Array.getElem?_eq_getElem (by omega))⟩
            · cases e)
          have hlen : ((cs.drop off).take (L t).size).length = (L t).size := by rw [List.length_take, List.length_drop]; omega
          refine ⟨_, .agg us.toArray, rfl, ?_, ?_⟩
          · simp [run_loadVar_of hL ht us h1 (by rw [hl, hg, hlen]; rfl), hg]
          · simp only [getPart, hg, if_true]
            exact .agg _ _ (by simpa using hl) fun j u v e e' => h2 j u v e (by simpa using e')
        | false =>
          rw [hg] at hy
          simp only [Bool.false_eq_true, if_false] at hy
          have ho : off < arr.size := by omega
          refine ⟨_, arr[off], rfl, ?_, ?_⟩
          · have := run_loadVar_of (P := P) (w := w) (b := G.blk k) (off := off) hL ht [arr[off]] (fun j v e => by
              cases j with
              | zero => simp at e; subst e; exact hcell off ho
              | succ j => simp at e) (by rw [hg]; rfl)
            simp [this, hg]
          · simp only [getPart, hg]
            exact hr off _ _ (by simp [List.getD, List.getElem?_eq_getElem hy.1]) (Array.getElem?_eq_getElem ho)
    · cases h
    · cases h
  · cases h
theorem still_load {L : Tab} (hL : TabOk P L) {t : TypeId} {x : Operand} {p : Prop} {z : AV} (h : qLoad L H t (ev env x) = some (p, z)) :
    Still P ⟨dst, .load t x, ty, pos, after, guard⟩ env H p z := fun hp _ G a w s => by
  obtain ⟨ad, u, hv, hr, hz⟩ := load_run hL h hp s.inv (s.ev x)
  exact ⟨u, by simp [execOp, hv, Instr.loadAt, Instr.sureAddr, hr], hz⟩
end
end Go.Proofs.YthaicajgfioogaaDoor.V
