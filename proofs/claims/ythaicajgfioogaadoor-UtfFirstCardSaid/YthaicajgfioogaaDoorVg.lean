/- New variables, literals of structs, arrays and slices; smallest and greatest; function values and interface values. -/
import Derived.Test.YthaicajgfioogaaDoorVf
import Derived.Great.BuildSlice
set_option linter.unusedSimpArgs false
set_option linter.unusedVariables false
namespace Go.Proofs.YthaicajgfioogaaDoor.V
open Go

theorem scalar_flat {x : AV} (h : x.scalar = true) : x.flat = [x] := by cases x <;> first | rfl | (simp [AV.scalar] at h; done)
theorem scalar_okv {x : AV} (h : x.scalar = true) : x.okv = true := by cases x <;> first | exact h | (simp [AV.scalar] at h; done)
theorem scalar_cells {G : Gh} {H : List AObj} {w : World} {x : AV} {v : Value} (r : Rel G H w x v) (h : x.scalar = true) : v.cells = #[v] ∧ v.oneCell' = true ∧ x.flat = [x] := by
  cases r <;> first | exact ⟨rfl, rfl, rfl⟩ | (simp [AV.scalar] at h; done) | skip
  cases v <;> first | exact ⟨rfl, rfl, rfl⟩ | (simp [AV.scalar, Value.oneCell'] at h; done)
theorem cells_of_rel {G : Gh} {H : List AObj} {w : World} {x : AV} {v : Value} (r : Rel G H w x v) (h : x.okv = true) :
    v.cells.size = x.flat.length ∧ (∀ (j : Nat) y u, x.flat[j]? = some y → v.cells[j]? = some u → Rel G H w y u ∧ u.oneCell' = true) := by
  by_cases hs : x.scalar = true
  · obtain ⟨h1, h3, h2⟩ := scalar_cells r hs
    rw [h1, h2]
    refine ⟨rfl, fun j y u e e' => ?_⟩
    cases j with
    | zero => simp at e e'; subst e; subst e'; exact ⟨r, h3⟩
    | succ j => simp at e
  · cases r <;> first | (simp [AV.scalar] at hs; done) | (simp [AV.okv, AV.scalar] at h; done) | skip
    · simp only [AV.okv] at h; exact absurd h hs
    · rename_i cs arr hl hr
      refine ⟨by simpa [Value.cells, AV.flat] using hl, fun j y u e e' => ?_⟩
      have ry := hr j y u (by simpa [AV.flat] using e) (by simpa [Value.cells] using e')
      simp only [AV.okv, List.all_eq_true] at h
      exact ⟨ry, (scalar_cells ry (h y (List.mem_iff_getElem?.2 ⟨j, by simpa [AV.flat] using e⟩))).2.1⟩

def aset : List AV → Nat → List AV → List AV
  | cs, _, [] => cs
  | cs, off, x :: r => aset (cs.set off x) (off + 1) r
theorem aset_len : ∀ (xs cs : List AV) (off : Nat), (aset cs off xs).length = cs.length
  | [], _, _ => rfl
  | x :: r, cs, off => by simp [aset, aset_len r]
theorem aset_get : ∀ (xs cs : List AV) (off k : Nat), (aset cs off xs)[k]? = if off ≤ k ∧ k < off + xs.length ∧ k < cs.length then xs[k - off]? else cs[k]?
  | [], cs, off, k => by simp [aset]; intro h1 h2; omega
  | x :: r, cs, off, k => by
    rw [aset, aset_get r, List.length_set, List.length_cons]
    by_cases hk : k = off
    · subst hk
      rw [if_neg (by omega)]
      by_cases hl : k < cs.length
      · rw [if_pos (by omega)]
        simp [hl]
      · rw [if_neg (by omega)]
        rw [List.getElem?_set]
        simp [hl]
    · by_cases hin : off + 1 ≤ k ∧ k < off + 1 + r.length ∧ k < cs.length
      · rw [if_pos hin, if_pos (by omega)]
        have : k - off = (k - (off + 1)) + 1 := by omega
        rw [this, List.getElem?_cons_succ]
      · rw [if_neg hin, List.getElem?_set_ne (by omega)]
        by_cases h2 : off ≤ k ∧ k < off + (r.length + 1) ∧ k < cs.length
        · omega
        · rw [if_neg h2]

def afill (place : Nat → Option (Nat × Nat)) : List AV → List (Nat × AV) → Prop × List AV
  | cs, [] => (True, cs)
  | cs, (i, x) :: r => match place i with
    | none => (False, cs)
    | some (off, size) => ((x.okv = true ∧ x.flat.length = size ∧ off + size ≤ cs.length) ∧ (afill place (aset cs off x.flat) r).1, (afill place (aset cs off x.flat) r).2)

def RelCells (G : Gh) (H : List AObj) (w : World) (cs : List AV) (arr : Array Value) : Prop :=
  arr.size = cs.length ∧ ∀ (j : Nat) (x : AV) (v : Value), cs[j]? = some x → arr[j]? = some v → Rel G H w x v

theorem fill_rel {G : Gh} {H : List AObj} {w : World} (place : Nat → Option (Nat × Nat)) : ∀ (parts : List (Nat × AV)) (vs : List (Nat × Value)) (cs : List AV) (arr : Array Value), RelCells G H w cs arr →
    vs.map (·.1) = parts.map (·.1) → (∀ (j : Nat) x v, parts[j]? = some x → vs[j]? = some v → Rel G H w x.2 v.2) → (afill place cs parts).1 →
    ∃ arr', Instr.fill place arr vs = some arr' ∧ RelCells G H w (afill place cs parts).2 arr'
  | [], vs, cs, arr, hr, hm, _, _ => by
    have : vs = [] := by cases vs with | nil => rfl | cons _ _ => simp at hm
    subst this
    exact ⟨arr, rfl, hr⟩
  | (i, x) :: r, vs, cs, arr, hr, hm, hp, hf => by
    cases vs with
    | nil => simp at hm
    | cons v vs =>
      obtain ⟨i', v⟩ := v
      simp only [List.map_cons, List.cons.injEq] at hm
      obtain ⟨rfl, hm⟩ := hm
      unfold afill at hf ⊢
      cases hpl : place i' with
      | none => rw [hpl] at hf; exact hf.elim
      | some os =>
        obtain ⟨off, size⟩ := os
        rw [hpl] at hf
        obtain ⟨⟨h1, h2, h3⟩, hf⟩ := hf
        have rv : Rel G H w x v := hp 0 (i', x) (i', v) rfl rfl
        obtain ⟨hsz, hcell⟩ := cells_of_rel rv h1
        have hset := Great.foldl_set off v.cells.toList 0 arr
        obtain ⟨g1, g2⟩ := hset
        have hfold : v.cells.zipIdx.foldl (fun cs (c, j) => cs.setIfInBounds (off + j) c) arr = (v.cells.toList.zipIdx 0).foldl (fun cs (x : Value × Nat) => cs.setIfInBounds (off + x.2) x.1) arr := by
          rw [← Array.foldl_toList, Array.toList_zipIdx]
        have hr' : RelCells G H w (aset cs off x.flat) (v.cells.zipIdx.foldl (fun cs (c, j) => cs.setIfInBounds (off + j) c) arr) := by
          rw [hfold]
          refine ⟨by rw [g1, aset_len]; exact hr.1, fun j y u e e' => ?_⟩
          rw [g2 j] at e'
          rw [aset_get] at e
          simp only [Nat.add_zero, Array.length_toList] at e'
          by_cases hin : off ≤ j ∧ j < off + x.flat.length ∧ j < cs.length
          · rw [if_pos hin] at e
            rw [if_pos (by rw [hsz, hr.1]; exact hin)] at e'
            exact (hcell _ y u e (by simpa using e')).1
          · rw [if_neg hin] at e
            rw [if_neg (by rw [hsz, hr.1]; exact hin)] at e'
            exact hr.2 j y u e e'
        obtain ⟨arr', ha, hb⟩ := fill_rel place r vs _ _ hr' hm (fun j x v e e' => hp (j + 1) x v (by simpa using e) (by simpa using e')) hf
        refine ⟨arr', ?_, hb⟩
        have hcond : ¬ (v.cells.size ≠ size ∨ off + v.cells.size > arr.size) := by rw [hsz, hr.1]; omega
        simp only [Instr.fill, hpl]
        rw [if_neg (by simpa using hcond)]
        exact ha

section
variable {P : Program} {env : Env} {H : List AObj} {dst : Option Tmp} {ty : TypeId} {pos : String} {after : Array Edge} {guard : Option (Nat × Bool)}

def known (l : LT) : Bool := match l.k with | .other => false | _ => true
theorem known_ne {l : LT} (h : known l = true) : l.k ≠ .other := by intro e; simp [known, e] at h
theorem rel_zero {G : Gh} {w : World} {z : Value} {zs : List AV} (h : z.cells.toList.map ofCell = zs) : RelCells G H w zs z.cells := by
  subst h
  refine ⟨by simp, fun j x v e e' => ?_⟩
  rw [List.getElem?_map, Array.getElem?_toList, e'] at e
  cases e
  exact rel_ofCell v

theorem run_places {L : Tab} (hL : TabOk P L) {w : World} : ∀ (a : List Field), (a.all fun f => known (L f.type)) = true →
    (a.mapM fun f => do pure (f.offset, ← sizeOf f.type) : Sem (List (Nat × Nat))).run P w = .ok (a.map fun f => (f.offset, (L f.type).size)) w
  | [], _ => by simp
  | f :: r, h => by
    simp only [List.all_cons, Bool.and_eq_true] at h
    have ih := run_places hL (w := w) r h.2
    simp only [List.mapM_cons, Sem.run_bind, run_size hL (known_ne h.1), Result.andThen_ok, Sem.run_pure, ih, List.map_cons]

def evParts (env : Env) (parts : Array (Nat × Operand)) : List (Nat × AV) := parts.toList.map fun p => (p.1, ev env p.2)
theorem parts_rel {n : Nat} {G : Gh} {a : Act} {w : World} (s : Sat n G env H a w) (parts : Array (Nat × Operand)) :
    ((parts.map fun (i, x) => (i, a.eval x)).toList.map (·.1) = (evParts env parts).map (·.1)) ∧
    (∀ (j : Nat) x v, (evParts env parts)[j]? = some x → (parts.map fun (i, x) => (i, a.eval x)).toList[j]? = some v → Rel G H w x.2 v.2) := by
  refine ⟨by simp [evParts, Function.comp_def], fun j x v e e' => ?_⟩
  simp only [evParts, Array.toList_map, List.getElem?_map] at e e'
  cases hp : parts.toList[j]? with
  | none => rw [hp] at e; cases e
  | some q =>
    rw [hp] at e e'
    cases e
    cases e'
    exact s.ev q.2

def qBuild (L : Tab) (t : TypeId) (parts : List (Nat × AV)) : Option (Prop × AV) :=
  match (L t).k with
  | .struct fs => some ((fs.all fun (f : Nat × TypeId) => known (L f.2)) = true ∧ (afill (fun (i : Nat) => (fs[i]?).map fun (f : Nat × TypeId) => (f.1, (L f.2).size)) (L t).zero parts).1, .agg (afill (fun (i : Nat) => (fs[i]?).map fun (f : Nat × TypeId) => (f.1, (L f.2).size)) (L t).zero parts).2)
  | .arr _ e => some (known (L e) = true ∧ (afill (fun i => some (i * (L e).size, (L e).size)) (L t).zero parts).1, .agg (afill (fun i => some (i * (L e).size, (L e).size)) (L t).zero parts).2)
  | _ => none
theorem still_build {L : Tab} (hL : TabOk P L) {t : TypeId} {parts : Array (Nat × Operand)} {p : Prop} {z : AV} (h : qBuild L t (evParts env parts) = some (p, z)) :
    Still P ⟨dst, .build t parts, ty, pos, after, guard⟩ env H p z := fun hp _ G a w s => by
  unfold qBuild at h
  obtain ⟨pm, pr⟩ := parts_rel s parts
  split at h
  · rename_i fs hk
    obtain ⟨hu, i, zv, hi, _, _, _, hz, hzs, hza⟩ := hL t (by rw [hk]; simp)
    rw [hk] at hu
    obtain ⟨ar, hu, hfs⟩ := hu
    cases h
    obtain ⟨h1, h2⟩ := hp
    have hpl : (fun (i : Nat) => (fs[i]?).map fun (f : Nat × TypeId) => (f.1, (L f.2).size)) = fun i => ((ar.map fun f => (f.offset, (L f.type).size))[i]? : Option (Nat × Nat)) := by
      funext i
      rw [← hfs]
      simp [List.getElem?_map, Function.comp_def]
    obtain ⟨arr', ha, hb⟩ := fill_rel (G := G) (H := H) (w := w) (fun (i : Nat) => (fs[i]?).map fun (f : Nat × TypeId) => (f.1, (L f.2).size)) (evParts env parts) _ _ _ (rel_zero hzs) pm pr h2
    refine ⟨.agg arr', ?_, .agg _ _ hb.1 hb.2⟩
    have hall : (ar.toList.all fun f => known (L f.type)) = true := by
      rw [← hfs] at h1
      simpa [List.all_map, Function.comp_def] using h1
    have hrun := run_places hL (w := w) ar.toList hall
    rw [hpl] at ha
    have hmap : (List.map (fun f : Field => (f.offset, (L f.type).size)) ar.toList).toArray = ar.map fun f => (f.offset, (L f.type).size) := by apply Array.ext'; rw [Array.toList_map]
    simp only [execOp, Instr.build, Sem.run_bind, zeroValue, typeInfo, run_program, Result.andThen_ok, hi, hz, Sem.run_pure, run_underlying hu, Array.mapM_eq_mapM_toList, Sem.run_map, hrun, hmap]
    simp only [ha]
    rfl
  · rename_i n e hk
    obtain ⟨hu, i, zv, hi, _, _, _, hz, hzs, hza⟩ := hL t (by rw [hk]; simp)
    rw [hk] at hu
    simp only [TKOk] at hu
    cases h
    obtain ⟨h1, h2⟩ := hp
    obtain ⟨arr', ha, hb⟩ := fill_rel (G := G) (H := H) (w := w) (fun i => some (i * (L e).size, (L e).size)) (evParts env parts) _ _ _ (rel_zero hzs) pm pr h2
    refine ⟨.agg arr', ?_, .agg _ _ hb.1 hb.2⟩
    simp only [execOp, Instr.build, Sem.run_bind, zeroValue, typeInfo, run_program, Result.andThen_ok, hi, hz, Sem.run_pure, run_underlying hu, run_size hL (known_ne h1)]
    simp only [ha]
    rfl
  · cases h

/-- A new variable that nobody writes. -/
theorem quiet_box {e : TypeId} {x : Operand} : Quiet P ⟨dst, .box e x, ty, pos, after, guard⟩ env H ((ev env x).okv = true) (.ip (ev env x)) := fun hp _ G a w s => by
  have rx := s.ev x
  obtain ⟨hsz, hcell⟩ := cells_of_rel rx hp
  obtain ⟨hi, hst, him, hce⟩ := more_alloc s.inv (a.eval x).cells e (0, 0) (More.refl w) rfl
  refine ⟨.pointer (some ⟨w.heap.size, 0, none⟩), _, _, by simp [execOp, Instr.box, newVar, newRow], hi, hst, rel_ip_of fun j y hj => ?_⟩
  rw [Nat.zero_add]
  have hlt : j < (a.eval x).cells.size := by rw [hsz]; exact lt_of_get hj
  exact ⟨him j, _, by rw [hce j]; exact Array.getElem?_eq_getElem hlt, (hcell j y _ hj (Array.getElem?_eq_getElem hlt)).1.mono hst⟩

/-- The elements of a row of cells. -/
def regroup (g : Bool) (z n : Nat) (fl : List AV) : List AV := (List.range n).map fun i => if g then .agg ((fl.drop (i * z)).take z) else fl.getD i .any
theorem flats_regroup {g : Bool} {z n : Nat} {fl : List AV} (hl : fl.length = n * z) (hg : g = false → z = 1) (hsc : fl.all AV.scalar = true) :
    flats (regroup g z n fl) = fl ∧ (∀ x ∈ regroup g z n fl, x.flat.length = z ∧ x.okv = true) ∧ (regroup g z n fl).length = n := by
  have hone : ∀ i, i < n → (if g then AV.agg ((fl.drop (i * z)).take z) else fl.getD i .any).flat = (fl.drop (i * z)).take z := fun i hi => by
    cases g with
    | true => rfl
    | false =>
      obtain rfl := hg rfl
      have h : ∀ x ∈ fl, x.flat = [x] := fun x hx => scalar_flat (List.all_eq_true.1 hsc x hx)
      rw [Nat.mul_one] at hl ⊢
      have hlt : i < fl.length := by omega
      simp only [Bool.false_eq_true, if_false, List.getD, List.getElem?_eq_getElem hlt, Option.getD_some]
      rw [h _ (List.getElem_mem hlt), List.drop_eq_getElem_cons hlt]
      rfl
  refine ⟨?_, fun x hx => ?_, by simp [regroup]⟩
  · have key : ∀ k, k ≤ n → flats ((List.range k).map fun i => if g then AV.agg ((fl.drop (i * z)).take z) else fl.getD i .any) = fl.take (k * z) := by
      intro k
      induction k with
      | zero => intro _; simp [flats]
      | succ k ih =>
        intro hk
        rw [List.range_succ, List.map_append, flats_append, ih (by omega)]
        have : flats (List.map (fun i => if g then AV.agg ((fl.drop (i * z)).take z) else fl.getD i .any) [k]) = (fl.drop (k * z)).take z := by
          rw [List.map_singleton, flats_cons, hone k (by omega)]
          simp [flats]
        rw [this, Nat.succ_mul, List.take_add]
    have := key n (Nat.le_refl _)
    rw [← hl, List.take_length] at this
    exact this
  · obtain ⟨i, hi, rfl⟩ := List.mem_map.1 hx
    have hi := List.mem_range.1 hi
    have hle : (i + 1) * z ≤ n * z := Nat.mul_le_mul_right z hi
    rw [Nat.succ_mul] at hle
    refine ⟨by rw [hone i hi, List.length_take, List.length_drop, hl]; omega, ?_⟩
    cases g with
    | true => exact List.all_eq_true.2 fun x hx => List.all_eq_true.1 hsc x (List.mem_of_mem_drop (List.mem_of_mem_take hx))
    | false =>
      obtain rfl := hg rfl
      have hlt : i < fl.length := by omega
      simp only [Bool.false_eq_true, if_false, List.getD, List.getElem?_eq_getElem hlt, Option.getD_some]
      exact scalar_okv (List.all_eq_true.1 hsc _ (List.getElem_mem hlt))

def zeroFlat (zs : List AV) (n : Nat) : List AV := (List.range n).map fun i => zs.getD (i % zs.length) .any
def qBuildSlice (L : Tab) (t : TypeId) (len : Nat) (parts : List (Nat × AV)) : Option (Prop × AV) :=
  match (L t).k with
  | .slice e =>
    if len = 0 then some (known (L e) = true, .sl .full (L e).size [])
    else some ((known (L e) = true ∧ 0 < (L e).size ∧ (L e).zero.length = (L e).size ∧ len * (L e).size ≤ 16777216 ∧ ((L e).k.agg = false → (L e).size = 1) ∧ (afill (fun i => some (i * (L e).size, (L e).size)) (zeroFlat (L e).zero (len * (L e).size)) parts).2.all AV.scalar = true) ∧
      (afill (fun i => some (i * (L e).size, (L e).size)) (zeroFlat (L e).zero (len * (L e).size)) parts).1,
      .sl .full (L e).size (regroup (L e).k.agg (L e).size len (afill (fun i => some (i * (L e).size, (L e).size)) (zeroFlat (L e).zero (len * (L e).size)) parts).2))
  | _ => none
theorem afill_len (place : Nat → Option (Nat × Nat)) : ∀ (parts : List (Nat × AV)) (cs : List AV), (afill place cs parts).2.length = cs.length
  | [], cs => rfl
  | (i, x) :: r, cs => by
    unfold afill
    cases place i with
    | none => rfl
    | some os => simp only []; rw [afill_len place r, aset_len]
theorem quiet_buildSlice {L : Tab} (hL : TabOk P L) {t : TypeId} {len : Nat} {parts : Array (Nat × Operand)} {p : Prop} {z : AV} (h : qBuildSlice L t len (evParts env parts) = some (p, z)) (hparts : len = 0 → parts = #[]) :
    Quiet P ⟨dst, .buildSlice t len parts, ty, pos, after, guard⟩ env H p z := fun hp _ G a w s => by
  unfold qBuildSlice at h
  obtain ⟨pm, pr⟩ := parts_rel s parts
  split at h
  · rename_i e hk
    have hu := (hL t (by rw [hk]; simp)).1
    rw [hk] at hu
    simp only [TKOk] at hu
    split at h
    · rename_i h0
      cases h
      obtain rfl := hparts h0
      subst h0
      obtain ⟨hi, hst, him, hce⟩ := more_alloc s.inv #[] e (0, 0) (More.refl w) rfl
      have ee : ∀ f : Nat → Value, Array.map f (Array.range 0) = #[] := fun f => Array.eq_empty_of_size_eq_zero (by simp)
      refine ⟨.slice (some ⟨w.heap.size, 0, none⟩) 0 0, _, _, by simp [execOp, Instr.buildSlice, run_underlying hu, run_size hL (known_ne hp), Instr.fill, newRow, ee], hi, hst, ?_⟩
      exact .sl .full _ [] _ _ _ (fun _ => undef) rfl (Nat.le_refl _) (fun x hx => by cases hx) (fun j x e => by simp [flats] at e) (fun j x e => by simp [flats] at e) (fun _ => rfl) (fun h => absurd h (by omega)) (fun k e => by cases e)
    · rename_i h0
      cases h
      obtain ⟨⟨h1, h2, h2', h3, h4, h6⟩, h5⟩ := hp
      obtain ⟨_, ie, zv, hie, hsz, _, _, hz, hzs, _⟩ := hL e (known_ne h1)
      have hzr := rel_zero (H := H) (G := G) (w := w) hzs
      have hzl : zv.cells.size = (L e).size := by rw [hzr.1, h2']
      have hrc : RelCells G H w (zeroFlat (L e).zero (len * (L e).size)) ((Array.range (len * ie.size)).map (zv.cells[· % zv.cells.size]!)) := by
        rw [hsz]
        refine ⟨by simp [zeroFlat], fun j x v e1 e2 => ?_⟩
        have hj : j < len * (L e).size := by simpa [zeroFlat] using lt_of_get e1
        have hmod : j % (L e).size < (L e).size := Nat.mod_lt _ h2
        simp only [zeroFlat, List.getElem?_map, List.getElem?_range hj, Option.map_some, Option.some.injEq] at e1
        have e2' : zv.cells[j % zv.cells.size]! = v := by
          rw [Array.getElem?_map, Array.getElem?_range] at e2
          rw [if_pos hj] at e2
          simpa using e2
        subst e1
        rw [← e2']
        rw [h2']
        refine hzr.2 (j % (L e).size) _ _ (by simp [List.getD, List.getElem?_eq_getElem (show j % (L e).size < (L e).zero.length by omega)]) ?_
        rw [hzl, Array.getElem?_eq_getElem (by omega)]
        simp [getElem!_def, Array.getElem?_eq_getElem (show j % (L e).size < zv.cells.size by omega)]
      have hf := fill_rel (G := G) (H := H) (w := w) (fun i => some (i * (L e).size, (L e).size)) (evParts env parts) _ _ _ hrc pm pr h5
      obtain ⟨arr', ha, hb⟩ := hf
      have hpos : 0 < len * (L e).size := Nat.mul_pos (by omega) h2
      have hrun := run_buildSlice (P := P) w t e len (parts.map fun (i, x) => (i, a.eval x)) arr' ie zv hu hie hz (by rw [hsz]; omega) (by rw [hsz]; omega) (by rw [hsz] at ha ⊢; exact ha)
      obtain ⟨hi, hst, him, hce⟩ := more_alloc s.inv arr' e (0, 0) (More.refl w) rfl
      have hlen : (afill (fun i => some (i * (L e).size, (L e).size)) (zeroFlat (L e).zero (len * (L e).size)) (evParts env parts)).2.length = len * (L e).size := by rw [afill_len]; simp [zeroFlat]
      obtain ⟨r1, r2, r3⟩ := flats_regroup hlen h4 h6
      refine ⟨_, _, _, by simp only [execOp, Sem.run_bind, hrun, Result.andThen_ok, Sem.run_pure]; rfl, hi, hst, ?_⟩
      have hr := rel_sl_of (G := addImm G w (w.alloc (.cells arr' e (0, 0)))) (H := H) (w := w.alloc (.cells arr' e (0, 0))) (s := (L e).size) (xs := regroup (L e).k.agg (L e).size len (afill (fun i => some (i * (L e).size, (L e).size)) (zeroFlat (L e).zero (len * (L e).size)) (evParts env parts)).2)
        (b := w.heap.size) (off := 0) (len := len) (cap := len) r3.symm (Nat.le_refl _) r2 (fun j y hj => by
          rw [r1] at hj
          rw [Nat.zero_add]
          have hlt : j < arr'.size := by rw [hb.1]; exact lt_of_get hj
          exact ⟨him j, _, by rw [hce j]; exact Array.getElem?_eq_getElem hlt, (hb.2 j y _ hj (Array.getElem?_eq_getElem hlt)).mono hst⟩)
      cases hr with
      | sl _ _ _ _ _ _ val a1 a2 a3 a4 a5 a6 a7 a8 => exact .sl .full _ _ _ _ _ val a1 a2 a3 a4 a5 (fun _ => rfl) a7 (fun k e => by cases e)
  · cases h
end
end Go.Proofs.YthaicajgfioogaaDoor.V
