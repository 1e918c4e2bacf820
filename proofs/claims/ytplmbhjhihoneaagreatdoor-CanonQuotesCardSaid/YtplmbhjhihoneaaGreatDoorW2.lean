/- Rows: slices that are written, moved, copied, and let go. -/
import Derived.Test.YtplmbhjhihoneaaGreatDoorW1
import Derived.Lib.AppendZeros
import Derived.Lib.UnsafeStr
import Derived.IntWalk
section
set_option linter.unusedSimpArgs false
set_option linter.unusedVariables false
namespace Go.Proofs.YtplmbhjhihoneaaGreatDoor.V
open Go

theorem shape_of {G : Gh} {H : List AObj} {w : World} (hi : HInv G H w) {k : Nat} {sh : Shape} {cs : List AV} (hk : H[k]? = some (.cells sh cs)) : site G H k = some (G.blk k) := by simp [site, hk]

/-- An object is let go. -/
theorem retire {G : Gh} {H : List AObj} {w : World} (hi : HInv G H w) {k : Nat} {sh : Shape} {cs : List AV} (hk : H[k]? = some (.cells sh cs)) : HInv G (H.set k .gone) w ∧ Step G H w G (H.set k .gone) w := by
  have hkl := lt_of_get hk
  have st : Step G H w G (H.set k .gone) w := by
    refine ⟨rfl, rfl, rfl, Nat.le_refl _, fun _ _ h => h, fun _ _ _ => rfl, fun _ _ => rfl, fun i => ?_⟩
    cases ei : H[i]? with
    | none => trivial
    | some o =>
      by_cases hik : i = k
      · subst hik
        rw [hk] at ei
        cases ei
        exact ⟨⟨.gone, by simp [hkl], rfl⟩, rfl, rfl⟩
      · have ea : (H.set k .gone)[i]? = some o := by rw [List.getElem?_set_ne (fun h => hik h.symm)]; exact ei
        cases o with
        | cells t c => exact ⟨⟨_, ea, rfl⟩, rfl, rfl⟩
        | gone => exact ⟨⟨_, ea, rfl⟩, rfl, rfl⟩
        | grow s n t => exact ⟨n, ea, Nat.le_refl _, fun _ => rfl⟩
  refine ⟨⟨hi.lt, fun i sh' c ei => ?_, fun i s n t ei => ?_, fun i j b e1 e2 => ?_, hi.tabs⟩, st⟩
  · rcases get_set ei with ⟨hik, ei'⟩ | ⟨rfl, ei', _⟩
    · obtain ⟨arr, T, fr, hb, hs, hr, hf⟩ := hi.cells i sh' c ei'
      exact ⟨arr, T, fr, hb, hs, fun j x v ex ev => (hr j x v ex ev).mono st, hf⟩
    · cases ei'
  · rcases get_set ei with ⟨hik, ei'⟩ | ⟨rfl, ei', _⟩
    · exact hi.grow i s n t ei'
    · cases ei'
  · have hs : ∀ i b, site G (H.set k .gone) i = some b → site G H i = some b := fun i b e => by
      unfold site at e ⊢
      cases ei : (H.set k AObj.gone)[i]? with
      | none => rw [ei] at e; cases e
      | some o =>
        rw [ei] at e
        rcases get_set ei with ⟨_, ei'⟩ | ⟨rfl, ei', _⟩
        · rw [ei']; exact e
        · subst ei'; cases e
    exact hi.apart i j b (hs i b e1) (hs j b e2)

/-- An object's block, told anew: a new object. -/
theorem rename {G : Gh} {H : List AObj} {w : World} (hi : HInv G H w) {k : Nat} {sh : Shape} {cs : List AV} (hk : H[k]? = some (.cells sh cs)) {cs' : List AV} (sh' : Shape) (cap : Nat) {arr : Array Value} {T : TypeId} {fr : Nat × Nat}
    (hb : w.heap[G.blk k]? = some (.cells arr T fr)) (hr : RelLe G H w cs' arr) (hsh : match sh' with | .one t => T = t ∧ arr.size = cs'.length ∧ fr.2 = 0 | .raw t => T = t ∧ arr.size = cs'.length | .row s => 0 < s ∧ arr.size = cap * s | .prow s => 0 < s ∧ arr.size = cap * s ∧ fr.2 = 0) :
    HInv (addBlk G H (G.blk k) cap) (H.set k .gone ++ [.cells sh' cs']) w ∧ Step G H w (addBlk G H (G.blk k) cap) (H.set k .gone ++ [.cells sh' cs']) w ∧ (addBlk G H (G.blk k) cap).blk H.length = G.blk k ∧ (addBlk G H (G.blk k) cap).own H.length = (none, cap) := by
  obtain ⟨hi1, st1⟩ := retire hi hk
  obtain ⟨arr0, T0, fr0, hb0, hs0, hr0, hf1, hf2, _⟩ := hi.cells k sh cs hk
  rw [hb] at hb0
  cases hb0
  have hkl := lt_of_get hk
  have hlen : (H.set k .gone).length = H.length := List.length_set ..
  have hblk : ∀ i, i ≠ H.length → (addBlk G H (G.blk k) cap).blk i = G.blk i := fun i hi => by simp [addBlk, hi]
  have hown : ∀ i, i ≠ H.length → (addBlk G H (G.blk k) cap).own i = G.own i := fun i hi => by simp [addBlk, hi]
  have hnew : (addBlk G H (G.blk k) cap).blk H.length = G.blk k := by simp [addBlk]
  have hnewo : (addBlk G H (G.blk k) cap).own H.length = (none, cap) := by simp [addBlk]
  have st2 : Step G (H.set k .gone) w (addBlk G H (G.blk k) cap) (H.set k .gone ++ [.cells sh' cs']) w := by
    refine ⟨rfl, rfl, rfl, Nat.le_refl _, fun _ _ h => h, fun _ _ _ => rfl, fun _ _ => rfl, fun i => ?_⟩
    cases ei : (H.set k AObj.gone)[i]? with
    | none => trivial
    | some o =>
      have hil := lt_of_get ei
      rw [hlen] at hil
      have ea : (H.set k .gone ++ [.cells sh' cs'])[i]? = some o := by rw [List.getElem?_append_left (by rw [hlen]; exact hil)]; exact ei
      cases o with
      | cells t c => exact ⟨⟨_, ea, rfl⟩, hblk i (by omega), hown i (by omega)⟩
      | gone => exact ⟨⟨_, ea, rfl⟩, hblk i (by omega), hown i (by omega)⟩
      | grow s n t => exact ⟨n, ea, Nat.le_refl _, fun _ => hown i (by omega)⟩
  have snoc : ∀ {i : Nat} {o : AObj}, (H.set k .gone ++ [.cells sh' cs'])[i]? = some o → (i < H.length ∧ (H.set k .gone)[i]? = some o) ∨ (i = H.length ∧ o = .cells sh' cs') := fun {i o} e => by
    rcases get_snoc e with h | h
    · exact .inl ⟨by rw [← hlen]; exact h.1, h.2⟩
    · exact .inr ⟨by rw [← hlen]; exact h.1, h.2⟩
  refine ⟨⟨hi.lt, fun i sh1 c ei => ?_, fun i s n t ei => ?_, fun i j b e1 e2 => ?_, hi.tabs⟩, st1.trans st2, hnew, hnewo⟩
  · rcases snoc ei with ⟨hil, ei'⟩ | ⟨rfl, ei'⟩
    · obtain ⟨arr1, T1, fr1, hb1, hs1, hr1, hg1, hg2, hg3⟩ := hi1.cells i sh1 c ei'
      rw [hblk i (by omega)]
      exact ⟨arr1, T1, fr1, hb1, hs1, fun j x v ex ev => (hr1 j x v ex ev).mono st2, hg1, hg2, shapeOk_own (hown i (by omega)) hg3⟩
    · cases ei'
      rw [hnew]
      refine ⟨arr, T, fr, hb, hr.1, fun j x v ex ev => (hr.2 j x v ex ev).mono (st1.trans st2), hf1, hf2, ?_⟩
      unfold shapeOk
      rw [hnewo]
      exact hsh
  · rcases snoc ei with ⟨hil, ei'⟩ | ⟨rfl, ei'⟩
    · rw [hown i (by omega)]
      obtain ⟨h1, h2, h3, h4⟩ := hi1.grow i s n t ei'
      exact ⟨h1, h2, h3, typedOk_keep h4 (hown i (by omega)) (Nat.le_refl _) (fun b arr e fr hb => ⟨arr, hb, rfl⟩) (fun _ _ _ _ _ _ _ _ _ hx _ => hx)⟩
    · cases ei'
  · have hs : ∀ i b, site (addBlk G H (G.blk k) cap) (H.set k .gone ++ [.cells sh' cs']) i = some b → (i < H.length ∧ i ≠ k ∧ site G H i = some b) ∨ (i = H.length ∧ b = G.blk k) := fun i b e => by
      unfold site at e
      cases ei : (H.set k .gone ++ [.cells sh' cs'])[i]? with
      | none => rw [ei] at e; cases e
      | some o =>
        rw [ei] at e
        rcases snoc ei with ⟨hil, ei'⟩ | ⟨rfl, ei'⟩
        · left
          rcases get_set ei' with ⟨hik, ei''⟩ | ⟨rfl, ei'', _⟩
          · refine ⟨hil, hik, ?_⟩
            unfold site
            rw [ei'']
            rw [hblk i (by omega), hown i (by omega)] at e
            exact e
          · subst ei''; cases e
        · right
          subst ei'
          simp only [hnew, Option.some.injEq] at e
          exact ⟨rfl, e.symm⟩
    rcases hs i b e1 with ⟨h1, h2, h3⟩ | ⟨h1, h2⟩ <;> rcases hs j b e2 with ⟨h4, h5, h6⟩ | ⟨h4, h5⟩
    · exact hi.apart i j b h3 h6
    · subst h5
      exact absurd (hi.apart i k _ h3 (shape_of hi hk)) h2
    · subst h2
      exact absurd (hi.apart j k _ h6 (shape_of hi hk)) h5
    · omega

section
variable {P : Program} {env : Env} {H : List AObj} {dst : Option Tmp} {ty : TypeId} {pos : String} {after : Array Edge} {guard : Option (Nat × Bool)}

/-- append, where there is no room. -/
theorem append_moves {L : Tab} (hL : TabOk P L) {t t2 e : TypeId} {w : World} {a : Option Addr} {n cap m s : Nat} {v2 : Value} {us vs : List Value} (ht : (L t).k = .slice e) (hd2 : ∃ d, P.underlying t2 = some d ∧ ∀ q, d ≠ .int q) (he : known (L e) = true)
    (hse : s = (L e).size) (hby : 0 < (L e).bytes) (hroom : (n + m) * (L e).bytes ≤ 140737488355328) (hfit : cap < n + m) (hlen : ∀ w', (Builtin.lenOf v2).run P w' = .ok m w')
    (hu1 : (Builtin.firstCells s n (.slice a n cap)).run P w.drew = .ok us.toArray w.drew) (hv1 : (Builtin.firstCells s m v2).run P w.drew = .ok vs.toArray w.drew) :
    ∃ zc : Array Value, zc.size = (grownCap w (n + m) cap e - (n + m)) * s ∧
      (Builtin.append_ #[t, t2] ty #[.slice a n cap, v2]).run P w = .ok (.slice (some ⟨w.heap.size, 0, none⟩) (n + m) (grownCap w (n + m) cap e)) (w.drew.alloc (.cells ((us ++ vs).toArray ++ zc) e)) := by
  have hu := (hL t (by rw [ht]; simp)).1
  rw [ht] at hu
  simp only [TKOk] at hu
  obtain ⟨_, ie, zv, hie, hisz, hiby, hzl, hzv, hzs, _⟩ := hL e (known_ne he)
  obtain ⟨d2, hd2, hnint⟩ := hd2
  have hnoov : ¬ (Builtin.nextslicecap (n + m) cap * ie.bytes > 281474976710656) := by
    have := growslice_fits (need := n + m) (old := cap) (bytes := ie.bytes) hfit (by rw [hiby]; exact hroom)
    omega
  have hbz : ie.bytes ≠ 0 := by rw [hiby]; omega
  have hzsz : zv.cells.size = s := by
    have := (rel_zero (H := []) (G := ⟨fun _ _ => False, fun _ => 0, fun _ => (none, 0)⟩) (w := w) hzs).1
    rw [this, hzl, hse]
  refine ⟨Builtin.zeroCells zv.cells (grownCap w (n + m) cap e - (n + m)), by simp [Builtin.zeroCells, hzsz], ?_⟩
  simp only [Builtin.append_, Sem.run_bind, run_underlying hu, run_size hL (known_ne he), run_underlying hd2, Result.andThen_ok, Sem.run_pure, List.getElem?_toArray, List.getElem?_cons_zero, List.getElem?_cons_succ]
  simp only [Bool.false_eq_true, if_false, hlen, Result.andThen_ok, if_neg (show ¬ (n + m ≤ cap) by omega), typeInfo, Sem.run_bind, run_program, hie, Sem.run_pure, hbz, false_or, and_false]
  simp only [show (2 : Nat) ^ 48 = 281474976710656 from rfl, if_neg hnoov, Sem.run_bind, Sem.run_pure, Result.andThen_ok, run_choose_drew, Question.forced, Bool.false_eq_true, if_false, run_askRoom, ← hse, zeroValue, typeInfo, run_program, hie, hzv, newRow, run_newObj_alloc]
  rw [show (Question.appendCap (n + m) cap e).cut (w.tape w.drawn (Question.appendCap (n + m) cap e)) = grownCap w (n + m) cap e from rfl]
  simp [hu1, hv1]
  refine congrArg (fun c => w.drew.alloc (Obj.cells c e)) ?_
  apply Array.ext'
  simp

/-- What a slice's first cells are, in memory that nobody writes. -/
theorem first_of_sl {G : Gh} {w : World} {o : Own} {s : Nat} {xs : List AV} {a : Option Addr} {n cap : Nat} (r : Rel G H w (.sl o s xs) (.slice a n cap)) (hs : 0 < s) :
    ∃ us : List Value, us.length = (flats xs).length ∧ (∀ (j : Nat) x u, (flats xs)[j]? = some x → us[j]? = some u → Rel G H w x u) ∧ (∀ w', (∀ a, w'.cell? a = w.cell? a) → (Builtin.firstCells s xs.length (.slice a n cap)).run P w' = .ok us.toArray w') := by
  have r' := r
  cases r with
  | sl _ _ _ _ len _ val hl hcap huni hc hr hf ha ho =>
  rcases Nat.eq_zero_or_pos xs.length with h0 | h0
  · have hnil : xs = [] := List.eq_nil_of_length_eq_zero h0
    subst hnil
    refine ⟨[], rfl, fun j x u e => by simp [flats] at e, fun w' _ => ?_⟩
    cases a with
    | none => simp [Builtin.firstCells]
    | some a => simp [Builtin.firstCells, loadCells, loadCellsFrom]
  · obtain ⟨b, off, cap', ev, _, hcc⟩ := r'.sl_addr hs h0
    cases ev
    obtain ⟨us, hl', h1, h2⟩ := exists_vals (G := G) (H := H) (w := w) (b := b) (off := off) (flats xs) (fun j y e => (hcc j y e).2)
    exact ⟨us, hl', h2, fun w' hw' => run_firstCells_some w' s xs.length ⟨b, off, none⟩ _ cap us (by rw [hl', flats_len fun x hx => (huni x hx).1]) (fun j v e => by rw [addr_add, hw']; exact h1 j v e)⟩
/-- .. in an object. -/
theorem first_of_cells {G : Gh} {w : World} (hi : HInv G H w) {k off m s n cap : Nat} {sh : Shape} {cs : List AV} (hk : H[k]? = some (.cells sh cs)) (hl : off + m * s ≤ cs.length) :
    ∃ us : List Value, us.length = m * s ∧ (∀ (j : Nat) x u, ((cs.drop off).take (m * s))[j]? = some x → us[j]? = some u → Rel G H w x u) ∧ (∀ w', (∀ a, w'.cell? a = w.cell? a) → (Builtin.firstCells s m (.slice (some ⟨G.blk k, off, none⟩) n cap)).run P w' = .ok us.toArray w') := by
  obtain ⟨arr, T, fr, hb, hsz, hr, hf1, hf2, hf3⟩ := hi.cells k sh cs hk
  obtain ⟨us, hul, h1, h2⟩ := exists_vals (G := G) (H := H) (w := w) (b := G.blk k) (off := off) ((cs.drop off).take (m * s)) (fun j u e => by
    rw [List.getElem?_take] at e
    split at e
    · rw [List.getElem?_drop] at e
      have hj := lt_of_get e
      exact ⟨arr[off + j], (cell_row hb).trans (Array.getElem?_eq_getElem (by omega)), hr _ _ _ e (Array.getElem?_eq_getElem (by omega))⟩
    · cases e)
  have hlen : ((cs.drop off).take (m * s)).length = m * s := by rw [List.length_take, List.length_drop]; omega
  exact ⟨us, by rw [hul, hlen], h2, fun w' hw' => run_firstCells_some w' s m ⟨G.blk k, off, none⟩ n cap us (by rw [hul, hlen]) (fun j v e => by rw [addr_add, hw']; exact h1 j v e)⟩

/-- A new row of an append. -/
theorem new_row {G : Gh} {w : World} (hi : HInv G H w) {e : TypeId} {s n cap : Nat} (hs : 0 < s) {cs : List AV} {us : List Value} {zc : Array Value} (hl : us.length = cs.length) (hcs : cs.length = n * s) (hc : n ≤ cap) (hz : zc.size = (cap - n) * s)
    (hr : ∀ (j : Nat) x u, cs[j]? = some x → us[j]? = some u → Rel G H w x u) :
    ∃ G', HInv G' (H ++ [.cells (.prow s) cs]) (w.drew.alloc (.cells (us.toArray ++ zc) e)) ∧ Step G H w G' (H ++ [.cells (.prow s) cs]) (w.drew.alloc (.cells (us.toArray ++ zc) e)) ∧
      Rel G' (H ++ [.cells (.prow s) cs]) (w.drew.alloc (.cells (us.toArray ++ zc) e)) (.mrow H.length n) (.slice (some ⟨w.heap.size, 0, none⟩) n cap) := by
  have hsz : (us.toArray ++ zc).size = cap * s := by
    rw [Array.size_append, List.size_toArray, hl, hcs, hz, ← Nat.add_mul]
    congr 1
    omega
  have hrc : RelLe G H w cs (us.toArray ++ zc) := by
    refine ⟨by rw [Array.size_append, List.size_toArray, hl]; omega, fun j x v e1 e2 => ?_⟩
    have hj := lt_of_get e1
    rw [Array.getElem?_append_left (by rw [List.size_toArray]; omega)] at e2
    exact hr j x v e1 (by simpa using e2)
  obtain ⟨hi', hst, hb, ho⟩ := new_cells hi (More.refl w).drew rfl hrc e (0, 0) (.inr rfl) (.prow s) cap ⟨hs, hsz, rfl⟩
  exact ⟨_, hi', hst, rel_mrow_new hb (by rw [ho]) hc⟩

theorem src_desc {L : Tab} (hL : TabOk P L) {t2 : TypeId} (h : srcKind (L t2).k = true) : ∃ d, P.underlying t2 = some d ∧ ∀ q, d ≠ .int q := by
  have ht2 : (∃ e', (L t2).k = .slice e') ∨ (L t2).k = .str := by
    cases hk : (L t2).k <;> simp_all [srcKind]
  rcases ht2 with ⟨e', h⟩ | h
  · have := (hL t2 (by rw [h]; simp)).1
    rw [h] at this
    exact ⟨_, this, fun q => by simp⟩
  · have := (hL t2 (by rw [h]; simp)).1
    rw [h] at this
    exact ⟨_, this, fun q => by simp⟩

/-- append to a slice whose capacity is its length, or to a row: a row. -/
def vcAppendM (L : Tab) (t t2 : TypeId) (x y : AV) (H : List AObj) (K : AV → List AObj → Prop) [Tag K] : Prop :=
  match (L t).k, x, srcAV y with
  | .slice e, .sl .full z xs, some (z2, ys) => (srcKind (L t2).k = true ∧ known (L e) = true ∧ 0 < (L e).size ∧ 0 < (L e).bytes ∧ (xs ≠ [] → z = (L e).size) ∧ ys ≠ [] ∧ z2 = (L e).size ∧ (xs.length + ys.length) * (L e).bytes ≤ 140737488355328) ∧
      K (.mrow H.length (xs.length + ys.length)) (H ++ [.cells (.prow (L e).size) (flats (xs ++ ys))])
  | _, _, _ => False
theorem aop_appendM {L : Tab} (hL : TabOk P L) {t t2 : TypeId} {x y : Operand} {K : AV → List AObj → Prop} (h : vcAppendM L t t2 (ev env x) (ev env y) H K) :
    AOp P ⟨dst, .call { callee := .builtin .append, args := #[x, y], argTypes := #[t, t2] }, ty, pos, after, guard⟩ env H K := .of_run fun n G a w s => by
  unfold vcAppendM at h
  split at h
  · rename_i e z xs z2 ys hk ex ey
    obtain ⟨⟨h1, h2, h3, h4, h5, h6, h7, h8⟩, hK⟩ := h
    have rx := s.ev x
    have ry := s.ev y
    rw [ex] at rx
    have hop : ∀ v v2 : Value, a.eval x = v → a.eval y = v2 → ∀ v' w', (Builtin.append_ #[t, t2] ty #[v, v2]).run P w = .ok v' w' →
        (execOp a.eval ⟨dst, .call { callee := .builtin .append, args := #[x, y], argTypes := #[t, t2] }, ty, pos, after, guard⟩).run P w = .ok (.value v') w' := fun v v2 e1 e2 v' w' hr => by
      simp [execOp, resolve, invoke, builtin, e1, e2, hr]
    generalize hv : a.eval x = v at rx
    have rx0 := rx
    cases rx with
    | sl _ _ _ ad len cap val hl hcap huni hc hr hf ha ho =>
    have hcl : cap = len := hf rfl
    subst hcl
    subst hl
    have rx1 : Rel G H w (.sl .full (L e).size xs) (.slice ad xs.length xs.length) := by
      by_cases hx : xs = []
      · subst hx
        exact .sl .full _ [] _ _ _ (fun _ => undef) rfl (Nat.le_refl _) (fun x hx => by cases hx) (fun j x e => by simp [flats] at e) (fun j x e => by simp [flats] at e) (fun _ => rfl) (fun h => absurd h (by simp)) (fun k e => by cases e)
      · rw [← h5 hx]; exact rx0
    obtain ⟨us, hul, hur, hu1⟩ := first_of_sl (P := P) rx1 h3
    obtain ⟨hlen, huni2, vs, hvl, hvr, hv1⟩ := src_run (P := P) ry ey (fun _ => h7) h3
    have hyp : 0 < ys.length := List.length_pos_iff.2 h6
    obtain ⟨zc, hzc, hrun⟩ := append_moves (ty := ty) (n := xs.length) (cap := xs.length) (m := ys.length) hL hk (src_desc hL h1) h2 rfl h4 h8 (by omega) hlen (hu1 w.drew fun _ => rfl) (hv1 w.drew fun _ => rfl)
    have huniX := rx1.sl_uni
    have hfl : (flats (xs ++ ys)).length = (xs.length + ys.length) * (L e).size := by
      rw [flats_append, List.length_append, flats_len huniX, flats_len fun x hx => (huni2 x hx).1, ← Nat.add_mul]
    obtain ⟨G', hi', hst, hrel⟩ := new_row (e := e) s.inv h3 (cs := flats (xs ++ ys)) (us := us ++ vs) (n := xs.length + ys.length) (cap := grownCap w (xs.length + ys.length) xs.length e) (by rw [flats_append, List.length_append, List.length_append, hul, hvl]) hfl (grownCap_ge w _ _ e) hzc (fun j x u e1 e2 => by
      rw [flats_append] at e1
      by_cases hj : j < (flats xs).length
      · rw [List.getElem?_append_left hj] at e1
        rw [List.getElem?_append_left (by rw [hul]; exact hj)] at e2
        exact hur j x u e1 e2
      · rw [List.getElem?_append_right (by omega)] at e1
        rw [List.getElem?_append_right (by omega), hul] at e2
        exact (hvr _ x u e1 e2).1)
    exact ⟨_, _, _, G', _, hop _ _ hv rfl _ _ hrun, hi', hst, hrel, hK⟩
  · exact h.elim

/-- append to a row: the row is let go, a new one is there. -/
def vcAppendR (L : Tab) (t t2 : TypeId) (x y : AV) (H : List AObj) (K : AV → List AObj → Prop) [Tag K] : Prop :=
  match (L t).k, x, srcAV y with
  | .slice e, .mrow k n, some (z2, ys) => match H[k]? with
    | some (.cells (.prow s) cs) => (srcKind (L t2).k = true ∧ known (L e) = true ∧ s = (L e).size ∧ 0 < (L e).bytes ∧ cs.length = n * s ∧ (ys ≠ [] → z2 = (L e).size) ∧ (n + ys.length) * (L e).bytes ≤ 140737488355328) ∧
      K (.mrow H.length (n + ys.length)) (H.set k .gone ++ [.cells (.prow s) (cs ++ flats ys)])
    | _ => False
  | _, _, _ => False
theorem aop_appendR {L : Tab} (hL : TabOk P L) {t t2 : TypeId} {x y : Operand} {K : AV → List AObj → Prop} (h : vcAppendR L t t2 (ev env x) (ev env y) H K) :
    AOp P ⟨dst, .call { callee := .builtin .append, args := #[x, y], argTypes := #[t, t2] }, ty, pos, after, guard⟩ env H K := .of_run fun n0 G a w st => by
  unfold vcAppendR at h
  split at h
  · rename_i e k n z2 ys hk ex ey
    split at h
    · rename_i s cs ho
      obtain ⟨⟨h1, h2, h3, h4, h5, h6, h8⟩, hK⟩ := h
      have rx := st.ev x
      have ry := st.ev y
      rw [ex] at rx
      have hkl := lt_of_get ho
      have hu := (hL t (by rw [hk]; simp)).1
      rw [hk] at hu
      simp only [TKOk] at hu
      have hop : ∀ v v2 : Value, a.eval x = v → a.eval y = v2 → ∀ v' w', (Builtin.append_ #[t, t2] ty #[v, v2]).run P w = .ok v' w' →
          (execOp a.eval ⟨dst, .call { callee := .builtin .append, args := #[x, y], argTypes := #[t, t2] }, ty, pos, after, guard⟩).run P w = .ok (.value v') w' := fun v v2 e1 e2 v' w' hr => by
        simp [execOp, resolve, invoke, builtin, e1, e2, hr]
      obtain ⟨arr, T, fr, hb, hsz, hr, hf1, hf2, hf3⟩ := st.inv.cells k _ cs ho
      have hs : 0 < s := hf3.1
      have hasz : arr.size = (G.own k).2 * s := hf3.2.1
      generalize hv : a.eval x = v at rx
      cases rx with
      | mrow _ _ o0 hk0 hb0 hcap =>
      obtain ⟨hlen, huni2, vs, hvl, hvr, hv1⟩ := src_run (P := P) ry ey h6 (by rw [← h3]; exact hs)
      rw [← h3] at huni2 hv1
      have hvl' : vs.length = ys.length * s := by rw [hvl, flats_len fun x hx => (huni2 x hx).1]
      have hfl : (cs ++ flats ys).length = (n + ys.length) * s := by rw [List.length_append, h5, flats_len fun x hx => (huni2 x hx).1, Nat.add_mul]
      by_cases hfit : n + ys.length ≤ (G.own k).2
      · have hle : (n + ys.length) * s ≤ (G.own k).2 * s := Nat.mul_le_mul_right s hfit
        rw [Nat.add_mul] at hle
        obtain ⟨w', hst, hov⟩ := run_storeCells (P := P) (n * s) vs 0 w arr hb (fun v hv => by
          obtain ⟨j, hj'⟩ := List.mem_iff_getElem?.1 hv
          have hjl : j < (flats ys).length := by rw [← hvl]; exact lt_of_get hj'
          exact (hvr j _ v (List.getElem?_eq_getElem hjl) hj').2) (by rw [hvl', hasz]; omega) (fun j _ h7 => hf2 j (by rw [hasz]; omega))
        obtain ⟨g1, g2⟩ := Great.foldl_set (n * s) vs 0 arr
        have hrel : RelLe G H w (cs ++ flats ys) ((vs.zipIdx 0).foldl (fun cs (x : Value × Nat) => cs.setIfInBounds (n * s + x.2) x.1) arr) := by
          refine ⟨by rw [g1, hfl, hasz, Nat.add_mul]; exact hle, fun j x v e1 e2 => ?_⟩
          rw [g2 j] at e2
          simp only [Nat.add_zero] at e2
          by_cases hj : j < cs.length
          · rw [List.getElem?_append_left hj] at e1
            rw [if_neg (by omega)] at e2
            exact hr j x v e1 e2
          · rw [List.getElem?_append_right (by omega)] at e1
            have hjl := lt_of_get e1
            rw [if_pos (by rw [hvl, hasz]; rw [flats_len fun x hx => (huni2 x hx).1] at hjl ⊢; omega)] at e2
            rw [h5] at e1
            exact (hvr _ x v e1 e2).1
        obtain ⟨hi1, st1⟩ := over_cells st.inv ho (fun h => absurd rfl (h s).2) hb g1 hov hrel
        have hget : (H.set k (.cells (.prow s) (cs ++ flats ys)))[k]? = some (.cells (.prow s) (cs ++ flats ys)) := by simp [hkl]
        obtain ⟨hi2, st2, hb2, ho2⟩ := rename hi1 hget (.prow s) (G.own k).2 hov.row (cs' := cs ++ flats ys) ⟨hrel.1, fun j x v e1 e2 => (hrel.2 j x v e1 e2).mono st1⟩ ⟨hs, by rw [g1]; exact hasz, hf3.2.2⟩
        have hss : (H.set k (.cells (.prow s) (cs ++ flats ys))).set k .gone = H.set k .gone := by simp
        rw [hss] at hi2 st2
        have hll : (H.set k (.cells (.prow s) (cs ++ flats ys))).length = H.length := by simp
        rw [hll] at hb2 ho2
        refine ⟨.slice (some ⟨G.blk k, 0, none⟩) (n + ys.length) (G.own k).2, w', _, _, _, hop _ _ hv rfl _ _ ?_, hi2, st1.trans st2, ?_, hK⟩
        · have := hv1 w (fun _ => rfl)
          obtain ⟨d2, hd2, hnint⟩ := src_desc hL h1
          simp [Builtin.append_, run_underlying hu, run_size hL (known_ne h2), run_underlying hd2, hlen, hfit, ← h3, this, addr_add, hst]
        · have hml : (H.set k .gone).length = H.length := by simp
          have := rel_mrow_new (G := addBlk G (H.set k (AObj.cells (Shape.prow s) (cs ++ flats ys))) (G.blk k) (G.own k).2) (H := H.set k .gone) (w := w') (sh := .prow s) (cs := cs ++ flats ys) (b := G.blk k) (cap := (G.own k).2) (len := n + ys.length) (by rw [hml]; exact hb2) (by rw [hml, ho2]) hfit
          rwa [hml] at this
      · obtain ⟨us, hul, hur, hu1⟩ := first_of_cells (P := P) st.inv ho (off := 0) (m := n) (s := s) (n := n) (cap := (G.own k).2) (by omega)
        rw [List.drop_zero, List.take_of_length_le (by omega)] at hur
        obtain ⟨zc, hzc, hrun⟩ := append_moves (ty := ty) (n := n) (cap := (G.own k).2) (m := ys.length) hL hk (src_desc hL h1) h2 h3 h4 h8 (by omega) hlen (hu1 w.drew fun _ => rfl) (hv1 w.drew fun _ => rfl)
        obtain ⟨G', hi', hst, hrel⟩ := new_row (e := e) st.inv hs (cs := cs ++ flats ys) (us := us ++ vs) (n := n + ys.length) (cap := grownCap w (n + ys.length) (G.own k).2 e) (by rw [List.length_append, List.length_append, hul, hvl, h5]) hfl (grownCap_ge w _ _ e) hzc (fun j x u e1 e2 => by
          by_cases hj : j < cs.length
          · rw [List.getElem?_append_left hj] at e1
            rw [List.getElem?_append_left (by omega)] at e2
            exact hur j x u e1 e2
          · rw [List.getElem?_append_right (by omega)] at e1
            rw [List.getElem?_append_right (by omega), hul, ← h5] at e2
            exact (hvr _ x u e1 e2).1)
        obtain ⟨hi2, st2⟩ := retire (k := k) hi' (sh := .prow s) (cs := cs) (by rw [List.getElem?_append_left hkl]; exact ho)
        rw [List.set_append_left _ _ hkl] at hi2 st2
        exact ⟨_, _, _, G', _, hop _ _ hv rfl _ _ hrun, hi2, hst.trans st2, hrel.mono st2, hK⟩
    · exact h.elim
  · exact h.elim

/-- append of new elements, where there is no room: a new block, all of whose cells are told. -/
def vcAppendZ (L : Tab) (t t2 : TypeId) (x y : AV) (H : List AObj) (K : AV → List AObj → Prop) [Tag K] : Prop :=
  match (L t).k, (L t2).k, x, y with
  | .slice e, .int .i64, .msl k off n cap, .lit (.int _ c) => match H[k]? with
    | some (.cells _ cs) => (known (L e) = true ∧ 0 < (L e).size ∧ 0 < (L e).bytes ∧ off + n * (L e).size ≤ cs.length ∧ 0 ≤ c ∧ (cap : Int) < n + c ∧ ((n : Int) + c) * (L e).bytes ≤ 140737488355328) ∧
      ∀ z, K (.msl H.length 0 (n + c.toNat) (n + c.toNat + z)) (H ++ [.cells (.raw e) ((cs.drop off).take (n * (L e).size) ++ List.replicate ((c.toNat + z) * (L e).size) .any)])
    | _ => False
  | _, _, _, _ => False
theorem aop_appendZ {L : Tab} (hL : TabOk P L) {t t2 : TypeId} {x y : Operand} {K : AV → List AObj → Prop} (h : vcAppendZ L t t2 (ev env x) (ev env y) H K) :
    AOp P ⟨dst, .call { callee := .builtin .append, args := #[x, y], argTypes := #[t, t2] }, ty, pos, after, guard⟩ env H K := .of_run fun n0 G a w st => by
  unfold vcAppendZ at h
  split at h
  · rename_i e k off n cap q c hk hk2 ex ey
    split at h
    · rename_i sh cs ho
      obtain ⟨⟨h1, h2, h3, h4, h5, h6, h7⟩, hK⟩ := h
      have rx := st.ev x
      have ry := st.ev y
      rw [ex] at rx
      rw [ey] at ry
      have hy := rel_lit_inv ry
      have hu := (hL t (by rw [hk]; simp)).1
      rw [hk] at hu
      simp only [TKOk] at hu
      have hu2 := (hL t2 (by rw [hk2]; simp)).1
      rw [hk2] at hu2
      simp only [TKOk] at hu2
      obtain ⟨_, ie, zv, hie, hisz, hiby, hzl, hzv, hzs, _⟩ := hL e (known_ne h1)
      generalize hv : a.eval x = v at rx
      cases rx with
      | msl _ _ _ _ o0 hk0 hb0 hcap =>
      obtain ⟨us, hul, hur, hu1⟩ := first_of_cells (P := P) st.inv ho (off := off) (m := n) (s := (L e).size) (n := n) (cap := cap) h4
      have hzsz : zv.cells.size = (L e).size := by
        have := (rel_zero (H := []) (G := G) (w := w) hzs).1
        rw [this, hzl]
      obtain ⟨m, rfl⟩ : ∃ m : Nat, c = m := ⟨c.toNat, by omega⟩
      simp only [Int.toNat_natCast] at hK
      have hroom : (n + m) * ie.bytes ≤ 140737488355328 := by
        have e1 : ((n : Int) + (m : Int)) * ((L e).bytes : Int) = (((n + m) * (L e).bytes : Nat) : Int) := by rw [Int.natCast_mul, Int.natCast_add]
        rw [e1] at h7
        rw [hiby]
        omega
      have hb1 : 1 ≤ ie.bytes := by rw [hiby]; exact h3
      have hm64 : n + m ≤ 140737488355328 := Nat.le_trans (Nat.le_mul_of_pos_right _ hb1) hroom
      have hmb : m * ie.bytes ≤ 140737488355328 := Nat.le_trans (Nat.mul_le_mul_right _ (by omega)) hroom
      have hw : IntKind.i64.wrap (m : Int) = m := by rw [IntKind.wrap_i64]; omega
      have hnoov : ¬ (281474976710656 < Builtin.nextslicecap (n + m) cap * ie.bytes) := by
        have := growslice_fits (need := n + m) (old := cap) (bytes := ie.bytes) (by omega) hroom
        omega
      have hnm : ¬ (281474976710656 < (m : Int) * (ie.bytes : Int)) := by rw [← Int.natCast_mul]; omega
      have hneg : ¬ ((m : Int) < 0) := by omega
      have hmp : 0 < m := by omega
      have hns : ¬ (m * ie.size = 0) := Nat.mul_ne_zero (by omega) (by rw [hisz]; omega)
      have h63 : ¬ (9223372036854775807 < ((n : Int) + (m : Int))) := by omega
      have hbz : ie.bytes ≠ 0 := by omega
      have hu1' := hu1 w.drew fun _ => rfl
      rw [← hisz] at hu1'
      have hrun : (Builtin.append_ #[t, t2] ty #[.slice (some ⟨G.blk k, off, none⟩) n cap, .int q m]).run P w =
          .ok (.slice (some ⟨w.heap.size, 0, none⟩) (n + m) (grownCap w (n + m) cap e)) (w.drew.alloc (.cells (us.toArray ++ Builtin.zeroCells zv.cells m ++ Builtin.zeroCells zv.cells (grownCap w (n + m) cap e - (n + m))) e)) := by
        have hfit : ¬ (n + m ≤ cap) := by omega
        simp [Builtin.append_, run_underlying hu, run_underlying hu2, sizeOf, typeInfo, zeroValue, hie, hzv, asInt, asIntOf, hw, hneg, hns, h63, hnoov, hnm, Question.forced, newRow, grownCap, hfit, hu1', hbz]
      have hcg : n + m ≤ grownCap w (n + m) cap e := grownCap_ge w _ cap e
      have hK' := hK (grownCap w (n + m) cap e - (n + m))
      rw [show n + m + (grownCap w (n + m) cap e - (n + m)) = grownCap w (n + m) cap e by omega] at hK'
      have hz1 : (Builtin.zeroCells zv.cells m).size = m * (L e).size := by simp [Builtin.zeroCells, hzsz]
      have hz2 : (Builtin.zeroCells zv.cells (grownCap w (n + m) cap e - (n + m))).size = (grownCap w (n + m) cap e - (n + m)) * (L e).size := by simp [Builtin.zeroCells, hzsz]
      have hdl : ((cs.drop off).take (n * (L e).size)).length = n * (L e).size := by rw [List.length_take, List.length_drop]; omega
      have hsz : (us.toArray ++ Builtin.zeroCells zv.cells m ++ Builtin.zeroCells zv.cells (grownCap w (n + m) cap e - (n + m))).size = ((cs.drop off).take (n * (L e).size) ++ List.replicate ((m + (grownCap w (n + m) cap e - (n + m))) * (L e).size) AV.any).length := by
        rw [Array.size_append, Array.size_append, List.size_toArray, hul, hz1, hz2, List.length_append, List.length_replicate, hdl, Nat.add_mul]
        omega
      have hrc : RelLe G H w ((cs.drop off).take (n * (L e).size) ++ List.replicate ((m + (grownCap w (n + m) cap e - (n + m))) * (L e).size) AV.any) (us.toArray ++ Builtin.zeroCells zv.cells m ++ Builtin.zeroCells zv.cells (grownCap w (n + m) cap e - (n + m))) := by
        refine ⟨Nat.le_of_eq hsz.symm, fun j x v e1 e2 => ?_⟩
        by_cases hj : j < n * (L e).size
        · rw [List.getElem?_append_left (by omega)] at e1
          rw [Array.append_assoc, Array.getElem?_append_left (by rw [List.size_toArray]; omega)] at e2
          exact hur j x v e1 (by simpa using e2)
        · rw [List.getElem?_append_right (by omega)] at e1
          rw [List.getElem?_replicate] at e1
          split at e1
          · cases e1; exact .any _
          · cases e1
      obtain ⟨hi', hst, hb, _⟩ := new_cells st.inv (More.refl w).drew rfl hrc e (0, 0) (.inr rfl) (.raw e) 0 ⟨rfl, hsz⟩
      refine ⟨.slice (some ⟨w.heap.size, 0, none⟩) (n + m) (grownCap w (n + m) cap e), _, _, _, _, ?_, hi', hst, ?_, hK'⟩
      · simp [execOp, resolve, invoke, builtin, hv, hy, hrun]
      · have := Rel.msl (G := addBlk G H w.heap.size 0) (H := H ++ [.cells (.raw e) ((cs.drop off).take (n * (L e).size) ++ List.replicate ((m + (grownCap w (n + m) cap e - (n + m))) * (L e).size) AV.any)]) (w := w.drew.alloc (.cells (us.toArray ++ Builtin.zeroCells zv.cells m ++ Builtin.zeroCells zv.cells (grownCap w (n + m) cap e - (n + m))) e (0, 0)))
          H.length 0 (n + m) (grownCap w (n + m) cap e) _ List.getElem?_concat_length rfl hcg
        rw [hb] at this
        exact this
    · exact h.elim
  · exact h.elim

/-- What is copied: how many elements, and their cells. -/
def copySrc (H : List AObj) (s dn : Nat) (y : AV) : Option (Prop × Nat × List AV) :=
  match y with
  | .msl k off n _ => match H[k]? with
    | some (.cells _ cs) => some (off + n * s ≤ cs.length ∧ (((cs.drop off).take (min n dn * s)).all AV.scalar = true), min n dn, (cs.drop off).take (min n dn * s))
    | _ => none
  | y => match srcAV y with
    | some (z, ys) => some ((ys ≠ [] → z = s) ∧ ys.length ≤ dn, ys.length, flats ys)
    | none => none
theorem copySrc_run {G : Gh} {w : World} (hi : HInv G H w) {s dn : Nat} (hs : 0 < s) {y : AV} {v : Value} (ry : Rel G H w y v) {p : Prop} {m : Nat} {zs : List AV} (h : copySrc H s dn y = some (p, m, zs)) (hp : p) :
    ∃ len, (Builtin.lenOf v).run P w = .ok len w ∧ Nat.min len dn = m ∧ m ≤ dn ∧ zs.length = m * s ∧ ∃ vs : List Value, vs.length = m * s ∧ (∀ (j : Nat) x u, zs[j]? = some x → vs[j]? = some u → Rel G H w x u) ∧ (∀ u ∈ vs, u.oneCell' = true) ∧ (Builtin.firstCells s m v).run P w = .ok vs.toArray w := by
  unfold copySrc at h
  split at h
  · rename_i k off n cap
    split at h
    · rename_i sh cs ho
      cases h
      obtain ⟨h1, h2⟩ := hp
      cases ry with
      | msl _ _ _ _ o0 hk0 hb0 hcap =>
      have hms : min n dn * s ≤ n * s := Nat.mul_le_mul_right s (Nat.min_le_left ..)
      obtain ⟨us, hul, hur, hu1⟩ := first_of_cells (P := P) hi ho (off := off) (m := min n dn) (s := s) (n := n) (cap := cap) (by omega)
      have hdl : ((cs.drop off).take (min n dn * s)).length = min n dn * s := by rw [List.length_take, List.length_drop]; omega
      refine ⟨n, by simp [Builtin.lenOf], rfl, Nat.min_le_right .., hdl, us, hul, hur, fun u hu => ?_, hu1 w fun _ => rfl⟩
      obtain ⟨j, hj⟩ := List.mem_iff_getElem?.1 hu
      have hjl := lt_of_get hj
      have hx : ((cs.drop off).take (min n dn * s))[j]? = some (((cs.drop off).take (min n dn * s))[j]'(by omega)) := List.getElem?_eq_getElem _
      exact (scalar_cells (hur j _ u hx hj) (List.all_eq_true.1 h2 _ (List.getElem_mem _))).2.1
    · cases h
  · rename_i y' _
    split at h
    · rename_i z ys ey
      cases h
      obtain ⟨h1, h2⟩ := hp
      obtain ⟨hlen, huni2, vs, hvl, hvr, hv1⟩ := src_run (P := P) ry ey h1 hs
      have hfl := flats_len (s := s) fun x hx => (huni2 x hx).1
      refine ⟨ys.length, hlen w, Nat.min_eq_left h2, h2, hfl, vs, by rw [hvl, hfl], fun j x u e e' => (hvr j x u e e').1, fun u hu => ?_, hv1 w fun _ => rfl⟩
      obtain ⟨j, hj⟩ := List.mem_iff_getElem?.1 hu
      have hjl : j < (flats ys).length := by rw [← hvl]; exact lt_of_get hj
      exact (hvr j _ u (List.getElem?_eq_getElem hjl) hj).2
    · cases h
/-- copy, into an object. -/
def vcCopy (L : Tab) (t : TypeId) (x y : AV) (H : List AObj) (K : AV → List AObj → Prop) [Tag K] : Prop :=
  match (L t).k, x with
  | .slice e, .msl k off dn _ => match H[k]?, copySrc H (L e).size dn y with
    | some (.cells sh cs), some (p, m, zs) => (known (L e) = true ∧ 0 < (L e).size ∧ off + m * (L e).size ≤ cs.length ∧ p) ∧ K (.int .i64 m) (H.set k (.cells sh (aset cs off zs)))
    | _, _ => False
  | _, _ => False
theorem aop_copy {L : Tab} (hL : TabOk P L) {t t2 : TypeId} {x y : Operand} {K : AV → List AObj → Prop} (h : vcCopy L t (ev env x) (ev env y) H K) :
    AOp P ⟨dst, .call { callee := .builtin .copy, args := #[x, y], argTypes := #[t, t2] }, ty, pos, after, guard⟩ env H K := .of_run fun n0 G a w st => by
  unfold vcCopy at h
  split at h
  · rename_i e k off dn cap hk ex
    split at h
    · rename_i sh cs p m zs ho hsrc
      obtain ⟨⟨h1, h2, h3, h4⟩, hK⟩ := h
      have rx := st.ev x
      have ry := st.ev y
      rw [ex] at rx
      have hu := (hL t (by rw [hk]; simp)).1
      rw [hk] at hu
      simp only [TKOk] at hu
      obtain ⟨len, hlen, hmin, hmd, hzl, vs, hvl, hvr, hv1c, hv1⟩ := copySrc_run (P := P) st.inv h2 ry hsrc h4
      obtain ⟨arr, T, fr, hb, hsz, hr, hf1, hf2, hf3⟩ := st.inv.cells k sh cs ho
      generalize hv : a.eval x = v at rx
      cases rx with
      | msl _ _ _ _ o0 hk0 hb0 hcap =>
      obtain ⟨w', hst, hov⟩ := run_storeCells (P := P) off vs 0 w arr hb hv1c (by omega) (fun j _ _ => hf2 j (by omega))
      have hrel := relcells_over (off := off) (xs := zs) (vs := vs) ⟨hsz, hr⟩ (by omega) hvr
      obtain ⟨hi', st'⟩ := over_cells st.inv ho (fun _ => by rw [aset_len]) hb (overAt_size ..) hov hrel
      refine ⟨.int .i64 m, w', _, G, _, ?_, hi', st', .lit _, hK⟩
      simp [execOp, resolve, invoke, builtin, hv, Builtin.copy_, run_underlying hu, run_size hL (known_ne h1), hlen, hmin, hv1, hst, goInt]
    · exact h.elim
  · exact h.elim

/-- A literal of a slice, in memory that is written. -/
def vcBuildM (L : Tab) (t : TypeId) (len : Nat) (parts : List (Nat × AV)) (H : List AObj) (K : AV → List AObj → Prop) [Tag K] : Prop :=
  match (L t).k with
  | .slice e => (len ≠ 0 ∧ known (L e) = true ∧ 0 < (L e).size ∧ (L e).zero.length = (L e).size ∧ len * (L e).size ≤ 16777216 ∧ (afill (fun i => some (i * (L e).size, (L e).size)) (zeroFlat (L e).zero (len * (L e).size)) parts).1) ∧
      K (.msl H.length 0 len len) (H ++ [.cells (.one e) (afill (fun i => some (i * (L e).size, (L e).size)) (zeroFlat (L e).zero (len * (L e).size)) parts).2])
  | _ => False
theorem aop_buildM {L : Tab} (hL : TabOk P L) {t : TypeId} {len : Nat} {parts : Array (Nat × Operand)} {K : AV → List AObj → Prop} (h : vcBuildM L t len (evParts env parts) H K) :
    AOp P ⟨dst, .buildSlice t len parts, ty, pos, after, guard⟩ env H K := .of_run fun n0 G a w st => by
  unfold vcBuildM at h
  split at h
  · rename_i e hk
    obtain ⟨⟨h0, h1, h2, h3, h4, h5⟩, hK⟩ := h
    have hu := (hL t (by rw [hk]; simp)).1
    rw [hk] at hu
    simp only [TKOk] at hu
    obtain ⟨arr', hrun, hb⟩ := build_run hL st hu h0 h1 h2 h3 h4 h5
    obtain ⟨hi', hst, hb', _⟩ := new_cells st.inv (More.refl w) rfl hb.le e (0, 0) (.inr rfl) (.one e) 0 ⟨rfl, hb.1, rfl⟩
    refine ⟨.slice (some ⟨w.heap.size, 0, none⟩) len len, _, _, _, _, by simp only [execOp, Sem.run_bind, hrun, Result.andThen_ok, Sem.run_pure], hi', hst, ?_, hK⟩
    have := Rel.msl (G := addBlk G H w.heap.size 0) (H := H ++ [.cells (.one e) (afill (fun i => some (i * (L e).size, (L e).size)) (zeroFlat (L e).zero (len * (L e).size)) (evParts env parts)).2]) (w := w.alloc (.cells arr' e (0, 0)))
      H.length 0 len len _ List.getElem?_concat_length rfl (Nat.le_refl _)
    rw [hb'] at this
    exact this
  · exact h.elim

/-- A new slice of zeros, in memory that is written. -/
def vcMake (L : Tab) (t : TypeId) (x y : AV) (H : List AObj) (K : AV → List AObj → Prop) [Tag K] : Prop :=
  match (L t).k, x, y with
  | .slice e, .lit (.int _ n), .lit (.int _ c) => (known (L e) = true ∧ 0 < (L e).size ∧ (L e).zero.length = (L e).size ∧ 0 ≤ n ∧ n ≤ c ∧ c ≤ 9223372036854775807 ∧ ((L e).bytes : Int) * c ≤ 281474976710656) ∧
      K (.msl H.length 0 n.toNat c.toNat) (H ++ [.cells (.one e) (zeroFlat (L e).zero (c.toNat * (L e).size))])
  | _, _, _ => False
theorem aop_make {L : Tab} (hL : TabOk P L) {t : TypeId} {x y : Operand} {K : AV → List AObj → Prop} (h : vcMake L t (ev env x) (ev env y) H K) :
    AOp P ⟨dst, .makeSlice t x y, ty, pos, after, guard⟩ env H K := .of_run fun n0 G a w st => by
  unfold vcMake at h
  split at h
  · rename_i e q n q' c hk ex ey
    obtain ⟨⟨h1, h2, h3, h4, h5, h6, h7⟩, hK⟩ := h
    have rx := st.ev x
    have ry := st.ev y
    rw [ex] at rx
    rw [ey] at ry
    have hx := rel_lit_inv rx
    have hy := rel_lit_inv ry
    have hu := (hL t (by rw [hk]; simp)).1
    rw [hk] at hu
    simp only [TKOk] at hu
    obtain ⟨_, ie, zv, hie, hisz, hiby, hzl, hzv, hzs, _⟩ := hL e (known_ne h1)
    have hzr := rel_zero (H := H) (G := G) (w := w) hzs
    have hzl' : zv.cells.size = (L e).size := by rw [hzr.1, h3]
    have hrun := run_make (P := P) w t e ie zv hu hie hzv q q' n c h4 h5 (by rw [hiby]; exact h7) h6
    rw [hisz] at hrun
    have hrc : RelCells G H w (zeroFlat (L e).zero (c.toNat * (L e).size)) (madeCells zv.cells (c.toNat * (L e).size)) := by
      refine ⟨by simp [zeroFlat, madeCells], fun j x v e1 e2 => ?_⟩
      have hj : j < c.toNat * (L e).size := by simpa [zeroFlat] using lt_of_get e1
      have hmod : j % (L e).size < (L e).size := Nat.mod_lt _ h2
      simp only [zeroFlat, List.getElem?_map, List.getElem?_range hj, Option.map_some, Option.some.injEq] at e1
      have e2' : zv.cells[j % zv.cells.size]! = v := by
        unfold madeCells at e2
        rw [Array.getElem?_map, Array.getElem?_range] at e2
        rw [if_pos hj] at e2
        simpa using e2
      subst e1
      rw [← e2', h3]
      refine hzr.2 (j % (L e).size) _ _ (by simp [List.getD, List.getElem?_eq_getElem (show j % (L e).size < (L e).zero.length by omega)]) ?_
      rw [hzl', Array.getElem?_eq_getElem (by omega)]
      simp [getElem!_def, Array.getElem?_eq_getElem (show j % (L e).size < zv.cells.size by omega)]
    obtain ⟨hi', hst, hb', _⟩ := new_cells st.inv (More.refl w) rfl hrc.le e (0, 0) (.inr rfl) (.one e) 0 ⟨rfl, hrc.1, rfl⟩
    refine ⟨.slice (some ⟨w.heap.size, 0, none⟩) n.toNat c.toNat, _, _, _, _, by simp only [execOp, hx, hy, Sem.run_bind, hrun, Result.andThen_ok, Sem.run_pure], hi', hst, ?_, hK⟩
    have := Rel.msl (G := addBlk G H w.heap.size 0) (H := H ++ [.cells (.one e) (zeroFlat (L e).zero (c.toNat * (L e).size))]) (w := w.alloc (.cells (madeCells zv.cells (c.toNat * (L e).size)) e (0, 0)))
      H.length 0 n.toNat c.toNat _ List.getElem?_concat_length rfl (by omega)
    rw [hb'] at this
    exact this
  · exact h.elim

/-- Which buffer's element type a new variable's nil slice has a token for. -/
def bufOf : List Nat → Nat → Option Nat
  | [], _ => none
  | c :: r, d => if c = 3000000000 + d * 1000 + c % 1000 then some (c % 1000) else bufOf r d
def mintNil (m : Nat) : List AV → List AV
  | [] => []
  | .sl .full 0 [] :: r => .sl (.tok m) 1 [] :: r
  | x :: r => x :: mintNil m r
theorem mintNil_len (m : Nat) : ∀ l, (mintNil m l).length = l.length
  | [] => rfl
  | x :: r => by
    unfold mintNil
    split
    · rename_i h; cases h
    · rename_i h; cases h; rfl
    · rename_i h; cases h; rw [List.length_cons, List.length_cons, mintNil_len m r]
theorem mintNil_rel {G : Gh} {w : World} {m : Nat} {e : TypeId} (hm : H[m]? = some (.grow 1 0 (some e))) (ho : G.own m = (none, 0)) : ∀ (vs : List Value) (zs : List AV), vs.map ofCell = zs → (∀ (j : Nat) x v, (mintNil m zs)[j]? = some x → vs[j]? = some v → Rel G H w x v)
  | [], zs, h, j, x, v, e1, e2 => by simp at e2
  | u :: us, zs, h, j, x, v, e1, e2 => by
    subst h
    rw [List.map_cons] at e1
    have tok : Rel G H w (.sl (.tok m) 1 []) (.slice none 0 0) := .sl (.tok m) 1 [] none 0 0 (fun _ => undef) rfl (Nat.le_refl _) (fun x hx => by cases hx) (fun j x e => by simp [flats] at e) (fun j x e => by simp [flats] at e) (fun e => by cases e) (fun h => absurd h (by omega)) (fun k e => by
      cases e
      exact ⟨0, some _, hm, Nat.le_refl _, fun _ => ho⟩)
    have rest : ∀ (j : Nat) x v, (us.map ofCell)[j]? = some x → us[j]? = some v → Rel G H w x v := fun j x v e1 e2 => by
      rw [List.getElem?_map, e2] at e1
      cases e1
      exact rel_ofCell v
    unfold mintNil at e1
    split at e1
    · rename_i heq; simp at heq
    · rename_i r heq
      simp only [List.cons.injEq] at heq
      obtain ⟨hu, rfl⟩ := heq
      cases j with
      | zero =>
        simp at e1 e2
        subst e1
        subst e2
        have : u = .slice none 0 0 := by
          unfold ofCell at hu
          split at hu <;> first | rfl | cases hu
        rw [this]
        exact tok
      | succ j => exact rest j x v (by simpa using e1) (by simpa using e2)
    · rename_i y r _ heq
      simp only [List.cons.injEq] at heq
      obtain ⟨hu, rfl⟩ := heq
      cases j with
      | zero =>
        simp at e1 e2
        subst e1
        subst e2
        rw [← hu]
        exact rel_ofCell u
      | succ j => exact mintNil_rel hm ho us _ rfl j x v (by simpa using e1) (by simpa using e2)
/-- A new variable that holds a buffer. -/
theorem aop_allocB {L : Tab} (hL : TabOk P L) {e u : TypeId} {K : AV → List AObj → Prop} (hx : known (L e) = true) (hk : K (.mp H.length 0) (H ++ [.cells (.one e) (mintNil (H.length + 1) (L e).zero), .grow 1 0 (some u)])) : AOp P ⟨dst, .alloc e, ty, pos, after, guard⟩ env H K := .of_run fun n G a w s => by
  obtain ⟨_, i, z, hi', _, _, _, hz, hzs, _⟩ := hL e (known_ne hx)
  have hzr := rel_zero (H := H) (G := G) (w := w) hzs
  obtain ⟨hi, hst, hb, hown⟩ := new_cells s.inv (More.refl w) rfl hzr.le e (0, 0) (.inr rfl) (.one e) 0 ⟨rfl, hzr.1, rfl⟩
  have hnil := rel_nil (G := addBlk G H w.heap.size 0) (H := H ++ [.cells (.one e) (L e).zero]) (w := w.alloc (.cells z.cells e (0, 0))) 0
  obtain ⟨hi2, st2, _⟩ := mint (some u) hi hnil (s := 1) (by omega) (fun h => absurd rfl h) (fun _ => ⟨rfl, rfl⟩)
  have hl1 : (H ++ [AObj.cells (.one e) (L e).zero]).length = H.length + 1 := by simp
  rw [hl1, List.length_nil] at hi2 st2
  have hk0 : (H ++ [AObj.cells (.one e) (L e).zero] ++ [.grow 1 0 (some u)])[H.length]? = some (.cells (.one e) (L e).zero) := by
    rw [List.append_assoc, List.getElem?_append_right (Nat.le_refl _), Nat.sub_self]; rfl
  have hk1 : (H ++ [AObj.cells (.one e) (L e).zero] ++ [.grow 1 0 (some u)])[H.length + 1]? = some (.grow 1 0 (some u)) := by
    rw [← hl1]; exact List.getElem?_concat_length
  have hrow : (w.alloc (.cells z.cells e (0, 0))).heap[(setOwn (addBlk G H w.heap.size 0) (H.length + 1) none 0).blk H.length]? = some (.cells z.cells e (0, 0)) := by
    show (w.heap.push (.cells z.cells e (0, 0)))[(addBlk G H w.heap.size 0).blk H.length]? = _
    rw [hb]
    simp
  have hlen : (mintNil (H.length + 1) (L e).zero).length = (L e).zero.length := mintNil_len _ _
  obtain ⟨hi3, st3⟩ := over_cells hi2 hk0 (cs' := mintNil (H.length + 1) (L e).zero) (fun _ => hlen) hrow rfl ⟨rfl, rfl, rfl, rfl, fun _ _ => rfl, hrow⟩ ⟨by rw [hlen]; exact Nat.le_of_eq hzr.1.symm, fun j x v e1 e2 => mintNil_rel hk1 (by simp [setOwn]) z.cells.toList _ hzs j x v e1 (by simpa using e2)⟩
  have hset : (H ++ [AObj.cells (.one e) (L e).zero] ++ [AObj.grow 1 0 (some u)]).set H.length (AObj.cells (.one e) (mintNil (H.length + 1) (L e).zero)) = H ++ [AObj.cells (.one e) (mintNil (H.length + 1) (L e).zero), AObj.grow 1 0 (some u)] := by
    rw [List.append_assoc, List.set_append_right _ _ (Nat.le_refl _), Nat.sub_self]; rfl
  rw [hset] at hi3 st3
  refine ⟨.pointer (some ⟨w.heap.size, 0, none⟩), _, .mp H.length 0, _, _, by simp [execOp, Instr.alloc, zeroValue, typeInfo, hi', hz, newVar, newRow], hi3, (hst.trans st2).trans st3, ?_, hk⟩
  have := Rel.mp (G := setOwn (addBlk G H w.heap.size 0) (H.length + 1) none 0) (H := H ++ [.cells (.one e) (mintNil (H.length + 1) (L e).zero), .grow 1 0 (some u)]) (w := w.alloc (.cells z.cells e (0, 0))) H.length 0 (.cells (.one e) (mintNil (H.length + 1) (L e).zero)) (by rw [List.getElem?_append_right (Nat.le_refl _), Nat.sub_self]; rfl) rfl
  rw [show (setOwn (addBlk G H w.heap.size 0) (H.length + 1) none 0).blk H.length = w.heap.size from hb] at this
  exact this

/-- A buffer's bytes are told as a string: the world remembers that they are written no more. -/
theorem frozen_world {G : Gh} {w : World} (hi : HInv G H w) {k n cap : Nat} {e : TypeId} {b : Nat} (hk : H[k]? = some (.grow 1 n (some e))) (ho : G.own k = (some ⟨b, 0, none⟩, cap)) (hn : 0 < n) :
    HInv G H (w.freeze ⟨b, 0, none⟩ n) ∧ Step G H w G H (w.freeze ⟨b, 0, none⟩ n) := by
  obtain ⟨_, hcap, _, hty⟩ := hi.grow k 1 n _ hk
  rw [ho] at hcap
  rcases hty e rfl with h | ⟨b', arr, ⟨lo, hi0⟩, h1, h2, h3, h4, h5, h6⟩
  · rw [ho] at h; cases h
  rw [ho] at h1 h2 h4
  cases h1
  simp only at hcap h2 h4 h5
  have hsite : site G H k = some b := by
    unfold site
    rw [hk, ho]
    simp only
    rw [if_pos (.inr ⟨rfl, h2⟩)]
  obtain ⟨fr', hfr', hrow⟩ : ∃ fr' : Nat × Nat, fr'.2 ≤ n ∧ (w.freeze ⟨b, 0, none⟩ n).heap[b]? = some (.cells arr e fr') := by
    refine ⟨if lo == hi0 then (0, 0 + n) else (min lo 0, max hi0 (0 + n)), ?_, ?_⟩
    · by_cases hl : lo = hi0
      · simp [hl]
      · have h5' : hi0 ≤ n := by rcases h5 with h | h; exact absurd h hl; omega
        simp only [beq_iff_eq, hl, if_false]
        omega
    · unfold World.freeze
      rw [if_neg (by omega)]
      simp [Array.getElem?_modify, h3]
  have hother : ∀ c, c ≠ b → (w.freeze ⟨b, 0, none⟩ n).heap[c]? = w.heap[c]? := fun c hc => by
    unfold World.freeze
    rw [if_neg (by omega)]
    simp [Array.getElem?_modify, show ¬ b = c from fun h => hc h.symm]
  have hsize : (w.freeze ⟨b, 0, none⟩ n).heap.size = w.heap.size := by
    unfold World.freeze
    rw [if_neg (by omega)]
    simp
  have hos : (w.freeze ⟨b, 0, none⟩ n).os = w.os ∧ (w.freeze ⟨b, 0, none⟩ n).tape = w.tape ∧ (w.freeze ⟨b, 0, none⟩ n).output = w.output := by
    unfold World.freeze
    rw [if_neg (by omega)]
    exact ⟨rfl, rfl, rfl⟩
  have hcell : ∀ c off, (w.freeze ⟨b, 0, none⟩ n).cell? ⟨c, off, none⟩ = w.cell? ⟨c, off, none⟩ := fun c off => by
    by_cases hc : c = b
    · subst hc; rw [cell_row hrow, cell_row h3]
    · exact World.cell?_of_block (w := w) (hother c hc)
  generalize w.freeze ⟨b, 0, none⟩ n = w' at *
  have st : Step G H w G H w' := ⟨hos.1, hos.2.1, hos.2.2, Nat.le_of_eq hsize.symm, fun _ _ h => h, fun c off _ => hcell c off, fun c hc => hother c fun e => by subst e; exact h6 arr.size (Nat.le_refl _) (hc _), (Step.refl G H w).obj⟩
  refine ⟨⟨fun c off h => by rw [hsize]; exact hi.lt c off h, fun i sh c ei => ?_, fun i s m t ei => ?_, hi.apart, hi.tabs.step st⟩, st⟩
  · obtain ⟨a1, T1, f1, hb1, hs1, hr1, hg1, hg2, hg3⟩ := hi.cells i sh c ei
    have hne : G.blk i ≠ b := fun e => by
      have := hi.apart i k b (by simp [site, ei, e]) hsite
      subst this
      rw [hk] at ei
      cases ei
    exact ⟨a1, T1, f1, (hother _ hne).trans hb1, hs1, fun j x v ex ev => (hr1 j x v ex ev).mono st, hg1, fun off h => (World.frozen?_of_block (w := w) (hother _ hne)).trans (hg2 off h), hg3⟩
  · obtain ⟨g0, g1, g2, g3⟩ := hi.grow i s m t ei
    by_cases hik : i = k
    · subst hik
      rw [hk] at ei
      cases ei
      refine ⟨g0, g1, fun hlt => ?_, fun e' he' => .inr ⟨b, arr, fr', by rw [ho], by rw [ho]; exact h2, ?_, by rw [ho]; exact h4, .inr (by omega), h6⟩⟩
      · obtain ⟨b1, off1, a1, T1, f1, ea1, hb1, hsz1, hj1⟩ := g2 hlt
        rw [ho] at ea1
        cases ea1
        rw [h3] at hb1
        cases hb1
        refine ⟨b, 0, arr, e, fr', by rw [ho], hrow, hsz1, fun j h7 h8 => ⟨(hj1 j h7 h8).1, ?_⟩⟩
        obtain ⟨f1, f2⟩ := fr'
        simp only [World.frozen?, hrow, Bool.and_eq_false_iff, decide_eq_false_iff_not]
        simp only at hfr'
        omega
      · cases he'
        exact hrow
    · refine ⟨g0, g1, fun hlt => ?_, ?_⟩
      · obtain ⟨b1, off1, a1, T1, f1, ea1, hb1, hsz1, hj1⟩ := g2 hlt
        have hne : b1 ≠ b := fun e => hik (hi.apart i k b (e ▸ site_grow ei hlt ea1) hsite)
        exact ⟨b1, off1, a1, T1, f1, ea1, (hother _ hne).trans hb1, hsz1, fun j h7 h8 => ⟨(hj1 j h7 h8).1, (World.frozen?_of_block (w := w) (hother _ hne)).trans (hj1 j h7 h8).2⟩⟩
      · intro e' he'
        rcases g3 e' he' with h | ⟨b1, a1, f1, h7, h8, h9, h10⟩
        · exact .inl h
        · have hne : b1 ≠ b := fun e => by
            have hs1 : site G H i = some b1 := by
              unfold site
              rw [ei, show G.own i = (some ⟨b1, 0, none⟩, (G.own i).2) by rw [← h7]]
              simp only
              rw [if_pos (.inr ⟨by rw [he']; rfl, h8⟩)]
            exact hik (hi.apart i k b (e ▸ hs1) hsite)
          exact .inr ⟨b1, a1, f1, h7, h8, (hother _ hne).trans h9, h10⟩

/-- unsafe.SliceData of a buffer; unsafe.String of it. -/
def qSliceData (H : List AObj) (x : AV) : Option (Prop × AV) :=
  match x with
  | .sl (.tok k) 1 xs => match H[k]? with
    | some (.grow 1 n (some _)) => some (n = xs.length, .data (.sl (.tok k) 1 xs))
    | _ => none
  | _ => none
theorem still_sliceData {x : Operand} {ats : Array TypeId} {p : Prop} {z : AV} (h : qSliceData H (ev env x) = some (p, z)) : Still P ⟨dst, .call { callee := .builtin .unsafeSliceData, args := #[x], argTypes := ats }, ty, pos, after, guard⟩ env H p z := fun hp _ G a w s => by
  have rx := s.ev x
  unfold qSliceData at h
  split at h
  · rename_i k xs ex
    split at h
    · rename_i n e hk
      cases h
      rw [ex] at rx
      generalize hv : a.eval x = v at rx
      have rx0 := rx
      cases rx with
      | sl _ _ _ ad len cap val hl hcap huni hc hr hf ha ho =>
      obtain ⟨n', t', hn', hle, hown⟩ := ho k rfl
      rw [hk] at hn'
      cases hn'
      have hown := hown hp.symm
      obtain ⟨_, _, _, hty⟩ := s.inv.grow k 1 n _ hk
      have key : cap ≠ 0 ∨ ad = none := by
        rcases hty e rfl with h | ⟨b, arr, fr, h1, h2, _⟩
        · rw [hown] at h; cases h; exact .inr rfl
        · rw [hown] at h2; simp only at h2; exact .inl (by omega)
      refine ⟨.pointer ad, ?_, .data _ ad len cap rx0 key⟩
      have hrun : (Builtin.unsafeSliceData_ ats ty #[.slice ad len cap]).run P w = .ok (.pointer ad) w := by
        cases ad with
        | none => rfl
        | some ad => exact Lib.run_unsafeSliceData_row w ats ty ad len cap (by rcases key with h | h; exact h; cases h)
      simp [execOp, resolve, invoke, builtin, hv, hrun]
    · cases h
  · cases h
def qString (L : Tab) (H : List AObj) (pt : TypeId) (x y : AV) : Option (Prop × AV) :=
  match (L pt).k, x, y with
  | .ptr e, .data (.sl (.tok k) 1 xs), .lit (.int .i64 c) => match H[k]? with
    | some (.grow 1 n (some e')) => some (n = xs.length ∧ c = xs.length ∧ e' = e ∧ (L e).k = .int .u8 ∧ (L e).size = 1 ∧ xs.length ≤ 140737488355328 ∧ isBytes xs, .str (unbytes xs))
    | _ => none
  | _, _, _ => none
theorem quiet_string {L : Tab} (hL : TabOk P L) {x y : Operand} {pt it : TypeId} {p : Prop} {z : AV} (h : qString L H pt (ev env x) (ev env y) = some (p, z)) : Quiet P ⟨dst, .call { callee := .builtin .unsafeString, args := #[x, y], argTypes := #[pt, it] }, ty, pos, after, guard⟩ env H p z := fun hp _ G a w s => by
  have rx := s.ev x
  have ry := s.ev y
  unfold qString at h
  split at h
  · rename_i e k xs c hpk ex ey
    split at h
    · rename_i n e' hk
      cases h
      obtain ⟨h1, h2, rfl, h4, h5, h6, h7⟩ := hp
      rw [ex] at rx
      rw [ey] at ry
      have hy := rel_lit_inv ry
      have hpt := (hL pt (by rw [hpk]; simp)).1
      rw [hpk] at hpt
      simp only [TKOk] at hpt
      obtain ⟨_, i, _, hinfo, hisz, _⟩ := hL e' (by rw [h4]; simp)
      have hcells : P.cellsOf e' = 1 := by
        unfold Program.cellsOf
        simp [hinfo, hisz, h5]
      generalize hv : a.eval x = v at rx
      cases rx with
      | data _ ad len cap hsl hcc =>
      cases hsl with
      | sl _ _ _ _ _ _ val hl hcap huni hc hr hf ha ho =>
      obtain ⟨n', t', hn', hle, hown⟩ := ho k rfl
      rw [hk] at hn'
      cases hn'
      have hown := hown h1.symm
      unfold isBytes at h7
      generalize unbytes xs = l at h7
      have hll : l.length = xs.length := by rw [h7]; simp
      have hop : ∀ v' w', (Builtin.unsafeString_ #[pt, it] ty #[.pointer ad, .int .i64 (l.length : Nat)]).run P w = .ok v' w' →
          (execOp a.eval ⟨dst, .call { callee := .builtin .unsafeString, args := #[x, y], argTypes := #[pt, it] }, ty, pos, after, guard⟩).run P w = .ok (.value v') w' := fun v' w' hr => by
        rw [hll, ← h2] at hr
        simp [execOp, resolve, invoke, builtin, hv, hy, hr]
      by_cases hnil : l = []
      · subst hnil
        exact ⟨.string .empty, w, G, hop _ _ (Lib.run_unsafeString_none w pt it ty ad), s.inv, .refl _ _ _, .str []⟩
      · have hpos : 0 < l.length := List.length_pos_iff.2 hnil
        obtain ⟨_, _, _, hty⟩ := s.inv.grow k 1 n _ hk
        rcases hty e' rfl with h | ⟨b, arr, fr, g1, g2, g3, g4, _⟩
        · rw [hown] at h; cases h; omega
        rw [hown] at g1 g2 g4
        cases g1
        simp only at g2 g4
        obtain ⟨hi', hst⟩ := frozen_world s.inv hk hown (by omega)
        have hsh : w.shape? b = some (e', arr.size) := by simp [World.shape?, g3]
        have hfl := flats_ones byteAV (fun _ => rfl) l
        have hrun := Lib.run_unsafeString_row (P := P) w pt it ty e' hpt hcells b arr.size hsh l hnil (by rw [g4]; omega) (by omega) (fun j x0 ej => by
          have hj := lt_of_get ej
          have hfj : (flats xs)[j]? = some (byteAV x0) := by rw [h7, hfl, List.getElem?_map, ej]; rfl
          obtain ⟨b', off', ea, _, hcell⟩ := hc j _ hfj
          cases ea
          have hrj := hr j _ hfj
          have := rel_lit_inv hrj
          rw [addr_add, hcell, this])
        rw [show n = l.length by omega] at hi' hst
        exact ⟨.string ⟨l.toArray⟩, _, G, hop _ _ hrun, hi', hst, .str l⟩
    · cases h
  · cases h
/-- unsafe.String of an object's bytes: the object is written no more. -/
def vcStrObj (L : Tab) (pt : TypeId) (k off : Nat) (y : AV) (H : List AObj) (K : AV → List AObj → Prop) [Tag K] : Prop :=
  match (L pt).k, y, H[k]? with
  | .ptr e, .lit (.int .i64 c), some (.cells (.one T) cs) => (T = e ∧ off = 0 ∧ (L e).k = .int .u8 ∧ (L e).size = 1 ∧ c = cs.length ∧ 0 < cs.length ∧ cs.length ≤ 140737488355328 ∧ isBytes cs) ∧ K (.str (unbytes cs)) (H.set k .gone)
  | _, _, _ => False
theorem freeze_obj {G : Gh} {w : World} (hi : HInv G H w) {k : Nat} {sh : Shape} {cs : List AV} (hk : H[k]? = some (.cells sh cs)) (n : Nat) : HInv G (H.set k .gone) (w.freeze ⟨G.blk k, 0, none⟩ n) ∧ Step G H w G (H.set k .gone) (w.freeze ⟨G.blk k, 0, none⟩ n) := by
  obtain ⟨hi1, st1⟩ := retire hi hk
  by_cases hn : n = 0
  · subst hn
    exact ⟨hi1, st1⟩
  obtain ⟨arr, T, ⟨lo, hi0⟩, hb, hs, hr, hf1, hf2, _⟩ := hi.cells k sh cs hk
  obtain ⟨fr', hrow⟩ : ∃ fr' : Nat × Nat, (w.freeze ⟨G.blk k, 0, none⟩ n).heap[G.blk k]? = some (.cells arr T fr') := by
    refine ⟨if lo == hi0 then (0, 0 + n) else (min lo 0, max hi0 (0 + n)), ?_⟩
    unfold World.freeze
    rw [if_neg hn]
    simp [Array.getElem?_modify, hb]
  have hother : ∀ c, c ≠ G.blk k → (w.freeze ⟨G.blk k, 0, none⟩ n).heap[c]? = w.heap[c]? := fun c hc => by
    unfold World.freeze
    rw [if_neg hn]
    simp [Array.getElem?_modify, show ¬ G.blk k = c from fun h => hc h.symm]
  have hsize : (w.freeze ⟨G.blk k, 0, none⟩ n).heap.size = w.heap.size := by
    unfold World.freeze
    rw [if_neg hn]
    simp
  have hos : (w.freeze ⟨G.blk k, 0, none⟩ n).os = w.os ∧ (w.freeze ⟨G.blk k, 0, none⟩ n).tape = w.tape ∧ (w.freeze ⟨G.blk k, 0, none⟩ n).output = w.output := by
    unfold World.freeze
    rw [if_neg hn]
    exact ⟨rfl, rfl, rfl⟩
  have hcell : ∀ c off, (w.freeze ⟨G.blk k, 0, none⟩ n).cell? ⟨c, off, none⟩ = w.cell? ⟨c, off, none⟩ := fun c off => by
    by_cases hc : c = G.blk k
    · subst hc; rw [cell_row hrow, cell_row hb]
    · exact World.cell?_of_block (w := w) (hother c hc)
  generalize w.freeze ⟨G.blk k, 0, none⟩ n = w' at *
  have hsk := shape_of hi hk
  have st : Step G (H.set k .gone) w G (H.set k .gone) w' := ⟨hos.1, hos.2.1, hos.2.2, Nat.le_of_eq hsize.symm, fun _ _ h => h, fun c off _ => hcell c off, fun c hc => hother c fun e => by subst e; exact hf1 0 (hc 0), (Step.refl G _ w).obj⟩
  refine ⟨⟨fun c off h => by rw [hsize]; exact hi.lt c off h, fun i sh1 c ei => ?_, fun i s m t ei => ?_, hi1.apart, hi1.tabs.step st⟩, st1.trans st⟩
  · rcases get_set ei with ⟨hik, ei'⟩ | ⟨rfl, ei', _⟩
    · obtain ⟨a1, T1, f1, hb1, hs1, hr1, hg1, hg2, hg3⟩ := hi1.cells i sh1 c ei
      have hne : G.blk i ≠ G.blk k := fun e => hik (hi.apart i k (G.blk k) (by simp [site, ei', e]) hsk)
      exact ⟨a1, T1, f1, (hother _ hne).trans hb1, hs1, fun j x v ex ev => (hr1 j x v ex ev).mono st, hg1, fun off h => (World.frozen?_of_block (w := w) (hother _ hne)).trans (hg2 off h), hg3⟩
    · cases ei'
  · rcases get_set ei with ⟨hik, ei'⟩ | ⟨rfl, ei', _⟩
    · obtain ⟨g0, g1, g2, g3⟩ := hi1.grow i s m t ei
      refine ⟨g0, g1, fun hlt => ?_, ?_⟩
      · obtain ⟨b1, off1, a1, T1, f1, ea1, hb1, hsz1, hj1⟩ := g2 hlt
        have hne : b1 ≠ G.blk k := fun e => hik (hi.apart i k (G.blk k) (e ▸ site_grow ei' hlt ea1) hsk)
        exact ⟨b1, off1, a1, T1, f1, ea1, (hother _ hne).trans hb1, hsz1, fun j h7 h8 => ⟨(hj1 j h7 h8).1, (World.frozen?_of_block (w := w) (hother _ hne)).trans (hj1 j h7 h8).2⟩⟩
      · intro e' he'
        rcases g3 e' he' with h | ⟨b1, a1, f1, h7, h8, h9, h10⟩
        · exact .inl h
        · have hne : b1 ≠ G.blk k := fun e => by
            have hs1 : site G H i = some b1 := by
              unfold site
              rw [ei', show G.own i = (some ⟨b1, 0, none⟩, (G.own i).2) by rw [← h7]]
              simp only
              rw [if_pos (.inr ⟨by rw [he']; rfl, h8⟩)]
            exact hik (hi.apart i k (G.blk k) (e ▸ hs1) hsk)
          exact .inr ⟨b1, a1, f1, h7, h8, (hother _ hne).trans h9, h10⟩
    · cases ei'
theorem aop_strObj {L : Tab} (hL : TabOk P L) {x y : Operand} {pt it : TypeId} {k off : Nat} {K : AV → List AObj → Prop} (hx : ev env x = .mp k off) (h : vcStrObj L pt k off (ev env y) H K) :
    AOp P ⟨dst, .call { callee := .builtin .unsafeString, args := #[x, y], argTypes := #[pt, it] }, ty, pos, after, guard⟩ env H K := .of_run fun n0 G a w s => by
  unfold vcStrObj at h
  split at h
  · rename_i e c T cs hpk ey hk
    obtain ⟨⟨rfl, rfl, h4, h5, h6, h7, h8, h9⟩, hK⟩ := h
    have rx := s.ev x
    have ry := s.ev y
    rw [hx] at rx
    rw [ey] at ry
    have hy := rel_lit_inv ry
    have hpt := (hL pt (by rw [hpk]; simp)).1
    rw [hpk] at hpt
    simp only [TKOk] at hpt
    obtain ⟨_, i, _, hinfo, hisz, _⟩ := hL T (by rw [h4]; simp)
    have hcells : P.cellsOf T = 1 := by
      unfold Program.cellsOf
      simp [hinfo, hisz, h5]
    obtain ⟨arr, T', fr, hb, hs, hr, hf1, hf2, hf3⟩ := s.inv.cells k _ cs hk
    obtain ⟨rfl, hasz, _⟩ := hf3
    unfold isBytes at h9
    generalize unbytes cs = l at h9 hK
    have hll : l.length = cs.length := by rw [h9]; simp
    have hne : l ≠ [] := by intro e; subst e; simp at hll; omega
    generalize hv : a.eval x = v at rx
    cases rx with
    | mp _ _ o0 hk0 hb0 =>
    have hsh : w.shape? (G.blk k) = some (T', arr.size) := by simp [World.shape?, hb]
    have hrun := Lib.run_unsafeString_row (P := P) w pt it ty T' hpt hcells (G.blk k) arr.size hsh l hne (by omega) (by omega) (fun j x0 ej => by
      have hj := lt_of_get ej
      have hfj : cs[j]? = some (byteAV x0) := by rw [h9, List.getElem?_map, ej]; rfl
      have ha : arr[j]? = some (arr[j]'(by omega)) := Array.getElem?_eq_getElem _
      have := rel_lit_inv (hr j _ _ hfj ha)
      rw [addr_add, Nat.zero_add, cell_row hb, ha, this])
    obtain ⟨hi', hst⟩ := freeze_obj s.inv hk l.length
    refine ⟨.string ⟨l.toArray⟩, _, .str l, _, _, ?_, hi', hst, .str l, hK⟩
    rw [hll, ← h6] at hrun
    rw [hll]
    simp [execOp, resolve, invoke, builtin, hv, hy, hrun]
  · exact h.elim
end
end Go.Proofs.YtplmbhjhihoneaaGreatDoor.V
end

section
set_option linter.unusedSimpArgs false
set_option linter.unusedVariables false
namespace Go.Proofs.YtplmbhjhihoneaaGreatDoor.V
open Go

/-- What is asked, and what it gives. -/
def lift (q : Option (Prop × AV)) (K : AV → List AObj → Prop) (H : List AObj) [Tag K] : Prop :=
  match q with
  | some (p, z) => p ∧ K z H
  | none => False
theorem lift_some {p : Prop} {z : AV} {K : AV → List AObj → Prop} {H : List AObj} : lift (some (p, z)) K H = (p ∧ K z H) := rfl
theorem lift_none {K : AV → List AObj → Prop} {H : List AObj} : lift none K H = False := rfl

def qTrue (z : AV) : Option (Prop × AV) := some (True, z)
def qPick (c a b : AV) : Option (Prop × AV) :=
  match c with
  | .lit (.bool t) => some (True, if t then a else b)
  | _ => none
def qUn' (op : UnOp) (x : AV) : Option (Prop × AV) := (qUn op x).map fun z => (True, z)
def qLen' (L : Tab) (t : TypeId) (x : AV) : Option (Prop × AV) := (qLen L t x).map fun z => (True, z)
def qExtract (x : AV) (i : Nat) : Option (Prop × AV) :=
  match x with
  | .tup xs => (xs[i]?).map fun z => (True, z)
  | _ => none
def qBox (x : AV) : Option (Prop × AV) := some (x.okv = true, .ip x)

/-- A store, at an object. -/
def vcStore (L : Tab) (t : TypeId) (ad x : AV) (H : List AObj) (K : AV → List AObj → Prop) [Tag K] : Prop :=
  match ad with
  | .mp k off => match H[k]? with
    | some (.cells sh cs) => (known (L t) = true ∧ x.okv = true ∧ x.flat.length = (L t).size ∧ off + (L t).size ≤ cs.length) ∧ K .any (H.set k (.cells sh (aset cs off x.flat)))
    | _ => False
  | _ => False

def vcAppend (L : Tab) (t t2 : TypeId) (x y : AV) (H : List AObj) (K : AV → List AObj → Prop) [Tag K] : Prop :=
  match (L t).k, x, srcAV y with
  | .slice e, .sl o z xs, some (z2, ys) => (srcKind (L t2).k = true ∧ known (L e) = true ∧ 0 < (L e).size ∧ 0 < (L e).bytes ∧ canAppend H o z xs (L e).size e ∧ (ys ≠ [] → z2 = (L e).size) ∧ (xs.length + ys.length) * (L e).bytes ≤ 140737488355328) ∧
      K (.sl (appRes H o (L e).size (xs.length + ys.length)).1 (L e).size (xs ++ ys)) (appRes H o (L e).size (xs.length + ys.length)).2
  | _, _, _ => False


/-- A call of a function value. -/
def vcCall (P : Program) (f : AV) (args : List AV) (H : List AObj) (K : AV → List AObj → Prop) [Tag K] : Prop :=
  match f with
  | .fn (.func g) fs cs => ACalls P g (fs ++ args ++ cs) H K
  | _ => False

def vcMut (e : TypeId) (x : AV) (H : List AObj) (K : AV → List AObj → Prop) [Tag K] : Prop := x.okv = true ∧ K (.mp H.length 0) (H ++ [.cells (.one e) x.flat])

/-- A builtin function. -/
def vcApp (m : Bool) (L : Tab) (t t2 : TypeId) (x y : AV) (H : List AObj) (K : AV → List AObj → Prop) [Tag K] : Prop :=
  match x with
  | .mrow _ _ => vcAppendR L t t2 x y H K
  | .msl _ _ _ _ => vcAppendZ L t t2 x y H K
  | _ => if m then vcAppendM L t t2 x y H K else vcAppend L t t2 x y H K
def vcBuiltin (m : Bool) (L : Tab) (b : Builtin) (args : List AV) (ts : List TypeId) (H : List AObj) (K : AV → List AObj → Prop) [Tag K] : Prop :=
  match b, args, ts with
  | .len, [x], [t] => lift (qLen' L t x) K H
  | .append, [x, y], [t, t2] => vcApp m L t t2 x y H K
  | .copy, [x, y], [t, _] => vcCopy L t x y H K
  | .cap, [x], [t] => lift (qCap L t x) K H
  | .min, [x, y], [_, _] => lift (qLeast false x y) K H
  | .max, [x, y], [_, _] => lift (qLeast true x y) K H
  | .unsafeSliceData, [x], [_] => lift (qSliceData H x) K H
  | .unsafeString, [x, y], [pt, _] => match x with
    | .mp k off => vcStrObj L pt k off y H K
    | _ => lift (qString L H pt x y) K H
  | _, _, _ => False

/-- One operation. 'mu': the slots whose new variables are objects that are written. -/
def vcOp (P : Program) (L : Tab) (mu : List Nat) (o : Oper) (env : Env) (H : List AObj) (K : AV → List AObj → Prop) : Prop :=
  match o.op with
  | .move x | .assign x => lift (qTrue (ev env x)) K H
  | .pick c a b => lift (qPick (ev env c) (ev env a) (ev env b)) K H
  | .binOp op t x y _ => if nilCmp y then vcNil L op t (ev env x) H K else lift (qBin L op t (isConst y) (ev env x) (ev env y)) K H
  | .unOp op _ x => lift (qUn' op (ev env x)) K H
  | .convert s d x => if mu.contains (o.dst.getD 0) then vcBytes L s d (ev env x) H K else lift (qConvH P L H s d (ev env x)) K H
  | .extract x i => lift (qExtract (ev env x) i) K H
  | .indexAddr t x i => lift (qIndexAddr L t (ev env x) (ev env i)) K H
  | .index t x i => lift (qIndex L t (ev env x) (ev env i)) K H
  | .load t x => lift (qLoad L H t (ev env x)) K H
  | .slice t x lo hi mx => lift (qSlice L t (ev env x) (evO env lo) (evO env hi) (evO env mx)) K H
  | .fieldAddr t x f => lift (qFieldAddr L t (ev env x) f) K H
  | .field t x f => lift (qField L t (ev env x) f) K H
  | .build t parts => lift (qBuild L t (evParts env parts)) K H
  | .buildSlice t len parts => if mu.contains (o.dst.getD 0) then vcBuildM L t len (evParts env parts) H K else if len = 0 ∧ parts.size ≠ 0 then False else lift (qBuildSlice L t len (evParts env parts)) K H
  | .box e x => if mu.contains (o.dst.getD 0) then vcMut e (ev env x) H K else lift (qBox (ev env x)) K H
  | .alloc e => known (L e) = true ∧ (match bufOf mu (o.dst.getD 0) with
    | none => K (.mp H.length 0) (H ++ [.cells (.one e) (L e).zero])
    | some u => K (.mp H.length 0) (H ++ [.cells (.one e) (mintNil (H.length + 1) (L e).zero), .grow 1 0 (some u)]))
  | .store t a x => vcStore L t (ev env a) (ev env x) H K
  | .call c => match c.callee with
    | .builtin b => vcBuiltin (mu.contains (o.dst.getD 0)) L b (c.args.toList.map (ev env)) c.argTypes.toList H K
    | .value f => vcCall P (ev env f) (c.args.toList.map (ev env)) H K
    | .invoke _ _ => False
  | .nilCheck x => lift (qNil (ev env x)) K H
  | .makeSlice t x y => vcMake L t (ev env x) (ev env y) H K
  | .makeFunc f fs cs => lift (qTrue (.fn f (fs.toList.map (ev env)) (cs.toList.map (ev env)))) K H
  | .makeInterface t x => lift (qIface L t (ev env x)) K H
  | _ => False

theorem still_aop {P : Program} {o : Oper} {env : Env} {H : List AObj} {p : Prop} {z : AV} {K : AV → List AObj → Prop} (h : Still P o env H p z) (hp : p) (hk : K z H) : AOp P o env H K := .of_run fun n G a w s =>
  let ⟨v, hr, hx⟩ := h hp n G a w s
  ⟨v, w, z, G, H, hr, s.inv, .refl _ _ _, hx, hk⟩
theorem quiet_aop {P : Program} {o : Oper} {env : Env} {H : List AObj} {p : Prop} {z : AV} {K : AV → List AObj → Prop} (h : Quiet P o env H p z) (hp : p) (hk : K z H) : AOp P o env H K := .of_run fun n G a w s =>
  let ⟨v, w', G', hr, hi, hs, hx⟩ := h hp n G a w s
  ⟨v, w', z, G', H, hr, hi, hs, hx, hk⟩
theorem lift_still {P : Program} {o : Oper} {env : Env} {H : List AObj} {q : Option (Prop × AV)} {K : AV → List AObj → Prop} (h : ∀ p z, q = some (p, z) → Still P o env H p z) (hk : lift q K H) : AOp P o env H K := by
  unfold lift at hk
  split at hk
  · exact still_aop (h _ _ rfl) hk.1 hk.2
  · exact hk.elim
theorem lift_quiet {P : Program} {o : Oper} {env : Env} {H : List AObj} {q : Option (Prop × AV)} {K : AV → List AObj → Prop} (h : ∀ p z, q = some (p, z) → Quiet P o env H p z) (hk : lift q K H) : AOp P o env H K := by
  unfold lift at hk
  split at hk
  · exact quiet_aop (h _ _ rfl) hk.1 hk.2
  · exact hk.elim

section
variable {P : Program} {env : Env} {H : List AObj} {dst : Option Tmp} {ty : TypeId} {pos : String} {after : Array Edge} {guard : Option (Nat × Bool)}

theorem relAll_map {n : Nat} {G : Gh} {a : Act} {w : World} (s : Sat n G env H a w) (xs : Array Operand) : RelAll G H w (xs.toList.map (ev env)) (xs.map a.eval) := by
  refine ⟨by simp, fun j x v e e' => ?_⟩
  simp only [List.getElem?_map, Array.getElem?_map, Array.getElem?_toList] at e e'
  cases h : xs[j]? with
  | none => rw [h] at e; cases e
  | some y =>
    rw [h] at e e'
    cases e
    cases e'
    exact s.ev y
theorem relAll_append {G : Gh} {w : World} {xs ys : List AV} {vs us : Array Value} (h : RelAll G H w xs vs) (k : RelAll G H w ys us) : RelAll G H w (xs ++ ys) (vs ++ us) := by
  refine ⟨by simp [h.1, k.1], fun j x v e e' => ?_⟩
  by_cases hj : j < xs.length
  · rw [List.getElem?_append_left hj] at e
    rw [Array.getElem?_append_left (by rw [h.1]; exact hj)] at e'
    exact h.2 j x v e e'
  · rw [List.getElem?_append_right (by omega)] at e
    rw [Array.getElem?_append_right (by rw [h.1]; omega), h.1] at e'
    exact k.2 _ x v e e'

theorem aop_call {f : Operand} {args : Array Operand} {ats : Array TypeId} {K : AV → List AObj → Prop} (h : vcCall P (ev env f) (args.toList.map (ev env)) H K) : AOp P ⟨dst, .call { callee := .value f, args, argTypes := ats }, ty, pos, after, guard⟩ env H K := by
  intro Q n G a w s
  have rf := s.ev f
  unfold vcCall at h
  split at h
  · rename_i g fs cs ef
    rw [ef] at rf
    generalize hv : a.eval f = v at rf
    cases rf with
    | fn _ _ _ fa ca hf hc hrf hrc =>
      have hargs : RelAll G H w (fs ++ args.toList.map (ev env) ++ cs) (fa ++ args.map a.eval ++ ca) := relAll_append (relAll_append ⟨hf, hrf⟩ (relAll_map s args)) ⟨hc, hrc⟩
      have hinv : (execOp a.eval ⟨dst, .call { callee := .value f, args, argTypes := ats }, ty, pos, after, guard⟩).run P w = (callFunc g (fa ++ args.map a.eval ++ ca)).run P w := by
        simp [execOp, resolve, hv, Deferred.ofValue, invoke]
      rcases h G w _ s.inv hargs with ⟨fn, hfn, hbody, hname, hcall⟩ | ⟨v, w', hcall, x, G', H', hi, hs, hx, hk⟩
      · have hb : fn.body ≠ none := by intro e; rw [e] at hbody; cases hbody
        have hn : fn.name ≠ "runtime.NumGoroutine" := by simpa using hname
        have hrun : (execOp a.eval ⟨dst, .call { callee := .value f, args, argTypes := ats }, ty, pos, after, guard⟩).run P w = .ok (.enter g (fa ++ args.map a.eval ++ ca)) w := by
          rw [hinv]
          simp [callFunc, hfn, hb, hn]
        unfold Oper.wp
        rw [hrun, Oper.upon_enter]
        refine hcall.mono ?_
        rintro e w' ⟨v, rfl, x, G', H', hi, hs, hx, hk⟩
        exact ⟨v, x, G', H', rfl, hi, hs, hx, hk⟩
      · unfold Oper.wp
        rw [hinv, hcall]
        exact ⟨v, x, G', H', rfl, hi, hs, hx, hk⟩
  · exact h.elim

theorem vcOp_sound {L : Tab} (hL : TabOk P L) {mu : List Nat} {o : Oper} {K : AV → List AObj → Prop} (h : vcOp P L mu o env H K) : AOp P o env H K := by
  obtain ⟨dst, op, ty, pos, after, guard⟩ := o
  unfold vcOp at h
  simp only at h
  split at h
  · exact lift_still (fun p z e => by cases e; exact still_move) h
  · exact lift_still (fun p z e => by cases e; exact still_assign) h
  · refine lift_still (fun p z e => ?_) h
    unfold qPick at e
    split at e
    · rename_i t et
      cases e
      exact still_pick et
    · cases e
  · split at h
    · rename_i hn
      exact aop_nil hL hn h
    · exact lift_still (fun p z e => still_bin hL e) h
  · refine lift_still (fun p z e => ?_) h
    unfold qUn' at e
    rename_i op' _ x
    cases e' : qUn op' (ev env x) with
    | none => rw [e'] at e; cases e
    | some u => rw [e'] at e; cases e; exact still_un e'
  · split at h
    · exact aop_bytes hL h
    · exact lift_quiet (fun p z e => quiet_convH hL e) h
  · rename_i x' i'
    refine lift_still (fun p z e => ?_) h
    unfold qExtract at e
    split at e
    · rename_i xs ex
      cases e' : xs[i']? with
      | none => rw [e'] at e; cases e
      | some u => rw [e'] at e; cases e; exact still_extract ex e'
    · cases e
  · exact lift_still (fun p z e => still_indexAddr hL e) h
  · exact lift_still (fun p z e => still_index hL e) h
  · exact lift_still (fun p z e => still_load hL e) h
  · exact lift_still (fun p z e => still_slice hL e) h
  · exact lift_still (fun p z e => still_fieldAddr hL e) h
  · exact lift_still (fun p z e => still_field hL e) h
  · exact lift_still (fun p z e => still_build hL e) h
  · split at h
    · exact aop_buildM hL h
    split at h
    · exact h.elim
    · rename_i hne
      refine lift_quiet (fun p z e => quiet_buildSlice hL e fun h0 => Array.eq_empty_of_size_eq_zero (Classical.byContradiction fun hs => hne ⟨h0, hs⟩)) h
  · split at h
    · exact aop_box_mut h.1 h.2
    · exact lift_quiet (fun p z e => by cases e; exact quiet_box) h
  · obtain ⟨h1, h2⟩ := h
    split at h2
    · exact aop_alloc hL h1 h2
    · exact aop_allocB hL h1 h2
  · unfold vcStore at h
    split at h
    · rename_i k off ea
      split at h
      · rename_i sh cs hk
        exact aop_store hL ea hk h.1 h.2
      · exact h.elim
    · exact h.elim
  · rename_i c
    obtain ⟨callee, args, ats⟩ := c
    simp only at h
    split at h
    · rename_i b
      unfold vcBuiltin at h
      split at h
      · rename_i x t hx ht
        obtain ⟨y, rfl, rfl⟩ : ∃ y, args = #[y] ∧ x = ev env y := by
          obtain ⟨l⟩ := args
          match l, hx with
          | [y], hx => exact ⟨y, rfl, by simpa using hx.symm⟩
        obtain rfl : ats = #[t] := Array.ext' (by simpa using ht)
        refine lift_still (fun p z e => ?_) h
        unfold qLen' at e
        cases e' : qLen L t (ev env y) with
        | none => rw [e'] at e; cases e
        | some u => rw [e'] at e; cases e; exact still_len hL e'
      · rename_i x y t t2 hx ht
        obtain ⟨x', y', rfl, rfl, rfl⟩ : ∃ x' y', args = #[x', y'] ∧ x = ev env x' ∧ y = ev env y' := by
          obtain ⟨l⟩ := args
          match l, hx with
          | [x', y'], hx => exact ⟨x', y', rfl, by simp at hx; exact hx.1.symm, by simp at hx; exact hx.2.symm⟩
        obtain rfl : ats = #[t, t2] := Array.ext' (by simpa using ht)
        unfold vcApp at h
        split at h
        · exact aop_appendR hL h
        · exact aop_appendZ hL h
        · split at h
          · exact aop_appendM hL h
          · unfold vcAppend at h
            split at h
            · rename_i h1 h2 h3
              exact aop_append hL h2 h3 h1 h.1 h.2
            · exact h.elim
      · rename_i x y t t2 hx ht
        obtain ⟨x', y', rfl, rfl, rfl⟩ : ∃ x' y', args = #[x', y'] ∧ x = ev env x' ∧ y = ev env y' := by
          obtain ⟨l⟩ := args
          match l, hx with
          | [x', y'], hx => exact ⟨x', y', rfl, by simp at hx; exact hx.1.symm, by simp at hx; exact hx.2.symm⟩
        obtain rfl : ats = #[t, t2] := Array.ext' (by simpa using ht)
        exact aop_copy hL h
      · rename_i x t hx ht
        obtain ⟨y, rfl, rfl⟩ : ∃ y, args = #[y] ∧ x = ev env y := by
          obtain ⟨l⟩ := args
          match l, hx with
          | [y], hx => exact ⟨y, rfl, by simpa using hx.symm⟩
        obtain rfl : ats = #[t] := Array.ext' (by simpa using ht)
        exact lift_still (fun p z e => still_cap hL e) h
      · rename_i x y t t2 hx ht
        obtain ⟨x', y', rfl, rfl, rfl⟩ : ∃ x' y', args = #[x', y'] ∧ x = ev env x' ∧ y = ev env y' := by
          obtain ⟨l⟩ := args
          match l, hx with
          | [x', y'], hx => exact ⟨x', y', rfl, by simp at hx; exact hx.1.symm, by simp at hx; exact hx.2.symm⟩
        exact lift_still (fun p z e => still_min e) h
      · rename_i x y t t2 hx ht
        obtain ⟨x', y', rfl, rfl, rfl⟩ : ∃ x' y', args = #[x', y'] ∧ x = ev env x' ∧ y = ev env y' := by
          obtain ⟨l⟩ := args
          match l, hx with
          | [x', y'], hx => exact ⟨x', y', rfl, by simp at hx; exact hx.1.symm, by simp at hx; exact hx.2.symm⟩
        exact lift_still (fun p z e => still_max e) h
      · rename_i x t hx ht
        obtain ⟨y, rfl, rfl⟩ : ∃ y, args = #[y] ∧ x = ev env y := by
          obtain ⟨l⟩ := args
          match l, hx with
          | [y], hx => exact ⟨y, rfl, by simpa using hx.symm⟩
        exact lift_still (fun p z e => still_sliceData e) h
      · rename_i x y t t2 hx ht
        obtain ⟨x', y', rfl, rfl, rfl⟩ : ∃ x' y', args = #[x', y'] ∧ x = ev env x' ∧ y = ev env y' := by
          obtain ⟨l⟩ := args
          match l, hx with
          | [x', y'], hx => exact ⟨x', y', rfl, by simp at hx; exact hx.1.symm, by simp at hx; exact hx.2.symm⟩
        obtain rfl : ats = #[t, t2] := Array.ext' (by simpa using ht)
        split at h
        · rename_i hx'
          exact aop_strObj hL hx' h
        · exact lift_quiet (fun p z e => quiet_string hL e) h
      · exact h.elim
    · exact aop_call h
    · exact h.elim
  · exact lift_still (fun p z e => still_nil e) h
  · exact aop_make hL h
  · exact lift_still (fun p z e => by cases e; exact still_makeFunc) h
  · exact lift_still (fun p z e => still_iface hL e) h
  · exact h.elim
end

/-- The value of the operation that a guard hangs on. -/
def gval (all : List Oper) (env : Env) (j : Nat) : AV := match (all[j]?).bind (·.dst) with | some d => get env d | none => .any
def vcGuard (g : AV) (want : Bool) (run skip skip0 : Prop) [Tag run] [Tag skip] [Tag skip0] : Prop :=
  match g with
  | .lit (.bool b) => (b = want → run) ∧ (b ≠ want → skip)
  | .lit (.tuple _) => skip0
  | _ => False
theorem vcGuard_tt {r s z : Prop} : vcGuard (.lit (.bool true)) true r s z = r := by simp [vcGuard]
theorem vcGuard_ff {r s z : Prop} : vcGuard (.lit (.bool false)) false r s z = r := by simp [vcGuard]
theorem vcGuard_tf {r s z : Prop} : vcGuard (.lit (.bool true)) false r s z = s := by simp [vcGuard]
theorem vcGuard_ft {r s z : Prop} : vcGuard (.lit (.bool false)) true r s z = s := by simp [vcGuard]
theorem vcGuard_u {r s z : Prop} {b : Bool} {a : Array Value} : vcGuard (.lit (.tuple a)) b r s z = z := rfl
theorem vcGuard_b {r s z : Prop} {t : Bool} : vcGuard (.lit (.bool t)) true r s z = ((t = true → Hold r) ∧ (t = false → Hold s)) := by cases t <;> simp [vcGuard, hold_eq]
theorem vcGuard_b' {r s z : Prop} {t : Bool} : vcGuard (.lit (.bool t)) false r s z = ((t = true → Hold s) ∧ (t = false → Hold r)) := by cases t <;> simp [vcGuard, hold_eq]
/-- The guard's slot, once it is known. -/
def known1 (all : List Oper) (j : Nat) (b : Bool) (env : Env) : Env := put ((all[j]?).bind (·.dst)) (.lit (.bool b)) env

def vcOps (P : Program) (L : Tab) (mu : List Nat) (all : List Oper) : List Oper → Env → List AObj → (Env → List AObj → Prop) → Prop
  | [], env, H, K => K env H
  | o :: rest, env, H, K =>
    match o.guard with
    | none => vcOp P L mu o env H fun v H' => vcOps P L mu all rest (put o.dst v env) H' K
    | some (j, want) => vcGuard (gval all env j) want (vcOp P L mu o (known1 all j want env) H fun v H' => vcOps P L mu all rest (put o.dst v (known1 all j want env)) H' K) (vcOps P L mu all rest (put o.dst (.lit undef) (known1 all j (!want) env)) H K) (vcOps P L mu all rest (put o.dst (.lit undef) env) H K)

def dstsOk (n : Nat) (ops : List Oper) : Bool := ops.all fun o => match o.dst with | some d => decide (d < n) | none => true

theorem wanted_of {n : Nat} {G : Gh} {env : Env} {H : List AObj} {a : Act} {w : World} (s : Sat n G env H a w) {all : Array Oper} {o : Oper} {j : Nat} {want b : Bool} (hg : o.guard = some (j, want)) (hb : gval all.toList env j = .lit (.bool b)) (hd : dstsOk n all.toList = true) :
    Region.wanted o (yielded all a.tmps) = decide (b = want) := by
  unfold gval at hb
  simp only [Region.wanted, hg, yielded]
  split at hb
  · rename_i d hj
    rw [Array.getElem?_toList] at hj
    rw [hj]
    have r := s.env d
    rw [hb] at r
    have e := rel_lit_inv r
    have hdn : d < n := by
      cases ho : all[j]? with
      | none => rw [ho] at hj; cases hj
      | some oj =>
        rw [ho] at hj
        have := List.all_eq_true.1 hd oj (by rw [Array.mem_toList_iff]; exact Array.mem_of_getElem? ho)
        simp only [Option.bind_some] at hj
        rw [hj] at this
        simpa using this
    have hlt : d < a.tmps.size := by rw [s.size]; exact hdn
    have : a.tmps[d]? = some (.bool b) := by
      rw [Array.getD_eq_getD_getElem?, Array.getElem?_eq_getElem hlt] at e
      rw [Array.getElem?_eq_getElem hlt]
      exact congrArg some e
    simp only [Option.bind_some, this]
    cases b <;> cases want <;> rfl
  · cases hb

theorem wanted_undef {n : Nat} {G : Gh} {env : Env} {H : List AObj} {a : Act} {w : World} (s : Sat n G env H a w) {all : Array Oper} {o : Oper} {j : Nat} {want : Bool} {ar : Array Value} (hg : o.guard = some (j, want)) (hb : gval all.toList env j = .lit (.tuple ar)) (hd : dstsOk n all.toList = true) :
    Region.wanted o (yielded all a.tmps) = false := by
  unfold gval at hb
  simp only [Region.wanted, hg, yielded]
  split at hb
  · rename_i d hj
    rw [Array.getElem?_toList] at hj
    rw [hj]
    have r := s.env d
    rw [hb] at r
    have e := rel_lit_inv r
    rw [Array.getD_eq_getD_getElem?] at e
    simp only [Option.bind_some]
    cases h : a.tmps[d]? with
    | none => cases want <;> rfl
    | some v =>
      rw [h] at e
      simp only [Option.getD_some] at e
      subst e
      cases want <;> rfl
  · cases hb

theorem Sat.known {n : Nat} {G : Gh} {env : Env} {H : List AObj} {a : Act} {w : World} (s : Sat n G env H a w) {all : List Oper} {j : Nat} {b : Bool} (hb : gval all env j = .lit (.bool b)) : Sat n G (known1 all j b env) H a w := by
  refine ⟨s.size, s.defers, fun t => ?_, s.inv⟩
  unfold known1 V.put
  unfold gval at hb
  split at hb
  · rename_i d hd
    rw [hd]
    simp only [get]
    split
    · rename_i e
      subst e
      rw [← hb]
      exact s.env d
    · exact s.env t
  · cases hb

theorem vcOps_sound {P : Program} {L : Tab} (hL : TabOk P L) {mu : List Nat} {n : Nat} {all : Array Oper} (hall : dstsOk n all.toList = true) {Q : Exit → Env → List AObj → Prop} :
    ∀ (rest : List Oper) (env : Env) (H : List AObj), dstsOk n rest = true → vcOps P L mu all.toList rest env H (Q .normal) → ∀ G a w, Sat n G env H a w → wpList P all (Post n G H w Q) rest a w
  | [], env, H, _, h, G, a, w, s => ⟨G, env, H, s, .refl _ _ _, h⟩
  | o :: rest, env, H, hd, h, G, a, w, s => by
    simp only [dstsOk, List.all_cons, Bool.and_eq_true] at hd
    obtain ⟨hd1, hd2⟩ := hd
    have hdst : ∀ t, o.dst = some t → t < n := fun t e => by rw [e] at hd1; simpa using hd1
    have run : ∀ env, Sat n G env H a w → vcOp P L mu o env H (fun v H' => vcOps P L mu all.toList rest (put o.dst v env) H' (Q .normal)) → o.wp P a w (wpList P all (Post n G H w Q) rest) (Post n G H w Q) := fun env s hv => by
      have := vcOp_sound hL hv (Post n G H w Q) n G a w s
      have mono : ∀ {N N' : Act → World → Prop}, (∀ a w, N a w → N' a w) → o.wp P a w N (Post n G H w Q) → o.wp P a w N' (Post n G H w Q) := by
        intro N N' hN hw
        unfold Oper.wp Oper.upon at *
        split at hw <;> first | exact hN _ _ hw | exact hw | skip
        · refine Calls.mono hw fun e w'' he => ?_
          cases e with
          | returned v => exact hN _ _ he
          | _ => exact he
        · exact Rows.mono hw fun v w'' he => hN _ _ he
      refine mono (fun a' w' hx => ?_) this
      obtain ⟨v, x, G', H', rfl, hi, hs, hx, hk⟩ := hx
      have s' := s.put hs hi hx hdst
      have := vcOps_sound hL hall (Q := Q) rest _ H' hd2 hk G' _ w' s'
      have lm : ∀ (l : List Oper) (a : Act) (w1 : World), wpList P all (Post n G' H' w' Q) l a w1 → wpList P all (Post n G H w Q) l a w1 := by
        intro l
        induction l with
        | nil => intro a w1 hp; exact hp.trans hs
        | cons o' r ih =>
          intro a w1 hp
          unfold wpList at hp ⊢
          split at hp
          · rename_i hw
            rw [if_pos hw]
            rcases hp with hp | ⟨hp, a0, w0, hq⟩
            · left
              unfold Oper.wp Oper.upon at *
              split at hp <;> first | exact ih _ _ hp | exact Post.trans hs hp | exact hp | skip
              · refine Calls.mono hp fun e w'' he => ?_
                cases e with
                | returned v => exact ih _ _ he
                | panicked c => exact Post.trans hs he
                | outgrown =>
                  obtain ⟨a0, w0, hq⟩ := he
                  exact ⟨a0, w0, Post.trans hs hq⟩
              · exact Rows.mono hp fun v w'' he => ih _ _ he
            · right
              exact ⟨hp, a0, w0, Post.trans hs hq⟩
          · rename_i hw
            rw [if_neg hw]
            exact ih _ _ hp
      exact lm _ _ _ this
    unfold vcOps at h
    unfold wpList
    cases hg : o.guard with
    | none =>
      rw [hg] at h
      have hw : Region.wanted o (yielded all a.tmps) = true := by simp [Region.wanted, hg]
      rw [if_pos hw]
      exact .inl (run env s h)
    | some jw =>
      obtain ⟨j, want⟩ := jw
      rw [hg] at h
      simp only [vcGuard] at h
      split at h
      · rename_i b hb
        have hwd := wanted_of s hg hb hall
        rw [hwd]
        by_cases e : b = want
        · rw [if_pos (by simpa using e)]
          exact .inl (run _ (s.known (e ▸ hb)) (h.1 e))
        · rw [if_neg (by simpa using e)]
          have hb' : gval all.toList env j = .lit (.bool !want) := by rw [hb]; cases b <;> cases want <;> simp_all
          exact vcOps_sound hL hall (Q := Q) rest _ H hd2 (h.2 e) G _ w ((s.known hb').put (.refl _ _ _) s.inv (.lit _) hdst)
      · rename_i ar hb
        rw [wanted_undef s hg hb hall]
        rw [if_neg (by simp)]
        exact vcOps_sound hL hall (Q := Q) rest _ H hd2 h G _ w (s.put (.refl _ _ _) s.inv (.lit _) hdst)
      · exact h.elim

/-- A region whose order is the text's. -/
theorem aw_region {P : Program} {L : Tab} (hL : TabOk P L) (mu : List Nat) {n : Nat} {id : Nat} {ops : List Oper} (hops : dstsOk n ops = true) {Q : Exit → Env → List AObj → Prop} {env : Env} {H : List AObj}
    (h : vcOps P L mu ops ops env H (Q .normal)) : AW P n (.region id ops.toArray false) Q env H := fun G a w s =>
  wp_region_list (vcOps_sound (all := ops.toArray) hL (by simpa using hops) ops env H hops (by simpa using h) G a w s)

end Go.Proofs.YtplmbhjhihoneaaGreatDoor.V
end

section
set_option linter.unusedSimpArgs false
set_option linter.unusedVariables false
namespace Go.Proofs.YtplmbhjhihoneaaGreatDoor.V
open Go

def initEnv : Nat → List AV → Env
  | _, [] => []
  | i, x :: r => (i, x) :: initEnv (i + 1) r
theorem get_init : ∀ (l : List AV) (i t : Nat), get (initEnv i l) t = if i ≤ t then (l[t - i]?).getD .any else .any
  | [], i, t => by simp [initEnv, get]
  | x :: r, i, t => by
    simp only [initEnv, get, get_init r]
    by_cases h : i = t
    · subst h; simp
    · simp only [h, if_false]
      by_cases h2 : i + 1 ≤ t
      · rw [if_pos h2, if_pos (by omega), show t - i = (t - (i + 1)) + 1 by omega, List.getElem?_cons_succ]
      · rw [if_neg h2, if_neg (by omega)]

def resOne (L : Tab) (env : Env) (H : List AObj) : ResultVar → Option (Prop × AV)
  | .tmp t => some (True, get env t)
  | .cell a t => qLoad L H t (get env a)
def resList (L : Tab) (env : Env) (H : List AObj) : List ResultVar → Option (Prop × List AV)
  | [] => some (True, [])
  | r :: rs => match resOne L env H r, resList L env H rs with
    | some (p, x), some (q, xs) => some (p ∧ q, x :: xs)
    | _, _ => none
def resTop : List AV → AV
  | [x] => x
  | xs => .tup xs

/-- x over the objects H may be told as y over H', where a call began with H₀. -/
def Ends (H₀ : List AObj) (x : AV) (H : List AObj) (y : AV) (H' : List AObj) : Prop :=
  ∀ G₀ w₀ G w v, HInv G₀ H₀ w₀ → HInv G H w → Step G₀ H₀ w₀ G H w → Rel G H w x v → ∃ G', HInv G' H' w ∧ Step G₀ H₀ w₀ G' H' w ∧ Rel G' H' w y v
theorem ends_le {H₀ H : List AObj} {x y : AV} (h : Le x y) : Ends H₀ x H y H := fun _ _ G w v _ hi hs r => ⟨G, hi, hs, h _ _ _ _ r⟩
theorem ends_trans {H₀ H H' H'' : List AObj} {x y z : AV} (h : Ends H₀ x H y H') (k : Ends H₀ y H' z H'') : Ends H₀ x H z H'' := fun G₀ w₀ G w v h0 hi hs r => by
  obtain ⟨G1, hi1, hs1, r1⟩ := h G₀ w₀ G w v h0 hi hs r
  exact k G₀ w₀ G1 w v h0 hi1 hs1 r1
/-- The objects from m on are dropped. -/
theorem ends_cut {H₀ H : List AObj} {x y : AV} {m : Nat} (hle : Le x y) (hm : H₀.length ≤ m) (hl : Low m y) (hobj : ∀ k sh cs, k < m → H[k]? = some (.cells sh cs) → H₀[k]? = some (.cells sh cs) ∨ ∀ y ∈ cs, Low m y) : Ends H₀ x H y (H.take m) := fun G₀ w₀ G w v h0 hi hs r => by
  refine ⟨G, hi.cut m fun k sh cs hk e y hy => ?_, hs.cut hm, (hle _ _ _ _ r).cut m hl⟩
  rcases hobj k sh cs hk e with h | h
  · obtain ⟨arr, T, fr, hb', hsz, hr', _⟩ := h0.cells k sh cs h
    obtain ⟨j, hj⟩ := List.mem_iff_getElem?.1 hy
    have hja : j < arr.size := Nat.lt_of_lt_of_le (lt_of_get hj) hsz
    exact ((hr' j y _ hj (Array.getElem?_eq_getElem hja)).low).mono hm
  · exact h y hy

/-- Values whose objects from m on nobody writes any more. -/
inductive Frz (m : Nat) (H : List AObj) : AV → AV → Prop
  | low (x : AV) (h : Low m x) : Frz m H x x
  | any (x : AV) : Frz m H x .any
  | row (k len s : Nat) (sh : Shape) (cs xs : List AV) (hk : m ≤ k) (ho : H[k]? = some (.cells sh cs)) (hx : xs.length = len) (hs : ∀ x ∈ xs, x.flat.length = s ∧ x.okv = true) (hl : (flats xs).length ≤ cs.length)
      (h : ∀ (j : Nat) c y, cs[j]? = some c → (flats xs)[j]? = some y → Frz m H c y) : Frz m H (.mrow k len) (.sl .sh s xs)
  | msl (k off len cap s : Nat) (sh : Shape) (cs xs : List AV) (hk : m ≤ k) (ho : H[k]? = some (.cells sh cs)) (hx : xs.length = len) (hs : ∀ x ∈ xs, x.flat.length = s ∧ x.okv = true) (hl : off + (flats xs).length ≤ cs.length)
      (h : ∀ (j : Nat) c y, cs[off + j]? = some c → (flats xs)[j]? = some y → Frz m H c y) : Frz m H (.msl k off len cap) (.sl .sh s xs)
  | mp (k off : Nat) (sh : Shape) (cs : List AV) (x : AV) (hk : m ≤ k) (ho : H[k]? = some (.cells sh cs)) (hl : off + x.flat.length ≤ cs.length)
      (h : ∀ (j : Nat) c y, cs[off + j]? = some c → x.flat[j]? = some y → Frz m H c y) : Frz m H (.mp k off) (.ip x)
  | agg (cs ds : List AV) (hl : ds.length = cs.length) (h : ∀ (j : Nat) c d, cs[j]? = some c → ds[j]? = some d → Frz m H c d) : Frz m H (.agg cs) (.agg ds)
  | tup (cs ds : List AV) (hl : ds.length = cs.length) (h : ∀ (j : Nat) c d, cs[j]? = some c → ds[j]? = some d → Frz m H c d) : Frz m H (.tup cs) (.tup ds)
  | ifc (t : TypeId) (x y : AV) (h : Frz m H x y) : Frz m H (.ifc t x) (.ifc t y)
def frzG (G : Gh) (H : List AObj) (m : Nat) : Gh := { G with imm := fun b off => G.imm b off ∨ ∃ k sh cs, m ≤ k ∧ H[k]? = some (.cells sh cs) ∧ b = G.blk k }
theorem frz_step {G : Gh} {H : List AObj} {w : World} (hi : HInv G H w) (m : Nat) : Step G (H.take m) w (frzG G H m) (H.take m) w :=
  ⟨rfl, rfl, rfl, Nat.le_refl _, fun _ _ h => .inl h, fun _ _ _ => rfl, fun _ _ => rfl, fun k => by
    cases e : (H.take m)[k]? with
    | none => trivial
    | some o =>
      cases o with
      | cells t c => exact ⟨⟨_, e, rfl⟩, rfl, rfl⟩
      | gone => exact ⟨⟨_, e, rfl⟩, rfl, rfl⟩
      | grow s n t => exact ⟨n, e, Nat.le_refl _, fun _ => rfl⟩⟩
theorem frz_inv {G : Gh} {H : List AObj} {w : World} (hi : HInv G H w) (m : Nat) (hl : ∀ k sh cs, k < m → H[k]? = some (.cells sh cs) → ∀ x ∈ cs, Low m x) : HInv (frzG G H m) (H.take m) w := by
  have hc := hi.cut m hl
  have st := frz_step hi m
  have tk : ∀ {k : Nat} {o : AObj}, (H.take m)[k]? = some o → k < m ∧ H[k]? = some o := fun {k o} e => by
    rw [List.getElem?_take] at e
    split at e
    · exact ⟨by assumption, e⟩
    · cases e
  refine ⟨fun b off h => ?_, fun k sh cs e => ?_, fun k s n t e => ?_, hc.apart, hc.tabs.step st⟩
  · rcases h with h | ⟨k, sh, cs, _, hk, rfl⟩
    · exact hi.lt b off h
    · obtain ⟨arr, T, fr, hb, _⟩ := hi.cells k sh cs hk
      exact heap_lt hb
  · obtain ⟨arr, T, fr, hb, hs, hr, hf1, hf2⟩ := hc.cells k sh cs e
    obtain ⟨hkm, e'⟩ := tk e
    refine ⟨arr, T, fr, hb, hs, fun j x v ex ev => (hr j x v ex ev).mono st, fun off h => ?_, hf2⟩
    rcases h with h | ⟨k', sh', cs', hm', hk', hbb⟩
    · exact hf1 off h
    · have hbb' : G.blk k = G.blk k' := hbb
      have := hi.apart k k' (G.blk k) (by simp [site, e']) (by simp [site, hk', hbb'])
      omega
  · obtain ⟨h0, h1, h2, h3⟩ := hc.grow k s n t e
    obtain ⟨hkm, e'⟩ := tk e
    refine ⟨h0, h1, fun hn => ?_, typedOk_keep h3 rfl (Nat.le_refl _) (fun b arr e fr hb => ⟨arr, hb, rfl⟩) fun b off arr e fr hb ea hc ht hx _ => ?_⟩
    rotate_left
    · rcases hx with hx | ⟨k', sh', cs', hm', hk', hbb⟩
      · exact hx
      · have hs : site G H k = some b := by
          unfold site
          rw [e', show G.own k = (some ⟨b, 0, none⟩, (G.own k).2) by rw [← ea]]
          simp only
          rw [if_pos (.inr ⟨ht, hc⟩)]
        have := hi.apart k k' b hs (by simp [site, hk', hbb])
        omega
    obtain ⟨b, off, arr, T, fr, ea, hb, hsz, hj⟩ := h2 hn
    refine ⟨b, off, arr, T, fr, ea, hb, hsz, fun j h4 h5 => ⟨?_, (hj j h4 h5).2⟩⟩
    rintro (h | ⟨k', sh', cs', hm', hk', hbb⟩)
    · exact (hj j h4 h5).1 h
    · have := hi.apart k k' b (site_grow e' hn ea) (by simp [site, hk', hbb])
      omega
theorem frz_rel {G : Gh} {H : List AObj} {w : World} (hi : HInv G H w) {m : Nat} {x y : AV} (f : Frz m H x y) : ∀ v, Rel G H w x v → Rel (frzG G H m) (H.take m) w y v := by
  have st := frz_step hi m
  have cell : ∀ (k : Nat) sh cs, m ≤ k → H[k]? = some (.cells sh cs) → ∃ arr : Array Value, cs.length ≤ arr.size ∧ (∀ (j : Nat) x v, cs[j]? = some x → arr[j]? = some v → Rel G H w x v) ∧ ∀ j, (frzG G H m).imm (G.blk k) j ∧ w.cell? ⟨G.blk k, j, none⟩ = arr[j]? := fun k sh cs hk ho => by
    obtain ⟨arr, T, fr, hb, hsz, hr, _⟩ := hi.cells k sh cs ho
    exact ⟨arr, hsz, hr, fun j => ⟨.inr ⟨k, sh, cs, hk, ho, rfl⟩, cell_row hb⟩⟩
  induction f with
  | low x h => intro v r; exact (r.cut m h).mono st
  | any x => intro v r; exact .any v
  | row k len s sh cs xs hk ho hx hs hl h ih =>
    intro v r
    obtain ⟨arr, hsz, hr, hc⟩ := cell k _ cs hk ho
    cases r with
    | mrow _ _ o h1 h2 hcap =>
      refine .sl .sh s xs _ _ _ (fun j => (arr[j]?).getD undef) hx.symm hcap hs (fun j y e => ?_) (fun j y e => ?_) (fun e => by cases e) (fun _ => rfl) (fun k e => by cases e)
      · have hj := lt_of_get e
        have ha : arr[j]? = some (arr[j]'(by omega)) := Array.getElem?_eq_getElem _
        refine ⟨G.blk k, 0, rfl, ?_, ?_⟩
        · rw [Nat.zero_add]; exact (hc j).1
        · rw [Nat.zero_add, (hc j).2, ha]; rfl
      · have hj := lt_of_get e
        have ha : arr[j]? = some (arr[j]'(by omega)) := Array.getElem?_eq_getElem _
        have hcj : cs[j]? = some (cs[j]'(by omega)) := List.getElem?_eq_getElem _
        have := ih j _ y hcj e _ (hr j _ _ hcj ha)
        rw [ha]
        exact this
  | msl k off len cap s sh cs xs hk ho hx hs hl h ih =>
    intro v r
    obtain ⟨arr, hsz, hr, hc⟩ := cell k _ cs hk ho
    cases r with
    | msl _ _ _ _ o h1 h2 hcap =>
      refine .sl .sh s xs _ _ _ (fun j => (arr[off + j]?).getD undef) hx.symm hcap hs (fun j y e => ?_) (fun j y e => ?_) (fun e => by cases e) (fun _ => rfl) (fun k e => by cases e)
      · have hj := lt_of_get e
        have ha : arr[off + j]? = some (arr[off + j]'(by omega)) := Array.getElem?_eq_getElem _
        refine ⟨G.blk k, off, rfl, (hc _).1, ?_⟩
        rw [(hc _).2, ha]; rfl
      · have hj := lt_of_get e
        have ha : arr[off + j]? = some (arr[off + j]'(by omega)) := Array.getElem?_eq_getElem _
        have hcj : cs[off + j]? = some (cs[off + j]'(by omega)) := List.getElem?_eq_getElem _
        have := ih j _ y hcj e _ (hr _ _ _ hcj ha)
        rw [ha]
        exact this
  | mp k off sh cs x hk ho hl h ih =>
    intro v r
    obtain ⟨arr, hsz, hr, hc⟩ := cell k _ cs hk ho
    cases r with
    | mp _ _ o h1 h2 =>
      refine .ip x _ _ (fun j => (arr[off + j]?).getD undef) (fun j y e => ?_) (fun j y e => ?_)
      · have hj := lt_of_get e
        have ha : arr[off + j]? = some (arr[off + j]'(by omega)) := Array.getElem?_eq_getElem _
        refine ⟨(hc _).1, ?_⟩
        rw [(hc _).2, ha]; rfl
      · have hj := lt_of_get e
        have ha : arr[off + j]? = some (arr[off + j]'(by omega)) := Array.getElem?_eq_getElem _
        have hcj : cs[off + j]? = some (cs[off + j]'(by omega)) := List.getElem?_eq_getElem _
        have := ih j _ y hcj e _ (hr _ _ _ hcj ha)
        rw [ha]
        exact this
  | agg cs ds hl h ih =>
    intro v r
    cases r with
    | agg _ arr ha hr =>
      refine .agg ds arr (ha.trans hl.symm) fun j y u e e' => ?_
      have hj := lt_of_get e
      have hcj : cs[j]? = some (cs[j]'(by omega)) := List.getElem?_eq_getElem _
      exact ih j _ y hcj e _ (hr j _ u hcj e')
  | tup cs ds hl h ih =>
    intro v r
    cases r with
    | tup _ arr ha hr =>
      refine .tup ds arr (ha.trans hl.symm) fun j y u e e' => ?_
      have hj := lt_of_get e
      have hcj : cs[j]? = some (cs[j]'(by omega)) := List.getElem?_eq_getElem _
      exact ih j _ y hcj e _ (hr j _ u hcj e')
  | ifc t x y h ih =>
    intro v r
    cases r with
    | ifc _ _ u hr => exact .ifc t y u (ih u hr)
/-- The objects from m on are written no more. -/
theorem ends_frz {H₀ H : List AObj} {x x' y : AV} {m : Nat} (hle : Le x x') (hm : H₀.length ≤ m) (f : Frz m H x' y) (hobj : ∀ k sh cs, k < m → H[k]? = some (.cells sh cs) → H₀[k]? = some (.cells sh cs) ∨ ∀ y ∈ cs, Low m y) : Ends H₀ x H y (H.take m) := fun G₀ w₀ G w v h0 hi hs r => by
  have hl : ∀ k sh cs, k < m → H[k]? = some (.cells sh cs) → ∀ x ∈ cs, Low m x := fun k sh cs hk e y hy => by
    rcases hobj k sh cs hk e with h | h
    · obtain ⟨arr, T, fr, hb', hsz, hr', _⟩ := h0.cells k sh cs h
      obtain ⟨j, hj⟩ := List.mem_iff_getElem?.1 hy
      have hja : j < arr.size := Nat.lt_of_lt_of_le (lt_of_get hj) hsz
      exact ((hr' j y _ hj (Array.getElem?_eq_getElem hja)).low).mono hm
    · exact h y hy
  exact ⟨frzG G H m, frz_inv hi m hl, (hs.cut hm).trans (frz_step hi m), frz_rel hi f v (hle _ _ _ _ r)⟩

/-- What a body must end with. -/
def Fin (L : Tab) (rs : List ResultVar) (H₀ : List AObj) (R : AV → List AObj → Prop) (env : Env) (H : List AObj) : Prop :=
  match resList L env H rs with
  | some (p, xs) => p ∧ ∃ y H', Ends H₀ (resTop xs) H y H' ∧ R y H'
  | none => False
def BodyQ (L : Tab) (rs : List ResultVar) (H₀ : List AObj) (R : AV → List AObj → Prop) : Exit → Env → List AObj → Prop
  | .normal, env, H => Fin L rs H₀ R env H
  | .ret, env, H => Fin L rs H₀ R env H
  | _, _, _ => False

def resSem (tmps : Array Value) : ResultVar → Sem Value
  | .tmp t => pure (tmps.getD t undef)
  | .cell b t => do loadVar t (← asAddr (tmps.getD b undef))
theorem results_eq (fn : Func) (tmps : Array Value) : results fn tmps = (do let vs ← fn.results.mapM (resSem tmps); pure (if h : vs.size = 1 then vs[0] else .tuple vs)) := by
  unfold results
  congr 2
theorem res_run {P : Program} {L : Tab} (hL : TabOk P L) {n : Nat} {G : Gh} {env : Env} {H : List AObj} {a : Act} {w : World} (s : Sat n G env H a w) : ∀ (rs : List ResultVar) {p : Prop} {xs : List AV}, resList L env H rs = some (p, xs) → p →
    ∃ vs : List Value, (rs.mapM (resSem a.tmps) : Sem (List Value)).run P w = .ok vs w ∧ vs.length = xs.length ∧ (∀ (j : Nat) x v, xs[j]? = some x → vs[j]? = some v → Rel G H w x v)
  | [], p, xs, h, hp => by
    simp only [resList, Option.some.injEq, Prod.mk.injEq] at h
    obtain ⟨_, rfl⟩ := h
    exact ⟨[], by simp, rfl, fun j x v e => by simp at e⟩
  | r :: rs, p, xs, h, hp => by
    simp only [resList] at h
    split at h
    · rename_i p1 x1 p2 xs2 h1 h2
      simp only [Option.some.injEq, Prod.mk.injEq] at h
      obtain ⟨rfl, rfl⟩ := h
      obtain ⟨vs, hr, hl, hrel⟩ := res_run hL s rs h2 hp.2
      have : ∃ v, (resSem a.tmps r).run P w = .ok v w ∧ Rel G H w x1 v := by
        cases r with
        | tmp t =>
          simp only [resOne, Option.some.injEq, Prod.mk.injEq] at h1
          obtain ⟨_, rfl⟩ := h1
          exact ⟨_, rfl, s.env t⟩
        | cell b t =>
          obtain ⟨ad, u, hv, hrun, hz⟩ := load_run hL (show qLoad L H t (get env b) = some (p1, x1) from h1) hp.1 s.inv (s.env b)
          exact ⟨u, by simp only [resSem, Sem.run_bind]; rw [hv]; simp [asAddr, hrun], hz⟩
      obtain ⟨v, hv, hz⟩ := this
      refine ⟨v :: vs, ?_, by simp [hl], fun j x u e e' => ?_⟩
      · rw [List.mapM_cons]
        simp only [Sem.run_bind]
        rw [hv]
        simp only [Result.andThen_ok, hr, Sem.run_pure]
      · cases j with
        | zero => simp at e e'; subst e; subst e'; exact hz
        | succ j => exact hrel j x u (by simpa using e) (by simpa using e')
    · cases h

theorem acalls_of_aw {P : Program} {L : Tab} (hL : TabOk P L) {f : FuncId} {fn : Func} {c : Code} {n : Nat} {rs : List ResultVar} {args : List AV} {H : List AObj} {R : AV → List AObj → Prop} (hf : P.funcs[f]? = some fn) (hb : fn.body = some c) (hname : (fn.name == "runtime.NumGoroutine") = false) (hn : fn.ntmps = n)
    (hrs : fn.results.toList = rs) (hargs : args.length ≤ n) (h : AW P n c (BodyQ L rs H R) (initEnv 0 args) H) : ACalls P f args H R := by
  intro G w vs hi hr
  refine .inl ⟨fn, hf, by rw [hb]; rfl, hname, ?_⟩
  refine calls_of_wp hf hb (wp_mono (h G { tmps := vs ++ Array.replicate (fn.ntmps - vs.size) undef, defers := [] } w ⟨by simp [hr.1]; omega, rfl, fun t => ?_, hi⟩) fun e a w' hq => ?_)
  · rw [get_init]
    simp only [Nat.zero_le, if_true, Nat.sub_zero]
    by_cases ht : t < args.length
    · rw [List.getElem?_eq_getElem ht]
      have hv : t < vs.size := by rw [hr.1]; exact ht
      rw [Array.getD_eq_getD_getElem?, Array.getElem?_append_left hv, Array.getElem?_eq_getElem hv]
      exact hr.2 t _ _ (List.getElem?_eq_getElem ht) (Array.getElem?_eq_getElem hv)
    · rw [List.getElem?_eq_none (by omega)]
      exact .any _
  · obtain ⟨G', env', H', s, st, q⟩ := hq
    have key : Fin L rs H R env' H' → a.defers = [] ∧ ∃ v, (results fn a.tmps).run P w' = .ok v w' ∧ ∃ v', Ending.returned v = .returned v' ∧ ∃ x G'' H'', HInv G'' H'' w' ∧ Step G H w G'' H'' w' ∧ Rel G'' H'' w' x v' ∧ R x H'' := fun hfin => by
      unfold Fin at hfin
      split at hfin
      · rename_i p xs hres
        obtain ⟨hp, x, H'', hends, hR⟩ := hfin
        obtain ⟨us, hrun, hlen, hrel⟩ := res_run (P := P) hL s rs hres hp
        have hres' : (results fn a.tmps).run P w' = .ok (if h : us.length = 1 then us[0] else .tuple us.toArray) w' := by
          rw [results_eq, Array.mapM_eq_mapM_toList, hrs]
          simp only [Sem.run_bind, Sem.run_map]
          rw [hrun]
          simp only [Result.andThen_ok, Sem.run_pure, List.size_toArray, List.getElem_toArray]
        have hrx : Rel G' H' w' (resTop xs) (if h : us.length = 1 then us[0] else .tuple us.toArray) := by
          unfold resTop
          split
          · have h1 : us.length = 1 := by simpa using hlen
            rw [dif_pos h1]
            exact hrel 0 _ _ rfl (by simp [h1])
          · rename_i hne
            have h1 : us.length ≠ 1 := by
              intro h1
              rw [hlen] at h1
              obtain ⟨y, hy⟩ := List.length_eq_one_iff.1 h1
              exact hne y hy
            rw [dif_neg h1]
            exact .tup _ _ (by simpa using hlen) fun j x v e e' => hrel j x v e (by simpa using e')
        obtain ⟨G'', hi'', st'', hrx''⟩ := hends G w G' w' _ hi s.inv st hrx
        exact ⟨s.defers, _, hres', _, rfl, x, G'', H'', hi'', st'', hrx'', hR⟩
      · exact hfin.elim
    cases e with
    | normal =>
      obtain ⟨h1, v, h2, h3⟩ := key q
      exact ⟨h1, v, h2, h3⟩
    | ret =>
      obtain ⟨h1, v, h2, h3⟩ := key q
      exact ⟨h1, v, h2, h3⟩
    | exit _ => exact q.elim
    | goto _ => exact q.elim
    | panic _ => exact q.elim
    | outgrown => exact q.elim
end Go.Proofs.YtplmbhjhihoneaaGreatDoor.V
end

section
set_option linter.unusedSimpArgs false
set_option linter.unusedVariables false
namespace Go.Proofs.YtplmbhjhihoneaaGreatDoor.V
open Go

/-- An operation that leaves the objects alone, with one result. -/
def vcQuiet (P : Program) (L : Tab) (o : Oper) (env : Env) (H : List AObj) (z : AV) : Prop := vcOp P L [] o env H fun x H' => x = z ∧ H' = H

theorem ev_congr {env env' : Env} {x : Operand} (h : ∀ t, x = .tmp t → get env t = get env' t) : ev env x = ev env' x := by
  cases x with
  | tmp t => exact h t rfl
  | _ => rfl
theorem vcOp_congr {P : Program} {L : Tab} {mu : List Nat} {o : Oper} {env env' : Env} {H : List AObj} {K : AV → List AObj → Prop} (h : ∀ x ∈ o.op.operands.toList, ∀ t, x = .tmp t → get env t = get env' t) : vcOp P L mu o env H K = vcOp P L mu o env' H K := by
  obtain ⟨dst, op, ty, pos, after, guard⟩ := o
  have e1 : ∀ x, x ∈ op.operands.toList → ev env x = ev env' x := fun x hx => ev_congr (h x hx)
  cases op <;> simp only [vcOp] <;> simp only [Op.operands] at e1
  case move x => rw [e1 x (by simp)]
  case assign x => rw [e1 x (by simp)]
  case pick a b c => rw [e1 a (by simp), e1 b (by simp), e1 c (by simp)]
  case box e x => rw [e1 x (by simp)]
  case build t parts =>
    have : evParts env parts = evParts env' parts := List.map_congr_left fun p hp => by rw [e1 p.2 (by simpa using ⟨p.1, by simpa using hp⟩)]
    rw [this]
  case buildSlice t len parts =>
    have : evParts env parts = evParts env' parts := List.map_congr_left fun p hp => by rw [e1 p.2 (by simpa using ⟨p.1, by simpa using hp⟩)]
    rw [this]
  case load t x => rw [e1 x (by simp)]
  case store t a x => rw [e1 a (by simp), e1 x (by simp)]
  case binOp op t x y t' => rw [e1 x (by simp), e1 y (by simp)]
  case unOp op t x => rw [e1 x (by simp)]
  case convert s d x => rw [e1 x (by simp)]
  case slice t x lo hi mx =>
    have eo : ∀ z, (z = lo ∨ z = hi ∨ z = mx) → evO env z = evO env' z := fun z hz => by
      cases z with
      | none => rfl
      | some y => simp only [evO, Option.map_some]; rw [e1 y (by rcases hz with rfl | rfl | rfl <;> simp)]
    rw [e1 x (by simp), eo lo (.inl rfl), eo hi (.inr (.inl rfl)), eo mx (.inr (.inr rfl))]
  case fieldAddr t x f => rw [e1 x (by simp)]
  case field t x f => rw [e1 x (by simp)]
  case indexAddr t x i => rw [e1 x (by simp), e1 i (by simp)]
  case index t x i => rw [e1 x (by simp), e1 i (by simp)]
  case extract x i => rw [e1 x (by simp)]
  case nilCheck x => rw [e1 x (by simp)]
  case makeSlice t x y => rw [e1 x (by simp), e1 y (by simp)]
  case makeInterface t x => rw [e1 x (by simp)]
  case makeFunc f fs cs =>
    have h1 : fs.toList.map (ev env) = fs.toList.map (ev env') := List.map_congr_left fun x hx => e1 x (by rw [Array.toList_append, List.mem_append]; exact .inl hx)
    have h2 : cs.toList.map (ev env) = cs.toList.map (ev env') := List.map_congr_left fun x hx => e1 x (by rw [Array.toList_append, List.mem_append]; exact .inr hx)
    rw [h1, h2]
  case call c =>
    obtain ⟨callee, args, ats⟩ := c
    simp only [Call.operands] at e1
    have ea : args.toList.map (ev env) = args.toList.map (ev env') := List.map_congr_left fun x hx => e1 x (by simp only [Array.toList_append, List.mem_append]; exact .inr hx)
    rw [ea]
    cases callee with
    | builtin b => rfl
    | value f => simp only []; rw [e1 f (by simp)]
    | invoke r m => rfl

/-- The environment when just the listed operations have been carried out. -/
def envAt (listed : Nat → Bool) (zs : Nat → AV) : Nat → List Oper → Env → Env
  | _, [], env => env
  | i, o :: r, env => envAt listed zs (i + 1) r (if listed i then put o.dst (zs i) env else env)

theorem get_put (d : Option Nat) (v : AV) (env : Env) (t : Nat) : get (put d v env) t = if d = some t then v else get env t := by
  cases d with
  | none => simp [put]
  | some d => simp [put, get]
theorem envAt_congr {zs : Nat → AV} {l l' : Nat → Bool} {t : Nat} : ∀ (ops : List Oper) (i : Nat) (env env' : Env), get env t = get env' t → (∀ (j : Nat) o, ops[j]? = some o → o.dst = some t → l (i + j) = l' (i + j)) → get (envAt l zs i ops env) t = get (envAt l' zs i ops env') t
  | [], _, _, _, h, _ => h
  | o :: r, i, env, env', h, hl => by
    simp only [envAt]
    refine envAt_congr r (i + 1) _ _ ?_ fun j o' e hd => by have := hl (j + 1) o' (by simpa using e) hd; rwa [show i + (j + 1) = i + 1 + j by omega] at this
    by_cases hd : o.dst = some t
    · have := hl 0 o rfl hd
      rw [Nat.add_zero] at this
      rw [this]
      cases l' i
      · simpa using h
      · simp [get_put, hd]
    · cases l i <;> cases l' i <;> simp [get_put, hd, h]
theorem envAt_put {zs : Nat → AV} {l : Nat → Bool} {t : Nat} : ∀ (ops : List Oper) (i : Nat) (env : Env) (k : Nat) (o : Oper), ops[k]? = some o → l (i + k) = false → (∀ (j : Nat) o', k < j → ops[j]? = some o' → l (i + j) = true → o.dst = some t → o'.dst ≠ some t) →
    get (envAt (fun j => if j = i + k then true else l j) zs i ops env) t = get (put o.dst (zs (i + k)) (envAt l zs i ops env)) t
  | [], _, _, _, _, e, _, _ => by simp at e
  | o :: r, i, env, 0, o', e, hl, h => by
    simp only [List.getElem?_cons_zero, Option.some.injEq] at e
    subst e
    simp only [Nat.add_zero] at hl ⊢
    simp only [envAt, if_true, hl, Bool.false_eq_true, if_false]
    rw [get_put]
    by_cases hd : o.dst = some t
    · rw [if_pos hd]
      have : ∀ (ops : List Oper) (i' : Nat) (env : Env), (∀ (j : Nat) o', ops[j]? = some o' → (fun j => if j = i then true else l j) (i' + j) = true → o'.dst ≠ some t) → get (envAt (fun j => if j = i then true else l j) zs i' ops env) t = get env t := by
        intro ops
        induction ops with
        | nil => intro _ _ _; rfl
        | cons o r ih =>
          intro i' env hh
          simp only [envAt]
          rw [ih (i' + 1) _ fun j o' e he => hh (j + 1) o' (by simpa using e) (by rwa [show i' + (j + 1) = i' + 1 + j by omega])]
          by_cases hi : (if i' = i then true else l i') = true
          · rw [if_pos hi, get_put, if_neg (hh 0 o rfl (by simpa using hi))]
          · rw [if_neg hi]
      rw [this r (i + 1) _ fun j o' e he => h (j + 1) o' (by omega) (by simpa using e) (by
        simp only [show ¬ (i + 1 + j = i) by omega, if_false] at he
        rwa [show i + (j + 1) = i + 1 + j by omega]) hd, get_put, if_pos hd]
    · rw [if_neg hd]
      refine envAt_congr r (i + 1) _ _ (by rw [get_put, if_neg hd]) fun j o' e _ => by simp [show ¬ (i + 1 + j = i) by omega]
  | o :: r, i, env, k + 1, o', e, hl, h => by
    simp only [List.getElem?_cons_succ] at e
    have hne : ¬ (i = i + (k + 1)) := by omega
    simp only [envAt, hne, if_false]
    have := envAt_put r (i + 1) (if l i then put o.dst (zs i) env else env) k o' e (by rw [show i + 1 + k = i + (k + 1) by omega]; exact hl) (t := t) (zs := zs) (l := l) fun j o'' hj e' he hd => h (j + 1) o'' (by omega) (by simpa using e') (by rw [show i + (j + 1) = i + 1 + j by omega]; exact he) hd
    rw [show i + 1 + k = i + (k + 1) by omega] at this
    exact this

/-- The slots that an operation names. -/
def touches (all : List Oper) (o : Oper) : List Nat :=
  (o.op.operands.toList.filterMap fun | .tmp t => some t | _ => none) ++ (match o.guard with | some (j, _) => ((all[j]?).bind (·.dst)).toList | none => []) ++ o.dst.toList
/-- What surely comes ahead of each operation. -/
def befores : List Oper → List (List Nat) → List (List Nat)
  | [], acc => acc
  | o :: r, acc => befores r (acc ++ [(o.after.toList.flatMap fun e => if Region.binds .any e then e.on :: acc.getD e.on [] else []).eraseDups])
def ordered (bs : List (List Nat)) (ops : List Oper) (i : Nat) (o : Oper) : Nat → List Oper → Bool
  | _, [] => true
  | j, q :: r => (match q.dst with
      | some d => if j = i then true else if (touches ops o).contains d then (if j < i then (bs.getD i []).contains j else (bs.getD j []).contains i) else true
      | none => true) && ordered bs ops i o (j + 1) r
def allOrdered (bs : List (List Nat)) (ops : List Oper) : Nat → List Oper → Bool
  | _, [] => true
  | i, o :: r => ordered bs ops i o 0 ops && (o.after.toList.all fun e => !Region.binds .any e || decide (e.on < i)) && allOrdered bs ops (i + 1) r
def drawOk (ops : List Oper) : Bool := allOrdered (befores ops []) ops 0 ops

/-- Carried out are whole pasts alone. -/
def Past (ops : List Oper) (l : Nat → Bool) : Prop := ∀ (i : Nat) o, ops[i]? = some o → l i = true → ∀ e ∈ o.after.toList, Region.binds .any e = true → l e.on = true

theorem befores_spec {ops : List Oper} {l : Nat → Bool} (hp : Past ops l) : ∀ (r done : List Oper) (acc : List (List Nat)), ops = done ++ r → acc.length = done.length →
    (∀ i j o, i < acc.length → j ∈ acc.getD i [] → ops[i]? = some o → (∀ e ∈ o.after.toList, Region.binds .any e = true → l e.on = true) → l j = true) →
    ∀ i j o, j ∈ (befores r acc).getD i [] → ops[i]? = some o → (∀ e ∈ o.after.toList, Region.binds .any e = true → l e.on = true) → l j = true
  | [], done, acc, _, _, h, i, j, o, hj, ho, hl => by
    simp only [befores] at hj
    by_cases hi : i < acc.length
    · exact h i j o hi hj ho hl
    · simp [List.getD, List.getElem?_eq_none (by omega : acc.length ≤ i)] at hj
  | q :: r, done, acc, he, hlen, h, i, j, o, hj, ho, hl => by
    refine befores_spec hp r (done ++ [q]) _ (by simp [he]) (by simp [hlen]) (fun i j o hi hj ho hl => ?_) i j o hj ho hl
    by_cases hi' : i < acc.length
    · have : (acc ++ [(q.after.toList.flatMap fun e => if Region.binds .any e then e.on :: acc.getD e.on [] else []).eraseDups]).getD i [] = acc.getD i [] := by simp [List.getD, List.getElem?_append_left hi']
      rw [this] at hj
      exact h i j o hi' hj ho hl
    · have hi2 : i = acc.length := by simp at hi; omega
      subst hi2
      have hq : o = q := by
        rw [he, List.getElem?_append_right (by omega), hlen, Nat.sub_self] at ho
        exact (Option.some.inj ho).symm
      subst hq
      simp only [List.getD, List.getElem?_append_right (Nat.le_refl _), Nat.sub_self, List.getElem?_cons_zero, Option.getD_some, List.mem_eraseDups] at hj
      obtain ⟨e, hem, hje⟩ := List.mem_flatMap.1 hj
      split at hje
      · rename_i hb
        have hle := hl e hem hb
        rcases List.mem_cons.1 hje with rfl | hje
        · exact hle
        · have hee : e.on < acc.length := by
            rcases Nat.lt_or_ge e.on acc.length with h1 | h1
            · exact h1
            · simp [List.getElem?_eq_none h1] at hje
          cases hoe : ops[e.on]? with
          | none =>
            have : ops.length ≤ e.on := by simpa using hoe
            rw [he] at this
            simp at this
            omega
          | some oe => exact h e.on j oe hee hje hoe fun e' he' hb' => hp e.on oe hoe hle e' he' hb'
      · cases hje

theorem ordered_spec {bs : List (List Nat)} {ops : List Oper} {i : Nat} {o : Oper} : ∀ (r : List Oper) (j : Nat), ordered bs ops i o j r = true → ∀ (k : Nat) q d, r[k]? = some q → q.dst = some d → j + k ≠ i → d ∈ touches ops o → (j + k < i → (j + k) ∈ bs.getD i []) ∧ (i < j + k → i ∈ bs.getD (j + k) [])
  | [], _, _, k, q, d, e, _, _, _ => by simp at e
  | q :: r, j, h, 0, q', d, e, hd, hne, ht => by
    simp only [List.getElem?_cons_zero, Option.some.injEq] at e
    subst e
    simp only [ordered, Bool.and_eq_true, hd] at h
    have h1 := h.1
    simp only [Nat.add_zero] at hne ⊢
    rw [if_neg hne, if_pos (by simpa using ht)] at h1
    refine ⟨fun hlt => by rw [if_pos hlt] at h1; simpa using h1, fun hgt => by rw [if_neg (by omega)] at h1; simpa using h1⟩
  | q :: r, j, h, k + 1, q', d, e, hd, hne, ht => by
    simp only [ordered, Bool.and_eq_true] at h
    have := ordered_spec r (j + 1) h.2 k q' d (by simpa using e) hd (by omega) ht
    rwa [show j + 1 + k = j + (k + 1) by omega] at this
theorem allOrdered_spec {bs : List (List Nat)} {ops : List Oper} : ∀ (r : List Oper) (s : Nat), allOrdered bs ops s r = true → ∀ (i : Nat) o, r[i]? = some o → ordered bs ops (s + i) o 0 ops = true ∧ ∀ e ∈ o.after.toList, Region.binds .any e = true → e.on < s + i
  | [], _, _, i, o, e => by simp at e
  | q :: r, s, h, 0, o, e => by
    simp only [List.getElem?_cons_zero, Option.some.injEq] at e
    subst e
    simp only [allOrdered, Bool.and_eq_true, List.all_eq_true, Bool.or_eq_true, Bool.not_eq_true', decide_eq_true_eq] at h
    exact ⟨h.1.1, fun e he hb => by
      rcases h.1.2 e he with h' | h'
      · rw [hb] at h'; cases h'
      · simpa using h'⟩
  | q :: r, s, h, i + 1, o, e => by
    simp only [allOrdered, Bool.and_eq_true] at h
    have := allOrdered_spec r (s + 1) h.2 i o (by simpa using e)
    rwa [show s + 1 + i = s + (i + 1) by omega] at this

/-- What the text's order gives: each operation's result, or that it is passed over. -/
def Does (P : Program) (L : Tab) (all : List Oper) (o : Oper) (env : Env) (H : List AObj) (z : AV) : Prop :=
  match o.guard with
  | none => vcQuiet P L o env H z
  | some (j, want) => (∃ b, gval all env j = .lit (.bool b) ∧ ((b = want ∧ vcQuiet P L o env H z) ∨ (b ≠ want ∧ z = .lit undef))) ∨ (∃ ar, gval all env j = .lit (.tuple ar) ∧ z = .lit undef)

theorem does_congr {P : Program} {L : Tab} {all : List Oper} {o : Oper} {env env' : Env} {H : List AObj} {z : AV} (h : ∀ t ∈ touches all o, t ∉ o.dst.toList ∨ True → get env t = get env' t) : Does P L all o env H z → Does P L all o env' H z := by
  have h' : ∀ t ∈ touches all o, get env t = get env' t := fun t ht => h t ht (.inr trivial)
  have hq : vcQuiet P L o env H z = vcQuiet P L o env' H z := by
    unfold vcQuiet
    exact vcOp_congr fun x hx t ht => h' t (by
      unfold touches
      refine List.mem_append.2 (.inl (List.mem_append.2 (.inl (List.mem_filterMap.2 ⟨x, hx, by rw [ht]⟩))))
      )
  unfold Does
  cases hg : o.guard with
  | none => simp only; rw [hq]; exact id
  | some jw =>
    obtain ⟨j, want⟩ := jw
    simp only
    have hgv : gval all env j = gval all env' j := by
      unfold gval
      cases hj : (all[j]?).bind (·.dst) with
      | none => rfl
      | some d => exact h' d (by unfold touches; rw [hg]; simp [hj])
    rw [hq, hgv]
    exact id
theorem Sat.of_get {n : Nat} {G : Gh} {env env' : Env} {H : List AObj} {a : Act} {w : World} (s : Sat n G env H a w) (h : ∀ t, get env t = get env' t) : Sat n G env' H a w :=
  ⟨s.size, s.defers, fun t => h t ▸ s.env t, s.inv⟩

theorem step_drew {G : Gh} {H : List AObj} {w : World} : Step G H w G H w.drew := ⟨rfl, rfl, rfl, Nat.le_refl _, fun _ _ h => h, fun _ _ _ => rfl, fun _ _ => rfl, (Step.refl G H w).obj⟩
theorem inv_drew {G : Gh} {H : List AObj} {w : World} (h : HInv G H w) : HInv G H w.drew := by
  refine ⟨h.lt, fun k sh cs e => ?_, h.grow, h.apart, h.tabs.step (H := H) step_drew⟩
  obtain ⟨arr, T, fr, hb, hs, hr, hf⟩ := h.cells k sh cs e
  exact ⟨arr, T, fr, hb, hs, fun j x v ex ev => (hr j x v ex ev).mono step_drew, hf⟩
/-- One operation of a region, in whatever state its past was carried out. -/
theorem does_wp {P : Program} {L : Tab} (hL : TabOk P L) {n : Nat} {all : Array Oper} (hops : dstsOk n all.toList = true) {i : Nat} {o : Oper} (ho : all[i]? = some o) {env : Env} {H : List AObj} {z : AV} (hd : Does P L all.toList o env H z)
    {G : Gh} {a : Act} {w : World} (s : Sat n G env H a w) {K : Act → World → Prop} {Q : Exit → Act → World → Prop} (hK : ∀ G' a' w', Sat n G' (put o.dst z env) H a' w' → Step G H w G' H w' → K a' w') : wpOp P all Q i K a w := by
  have hdst : ∀ t, o.dst = some t → t < n := fun t e => by
    have := List.all_eq_true.1 hops o (by rw [Array.mem_toList_iff]; exact Array.mem_of_getElem? ho)
    rw [e] at this
    simpa using this
  have hq : vcQuiet P L o env H z → o.wp P a w K Q := fun hq => by
    refine Oper.wp_mono (fun a' w' hx => ?_) (vcOp_sound hL hq Q n G a w s)
    obtain ⟨v, x, G', H', rfl, hi, hs, hx, rfl, rfl⟩ := hx
    exact hK G' _ w' (s.put hs hi hx hdst) hs
  unfold wpOp
  rw [ho]
  simp only
  unfold Does at hd
  cases hg : o.guard with
  | none =>
    rw [hg] at hd
    rw [if_pos (by simp [Region.wanted, hg])]
    exact .inl (hq hd)
  | some jw =>
    obtain ⟨j, want⟩ := jw
    rw [hg] at hd
    rcases hd with ⟨b, hb, hd⟩ | ⟨ar, hb, rfl⟩
    · rw [wanted_of s hg hb hops]
      rcases hd with ⟨e, hd⟩ | ⟨e, rfl⟩
      · rw [if_pos (by simpa using e)]
        exact .inl (hq hd)
      · rw [if_neg (by simpa using e)]
        exact hK G _ w (s.put (.refl _ _ _) s.inv (.lit _) hdst) (.refl _ _ _)
    · rw [wanted_undef s hg hb hops]
      rw [if_neg (by simp)]
      exact hK G _ w (s.put (.refl _ _ _) s.inv (.lit _) hdst) (.refl _ _ _)

theorem aw_region_draw_ {P : Program} {L : Tab} (hL : TabOk P L) (hm : P.follows .mixedOrders = true) {n : Nat} {rid : Nat} {ops : List Oper} (hops : dstsOk n ops = true) (hdr : drawOk ops = true) {Q : Exit → Env → List AObj → Prop} {env : Env} {H : List AObj} (zs : Nat → AV)
    (hdoes : ∀ (i : Nat) o, ops[i]? = some o → Does P L ops o (envAt (fun j => decide (j < i)) zs 0 ops env) H (zs i)) (env' : Env) (henv : ∀ t, get (envAt (fun _ => true) zs 0 ops env) t = get env' t) (hQ : Q .normal env' H) : AW P n (.region rid ops.toArray true) Q env H := fun G a w s => by
  refine wp_region_draw fun t => ?_
  simp only [Region.schedule, hm, Bool.true_or, if_true]
  have hord : ∀ (i : Nat) o, ops[i]? = some o → ordered (befores ops []) ops i o 0 ops = true ∧ ∀ e ∈ o.after.toList, Region.binds .any e = true → e.on < i := fun i o e => by
    have := allOrdered_spec ops 0 hdr i o e
    rwa [Nat.zero_add] at this
  -- one step, whatever has been carried out
  have key : ∀ (fuel : Nat) (listed : Array Bool) (a : Act) (w' : World) (G' : Gh), listed.size = ops.length → Past ops (fun j => listed.getD j false) → Step G H w G' H w' → Sat n G' (envAt (fun j => listed.getD j false) zs 0 ops env) H a w' →
      (∀ i, i < ops.length → listed.getD i false = false → 0 < fuel) → (fuel + (listed.toList.filter id).length = ops.length) → wpAny P .any ops.toArray (Post n G H w Q) fuel listed a w' := by
    intro fuel
    induction fuel with
    | zero =>
      intro listed a w' G' hsz hpast hst hs hf _
      have hall : ∀ i, i < ops.length → listed.getD i false = true := fun i hi => by
        cases hl : listed.getD i false with
        | true => rfl
        | false => exact absurd (hf i hi hl) (Nat.lt_irrefl _)
      refine ⟨?_, G', _, H, hs.of_get fun t => (envAt_congr ops 0 env env rfl fun j o e _ => by rw [Nat.zero_add]; exact hall j (lt_of_get e)).trans (henv t), hst, hQ⟩
      unfold Region.ready
      rw [List.filter_eq_nil_iff]
      intro i hi
      have hi' : i < ops.length := by simpa using hi
      have := hall i hi'
      have h2 : listed.getD i true = true := by
        rw [Array.getD_eq_getD_getElem?, Array.getElem?_eq_getElem (by omega)] at this ⊢
        exact this
      simp [h2]
    | succ fuel ih =>
      intro listed a w' G' hsz hpast hst hs hf hcount
      refine ⟨fun hnil => ?_, fun i hi => ?_⟩
      · -- nothing is ready: all is done
        have hall : ∀ i, i < ops.length → listed.getD i false = true := by
          intro i
          induction i using Nat.strongRecOn with
          | _ i ihi =>
            intro hi
            cases hl : listed.getD i false with
            | true => rfl
            | false =>
              exfalso
              have hmem : i ∈ Region.ready .any ops.toArray listed := by
                unfold Region.ready
                rw [List.mem_filter]
                refine ⟨by simpa using hi, ?_⟩
                have h2 : listed.getD i true = false := by
                  rw [Array.getD_eq_getD_getElem?, Array.getElem?_eq_getElem (by omega)] at hl ⊢
                  exact hl
                have ho : ops.toArray[i]? = some ops[i] := by simp [hi]
                rw [h2, ho]
                simp only [Bool.not_false, Bool.true_and, Option.map_some, Option.getD_some]
                rw [Array.all_eq_true_iff_forall_mem]
                intro e he
                have := (hord i ops[i] (List.getElem?_eq_getElem hi)).2 e (Array.mem_toList_iff.2 he)
                cases hb : Region.binds .any e with
                | false => rfl
                | true =>
                  have h3 := this hb
                  rw [ihi e.on h3 (by omega)]
                  rfl
              rw [hnil] at hmem
              cases hmem
        exact ⟨G', _, H, hs.of_get fun t => (envAt_congr ops 0 env env rfl fun j o e _ => by rw [Nat.zero_add]; exact hall j (lt_of_get e)).trans (henv t), hst, hQ⟩
      · unfold Region.ready at hi
        rw [List.mem_filter] at hi
        obtain ⟨hi1, hi2⟩ := hi
        have hi' : i < ops.length := by simpa using hi1
        have ho : ops.toArray[i]? = some ops[i] := by simp [hi']
        rw [ho] at hi2
        simp only [Option.map_some, Option.getD_some, Bool.and_eq_true, Bool.not_eq_true'] at hi2
        obtain ⟨hl0, hready⟩ := hi2
        have hl : listed.getD i false = false := by
          rw [Array.getD_eq_getD_getElem?, Array.getElem?_eq_getElem (by omega)] at hl0 ⊢
          exact hl0
        have hpre : ∀ e ∈ (ops[i]).after.toList, Region.binds .any e = true → listed.getD e.on false = true := fun e he hb => by
          rw [Array.all_eq_true_iff_forall_mem] at hready
          have := hready e (Array.mem_toList_iff.1 he)
          rw [hb] at this
          simpa using this
        have hoi : ops[i]? = some ops[i] := List.getElem?_eq_getElem hi'
        obtain ⟨hor, hback⟩ := hord i ops[i] hoi
        have hbi : ∀ j, j ∈ (befores ops []).getD i [] → listed.getD j false = true := fun j hj =>
          befores_spec hpast ops [] [] rfl rfl (fun i j o hi => by simp at hi) i j ops[i] hj hoi hpre
        have hlater : ∀ (j : Nat) q, ops[j]? = some q → i ∈ (befores ops []).getD j [] → listed.getD j false = false := fun j q hq hij => by
          cases hlj : listed.getD j false with
          | false => rfl
          | true =>
            have := befores_spec hpast ops [] [] rfl rfl (fun i j o hi => by simp at hi) j i q hij hq (hpast j q hq hlj)
            rw [hl] at this
            cases this
        -- what it reads is what it read in the text's order
        have hsame : ∀ t ∈ touches ops ops[i], get (envAt (fun j => decide (j < i)) zs 0 ops env) t = get (envAt (fun j => listed.getD j false) zs 0 ops env) t := fun t ht => by
          refine envAt_congr ops 0 env env rfl fun j q hq hd => ?_
          rw [Nat.zero_add]
          by_cases hji : j = i
          · subst hji
            rw [hl]
            simp
          · have hsp := ordered_spec ops 0 hor j q t hq hd (by omega) ht
            rw [Nat.zero_add] at hsp
            rcases Nat.lt_or_ge j i with h1 | h1
            · rw [hbi j (hsp.1 h1)]
              simpa using h1
            · rw [hlater j q hq (hsp.2 (by omega))]
              simpa using h1
        have hdo := does_congr (fun t ht _ => hsame t ht) (hdoes i ops[i] hoi)
        refine does_wp hL (all := ops.toArray) (by simpa using hops) ho hdo hs fun G'' a'' w'' hs'' hst'' => ?_
        have hget : ∀ t, get (put (ops[i]).dst (zs i) (envAt (fun j => listed.getD j false) zs 0 ops env)) t = get (envAt (fun j => (listed.setIfInBounds i true).getD j false) zs 0 ops env) t := fun t => by
          have h1 := envAt_put (zs := zs) (l := fun j => listed.getD j false) (t := t) ops 0 env i ops[i] hoi (by rw [Nat.zero_add]; exact hl) (fun j q hj hq hlj hd => by
            intro hqd
            rw [Nat.zero_add] at hlj
            have hsp := ordered_spec ops 0 hor j q t hq hqd (by omega) (by unfold touches; rw [hd]; simp)
            rw [Nat.zero_add] at hsp
            have hlj' : listed.getD j false = true := hlj
            rw [hlater j q hq (hsp.2 hj)] at hlj'
            cases hlj')
          rw [Nat.zero_add] at h1
          rw [← h1]
          refine envAt_congr ops 0 env env rfl fun j q hq _ => ?_
          rw [Nat.zero_add]
          simp only [Array.getD_eq_getD_getElem?, Array.getElem?_setIfInBounds]
          by_cases hji : j = i
          · subst hji
            simp [show j < listed.size by omega]
          · simp [hji, show ¬ (i = j) from fun h => hji h.symm]
        have hgd : ∀ j, (listed.setIfInBounds i true).getD j false = if j = i then true else listed.getD j false := fun j => by
          simp only [Array.getD_eq_getD_getElem?, Array.getElem?_setIfInBounds]
          by_cases hji : j = i
          · subst hji
            simp [show j < listed.size by omega]
          · simp [hji, show ¬ (i = j) from fun h => hji h.symm]
        have hcnt : fuel + ((listed.setIfInBounds i true).toList.filter id).length = ops.length := by
          have : ((listed.setIfInBounds i true).toList.filter id).length = (listed.toList.filter id).length + 1 := by
            rw [Array.toList_setIfInBounds]
            have hli : i < listed.toList.length := by simp; omega
            have hlf : listed.toList[i] = false := by
              rw [Array.getD_eq_getD_getElem?, Array.getElem?_eq_getElem (by omega)] at hl
              simpa using hl
            have key2 : ∀ (l : List Bool) (i : Nat) (hi : i < l.length), l[i] = false → ((l.set i true).filter id).length = (l.filter id).length + 1 := by
              intro l
              induction l with
              | nil => intro i hi; simp at hi
              | cons b r ih =>
                intro i hi he
                cases i with
                | zero => simp at he; subst he; simp
                | succ i =>
                  simp only [List.set_cons_succ, List.filter_cons]
                  have := ih i (by simpa using hi) (by simpa using he)
                  cases b <;> simp [this]
            exact key2 _ i hli hlf
          omega
        refine ih _ _ _ G'' (by simp [hsz]) (fun j q hq hlj e he hb => ?_) (hst.trans hst'') (hs''.of_get hget) (fun j hj hlj => ?_) hcnt
        · simp only [hgd] at hlj ⊢
          by_cases hji : j = i
          · subst hji
            have hqe : q = ops[j] := by rw [hoi] at hq; exact (Option.some.inj hq).symm
            subst hqe
            split
            · rfl
            · exact hpre e he hb
          · rw [if_neg hji] at hlj
            split
            · rfl
            · exact hpast j q hq hlj e he hb
        · -- something is left, so there is fuel
          rcases Nat.eq_zero_or_pos fuel with h0 | h0
          · exfalso
            rw [h0, Nat.zero_add] at hcnt
            have hfull : ∀ (l : List Bool), (l.filter id).length = l.length → ∀ b ∈ l, b = true := fun l hl b hb => by
              have := List.filter_eq_self.1 (List.Sublist.eq_of_length (List.filter_sublist (l := l) (p := id)) hl) b hb
              simpa using this
            have hlen : ((listed.setIfInBounds i true).toList.filter id).length = (listed.setIfInBounds i true).toList.length := by rw [hcnt]; simp [hsz]
            have hjs : j < (listed.setIfInBounds i true).size := by simp; omega
            have := hfull _ hlen ((listed.setIfInBounds i true)[j]) (by rw [Array.mem_toList_iff]; exact Array.getElem_mem hjs)
            rw [Array.getD_eq_getD_getElem?, Array.getElem?_eq_getElem hjs] at hlj
            simp only [Option.getD_some] at hlj
            rw [this] at hlj
            cases hlj
          · exact h0
  have hcap : Sat n G (envAt (fun j => (Array.replicate ops.toArray.size false).getD j false) zs 0 ops env) H a { w with drawn := w.drawn + 1 } := by
    have h0 : ∀ t, get env t = get (envAt (fun j => (Array.replicate ops.toArray.size false).getD j false) zs 0 ops env) t := fun t => by
      have : ∀ (r : List Oper) (i : Nat) (env : Env), get env t = get (envAt (fun j => (Array.replicate ops.toArray.size false).getD j false) zs i r env) t := by
        intro r
        induction r with
        | nil => intro _ _; rfl
        | cons o r ih =>
          intro i env
          simp only [envAt]
          have : (Array.replicate ops.toArray.size false).getD i false = false := by
            rw [Array.getD_eq_getD_getElem?, Array.getElem?_replicate]
            split <;> rfl
          simp only [this, Bool.false_eq_true, if_false]
          exact ih (i + 1) env
      exact this ops 0 env
    exact Sat.of_get (env := env) (s.step step_drew (inv_drew s.inv)) h0
  refine wpAny_sound ops.toArray.size t _ a _ (key ops.toArray.size _ a _ G (by simp) (fun i o ho hl => ?_) step_drew hcap (fun i hi _ => by simp; omega) (by simp))
  simp only [Array.getD_eq_getD_getElem?, Array.getElem?_replicate] at hl
  split at hl <;> cases hl

end Go.Proofs.YtplmbhjhihoneaaGreatDoor.V
end

section
set_option linter.unusedSimpArgs false
set_option linter.unusedVariables false
namespace Go.Proofs.YtplmbhjhihoneaaGreatDoor.V
open Go

/-- What an operation that leaves the objects alone asks and gives; none: it is none of these. -/
def qOp (P : Program) (L : Tab) (o : Oper) (env : Env) (H : List AObj) : Option (Prop × AV) :=
  match o.op with
  | .move x | .assign x => qTrue (ev env x)
  | .pick c a b => qPick (ev env c) (ev env a) (ev env b)
  | .binOp op t x y _ => if nilCmp y then none else qBin L op t (isConst y) (ev env x) (ev env y)
  | .nilCheck x => qNil (ev env x)
  | .makeFunc f fs cs => qTrue (.fn f (fs.toList.map (ev env)) (cs.toList.map (ev env)))
  | .makeInterface t x => qIface L t (ev env x)
  | .unOp op _ x => qUn' op (ev env x)
  | .convert s d x => qConvH P L H s d (ev env x)
  | .extract x i => qExtract (ev env x) i
  | .indexAddr t x i => qIndexAddr L t (ev env x) (ev env i)
  | .index t x i => qIndex L t (ev env x) (ev env i)
  | .load t x => qLoad L H t (ev env x)
  | .slice t x lo hi mx => qSlice L t (ev env x) (evO env lo) (evO env hi) (evO env mx)
  | .fieldAddr t x f => qFieldAddr L t (ev env x) f
  | .field t x f => qField L t (ev env x) f
  | .build t parts => qBuild L t (evParts env parts)
  | .box _ x => qBox (ev env x)
  | _ => none
theorem qOp_vc {P : Program} {L : Tab} {o : Oper} {env : Env} {H : List AObj} {p : Prop} {z : AV} (h : qOp P L o env H = some (p, z)) (hp : p) : vcQuiet P L o env H z := by
  obtain ⟨dst, op, ty, pos, after, guard⟩ := o
  have key : ∀ (q : Option (Prop × AV)) (K : AV → List AObj → Prop), q = some (p, z) → K z H → lift q K H := fun q K e hk => by rw [e]; exact ⟨hp, hk⟩
  unfold vcQuiet
  cases op <;> simp only [qOp] at h <;> first | (simp at h; done) | (simp only [vcOp, List.contains_nil, Bool.false_eq_true, if_false]; exact key _ _ h ⟨rfl, rfl⟩) | skip
  case binOp op t x y t' =>
    simp only [vcOp]
    split at h
    · cases h
    · rename_i hn
      rw [if_neg hn]
      exact key _ _ h ⟨rfl, rfl⟩

/-- A call that leaves the objects alone, with one result. -/
def vcCallD (P : Program) (f : AV) (args : List AV) (H : List AObj) (K : AV → Prop) [Tag K] : Prop :=
  match f with
  | .fn (.func g) fs cs => ∃ z, ACalls P g (fs ++ args ++ cs) H (fun x H' => x = z ∧ H' = H) ∧ K z
  | _ => False
def liftD (q : Option (Prop × AV)) (K : AV → Prop) [Tag K] : Prop :=
  match q with
  | some (p, z) => p ∧ K z
  | none => False
theorem liftD_some {p : Prop} {z : AV} {K : AV → Prop} : liftD (some (p, z)) K = (p ∧ K z) := rfl
theorem liftD_none {K : AV → Prop} : liftD none K = False := rfl
def vcBuiltinD (L : Tab) (H : List AObj) (b : Builtin) (args : List AV) (ts : List TypeId) (K : AV → Prop) [Tag K] : Prop :=
  match b, args, ts with
  | .len, [x], [t] => liftD (qLen' L t x) K
  | .cap, [x], [t] => liftD (qCap L t x) K
  | .min, [x, y], [_, _] => liftD (qLeast false x y) K
  | .max, [x, y], [_, _] => liftD (qLeast true x y) K
  | .unsafeSliceData, [x], [_] => liftD (qSliceData H x) K
  | .unsafeString, [x, y], [pt, _] => liftD (qString L H pt x y) K
  | _, _, _ => False
def vcOpD (P : Program) (L : Tab) (o : Oper) (env : Env) (H : List AObj) (K : AV → Prop) : Prop :=
  match o.op with
  | .call c => match c.callee with
    | .value f => vcCallD P (ev env f) (c.args.toList.map (ev env)) H K
    | .builtin b => vcBuiltinD L H b (c.args.toList.map (ev env)) c.argTypes.toList K
    | _ => False
  | .buildSlice t len parts => if len = 0 ∧ parts.size ≠ 0 then False else liftD (qBuildSlice L t len (evParts env parts)) K
  | _ => liftD (qOp P L o env H) K
theorem vcOpD_sound {P : Program} {L : Tab} {o : Oper} {env : Env} {H : List AObj} {K : AV → Prop} (h : vcOpD P L o env H K) : ∃ z, vcQuiet P L o env H z ∧ K z := by
  have key : ∀ q, q = qOp P L o env H → liftD q K → ∃ z, vcQuiet P L o env H z ∧ K z := fun q e hk => by
    unfold liftD at hk
    split at hk
    · exact ⟨_, qOp_vc e.symm hk.1, hk.2⟩
    · exact hk.elim
  unfold vcOpD at h
  split at h
  · rename_i c ho
    split at h
    · rename_i f hf
      unfold vcCallD at h
      split at h
      · rename_i g fs cs ef
        obtain ⟨z, hz, hk⟩ := h
        refine ⟨z, ?_, hk⟩
        unfold vcQuiet vcOp
        rw [ho]
        simp only
        rw [hf]
        simp only
        unfold vcCall
        rw [ef]
        exact hz
      · exact h.elim
    · rename_i b hb
      unfold vcBuiltinD at h
      split at h
      case _ x t hx ht | _ x t hx ht | _ x y _ _ hx ht | _ x y _ _ hx ht | _ x _ hx ht | _ x y _ _ hx ht =>
        unfold liftD at h
        split at h
        · rename_i p z hq
          refine ⟨z, ?_, h.2⟩
          unfold vcQuiet vcOp
          rw [ho]
          simp only
          rw [hb]
          simp only
          rw [hx, ht]
          unfold vcBuiltin
          simp only
          try (split; · simp [qString] at hq)
          rw [hq]
          exact ⟨h.1, rfl, rfl⟩
        · exact h.elim
      · exact h.elim
    · exact h.elim
  · rename_i t len parts ho
    split at h
    · exact h.elim
    · rename_i hne
      unfold liftD at h
      split at h
      · rename_i p z hq
        refine ⟨z, ?_, h.2⟩
        unfold vcQuiet vcOp
        rw [ho]
        simp only
        rw [if_neg hne, hq]
        exact ⟨h.1, rfl, rfl⟩
      · exact h.elim
  · exact key _ rfl h

def vcDraw (P : Program) (L : Tab) (all : List Oper) : List Oper → Env → List AObj → (Env → List AObj → Prop) → Prop
  | [], env, H, K => K env H
  | o :: rest, env, H, K =>
    match o.guard with
    | none => vcOpD P L o env H fun z => vcDraw P L all rest (put o.dst z env) H K
    | some (j, want) => vcGuard (gval all env j) want (vcOpD P L o (known1 all j want env) H fun z => vcDraw P L all rest (put o.dst z (known1 all j want env)) H K) (vcDraw P L all rest (put o.dst (.lit undef) (known1 all j (!want) env)) H K) (vcDraw P L all rest (put o.dst (.lit undef) env) H K)

theorem envAt_none {zs : Nat → AV} {l : Nat → Bool} : ∀ (r : List Oper) (i : Nat) (env : Env), (∀ j, j < r.length → l (i + j) = false) → envAt l zs i r env = env
  | [], _, _, _ => rfl
  | o :: r, i, env, h => by
    have h0 := h 0 (by simp)
    rw [Nat.add_zero] at h0
    simp only [envAt, h0, Bool.false_eq_true, if_false]
    exact envAt_none r (i + 1) env fun j hj => by have := h (j + 1) (by simp; omega); rwa [show i + (j + 1) = i + 1 + j by omega] at this
theorem envAt_zs {zs zs' : Nat → AV} {l l' : Nat → Bool} : ∀ (r : List Oper) (i : Nat) (env : Env), (∀ j, j < r.length → zs (i + j) = zs' (i + j) ∧ l (i + j) = l' (i + j)) → envAt l zs i r env = envAt l' zs' i r env
  | [], _, _, _ => rfl
  | o :: r, i, env, h => by
    obtain ⟨h0, h1⟩ := h 0 (by simp)
    rw [Nat.add_zero] at h0 h1
    simp only [envAt, h0, h1]
    exact envAt_zs r (i + 1) _ fun j hj => by have := h (j + 1) (by simp; omega); rwa [show i + (j + 1) = i + 1 + j by omega] at this

theorem get_known {all : List Oper} {j : Nat} {b : Bool} {env : Env} (hb : gval all env j = .lit (.bool b)) (t : Nat) : get (known1 all j b env) t = get env t := by
  unfold known1
  rw [get_put]
  unfold gval at hb
  split
  · rename_i hd
    rw [hd] at hb
    exact hb.symm
  · rfl
theorem gval_congr {all : List Oper} {j : Nat} {env env' : Env} (h : ∀ t, get env t = get env' t) : gval all env j = gval all env' j := by
  unfold gval
  split
  · exact h _
  · rfl
theorem vcDraw_sound {P : Program} {L : Tab} {all : List Oper} {H : List AObj} {K : Env → List AObj → Prop} : ∀ (r : List Oper) (i : Nat) (env env₀ : Env), (∀ t, get env t = get env₀ t) → vcDraw P L all r env H K →
    ∃ (zs : Nat → AV) (env' : Env), (∀ (k : Nat) o, r[k]? = some o → Does P L all o (envAt (fun j => decide (j < i + k)) zs i r env₀) H (zs (i + k))) ∧ (∀ t, get (envAt (fun _ => true) zs i r env₀) t = get env' t) ∧ K env' H
  | [], i, env, env₀, he, h => ⟨fun _ => .any, env, fun k o e => by simp at e, fun t => (he t).symm, h⟩
  | o :: r, i, env, env₀, he, h => by
    have fin : ∀ z env₁, (∀ t, get env₁ t = get env₀ t) → Does P L all o env₀ H z → vcDraw P L all r (put o.dst z env₁) H K →
        ∃ (zs : Nat → AV) (env' : Env), (∀ (k : Nat) q, (o :: r)[k]? = some q → Does P L all q (envAt (fun j => decide (j < i + k)) zs i (o :: r) env₀) H (zs (i + k))) ∧ (∀ t, get (envAt (fun _ => true) zs i (o :: r) env₀) t = get env' t) ∧ K env' H := fun z env₁ he₁ hz hr => by
      obtain ⟨zs, env', h1, h2, h3⟩ := vcDraw_sound r (i + 1) _ (put o.dst z env₀) (fun t => by rw [get_put, get_put, he₁ t]) hr
      refine ⟨fun j => if j = i then z else zs j, env', fun k q e => ?_, fun t => ?_, h3⟩
      · cases k with
        | zero =>
          simp only [List.getElem?_cons_zero, Option.some.injEq] at e
          subst e
          rw [envAt_none _ _ _ fun j _ => by simp]
          simpa using hz
        | succ k =>
          have := h1 k q (by simpa using e)
          have e1 : envAt (fun j => decide (j < i + (k + 1))) (fun j => if j = i then z else zs j) i (o :: r) env₀ = envAt (fun j => decide (j < i + 1 + k)) zs (i + 1) r (put o.dst z env₀) := by
            simp only [envAt, show i < i + (k + 1) by omega, decide_true, if_true]
            exact envAt_zs r (i + 1) _ fun j _ => ⟨by rw [if_neg (by omega)], by rw [show i + (k + 1) = i + 1 + k by omega]⟩
          rw [e1]
          simp only [show ¬ (i + (k + 1) = i) by omega, if_false]
          rwa [show i + (k + 1) = i + 1 + k by omega]
      · have e1 : envAt (fun _ => true) (fun j => if j = i then z else zs j) i (o :: r) env₀ = envAt (fun _ => true) zs (i + 1) r (put o.dst z env₀) := by
          simp only [envAt, if_true]
          exact envAt_zs r (i + 1) _ fun j _ => ⟨by rw [if_neg (by omega)], rfl⟩
        rw [e1]
        exact h2 t
    have hq : ∀ env₁ z, (∀ t, get env₁ t = get env₀ t) → vcQuiet P L o env₁ H z → vcQuiet P L o env₀ H z := fun env₁ z he₁ hz => by
      unfold vcQuiet at hz ⊢
      rwa [← vcOp_congr (env := env₁) fun x _ t _ => he₁ t]
    unfold vcDraw at h
    cases hg : o.guard with
    | none =>
      rw [hg] at h
      obtain ⟨z, hz, hk⟩ := vcOpD_sound h
      exact fin z env he (by unfold Does; rw [hg]; exact hq env z he hz) hk
    | some jw =>
      obtain ⟨j, want⟩ := jw
      rw [hg] at h
      simp only [vcGuard] at h
      split at h
      · rename_i b hb
        have hb0 : gval all env₀ j = .lit (.bool b) := by rw [← gval_congr he]; exact hb
        by_cases e : b = want
        · subst e
          have he₁ : ∀ t, get (known1 all j b env) t = get env₀ t := fun t => (get_known hb t).trans (he t)
          obtain ⟨z, hz, hk⟩ := vcOpD_sound (h.1 rfl)
          exact fin z _ he₁ (by unfold Does; rw [hg]; exact .inl ⟨b, hb0, .inl ⟨rfl, hq _ z he₁ hz⟩⟩) hk
        · have hbn : b = !want := by cases b <;> cases want <;> simp_all
          have he₁ : ∀ t, get (known1 all j (!want) env) t = get env₀ t := fun t => (get_known (hbn ▸ hb) t).trans (he t)
          exact fin (.lit undef) _ he₁ (by unfold Does; rw [hg]; exact .inl ⟨b, hb0, .inr ⟨e, rfl⟩⟩) (h.2 e)
      · rename_i ar hb
        exact fin (.lit undef) env he (by unfold Does; rw [hg]; exact .inr ⟨ar, by rw [← gval_congr he]; exact hb, rfl⟩) h
      · exact h.elim
theorem aw_region_draw {P : Program} {L : Tab} (hL : TabOk P L) (hm : P.follows .mixedOrders = true) {n : Nat} {rid : Nat} {ops : List Oper} (hops : dstsOk n ops = true) (hdr : drawOk ops = true) {Q : Exit → Env → List AObj → Prop} {env : Env} {H : List AObj}
    (h : vcDraw P L ops ops env H (Q .normal)) : AW P n (.region rid ops.toArray true) Q env H := by
  obtain ⟨zs, env', h1, h2, h3⟩ := vcDraw_sound ops 0 env env (fun _ => rfl) h
  exact aw_region_draw_ hL hm hops hdr zs (fun i o e => by have := h1 i o e; rwa [Nat.zero_add] at this) env' h2 h3

end Go.Proofs.YtplmbhjhihoneaaGreatDoor.V
end

section
set_option linter.unusedSimpArgs false
set_option linter.unusedVariables false
namespace Go.Proofs.YtplmbhjhihoneaaGreatDoor.V
open Go

/-- What the operation gives hangs on its operands alone. -/
def pureOp (mu : List Nat) (o : Oper) : Bool :=
  match o.op with
  | .move _ | .assign _ | .pick _ _ _ | .unOp .. | .extract .. | .index .. | .indexAddr .. | .fieldAddr .. | .field .. | .build .. | .slice .. | .nilCheck .. | .makeFunc .. | .makeInterface .. => true
  | .binOp _ _ _ y _ => !nilCmp y
  | .box _ _ => !mu.contains (o.dst.getD 0)
  | .call c => match c.callee with
    | .builtin .len | .builtin .cap | .builtin .min | .builtin .max => true
    | _ => false
  | _ => false
theorem lift_pure {q : Option (Prop × AV)} {z : AV} {H H' : List AObj} (h : lift q (fun x H'' => x = z ∧ H'' = H) H) : lift q (fun x H'' => x = z ∧ H'' = H') H' := by
  unfold lift at h ⊢
  split at h
  · exact ⟨h.1, h.2.1, rfl⟩
  · exact h.elim
theorem pure_any {P : Program} {L : Tab} {mu : List Nat} {o : Oper} {env : Env} {H H' : List AObj} {z : AV} (hp : pureOp mu o = true) (h : vcOp P L mu o env H fun x H'' => x = z ∧ H'' = H) : vcOp P L mu o env H' fun x H'' => x = z ∧ H'' = H' := by
  obtain ⟨dst, op, ty, pos, after, guard⟩ := o
  cases op <;> simp only [pureOp, vcOp, Bool.false_eq_true] at hp h ⊢ <;> first | exact lift_pure h | skip
  case box e x =>
    rw [Bool.not_eq_true'] at hp
    simp only [hp, Bool.false_eq_true, if_false] at h ⊢
    exact lift_pure h
  case binOp op t x y t' =>
    rw [Bool.not_eq_true'] at hp
    simp only [hp, Bool.false_eq_true, if_false] at h ⊢
    exact lift_pure h
  case call c =>
    obtain ⟨callee, args, ats⟩ := c
    cases callee with
    | builtin b =>
      cases b <;> simp only [Bool.false_eq_true] at hp
      all_goals
        simp only at h ⊢
        unfold vcBuiltin at h ⊢
        split at h <;> first | exact lift_pure h | (rename_i e _ _ ; cases e; done) | exact h.elim
    | value f => simp at hp
    | invoke r m => simp at hp

/-- May the operation change the objects? -/
def effOp (mu : List Nat) (o : Oper) : Bool :=
  match o.op with
  | .store .. | .alloc .. | .makeSlice .. => true
  | .box .. | .buildSlice .. | .convert .. => mu.contains (o.dst.getD 0)
  | .call c => match c.callee with
    | .value _ => !mu.contains (2000000 + o.dst.getD 0)
    | .builtin .append | .builtin .copy | .invoke .. => true
    | _ => false
  | _ => false
/-- A reader and a writer whose order is open. -/
def raceCode (rid i j : Nat) : Nat := 1000000000000 + (rid * 1000 + i) * 1000 + j
theorem race_eq {rid i j : Nat} : raceCode rid i j = 1000000000000 + (rid * 1000 + i) * 1000 + j := rfl
attribute [irreducible] raceCode
def chainRow (rid : Nat) (bs : List (List Nat)) (mu : List Nat) (j : Nat) (q : Oper) : Nat → List Oper → Bool
  | _, [] => true
  | i, o :: r => (if i = j then true
      else if effOp mu o then
        (if effOp mu q then decide (j < i) || (bs.getD j []).contains i
         else pureOp mu q || (bs.getD j []).contains i || (bs.getD i []).contains j || mu.contains (raceCode rid j i))
      else true) && chainRow rid bs mu j q (i + 1) r
def chainAll (rid : Nat) (bs : List (List Nat)) (mu : List Nat) (ops : List Oper) : Nat → List Oper → Bool
  | _, [] => true
  | j, o :: r => chainRow rid bs mu j o 0 ops && chainAll rid bs mu ops (j + 1) r
/-- Those that may change the objects stand in a chain; the races are listed. -/
def chainOk (rid : Nat) (mu : List Nat) (ops : List Oper) : Bool := chainAll rid (befores ops []) mu ops 0 ops
theorem chainRow_spec {rid : Nat} {bs : List (List Nat)} {mu : List Nat} {j : Nat} {q : Oper} : ∀ (r : List Oper) (s : Nat), chainRow rid bs mu j q s r = true → ∀ (i : Nat) o, r[i]? = some o → s + i ≠ j → effOp mu o = true →
    (effOp mu q = true → s + i < j → s + i ∈ bs.getD j []) ∧ (effOp mu q = false → pureOp mu q = false → s + i ∈ bs.getD j [] ∨ j ∈ bs.getD (s + i) [] ∨ mu.contains (raceCode rid j (s + i)) = true)
  | [], _, _, i, o, e, _, _ => by simp at e
  | p :: r, s, h, 0, o, e, hi, hp => by
    simp only [List.getElem?_cons_zero, Option.some.injEq] at e
    subst e
    simp only [Nat.add_zero] at hi ⊢
    simp only [chainRow, Bool.and_eq_true] at h
    have := h.1
    rw [if_neg hi, if_pos hp] at this
    refine ⟨fun hq hlt => ?_, fun hq hpu => ?_⟩
    · rw [if_pos hq] at this
      simp only [Bool.or_eq_true, decide_eq_true_eq] at this
      rcases this with h1 | h1
      · omega
      · simpa using h1
    · rw [hq, hpu] at this
      simp only [Bool.false_eq_true, if_false, Bool.false_or, Bool.or_eq_true] at this
      rcases this with (h1 | h1) | h1
      · exact .inl (by simpa using h1)
      · exact .inr (.inl (by simpa using h1))
      · exact .inr (.inr h1)
  | p :: r, s, h, i + 1, o, e, hi, hp => by
    simp only [chainRow, Bool.and_eq_true] at h
    have := chainRow_spec r (s + 1) h.2 i o (by simpa using e) (by omega) hp
    rwa [show s + 1 + i = s + (i + 1) by omega] at this
theorem chainAll_spec {rid : Nat} {bs : List (List Nat)} {mu : List Nat} {ops : List Oper} : ∀ (r : List Oper) (s : Nat), chainAll rid bs mu ops s r = true → ∀ (j : Nat) o, r[j]? = some o → chainRow rid bs mu (s + j) o 0 ops = true
  | [], _, _, j, o, e => by simp at e
  | q :: r, s, h, 0, o, e => by
    simp only [List.getElem?_cons_zero, Option.some.injEq] at e
    subst e
    simp only [chainAll, Bool.and_eq_true] at h
    exact h.1
  | q :: r, s, h, j + 1, o, e => by
    simp only [chainAll, Bool.and_eq_true] at h
    have := chainAll_spec r (s + 1) h.2 j o (by simpa using e)
    rwa [show s + 1 + j = s + (j + 1) by omega] at this
theorem chainOk_spec {rid : Nat} {mu : List Nat} {ops : List Oper} (h : chainOk rid mu ops = true) {i j : Nat} {o q : Oper} (hj : ops[j]? = some q) (hi : ops[i]? = some o) (hij : i < j) (hq : effOp mu q = true) (ho : effOp mu o = true) : i ∈ (befores ops []).getD j [] := by
  have := chainAll_spec ops 0 h j q hj
  rw [Nat.zero_add] at this
  have := (chainRow_spec ops 0 this i o hi (by omega) ho).1 hq (by omega)
  rwa [Nat.zero_add] at this
theorem chainOk_race {rid : Nat} {mu : List Nat} {ops : List Oper} (h : chainOk rid mu ops = true) {i j : Nat} {o q : Oper} (hj : ops[j]? = some q) (hi : ops[i]? = some o) (hij : i ≠ j) (hq : effOp mu q = false) (hpq : pureOp mu q = false) (ho : effOp mu o = true) :
    i ∈ (befores ops []).getD j [] ∨ j ∈ (befores ops []).getD i [] ∨ mu.contains (raceCode rid j i) = true := by
  have := chainAll_spec ops 0 h j q hj
  rw [Nat.zero_add] at this
  have := (chainRow_spec ops 0 this i o hi (by omega) ho).2 hq hpq
  rwa [Nat.zero_add] at this

/-- What the text's order gives: each operation's result and objects, or that it is passed over. -/
def DoesE (P : Program) (L : Tab) (mu : List Nat) (all : List Oper) (o : Oper) (env : Env) (H : List AObj) (z : AV) (H' : List AObj) : Prop :=
  match o.guard with
  | none => vcOp P L mu o env H fun x H'' => x = z ∧ H'' = H'
  | some (j, want) => (∃ b, gval all env j = .lit (.bool b) ∧ ((b = want ∧ vcOp P L mu o env H fun x H'' => x = z ∧ H'' = H') ∨ (b ≠ want ∧ z = .lit undef ∧ H' = H))) ∨ (∃ ar, gval all env j = .lit (.tuple ar) ∧ z = .lit undef ∧ H' = H)
theorem doesE_congr {P : Program} {L : Tab} {mu : List Nat} {all : List Oper} {o : Oper} {env env' : Env} {H H' : List AObj} {z : AV} (h : ∀ t ∈ touches all o, get env t = get env' t) : DoesE P L mu all o env H z H' → DoesE P L mu all o env' H z H' := by
  have hq : vcOp P L mu o env H (fun x H'' => x = z ∧ H'' = H') = vcOp P L mu o env' H (fun x H'' => x = z ∧ H'' = H') :=
    vcOp_congr fun x hx t ht => h t (by
      unfold touches
      refine List.mem_append.2 (.inl (List.mem_append.2 (.inl (List.mem_filterMap.2 ⟨x, hx, by rw [ht]⟩)))))
  unfold DoesE
  cases hg : o.guard with
  | none => simp only; rw [hq]; exact id
  | some jw =>
    obtain ⟨j, want⟩ := jw
    simp only
    have hgv : gval all env j = gval all env' j := by
      unfold gval
      cases hj : (all[j]?).bind (·.dst) with
      | none => rfl
      | some d => exact h d (by unfold touches; rw [hg]; simp [hj])
    rw [hq, hgv]
    exact id
theorem doesE_pure {P : Program} {L : Tab} {mu : List Nat} {all : List Oper} {o : Oper} {env : Env} {H H' : List AObj} {z : AV} (hp : pureOp mu o = true) (h : DoesE P L mu all o env H z H) : DoesE P L mu all o env H' z H' := by
  unfold DoesE at h ⊢
  cases hg : o.guard with
  | none =>
    rw [hg] at h
    exact pure_any hp h
  | some jw =>
    obtain ⟨j, want⟩ := jw
    rw [hg] at h
    rcases h with ⟨b, hb, ⟨e, hd⟩ | ⟨e, hz, _⟩⟩ | ⟨ar, hb, hz, _⟩
    · exact .inl ⟨b, hb, .inl ⟨e, pure_any hp hd⟩⟩
    · exact .inl ⟨b, hb, .inr ⟨e, hz, rfl⟩⟩
    · exact .inr ⟨ar, hb, hz, rfl⟩
theorem doesE_wp {P : Program} {L : Tab} (hL : TabOk P L) {mu : List Nat} {n : Nat} {all : Array Oper} (hops : dstsOk n all.toList = true) {i : Nat} {o : Oper} (ho : all[i]? = some o) {env : Env} {H H' : List AObj} {z : AV} (hd : DoesE P L mu all.toList o env H z H')
    {G : Gh} {a : Act} {w : World} (s : Sat n G env H a w) {K : Act → World → Prop} {Q : Exit → Act → World → Prop} (hK : ∀ G' a' w', Sat n G' (put o.dst z env) H' a' w' → Step G H w G' H' w' → K a' w') : wpOp P all Q i K a w := by
  have hdst : ∀ t, o.dst = some t → t < n := fun t e => by
    have := List.all_eq_true.1 hops o (by rw [Array.mem_toList_iff]; exact Array.mem_of_getElem? ho)
    rw [e] at this
    simpa using this
  have hq : (vcOp P L mu o env H fun x H'' => x = z ∧ H'' = H') → o.wp P a w K Q := fun hq => by
    refine Oper.wp_mono (fun a' w' hx => ?_) (vcOp_sound hL hq Q n G a w s)
    obtain ⟨v, x, G', H'', rfl, hi, hs, hx, rfl, rfl⟩ := hx
    exact hK G' _ w' (s.put hs hi hx hdst) hs
  unfold wpOp
  rw [ho]
  simp only
  unfold DoesE at hd
  cases hg : o.guard with
  | none =>
    rw [hg] at hd
    rw [if_pos (by simp [Region.wanted, hg])]
    exact .inl (hq hd)
  | some jw =>
    obtain ⟨j, want⟩ := jw
    rw [hg] at hd
    rcases hd with ⟨b, hb, hd⟩ | ⟨ar, hb, rfl, rfl⟩
    · rw [wanted_of s hg hb hops]
      rcases hd with ⟨e, hd⟩ | ⟨e, rfl, rfl⟩
      · rw [if_pos (by simpa using e)]
        exact .inl (hq hd)
      · rw [if_neg (by simpa using e)]
        exact hK G _ w (s.put (.refl _ _ _) s.inv (.lit _) hdst) (.refl _ _ _)
    · rw [wanted_undef s hg hb hops]
      rw [if_neg (by simp)]
      exact hK G _ w (s.put (.refl _ _ _) s.inv (.lit _) hdst) (.refl _ _ _)

theorem aw_region_chain_ {P : Program} {L : Tab} (hL : TabOk P L) (hm : P.follows .mixedOrders = true) (mu : List Nat) {n : Nat} {rid : Nat} {ops : List Oper} (hops : dstsOk n ops = true) (hdr : drawOk ops = true) (hch : chainOk rid mu ops = true) {Q : Exit → Env → List AObj → Prop} {env : Env} {H : List AObj} (zs : Nat → AV) (oh : Nat → List AObj) (oh0 : oh 0 = H) (hpure : ∀ (i : Nat) o, ops[i]? = some o → effOp mu o = false → oh (i + 1) = oh i)
    (hstay : ∀ (i : Nat) o, ops[i]? = some o → effOp mu o = false → ∀ m, m ≤ ops.length → (∀ j q, ops[j]? = some q → effOp mu q = true → m ≤ j → j < i → j ∉ (befores ops []).getD i []) → (∀ j q, ops[j]? = some q → effOp mu q = true → i < j → j < m → i ∉ (befores ops []).getD j []) → DoesE P L mu ops o (envAt (fun j => decide (j < i)) zs 0 ops env) (oh m) (zs i) (oh m))
    (hdoes : ∀ (i : Nat) o, ops[i]? = some o → DoesE P L mu ops o (envAt (fun j => decide (j < i)) zs 0 ops env) (oh i) (zs i) (oh (i + 1))) (env' : Env) (henv : ∀ t, get (envAt (fun _ => true) zs 0 ops env) t = get env' t) (hQ : Q .normal env' (oh ops.length)) : AW P n (.region rid ops.toArray true) Q env H := fun G a w s => by
  refine wp_region_draw fun t => ?_
  simp only [Region.schedule, hm, Bool.true_or, if_true]
  have hord : ∀ (i : Nat) o, ops[i]? = some o → ordered (befores ops []) ops i o 0 ops = true ∧ ∀ e ∈ o.after.toList, Region.binds .any e = true → e.on < i := fun i o e => by
    have := allOrdered_spec ops 0 hdr i o e
    rwa [Nat.zero_add] at this
  have ohc : ∀ d a, a + d ≤ ops.length → (∀ j o, a ≤ j → j < a + d → ops[j]? = some o → effOp mu o = false) → oh (a + d) = oh a := by
    intro d
    induction d with
    | zero => intro a _ _; rfl
    | succ d ih =>
      intro a hl h
      have hlt : a + d < ops.length := by omega
      rw [show a + (d + 1) = a + d + 1 by omega, hpure (a + d) ops[a + d] (List.getElem?_eq_getElem hlt) (h (a + d) _ (by omega) (by omega) (List.getElem?_eq_getElem hlt))]
      exact ih a (by omega) fun j o h1 h2 e => h j o h1 (by omega) e
  -- one step, whatever has been carried out
  have key : ∀ (fuel : Nat) (listed : Array Bool) (a : Act) (w' : World) (G' : Gh) (m : Nat), m ≤ ops.length → (∀ j o, j < m → ops[j]? = some o → effOp mu o = true → listed.getD j false = true) → (∀ j o, m ≤ j → ops[j]? = some o → effOp mu o = true → listed.getD j false = false) → listed.size = ops.length → Past ops (fun j => listed.getD j false) → Step G H w G' (oh m) w' → Sat n G' (envAt (fun j => listed.getD j false) zs 0 ops env) (oh m) a w' →
      (∀ i, i < ops.length → listed.getD i false = false → 0 < fuel) → (fuel + (listed.toList.filter id).length = ops.length) → wpAny P .any ops.toArray (Post n G H w Q) fuel listed a w' := by
    intro fuel
    induction fuel with
    | zero =>
      intro listed a w' G' m hm1 hlo hhi hsz hpast hst hs hf _
      have hall : ∀ i, i < ops.length → listed.getD i false = true := fun i hi => by
        cases hl : listed.getD i false with
        | true => rfl
        | false => exact absurd (hf i hi hl) (Nat.lt_irrefl _)
      have hend : oh ops.length = oh m := by
        have := ohc (ops.length - m) m (by omega) fun j o h1 h2 e => by
          cases hp : effOp mu o with
          | false => rfl
          | true =>
            have h3 := hhi j o h1 e hp
            rw [hall j (lt_of_get e)] at h3
            cases h3
        rwa [show m + (ops.length - m) = ops.length by omega] at this
      rw [hend] at hQ
      refine ⟨?_, G', _, oh m, hs.of_get fun t => (envAt_congr ops 0 env env rfl fun j o e _ => by rw [Nat.zero_add]; exact hall j (lt_of_get e)).trans (henv t), hst, hQ⟩
      unfold Region.ready
      rw [List.filter_eq_nil_iff]
      intro i hi
      have hi' : i < ops.length := by simpa using hi
      have := hall i hi'
      have h2 : listed.getD i true = true := by
        rw [Array.getD_eq_getD_getElem?, Array.getElem?_eq_getElem (by omega)] at this ⊢
        exact this
      simp [h2]
    | succ fuel ih =>
      intro listed a w' G' m hm1 hlo hhi hsz hpast hst hs hf hcount
      refine ⟨fun hnil => ?_, fun i hi => ?_⟩
      · -- nothing is ready: all is done
        have hall : ∀ i, i < ops.length → listed.getD i false = true := by
          intro i
          induction i using Nat.strongRecOn with
          | _ i ihi =>
            intro hi
            cases hl : listed.getD i false with
            | true => rfl
            | false =>
              exfalso
              have hmem : i ∈ Region.ready .any ops.toArray listed := by
                unfold Region.ready
                rw [List.mem_filter]
                refine ⟨by simpa using hi, ?_⟩
                have h2 : listed.getD i true = false := by
                  rw [Array.getD_eq_getD_getElem?, Array.getElem?_eq_getElem (by omega)] at hl ⊢
                  exact hl
                have ho : ops.toArray[i]? = some ops[i] := by simp [hi]
                rw [h2, ho]
                simp only [Bool.not_false, Bool.true_and, Option.map_some, Option.getD_some]
                rw [Array.all_eq_true_iff_forall_mem]
                intro e he
                have := (hord i ops[i] (List.getElem?_eq_getElem hi)).2 e (Array.mem_toList_iff.2 he)
                cases hb : Region.binds .any e with
                | false => rfl
                | true =>
                  have h3 := this hb
                  rw [ihi e.on h3 (by omega)]
                  rfl
              rw [hnil] at hmem
              cases hmem
        have hend : oh ops.length = oh m := by
          have := ohc (ops.length - m) m (by omega) fun j o h1 h2 e => by
            cases hp : effOp mu o with
            | false => rfl
            | true =>
              have h3 := hhi j o h1 e hp
              rw [hall j (lt_of_get e)] at h3
              cases h3
          rwa [show m + (ops.length - m) = ops.length by omega] at this
        rw [hend] at hQ
        exact ⟨G', _, oh m, hs.of_get fun t => (envAt_congr ops 0 env env rfl fun j o e _ => by rw [Nat.zero_add]; exact hall j (lt_of_get e)).trans (henv t), hst, hQ⟩
      · unfold Region.ready at hi
        rw [List.mem_filter] at hi
        obtain ⟨hi1, hi2⟩ := hi
        have hi' : i < ops.length := by simpa using hi1
        have ho : ops.toArray[i]? = some ops[i] := by simp [hi']
        rw [ho] at hi2
        simp only [Option.map_some, Option.getD_some, Bool.and_eq_true, Bool.not_eq_true'] at hi2
        obtain ⟨hl0, hready⟩ := hi2
        have hl : listed.getD i false = false := by
          rw [Array.getD_eq_getD_getElem?, Array.getElem?_eq_getElem (by omega)] at hl0 ⊢
          exact hl0
        have hpre : ∀ e ∈ (ops[i]).after.toList, Region.binds .any e = true → listed.getD e.on false = true := fun e he hb => by
          rw [Array.all_eq_true_iff_forall_mem] at hready
          have := hready e (Array.mem_toList_iff.1 he)
          rw [hb] at this
          simpa using this
        have hoi : ops[i]? = some ops[i] := List.getElem?_eq_getElem hi'
        obtain ⟨hor, hback⟩ := hord i ops[i] hoi
        have hbi : ∀ j, j ∈ (befores ops []).getD i [] → listed.getD j false = true := fun j hj =>
          befores_spec hpast ops [] [] rfl rfl (fun i j o hi => by simp at hi) i j ops[i] hj hoi hpre
        have hlater : ∀ (j : Nat) q, ops[j]? = some q → i ∈ (befores ops []).getD j [] → listed.getD j false = false := fun j q hq hij => by
          cases hlj : listed.getD j false with
          | false => rfl
          | true =>
            have := befores_spec hpast ops [] [] rfl rfl (fun i j o hi => by simp at hi) j i q hij hq (hpast j q hq hlj)
            rw [hl] at this
            cases this
        -- what it reads is what it read in the text's order
        have hsame : ∀ t ∈ touches ops ops[i], get (envAt (fun j => decide (j < i)) zs 0 ops env) t = get (envAt (fun j => listed.getD j false) zs 0 ops env) t := fun t ht => by
          refine envAt_congr ops 0 env env rfl fun j q hq hd => ?_
          rw [Nat.zero_add]
          by_cases hji : j = i
          · subst hji
            rw [hl]
            simp
          · have hsp := ordered_spec ops 0 hor j q t hq hd (by omega) ht
            rw [Nat.zero_add] at hsp
            rcases Nat.lt_or_ge j i with h1 | h1
            · rw [hbi j (hsp.1 h1)]
              simpa using h1
            · rw [hlater j q hq (hsp.2 (by omega))]
              simpa using h1
        have hdo0 := doesE_congr (fun t ht => hsame t ht) (hdoes i ops[i] hoi)
        -- the objects are those that it finds in the text's order, if it looks at them
        obtain ⟨m', hm2, hlo', hhi', hdo⟩ : ∃ m', m' ≤ ops.length ∧ (∀ j o, j < m' → ops[j]? = some o → effOp mu o = true → (if j = i then true else listed.getD j false) = true) ∧ (∀ j o, m' ≤ j → ops[j]? = some o → effOp mu o = true → (if j = i then true else listed.getD j false) = false) ∧ DoesE P L mu ops ops[i] (envAt (fun j => listed.getD j false) zs 0 ops env) (oh m) (zs i) (oh m') := by
          cases hp : effOp mu ops[i] with
          | false =>
            refine ⟨m, hm1, fun j o hj e hp' => ?_, fun j o hj e hp' => ?_, ?_⟩
            · split
              · rfl
              · exact hlo j o hj e hp'
            · have : j ≠ i := fun e' => by subst e'; rw [hoi] at e; cases e; rw [hp] at hp'; cases hp'
              rw [if_neg this]
              exact hhi j o hj e hp'
            · refine doesE_congr (fun t ht => hsame t ht) (hstay i ops[i] hoi hp m hm1 (fun j q e hq hmj _ hb => ?_) (fun j q e hq _ hjm hb => ?_))
              · have h1 := hhi j q hmj e hq
                rw [hbi j hb] at h1
                cases h1
              · have h1 := hlo j q hjm e hq
                rw [hlater j q e hb] at h1
                cases h1
          | true =>
            have hbef : ∀ j o, j < i → ops[j]? = some o → effOp mu o = true → listed.getD j false = true := fun j o hj e hp' =>
              hbi j (chainOk_spec hch hoi e hj hp hp')
            have haft : ∀ j o, i < j → ops[j]? = some o → effOp mu o = true → listed.getD j false = false := fun j o hj e hp' =>
              hlater j o e (chainOk_spec hch e hoi hj hp' hp)
            have hmi : m ≤ i := by
              rcases Nat.lt_or_ge i m with h1 | h1
              · have := hlo i _ h1 hoi hp
                rw [hl] at this
                cases this
              · exact h1
            have hom : oh i = oh m := by
              have := ohc (i - m) m (by omega) fun j o h1 h2 e => by
                cases hp' : effOp mu o with
                | false => rfl
                | true =>
                  have h3 := hhi j o h1 e hp'
                  rw [hbef j o (by omega) e hp'] at h3
                  cases h3
              rwa [show m + (i - m) = i by omega] at this
            refine ⟨i + 1, by omega, fun j o hj e hp' => ?_, fun j o hj e hp' => ?_, ?_⟩
            · split
              · rfl
              · exact hbef j o (by omega) e hp'
            · rw [if_neg (by omega)]
              exact haft j o (by omega) e hp'
            · rw [← hom]
              exact hdo0
        refine doesE_wp hL (all := ops.toArray) (by simpa using hops) ho hdo hs fun G'' a'' w'' hs'' hst'' => ?_
        have hget : ∀ t, get (put (ops[i]).dst (zs i) (envAt (fun j => listed.getD j false) zs 0 ops env)) t = get (envAt (fun j => (listed.setIfInBounds i true).getD j false) zs 0 ops env) t := fun t => by
          have h1 := envAt_put (zs := zs) (l := fun j => listed.getD j false) (t := t) ops 0 env i ops[i] hoi (by rw [Nat.zero_add]; exact hl) (fun j q hj hq hlj hd => by
            intro hqd
            rw [Nat.zero_add] at hlj
            have hsp := ordered_spec ops 0 hor j q t hq hqd (by omega) (by unfold touches; rw [hd]; simp)
            rw [Nat.zero_add] at hsp
            have hlj' : listed.getD j false = true := hlj
            rw [hlater j q hq (hsp.2 hj)] at hlj'
            cases hlj')
          rw [Nat.zero_add] at h1
          rw [← h1]
          refine envAt_congr ops 0 env env rfl fun j q hq _ => ?_
          rw [Nat.zero_add]
          simp only [Array.getD_eq_getD_getElem?, Array.getElem?_setIfInBounds]
          by_cases hji : j = i
          · subst hji
            simp [show j < listed.size by omega]
          · simp [hji, show ¬ (i = j) from fun h => hji h.symm]
        have hgd : ∀ j, (listed.setIfInBounds i true).getD j false = if j = i then true else listed.getD j false := fun j => by
          simp only [Array.getD_eq_getD_getElem?, Array.getElem?_setIfInBounds]
          by_cases hji : j = i
          · subst hji
            simp [show j < listed.size by omega]
          · simp [hji, show ¬ (i = j) from fun h => hji h.symm]
        have hcnt : fuel + ((listed.setIfInBounds i true).toList.filter id).length = ops.length := by
          have : ((listed.setIfInBounds i true).toList.filter id).length = (listed.toList.filter id).length + 1 := by
            rw [Array.toList_setIfInBounds]
            have hli : i < listed.toList.length := by simp; omega
            have hlf : listed.toList[i] = false := by
              rw [Array.getD_eq_getD_getElem?, Array.getElem?_eq_getElem (by omega)] at hl
              simpa using hl
            have key2 : ∀ (l : List Bool) (i : Nat) (hi : i < l.length), l[i] = false → ((l.set i true).filter id).length = (l.filter id).length + 1 := by
              intro l
              induction l with
              | nil => intro i hi; simp at hi
              | cons b r ih =>
                intro i hi he
                cases i with
                | zero => simp at he; subst he; simp
                | succ i =>
                  simp only [List.set_cons_succ, List.filter_cons]
                  have := ih i (by simpa using hi) (by simpa using he)
                  cases b <;> simp [this]
            exact key2 _ i hli hlf
          omega
        refine ih _ _ _ G'' m' hm2 (fun j o hj e hp' => by rw [hgd]; exact hlo' j o hj e hp') (fun j o hj e hp' => by rw [hgd]; exact hhi' j o hj e hp') (by simp [hsz]) (fun j q hq hlj e he hb => ?_) (hst.trans hst'') (hs''.of_get hget) (fun j hj hlj => ?_) hcnt
        · simp only [hgd] at hlj ⊢
          by_cases hji : j = i
          · subst hji
            have hqe : q = ops[j] := by rw [hoi] at hq; exact (Option.some.inj hq).symm
            subst hqe
            split
            · rfl
            · exact hpre e he hb
          · rw [if_neg hji] at hlj
            split
            · rfl
            · exact hpast j q hq hlj e he hb
        · -- something is left, so there is fuel
          rcases Nat.eq_zero_or_pos fuel with h0 | h0
          · exfalso
            rw [h0, Nat.zero_add] at hcnt
            have hfull : ∀ (l : List Bool), (l.filter id).length = l.length → ∀ b ∈ l, b = true := fun l hl b hb => by
              have := List.filter_eq_self.1 (List.Sublist.eq_of_length (List.filter_sublist (l := l) (p := id)) hl) b hb
              simpa using this
            have hlen : ((listed.setIfInBounds i true).toList.filter id).length = (listed.setIfInBounds i true).toList.length := by rw [hcnt]; simp [hsz]
            have hjs : j < (listed.setIfInBounds i true).size := by simp; omega
            have := hfull _ hlen ((listed.setIfInBounds i true)[j]) (by rw [Array.mem_toList_iff]; exact Array.getElem_mem hjs)
            rw [Array.getD_eq_getD_getElem?, Array.getElem?_eq_getElem hjs] at hlj
            simp only [Option.getD_some] at hlj
            rw [this] at hlj
            cases hlj
          · exact h0
  have hcap : Sat n G (envAt (fun j => (Array.replicate ops.toArray.size false).getD j false) zs 0 ops env) H a { w with drawn := w.drawn + 1 } := by
    have h0 : ∀ t, get env t = get (envAt (fun j => (Array.replicate ops.toArray.size false).getD j false) zs 0 ops env) t := fun t => by
      have : ∀ (r : List Oper) (i : Nat) (env : Env), get env t = get (envAt (fun j => (Array.replicate ops.toArray.size false).getD j false) zs i r env) t := by
        intro r
        induction r with
        | nil => intro _ _; rfl
        | cons o r ih =>
          intro i env
          simp only [envAt]
          have : (Array.replicate ops.toArray.size false).getD i false = false := by
            rw [Array.getD_eq_getD_getElem?, Array.getElem?_replicate]
            split <;> rfl
          simp only [this, Bool.false_eq_true, if_false]
          exact ih (i + 1) env
      exact this ops 0 env
    exact Sat.of_get (env := env) (s.step step_drew (inv_drew s.inv)) h0
  refine wpAny_sound ops.toArray.size t _ a _ (key ops.toArray.size _ a _ G 0 (by omega) (fun j o hj => absurd hj (by omega)) (fun j o _ e _ => by
    rw [Array.getD_eq_getD_getElem?, Array.getElem?_replicate]
    split <;> rfl) (by simp) (fun i o ho hl => ?_) (oh0 ▸ step_drew) (oh0 ▸ hcap) (fun i hi _ => by simp; omega) (by simp))
  simp only [Array.getD_eq_getD_getElem?, Array.getElem?_replicate] at hl
  split at hl <;> cases hl


/-- One operation, whose result and objects are told. -/
def notMsl : List AV → Prop
  | .msl _ _ _ _ :: _ => False
  | _ => True
def vcOpE (P : Program) (L : Tab) (mu : List Nat) (o : Oper) (env : Env) (H : List AObj) (K : AV → List AObj → Prop) : Prop :=
  match o.op with
  | .call c => match c.callee with
    | .value _ => ∃ z H', vcOp P L mu o env H (fun x H'' => x = z ∧ H'' = H') ∧ K z H'
    | .builtin b => match b with
      | .len | .cap | .min | .max | .copy | .unsafeSliceData | .unsafeString => vcOp P L mu o env H K
      | .append => notMsl (c.args.toList.map (ev env)) ∧ vcOp P L mu o env H K
      | _ => False
    | _ => False
  | .move _ | .assign _ | .pick _ _ _ | .unOp .. | .extract .. | .index .. | .indexAddr .. | .fieldAddr .. | .field .. | .build .. | .slice .. | .load .. | .buildSlice .. | .alloc .. | .store .. | .convert .. | .nilCheck .. | .makeFunc .. | .makeInterface .. | .makeSlice .. => vcOp P L mu o env H K
  | .binOp _ _ _ y _ => if nilCmp y then False else vcOp P L mu o env H K
  | .box .. => vcOp P L mu o env H K
  | _ => False
theorem told_lift {q : Option (Prop × AV)} {K : AV → List AObj → Prop} {H : List AObj} (h : lift q K H) : ∃ z H', lift q (fun x H'' => x = z ∧ H'' = H') H ∧ K z H' := by
  unfold lift at h
  split at h
  · exact ⟨_, _, ⟨h.1, rfl, rfl⟩, h.2⟩
  · exact h.elim
theorem vcOpE_sound {P : Program} {L : Tab} {mu : List Nat} {o : Oper} {env : Env} {H : List AObj} {K : AV → List AObj → Prop} (h : vcOpE P L mu o env H K) : ∃ z H', vcOp P L mu o env H (fun x H'' => x = z ∧ H'' = H') ∧ K z H' := by
  obtain ⟨dst, op, ty, pos, after, guard⟩ := o
  cases op <;> simp only [vcOpE] at h <;> first | exact h.elim | (simp only [vcOp] at h ⊢; exact told_lift h) | skip
  case alloc e =>
    simp only [vcOp] at h ⊢
    obtain ⟨h1, h2⟩ := h
    split at h2
    · rename_i hb
      exact ⟨_, _, ⟨h1, ⟨rfl, rfl⟩⟩, h2⟩
    · rename_i u hb
      exact ⟨_, _, ⟨h1, ⟨rfl, rfl⟩⟩, h2⟩
  case box e x =>
    simp only [vcOp] at h ⊢
    split at h
    · rename_i hm
      exact ⟨_, _, by rw [if_pos hm]; exact ⟨h.1, rfl, rfl⟩, h.2⟩
    · rename_i hm
      obtain ⟨z, H', h1, h2⟩ := told_lift h
      exact ⟨z, H', by rw [if_neg hm]; exact h1, h2⟩
  case buildSlice t len parts =>
    simp only [vcOp] at h ⊢
    split at h
    · rename_i hm
      simp only [if_pos hm]
      unfold vcBuildM at h ⊢
      split at h
      · exact ⟨_, _, ⟨h.1, rfl, rfl⟩, h.2⟩
      · exact h.elim
    · rename_i hm
      simp only [if_neg hm]
      split at h
      · exact h.elim
      · rename_i hm
        obtain ⟨z, H', h1, h2⟩ := told_lift h
        exact ⟨z, H', by rw [if_neg hm]; exact h1, h2⟩
  case binOp op t x y t' =>
    split at h
    · exact h.elim
    · rename_i hm
      simp only [vcOp] at h ⊢
      rw [if_neg hm] at h
      obtain ⟨z, H', h1, h2⟩ := told_lift h
      exact ⟨z, H', by rw [if_neg hm]; exact h1, h2⟩
  case convert s d x =>
    simp only [vcOp] at h ⊢
    split at h
    · rename_i hm
      simp only [if_pos hm]
      unfold vcBytes at h ⊢
      split at h
      · exact ⟨_, _, ⟨h.1, rfl, rfl⟩, h.2⟩
      · exact h.elim
    · rename_i hm
      obtain ⟨z, H', h1, h2⟩ := told_lift h
      exact ⟨z, H', by rw [if_neg hm]; exact h1, h2⟩
  case store t a x =>
    simp only [vcOp, vcStore] at h ⊢
    split at h
    · split at h
      · exact ⟨_, _, ⟨h.1, rfl, rfl⟩, h.2⟩
      · exact h.elim
    · exact h.elim
  case makeSlice t x y =>
    simp only [vcOp, vcMake] at h ⊢
    split at h
    · exact ⟨_, _, ⟨h.1, rfl, rfl⟩, h.2⟩
    · exact h.elim
  case call c =>
    obtain ⟨callee, args, ats⟩ := c
    cases callee with
    | value f => exact h
    | invoke r m => exact h.elim
    | builtin b =>
      cases b <;> simp only at h <;> first | exact h.elim | skip
      case append =>
        obtain ⟨hn, h⟩ := h
        simp only [vcOp, vcBuiltin] at h ⊢
        split at h
        · rename_i e _ _; cases e
        · rename_i x y t t2 _ hx _
          rw [hx] at hn
          unfold vcApp at h ⊢
          split at h
          · unfold vcAppendR at h ⊢
            split at h
            · split at h
              · exact ⟨_, _, ⟨h.1, rfl, rfl⟩, h.2⟩
              · exact h.elim
            · exact h.elim
          · exact hn.elim
          · split at h
            · rename_i hm
              simp only [if_pos hm]
              unfold vcAppendM at h ⊢
              split at h
              · exact ⟨_, _, ⟨h.1, rfl, rfl⟩, h.2⟩
              · exact h.elim
            · rename_i hm
              simp only [if_neg hm]
              unfold vcAppend at h ⊢
              split at h
              · exact ⟨_, _, ⟨h.1, rfl, rfl⟩, h.2⟩
              · exact h.elim
        all_goals first | (rename_i e _ _; cases e; done) | exact h.elim
      case copy =>
        simp only [vcOp, vcBuiltin] at h ⊢
        split at h
        all_goals first | (rename_i e _ _; cases e; done) | exact h.elim | skip
        unfold vcCopy at h ⊢
        split at h
        · split at h
          · exact ⟨_, _, ⟨h.1, rfl, rfl⟩, h.2⟩
          · exact h.elim
        · exact h.elim
      case unsafeString =>
        simp only [vcOp, vcBuiltin] at h ⊢
        split at h
        all_goals first | (rename_i e _ _; cases e; done) | exact h.elim | skip
        split at h
        · unfold vcStrObj at h ⊢
          split at h
          · exact ⟨_, _, ⟨h.1, rfl, rfl⟩, h.2⟩
          · exact h.elim
        · exact told_lift h
      all_goals
        simp only [vcOp, vcBuiltin] at h ⊢
        split at h
        all_goals first | exact told_lift h | (rename_i e _ _; cases e; done) | exact h.elim
/-- The readers that have been carried out give the same behind this one. -/
def staysAll (P : Program) (L : Tab) (mu : List Nat) (rid j : Nat) (H' : List AObj) : List (Nat × Oper × Env × AV) → Prop
  | [] => True
  | (i, o, env, z) :: r => if mu.contains (raceCode rid i j) then vcOp P L mu o env H' (fun x H'' => x = z ∧ H'' = H') ∧ staysAll P L mu rid j H' r else staysAll P L mu rid j H' r
/-- It gave the same ahead of the writers whose order is open. -/
def wasAll (P : Program) (L : Tab) (mu : List Nat) (rid i : Nat) (o : Oper) (env : Env) (z : AV) : List (Nat × List AObj) → Prop
  | [] => True
  | (j, H) :: r => if mu.contains (raceCode rid i j) then vcOp P L mu o env H (fun x H'' => x = z ∧ H'' = H) ∧ wasAll P L mu rid i o env z r else wasAll P L mu rid i o env z r
/-- What comes behind an operation. -/
def vcNext (P : Program) (L : Tab) (mu : List Nat) (rid i : Nat) (o : Oper) (env : Env) (H : List AObj) (z : AV) (H' : List AObj) (hist : List (Nat × List AObj)) (rs : List (Nat × Oper × Env × AV)) (k : List (Nat × List AObj) → List (Nat × Oper × Env × AV) → Prop) [Tag k] : Prop :=
  if effOp mu o then staysAll P L mu rid i H' rs ∧ k ((i, H) :: hist) rs
  else if pureOp mu o then k hist rs
  else H' = H ∧ wasAll P L mu rid i o env z hist ∧ k hist ((i, o, env, z) :: rs)
def vcChain (P : Program) (L : Tab) (mu : List Nat) (rid : Nat) (all : List Oper) : Nat → List Oper → Env → List AObj → List (Nat × List AObj) → List (Nat × Oper × Env × AV) → (Env → List AObj → Prop) → Prop
  | _, [], env, H, _, _, K => K env H
  | i, o :: rest, env, H, hist, rs, K =>
    match o.guard with
    | none => vcOpE P L mu o env H fun z H' => vcNext P L mu rid i o env H z H' hist rs fun hist' rs' => vcChain P L mu rid all (i + 1) rest (put o.dst z env) H' hist' rs' K
    | some (j, want) => vcGuard (gval all env j) want (vcOpE P L mu o (known1 all j want env) H fun z H' => vcNext P L mu rid i o (known1 all j want env) H z H' hist rs fun hist' rs' => vcChain P L mu rid all (i + 1) rest (put o.dst z (known1 all j want env)) H' hist' rs' K) (vcChain P L mu rid all (i + 1) rest (put o.dst (.lit undef) (known1 all j (!want) env)) H hist rs K) (vcChain P L mu rid all (i + 1) rest (put o.dst (.lit undef) env) H hist rs K)

theorem lift_same {q : Option (Prop × AV)} {z : AV} {H H' : List AObj} (h : lift q (fun x H'' => x = z ∧ H'' = H') H) : H' = H := by
  unfold lift at h
  split at h
  · exact h.2.2.symm
  · exact h.elim
theorem pure_same {P : Program} {L : Tab} {mu : List Nat} {o : Oper} {env : Env} {H H' : List AObj} {z : AV} (hp : pureOp mu o = true) (h : vcOp P L mu o env H fun x H'' => x = z ∧ H'' = H') : H' = H := by
  obtain ⟨dst, op, ty, pos, after, guard⟩ := o
  cases op <;> simp only [pureOp, vcOp, Bool.false_eq_true] at hp h <;> first | exact lift_same h | skip
  case binOp op t x y t' =>
    rw [Bool.not_eq_true'] at hp
    simp only [hp, Bool.false_eq_true, if_false] at h
    exact lift_same h
  case box e x =>
    rw [Bool.not_eq_true'] at hp
    simp only [hp, Bool.false_eq_true, if_false] at h
    exact lift_same h
  case call c =>
    obtain ⟨callee, args, ats⟩ := c
    cases callee with
    | builtin b =>
      cases b <;> simp only [Bool.false_eq_true] at hp
      all_goals
        simp only at h
        unfold vcBuiltin at h
        split at h <;> first | exact lift_same h | (rename_i e _ _ ; cases e; done) | exact h.elim
    | value f => simp at hp
    | invoke r m => simp at hp
theorem staysAll_get {P : Program} {L : Tab} {mu : List Nat} {rid j : Nat} {H' : List AObj} : ∀ {rs : List (Nat × Oper × Env × AV)}, staysAll P L mu rid j H' rs → ∀ i o env z, (i, o, env, z) ∈ rs → mu.contains (raceCode rid i j) = true → vcOp P L mu o env H' (fun x H'' => x = z ∧ H'' = H')
  | [], _, i, o, env, z, hm, _ => by cases hm
  | (i', o', env', z') :: r, h, i, o, env, z, hm, hc => by
    unfold staysAll at h
    rcases List.mem_cons.1 hm with e | hm
    · cases e
      rw [if_pos hc] at h
      exact h.1
    · split at h
      · exact staysAll_get h.2 i o env z hm hc
      · exact staysAll_get h i o env z hm hc
theorem wasAll_get {P : Program} {L : Tab} {mu : List Nat} {rid i : Nat} {o : Oper} {env : Env} {z : AV} : ∀ {hist : List (Nat × List AObj)}, wasAll P L mu rid i o env z hist → ∀ j H, (j, H) ∈ hist → mu.contains (raceCode rid i j) = true → vcOp P L mu o env H (fun x H'' => x = z ∧ H'' = H)
  | [], _, j, H, hm, _ => by cases hm
  | (j', H') :: r, h, j, H, hm, hc => by
    unfold wasAll at h
    rcases List.mem_cons.1 hm with e | hm
    · cases e
      rw [if_pos hc] at h
      exact h.1
    · split at h
      · exact wasAll_get h.2 j H hm hc
      · exact wasAll_get h j H hm hc
/-- What the text's order gives for the operations r, from the i-th on. -/
def ChainRes (P : Program) (L : Tab) (mu : List Nat) (rid : Nat) (all : List Oper) (K : Env → List AObj → Prop) (r : List Oper) (i : Nat) (env₀ : Env) (H : List AObj) (hist : List (Nat × List AObj)) (rs : List (Nat × Oper × Env × AV)) : Prop :=
  ∃ (zs : Nat → AV) (oh : Nat → List AObj) (env' : Env), oh i = H ∧ (∀ (k : Nat) o, r[k]? = some o → effOp mu o = false → oh (i + k + 1) = oh (i + k)) ∧
    (∀ (k : Nat) o, r[k]? = some o → DoesE P L mu all o (envAt (fun j => decide (j < i + k)) zs i r env₀) (oh (i + k)) (zs (i + k)) (oh (i + k + 1))) ∧ (∀ t, get (envAt (fun _ => true) zs i r env₀) t = get env' t) ∧ K env' (oh (i + r.length)) ∧
    (∀ q o e z, (q, o, e, z) ∈ rs → vcOp P L mu o e H (fun x H'' => x = z ∧ H'' = H) → ∀ p, p ≤ r.length → (∀ j o', j < p → r[j]? = some o' → effOp mu o' = true → mu.contains (raceCode rid q (i + j)) = true) → vcOp P L mu o e (oh (i + p)) (fun x H'' => x = z ∧ H'' = oh (i + p))) ∧
    (∀ j₀ Hj, (j₀, Hj) ∈ hist → ∀ (k : Nat) o, r[k]? = some o → effOp mu o = false → pureOp mu o = false → mu.contains (raceCode rid (i + k) j₀) = true → DoesE P L mu all o (envAt (fun j => decide (j < i + k)) zs i r env₀) Hj (zs (i + k)) Hj) ∧
    (∀ (k : Nat) o, r[k]? = some o → effOp mu o = false → pureOp mu o = false → ∀ p, p ≤ k → (∀ j o', p ≤ j → j < k → r[j]? = some o' → effOp mu o' = true → mu.contains (raceCode rid (i + k) (i + j)) = true) → DoesE P L mu all o (envAt (fun j => decide (j < i + k)) zs i r env₀) (oh (i + p)) (zs (i + k)) (oh (i + p))) ∧
    (∀ (k : Nat) o, r[k]? = some o → effOp mu o = false → pureOp mu o = false → ∀ p, k ≤ p → p ≤ r.length → (∀ j o', k < j → j < p → r[j]? = some o' → effOp mu o' = true → mu.contains (raceCode rid (i + k) (i + j)) = true) → DoesE P L mu all o (envAt (fun j => decide (j < i + k)) zs i r env₀) (oh (i + p)) (zs (i + k)) (oh (i + p)))
set_option maxRecDepth 20000 in
theorem chainRes_cons {P : Program} {L : Tab} {mu : List Nat} {rid : Nat} {all : List Oper} {K : Env → List AObj → Prop} {o : Oper} {r : List Oper} {i : Nat} {env₀ : Env} {H H' : List AObj} {hist hist' : List (Nat × List AObj)} {rs rs' : List (Nat × Oper × Env × AV)} {z : AV}
    (hp : effOp mu o = false → H' = H) (hz : DoesE P L mu all o env₀ H z H') (hr : ChainRes P L mu rid all K r (i + 1) (put o.dst z env₀) H' hist' rs')
    (hhist : ∀ x, x ∈ hist → x ∈ hist') (hrs : ∀ x, x ∈ rs → x ∈ rs') (heff : effOp mu o = true → H' = H ∨ (i, H) ∈ hist')
    (hst : effOp mu o = true → ∀ q p e y, (q, p, e, y) ∈ rs → mu.contains (raceCode rid q i) = true → vcOp P L mu p e H (fun x H'' => x = y ∧ H'' = H) → vcOp P L mu p e H' (fun x H'' => x = y ∧ H'' = H'))
    (hrd : effOp mu o = false → pureOp mu o = false → (∀ j₀ Hj, (j₀, Hj) ∈ hist → mu.contains (raceCode rid i j₀) = true → DoesE P L mu all o env₀ Hj z Hj) ∧
      ((∀ Hx, DoesE P L mu all o env₀ Hx z Hx) ∨ ∃ e, (i, o, e, z) ∈ rs' ∧ vcOp P L mu o e H (fun x H'' => x = z ∧ H'' = H) ∧ ∀ Hx, vcOp P L mu o e Hx (fun x H'' => x = z ∧ H'' = Hx) → DoesE P L mu all o env₀ Hx z Hx)) :
    ChainRes P L mu rid all K (o :: r) i env₀ H hist rs := by
  obtain ⟨zs, oh, env', h0, hpu, h1, h2, h3, h4, h5, h6, h7⟩ := hr
  have hoh : ∀ j, i < j → (fun j => if j = i then H else oh j) j = oh j := fun j hj => by simp only; rw [if_neg (by omega)]
  have hohs : ∀ j, (fun j => if j = i then H else oh j) (i + (j + 1)) = oh (i + 1 + j) := fun j => by rw [hoh _ (by omega), show i + (j + 1) = i + 1 + j by omega]
  have hoh0 : (fun j => if j = i then H else oh j) (i + 0) = H := by simp
  have hzss : ∀ j, (fun j => if j = i then z else zs j) (i + (j + 1)) = zs (i + 1 + j) := fun j => by simp only; rw [if_neg (by omega), show i + (j + 1) = i + 1 + j by omega]
  have hzs0 : (fun j => if j = i then z else zs j) (i + 0) = z := by simp
  have henv0 : envAt (fun j => decide (j < i + 0)) (fun j => if j = i then z else zs j) i (o :: r) env₀ = env₀ := envAt_none _ _ _ fun j _ => by simp
  have henvs : ∀ k, envAt (fun j => decide (j < i + (k + 1))) (fun j => if j = i then z else zs j) i (o :: r) env₀ = envAt (fun j => decide (j < i + 1 + k)) zs (i + 1) r (put o.dst z env₀) := fun k => by
    simp only [envAt, show i < i + (k + 1) by omega, decide_true, if_true]
    exact envAt_zs r (i + 1) _ fun j _ => ⟨by rw [if_neg (by omega)], by rw [show i + (k + 1) = i + 1 + k by omega]⟩
  refine ⟨fun j => if j = i then z else zs j, fun j => if j = i then H else oh j, env', by simp, fun k q e hq => ?_, fun k q e => ?_, fun t => ?_, ?_, fun q p e y hm hv m hml hmu => ?_, fun j₀ Hj hm k q e hq hq2 hc => ?_, fun k q e hq hq2 p hpk hmu => ?_, fun k q e hq hq2 p hpk hpl hmu => ?_⟩
  · cases k with
    | zero =>
      simp only [List.getElem?_cons_zero, Option.some.injEq] at e
      subst e
      rw [hoh0, show i + 0 + 1 = i + 1 from rfl, hoh (i + 1) (by omega), h0]
      exact hp hq
    | succ k =>
      rw [show i + (k + 1) + 1 = i + ((k + 1) + 1) by omega, hohs, hohs]
      have := hpu k q (by simpa using e) hq
      rwa [show i + 1 + (k + 1) = i + 1 + k + 1 by omega]
  · cases k with
    | zero =>
      simp only [List.getElem?_cons_zero, Option.some.injEq] at e
      subst e
      rw [henv0, hoh0, hzs0]
      rw [show i + 0 + 1 = i + 1 from rfl, hoh (i + 1) (by omega), h0]
      exact hz
    | succ k =>
      rw [henvs, hohs, hzss, show i + (k + 1) + 1 = i + ((k + 1) + 1) by omega, hohs]
      have := h1 k q (by simpa using e)
      rwa [show i + 1 + (k + 1) = i + 1 + k + 1 by omega]
  · have e1 : envAt (fun _ => true) (fun j => if j = i then z else zs j) i (o :: r) env₀ = envAt (fun _ => true) zs (i + 1) r (put o.dst z env₀) := by
      simp only [envAt, if_true]
      exact envAt_zs r (i + 1) _ fun j _ => ⟨by rw [if_neg (by omega)], rfl⟩
    rw [e1]
    exact h2 t
  · rw [List.length_cons, hohs]
    exact h3
  · cases m with
    | zero => rw [hoh0]; exact hv
    | succ m =>
      rw [hohs]
      refine h4 q p e y (hrs _ hm) ?_ m (by simpa using hml) fun j o' hj e' ho' => ?_
      · cases ho : effOp mu o with
        | false => rw [hp ho]; exact hv
        | true => exact hst ho q p e y hm (by have := hmu 0 o (by omega) rfl ho; simpa using this) hv
      · have := hmu (j + 1) o' (by omega) (by simpa using e') ho'
        rwa [show i + (j + 1) = i + 1 + j by omega] at this
  · cases k with
    | zero =>
      simp only [List.getElem?_cons_zero, Option.some.injEq] at e
      subst e
      rw [henv0, hzs0]
      exact (hrd hq hq2).1 j₀ Hj hm hc
    | succ k =>
      rw [henvs, hzss]
      exact h5 j₀ Hj (hhist _ hm) k q (by simpa using e) hq hq2 (by rwa [show i + 1 + k = i + (k + 1) by omega])
  · cases k with
    | zero =>
      simp only [List.getElem?_cons_zero, Option.some.injEq] at e
      subst e
      obtain rfl : p = 0 := by omega
      rw [henv0, hzs0, hoh0]
      rw [hp hq] at hz
      exact hz
    | succ k =>
      rw [henvs, hzss]
      have sub : ∀ p', p ≤ p' + 1 → ∀ j o', p' ≤ j → j < k → r[j]? = some o' → effOp mu o' = true → mu.contains (raceCode rid (i + 1 + k) (i + 1 + j)) = true := fun p' hp' j o' h8 h9 e' ho' => by
        have := hmu (j + 1) o' (by omega) (by omega) (by simpa using e') ho'
        rwa [show i + 1 + k = i + (k + 1) by omega, show i + 1 + j = i + (j + 1) by omega]
      cases p with
      | succ p =>
        rw [hohs]
        exact h6 k q (by simpa using e) hq hq2 p (by omega) (sub p (by omega))
      | zero =>
        rw [hoh0]
        have same : H' = H → DoesE P L mu all q (envAt (fun j => decide (j < i + 1 + k)) zs (i + 1) r (put o.dst z env₀)) H (zs (i + 1 + k)) H := fun hH => by
          have := h6 k q (by simpa using e) hq hq2 0 (by omega) (sub 0 (by omega))
          rw [Nat.add_zero, h0, hH] at this
          exact this
        cases ho : effOp mu o with
        | false => exact same (hp ho)
        | true =>
          rcases heff ho with hH | hH
          · exact same hH
          · have hc := hmu 0 o (by omega) (by omega) rfl ho
            rw [Nat.add_zero] at hc
            exact h5 i H hH k q (by simpa using e) hq hq2 (by rwa [show i + 1 + k = i + (k + 1) by omega])
  · cases k with
    | zero =>
      simp only [List.getElem?_cons_zero, Option.some.injEq] at e
      subst e
      rw [henv0, hzs0]
      cases p with
      | zero =>
        rw [hoh0]
        rw [hp hq] at hz
        exact hz
      | succ p =>
        rw [hohs]
        rcases (hrd hq hq2).2 with hall | ⟨e1, hm, hv, hk⟩
        · exact hall _
        · refine hk _ (h4 i o e1 z hm ?_ p (by simpa using hpl) fun j o' hj e' ho' => ?_)
          · rw [hp hq]; exact hv
          · have := hmu (j + 1) o' (by omega) (by omega) (by simpa using e') ho'
            rw [Nat.add_zero] at this
            rwa [show i + (j + 1) = i + 1 + j by omega] at this
    | succ k =>
      rw [henvs, hzss]
      cases p with
      | zero => omega
      | succ p =>
        rw [hohs]
        refine h7 k q (by simpa using e) hq hq2 p (by omega) (by simpa using hpl) fun j o' h8 h9 e' ho' => ?_
        have := hmu (j + 1) o' (by omega) (by omega) (by simpa using e') ho'
        rwa [show i + 1 + k = i + (k + 1) by omega, show i + 1 + j = i + (j + 1) by omega]
theorem vcChain_sound {P : Program} {L : Tab} {mu : List Nat} {rid : Nat} {all : List Oper} {K : Env → List AObj → Prop} (r : List Oper) : ∀ (i : Nat) (env env₀ : Env) (H : List AObj) (hist : List (Nat × List AObj)) (rs : List (Nat × Oper × Env × AV)), (∀ t, get env t = get env₀ t) → vcChain P L mu rid all i r env H hist rs K → ChainRes P L mu rid all K r i env₀ H hist rs := by
  induction r with
  | nil =>
    intro i env env₀ H hist rs he h
    exact ⟨fun _ => .any, fun _ => H, env, rfl, fun k o e => by simp at e, fun k o e => by simp at e, fun t => (he t).symm, h, fun q o e z _ hv p _ _ => hv, fun j₀ Hj _ k o e => by simp at e, fun k o e => by simp at e, fun k o e => by simp at e⟩
  | cons o r ih =>
    intro i env env₀ H hist rs he h
    have hq : ∀ env₁ z H H', (∀ t, get env₁ t = get env₀ t) → vcOp P L mu o env₁ H (fun x H'' => x = z ∧ H'' = H') → vcOp P L mu o env₀ H (fun x H'' => x = z ∧ H'' = H') := fun env₁ z H H' he₁ hz => by
      rwa [← vcOp_congr (env := env₁) fun x _ t _ => he₁ t]
    -- it is carried out
    have run : ∀ env₁, (∀ t, get env₁ t = get env₀ t) → (∀ Hx Hy z, vcOp P L mu o env₀ Hx (fun x H'' => x = z ∧ H'' = Hy) → DoesE P L mu all o env₀ Hx z Hy) →
        (vcOpE P L mu o env₁ H fun z H' => vcNext P L mu rid i o env₁ H z H' hist rs fun hist' rs' => vcChain P L mu rid all (i + 1) r (put o.dst z env₁) H' hist' rs' K) → ChainRes P L mu rid all K (o :: r) i env₀ H hist rs := fun env₁ he₁ hdo h => by
      obtain ⟨z, H', hz, hk⟩ := vcOpE_sound h
      unfold vcNext at hk
      cases ho : effOp mu o with
      | true =>
        rw [if_pos ho] at hk
        exact chainRes_cons (fun e => by rw [ho] at e; cases e) (hdo _ _ _ (hq env₁ z H H' he₁ hz)) (ih (i + 1) _ _ H' _ _ (fun t => by rw [get_put, get_put, he₁ t]) hk.2) (fun x hx => List.mem_cons_of_mem _ hx) (fun x hx => hx) (fun _ => .inr (List.mem_cons_self ..)) (fun _ q p e y hm hc _ => staysAll_get hk.1 q p e y hm hc) (fun e => by rw [ho] at e; cases e)
      | false =>
        rw [if_neg (by rw [ho]; simp)] at hk
        cases hpu : pureOp mu o with
        | true =>
          rw [if_pos hpu] at hk
          exact chainRes_cons (fun _ => pure_same hpu hz) (hdo _ _ _ (hq env₁ z H H' he₁ hz)) (ih (i + 1) _ _ H' _ _ (fun t => by rw [get_put, get_put, he₁ t]) hk) (fun x hx => hx) (fun x hx => hx) (fun e => by rw [ho] at e; cases e) (fun e => by rw [ho] at e; cases e) (fun _ e => by rw [hpu] at e; cases e)
        | false =>
          rw [if_neg (by rw [hpu]; simp)] at hk
          obtain ⟨rfl, hw, hk⟩ := hk
          refine chainRes_cons (fun _ => rfl) (hdo _ _ _ (hq env₁ z H' H' he₁ hz)) (ih (i + 1) _ _ H' _ _ (fun t => by rw [get_put, get_put, he₁ t]) hk) (fun x hx => hx) (fun x hx => List.mem_cons_of_mem _ hx) (fun e => by rw [ho] at e; cases e) (fun e => by rw [ho] at e; cases e) (fun _ _ => ⟨fun j₀ Hj hm hc => hdo _ _ _ (hq env₁ z Hj Hj he₁ (wasAll_get hw j₀ Hj hm hc)), .inr ⟨env₁, List.mem_cons_self .., hz, fun Hx hx => hdo _ _ _ (hq env₁ z Hx Hx he₁ hx)⟩⟩)
    -- it is passed over
    have skip : ∀ env₁, (∀ t, get env₁ t = get env₀ t) → (∀ Hx, DoesE P L mu all o env₀ Hx (.lit undef) Hx) → vcChain P L mu rid all (i + 1) r (put o.dst (.lit undef) env₁) H hist rs K → ChainRes P L mu rid all K (o :: r) i env₀ H hist rs := fun env₁ he₁ hdo h =>
      chainRes_cons (z := .lit undef) (hist' := hist) (rs' := rs) (fun _ => rfl) (hdo H) (ih (i + 1) _ _ H hist rs (fun t => by rw [get_put, get_put, he₁ t]) h) (fun x hx => hx) (fun x hx => hx) (fun _ => .inl rfl) (fun _ q p e y _ _ hv => hv) (fun _ _ => ⟨fun _ Hj _ _ => hdo Hj, .inl hdo⟩)
    unfold vcChain at h
    cases hg : o.guard with
    | none =>
      rw [hg] at h
      exact run env he (fun Hx Hy z hz => by unfold DoesE; rw [hg]; exact hz) h
    | some jw =>
      obtain ⟨j, want⟩ := jw
      rw [hg] at h
      simp only [vcGuard] at h
      split at h
      · rename_i b hb
        have hb0 : gval all env₀ j = .lit (.bool b) := by rw [← gval_congr he]; exact hb
        by_cases e : b = want
        · subst e
          have he₁ : ∀ t, get (known1 all j b env) t = get env₀ t := fun t => (get_known hb t).trans (he t)
          exact run _ he₁ (fun Hx Hy z hz => by unfold DoesE; rw [hg]; exact .inl ⟨b, hb0, .inl ⟨rfl, hz⟩⟩) (h.1 rfl)
        · have hbn : b = !want := by cases b <;> cases want <;> simp_all
          have he₁ : ∀ t, get (known1 all j (!want) env) t = get env₀ t := fun t => (get_known (hbn ▸ hb) t).trans (he t)
          exact skip _ he₁ (fun Hx => by unfold DoesE; rw [hg]; exact .inl ⟨b, hb0, .inr ⟨e, rfl, rfl⟩⟩) (h.2 e)
      · rename_i ar hb
        exact skip env he (fun Hx => by unfold DoesE; rw [hg]; exact .inr ⟨ar, by rw [← gval_congr he]; exact hb, rfl, rfl⟩) h
      · exact h.elim
theorem befores_lt {ops : List Oper} (hdr : drawOk ops = true) {i j : Nat} {o : Oper} (e : ops[i]? = some o) (h : j ∈ (befores ops []).getD i []) : j < i := by
  have hord : ∀ (i : Nat) o, ops[i]? = some o → ∀ e ∈ o.after.toList, Region.binds .any e = true → e.on < i := fun i o e => by
    have := (allOrdered_spec ops 0 hdr i o e).2
    rwa [Nat.zero_add] at this
  have hp : Past ops (fun k => decide (k < i)) := fun k o' ek hk e' he' hb => by
    have h1 : k < i := by simpa using hk
    have := hord k o' ek e' he' hb
    simp only [decide_eq_true_eq]
    omega
  have := befores_spec hp ops [] [] rfl rfl (fun i j o hi => by simp at hi) i j o h e (fun e' he' hb => by have := hord i o e e' he' hb; simpa using this)
  simpa using this
theorem aw_region_chain {P : Program} {L : Tab} (hL : TabOk P L) (hm : P.follows .mixedOrders = true) (mu : List Nat) {n : Nat} {rid : Nat} {ops : List Oper} (hops : dstsOk n ops = true) (hdr : drawOk ops = true) (hch : chainOk rid mu ops = true) {Q : Exit → Env → List AObj → Prop} {env : Env} {H : List AObj}
    (h : vcChain P L mu rid ops 0 ops env H [] [] (Q .normal)) : AW P n (.region rid ops.toArray true) Q env H := by
  obtain ⟨zs, oh, env', h0, hpu, h1, h2, h3, _, _, h6, h7⟩ := vcChain_sound ops 0 env env H [] [] (fun _ => rfl) h
  simp only [Nat.zero_add] at hpu h1 h3 h6 h7
  refine aw_region_chain_ hL hm mu hops hdr hch zs oh h0 hpu (fun i o e ho m hml hA hB => ?_) h1 env' h2 h3
  cases hp : pureOp mu o with
  | true =>
    have := h1 i o e
    rw [hpu i o e ho] at this
    exact doesE_pure hp this
  | false =>
    rcases Nat.lt_or_ge i m with him | him
    · refine h7 i o e ho hp m (by omega) hml fun j o' hij hjm e' ho' => ?_
      rcases chainOk_race hch e e' (by omega) ho hp ho' with h8 | h8 | h8
      · exfalso
        have := befores_lt hdr e h8
        omega
      · exact absurd h8 (hB j o' e' ho' hij hjm)
      · exact h8
    · refine h6 i o e ho hp m him fun j o' hmj hji e' ho' => ?_
      rcases chainOk_race hch e e' (by omega) ho hp ho' with h8 | h8 | h8
      · exact absurd h8 (hA j o' e' ho' hmj hji)
      · exfalso
        have := befores_lt hdr e' h8
        omega
      · exact h8

end Go.Proofs.YtplmbhjhihoneaaGreatDoor.V
end

section
set_option linter.unusedSimpArgs false
set_option linter.unusedVariables false
namespace Go.Proofs.YtplmbhjhihoneaaGreatDoor.V
open Go

/-- A branch. -/
def vcIf (c : AV) (a b : Prop) [Tag a] [Tag b] : Prop :=
  match c with
  | .lit (.bool t) => (t = true → a) ∧ (t = false → b)
  | _ => False
theorem vcIf_true {a b : Prop} : vcIf (.lit (.bool true)) a b = a := by simp [vcIf]
theorem vcIf_false {a b : Prop} : vcIf (.lit (.bool false)) a b = b := by simp [vcIf]
theorem vcIf_bool {t : Bool} {a b : Prop} : vcIf (.lit (.bool t)) a b = ((t = true → Hold a) ∧ (t = false → Hold b)) := by rw [hold_eq, hold_eq]; rfl
/-- Code. Loops stand as they are. -/
def vcC (P : Program) (L : Tab) (mu : List Nat) (n : Nat) : Code → (Exit → Env → List AObj → Prop) → Env → List AObj → Prop
  | .skip, Q, env, H => Q .normal env H
  | .seq x y, Q, env, H => vcC P L mu n x (Ex (fun env H => vcC P L mu n y Q env H) Q) env H
  | .cond c x y, Q, env, H => vcIf (ev env c) (vcC P L mu n x Q env H) (vcC P L mu n y Q env H)
  | .block id c, Q, env, H => vcC P L mu n c (InB id Q) env H
  | .exit id, Q, env, H => Q (.exit id) env H
  | .ret, Q, env, H => Q .ret env H
  | .region _ ops false, Q, env, H => vcOps P L mu ops.toList ops.toList env H (Q .normal)
  | .region id ops true, Q, env, H => if mu.contains (1000000 + id) then vcChain P L mu id ops.toList 0 ops.toList env H [] [] (Q .normal) else vcDraw P L ops.toList ops.toList env H (Q .normal)
  | c, Q, env, H => AW P n c Q env H
/-- What is asked of the code itself. -/
def okC (mu : List Nat) (n : Nat) : Code → Bool
  | .seq x y => okC mu n x && okC mu n y
  | .cond _ x y => okC mu n x && okC mu n y
  | .block _ c => okC mu n c
  | .region id ops d => dstsOk n ops.toList && (!d || (drawOk ops.toList && (!mu.contains (1000000 + id) || chainOk id mu ops.toList)))
  | _ => true
theorem vcC_sound {P : Program} {L : Tab} (hL : TabOk P L) (hm : P.follows .mixedOrders = true) {mu : List Nat} {n : Nat} : ∀ (c : Code) {Q : Exit → Env → List AObj → Prop} {env : Env} {H : List AObj}, okC mu n c = true → vcC P L mu n c Q env H → AW P n c Q env H
  | .skip, _, _, _, _, h => aw_skip h
  | .seq x y, Q, env, H, ho, h => by
    simp only [okC, Bool.and_eq_true] at ho
    exact aw_seq_ ((vcC_sound hL hm x ho.1 h).mono fun e env' H' q => by
      cases e with
      | normal => exact vcC_sound hL hm y ho.2 q
      | _ => exact q)
  | .cond c x y, Q, env, H, ho, h => by
    simp only [okC, Bool.and_eq_true] at ho
    simp only [vcC, vcIf] at h
    split at h
    · rename_i t ht
      exact aw_cond ht (fun e => vcC_sound hL hm x ho.1 (h.1 e)) (fun e => vcC_sound hL hm y ho.2 (h.2 e))
    · exact h.elim
  | .block id c, Q, env, H, ho, h => aw_block (vcC_sound hL hm c ho h)
  | .exit id, _, _, _, _, h => aw_exit h
  | .ret, _, _, _, _, h => aw_ret h
  | .region id ops false, Q, env, H, ho, h => by
    simp only [okC, Bool.and_eq_true] at ho
    have := aw_region hL mu (id := id) (ops := ops.toList) ho.1 h
    simpa using this
  | .region id ops true, Q, env, H, ho, h => by
    simp only [okC, Bool.and_eq_true] at ho
    have ho2 : drawOk ops.toList = true ∧ (mu.contains (1000000 + id) = true → chainOk id mu ops.toList = true) := by
      have := ho.2
      simp only [Bool.not_true, Bool.false_or, Bool.and_eq_true, Bool.or_eq_true, Bool.not_eq_true'] at this
      refine ⟨this.1, fun e => ?_⟩
      rcases this.2 with h' | h'
      · rw [e] at h'; cases h'
      · exact h'
    unfold vcC at h
    split at h
    · rename_i hm'
      have := aw_region_chain hL hm mu (rid := id) (ops := ops.toList) ho.1 ho2.1 (ho2.2 hm') h
      simpa using this
    · have := aw_region_draw hL hm (rid := id) (ops := ops.toList) ho.1 ho2.1 h
      simpa using this
  | .loop c, _, _, _, _, h => h
  | .rangeFunc _ _ _ _, _, _, _, _, h => h
  | .scope _, _, _, _, _, h => h
  | .label _, _, _, _, _, h => h
  | .goto _, _, _, _, _, h => h
  | .refuse _, _, _, _, _, h => h


/-- The whole: a contract from the verification condition. -/
theorem acalls_vc {P : Program} {L : Tab} (hL : TabOk P L) (hm : P.follows .mixedOrders = true) (mu : List Nat) {f : FuncId} {fn : Func} {c : Code} {n : Nat} {rs : List ResultVar} {args : List AV} {H : List AObj} {R : AV → List AObj → Prop} (hf : P.funcs[f]? = some fn) (hb : fn.body = some c) (hname : (fn.name == "runtime.NumGoroutine") = false) (hn : fn.ntmps = n)
    (hrs : fn.results.toList = rs) (hargs : args.length ≤ n) (ho : okC mu n c = true) (h : vcC P L mu n c (BodyQ L rs H R) (initEnv 0 args) H) : ACalls P f args H R :=
  acalls_of_aw hL hf hb hname hn hrs hargs (vcC_sound hL hm c ho h)
end Go.Proofs.YtplmbhjhihoneaaGreatDoor.V
end

section
set_option linter.unusedSimpArgs false
set_option linter.unusedVariables false
namespace Go.Proofs.YtplmbhjhihoneaaGreatDoor.V
open Go
section
variable {P : Program} {L : Tab} {mu : List Nat} {n : Nat} {Q : Exit → Env → List AObj → Prop} {env : Env} {H : List AObj} {all rest : List Oper} {K : Env → List AObj → Prop} {J : AV → List AObj → Prop} {D : AV → Prop}
def vcNew (b : Option Nat) (t : TypeId) (zs : List AV) (H : List AObj) (K : AV → List AObj → Prop) [Tag K] : Prop :=
  match b with
  | none => K (.mp H.length 0) (H ++ [.cells (.one t) zs])
  | some u => K (.mp H.length 0) (H ++ [.cells (.one t) (mintNil (H.length + 1) zs), .grow 1 0 (some u)])
theorem new_none {t : TypeId} {zs : List AV} : vcNew none t zs H J = J (.mp H.length 0) (H ++ [.cells (.one t) zs]) := rfl
theorem new_some {u t : Nat} {zs : List AV} : vcNew (some u) t zs H J = J (.mp H.length 0) (H ++ [.cells (.one t) (mintNil (H.length + 1) zs), .grow 1 0 (some u)]) := rfl
theorem c_skip : vcC P L mu n .skip Q env H = Q .normal env H := rfl
theorem c_seq {x y : Code} : vcC P L mu n (.seq x y) Q env H = vcC P L mu n x (Ex (fun env H => vcC P L mu n y Q env H) Q) env H := rfl
theorem c_cond {c : Operand} {x y : Code} : vcC P L mu n (.cond c x y) Q env H = vcIf (ev env c) (vcC P L mu n x Q env H) (vcC P L mu n y Q env H) := rfl
theorem c_block {id : Nat} {c : Code} : vcC P L mu n (.block id c) Q env H = vcC P L mu n c (InB id Q) env H := rfl
theorem c_exit {id : Nat} : vcC P L mu n (.exit id) Q env H = Q (.exit id) env H := rfl
theorem c_ret : vcC P L mu n .ret Q env H = Q .ret env H := rfl
theorem c_region {id : Nat} {ops : List Oper} : vcC P L mu n (.region id ops.toArray false) Q env H = vcOps P L mu ops ops env H (Q .normal) := by show vcOps P L mu ops.toArray.toList ops.toArray.toList env H (Q .normal) = _; simp
theorem c_draw {id : Nat} {ops : List Oper} : vcC P L mu n (.region id ops.toArray true) Q env H = if mu.contains (1000000 + id) then vcChain P L mu id ops 0 ops env H [] [] (Q .normal) else vcDraw P L ops ops env H (Q .normal) := by show (if mu.contains (1000000 + id) then vcChain P L mu id ops.toArray.toList 0 ops.toArray.toList env H [] [] (Q .normal) else vcDraw P L ops.toArray.toList ops.toArray.toList env H (Q .normal)) = _; simp
theorem c_loop {c : Code} : vcC P L mu n (.loop c) Q env H = AW P n (.loop c) Q env H := rfl
theorem ex_normal : Ex K Q .normal env H = K env H := rfl
theorem ex_exit {id : Nat} : Ex K Q (.exit id) env H = Q (.exit id) env H := rfl
theorem ex_ret : Ex K Q .ret env H = Q .ret env H := rfl
theorem in_normal {id : Nat} : InB id Q .normal env H = Q .normal env H := rfl
theorem in_exit {id id' : Nat} : InB id Q (.exit id') env H = if id' = id then Q .normal env H else Q (.exit id') env H := rfl
theorem in_ret {id : Nat} : InB id Q .ret env H = Q .ret env H := rfl
theorem b_ret {rs : List ResultVar} {H₀ : List AObj} {R : AV → List AObj → Prop} : BodyQ L rs H₀ R .ret env H = Fin L rs H₀ R env H := rfl
theorem b_normal {rs : List ResultVar} {H₀ : List AObj} {R : AV → List AObj → Prop} : BodyQ L rs H₀ R .normal env H = Fin L rs H₀ R env H := rfl
theorem o_nil : vcOps P L mu all [] env H K = K env H := rfl
theorem o_cons {d : Option Tmp} {op : Op} {ty : TypeId} {pos : String} {af : Array Edge} : vcOps P L mu all (⟨d, op, ty, pos, af, none⟩ :: rest) env H K = vcOp P L mu ⟨d, op, ty, pos, af, none⟩ env H fun v H' => vcOps P L mu all rest (put d v env) H' K := rfl
theorem o_guard {d : Option Tmp} {op : Op} {ty : TypeId} {pos : String} {af : Array Edge} {j : Nat} {b : Bool} : vcOps P L mu all (⟨d, op, ty, pos, af, some (j, b)⟩ :: rest) env H K =
    vcGuard (gval all env j) b (vcOp P L mu ⟨d, op, ty, pos, af, some (j, b)⟩ (known1 all j b env) H fun v H' => vcOps P L mu all rest (put d v (known1 all j b env)) H' K) (vcOps P L mu all rest (put d (.lit undef) (known1 all j (!b) env)) H K) (vcOps P L mu all rest (put d (.lit undef) env) H K) := rfl
theorem d_nil : vcDraw P L all [] env H K = K env H := rfl
theorem d_cons {d : Option Tmp} {op : Op} {ty : TypeId} {pos : String} {af : Array Edge} : vcDraw P L all (⟨d, op, ty, pos, af, none⟩ :: rest) env H K = vcOpD P L ⟨d, op, ty, pos, af, none⟩ env H fun v => vcDraw P L all rest (put d v env) H K := rfl
theorem d_guard {d : Option Tmp} {op : Op} {ty : TypeId} {pos : String} {af : Array Edge} {j : Nat} {b : Bool} : vcDraw P L all (⟨d, op, ty, pos, af, some (j, b)⟩ :: rest) env H K =
    vcGuard (gval all env j) b (vcOpD P L ⟨d, op, ty, pos, af, some (j, b)⟩ (known1 all j b env) H fun v => vcDraw P L all rest (put d v (known1 all j b env)) H K) (vcDraw P L all rest (put d (.lit undef) (known1 all j (!b) env)) H K) (vcDraw P L all rest (put d (.lit undef) env) H K) := rfl
theorem gv_zero {d : Tmp} {op : Op} {ty : TypeId} {pos : String} {af : Array Edge} {g : Option (Nat × Bool)} : gval (⟨some d, op, ty, pos, af, g⟩ :: rest) env 0 = get env d := rfl
theorem gv_succ {o : Oper} {j : Nat} : gval (o :: rest) env (j + 1) = gval rest env j := rfl
section
variable {d : Option Tmp} {ty : TypeId} {pos : String} {af : Array Edge} {g : Option (Nat × Bool)}
theorem op_move {x : Operand} : vcOp P L mu ⟨d, .move x, ty, pos, af, g⟩ env H J = lift (qTrue (ev env x)) J H := rfl
theorem op_assign {x : Operand} : vcOp P L mu ⟨d, .assign x, ty, pos, af, g⟩ env H J = lift (qTrue (ev env x)) J H := rfl
theorem op_pick {a b c : Operand} : vcOp P L mu ⟨d, .pick a b c, ty, pos, af, g⟩ env H J = lift (qPick (ev env a) (ev env b) (ev env c)) J H := rfl
theorem op_bin {op : BinOp} {t t' : TypeId} {x y : Operand} : vcOp P L mu ⟨d, .binOp op t x y t', ty, pos, af, g⟩ env H J = if nilCmp y then vcNil L op t (ev env x) H J else lift (qBin L op t (isConst y) (ev env x) (ev env y)) J H := rfl
theorem op_un {op : UnOp} {t : TypeId} {x : Operand} : vcOp P L mu ⟨d, .unOp op t x, ty, pos, af, g⟩ env H J = lift (qUn' op (ev env x)) J H := rfl
theorem op_conv {s t : TypeId} {x : Operand} : vcOp P L mu ⟨d, .convert s t x, ty, pos, af, g⟩ env H J = if mu.contains (d.getD 0) then vcBytes L s t (ev env x) H J else lift (qConvH P L H s t (ev env x)) J H := rfl
theorem op_extract {x : Operand} {i : Nat} : vcOp P L mu ⟨d, .extract x i, ty, pos, af, g⟩ env H J = lift (qExtract (ev env x) i) J H := rfl
theorem op_indexAddr {t : TypeId} {x i : Operand} : vcOp P L mu ⟨d, .indexAddr t x i, ty, pos, af, g⟩ env H J = lift (qIndexAddr L t (ev env x) (ev env i)) J H := rfl
theorem op_index {t : TypeId} {x i : Operand} : vcOp P L mu ⟨d, .index t x i, ty, pos, af, g⟩ env H J = lift (qIndex L t (ev env x) (ev env i)) J H := rfl
theorem op_load {t : TypeId} {x : Operand} : vcOp P L mu ⟨d, .load t x, ty, pos, af, g⟩ env H J = lift (qLoad L H t (ev env x)) J H := rfl
theorem op_slice {t : TypeId} {x : Operand} {lo hi mx : Option Operand} : vcOp P L mu ⟨d, .slice t x lo hi mx, ty, pos, af, g⟩ env H J = lift (qSlice L t (ev env x) (evO env lo) (evO env hi) (evO env mx)) J H := rfl
theorem op_fieldAddr {t : TypeId} {x : Operand} {f : Nat} : vcOp P L mu ⟨d, .fieldAddr t x f, ty, pos, af, g⟩ env H J = lift (qFieldAddr L t (ev env x) f) J H := rfl
theorem op_field {t : TypeId} {x : Operand} {f : Nat} : vcOp P L mu ⟨d, .field t x f, ty, pos, af, g⟩ env H J = lift (qField L t (ev env x) f) J H := rfl
theorem op_build {t : TypeId} {ps : Array (Nat × Operand)} : vcOp P L mu ⟨d, .build t ps, ty, pos, af, g⟩ env H J = lift (qBuild L t (evParts env ps)) J H := rfl
theorem op_buildSlice {t : TypeId} {len : Nat} {ps : Array (Nat × Operand)} : vcOp P L mu ⟨d, .buildSlice t len ps, ty, pos, af, g⟩ env H J = if mu.contains (d.getD 0) then vcBuildM L t len (evParts env ps) H J else if len = 0 ∧ ps.size ≠ 0 then False else lift (qBuildSlice L t len (evParts env ps)) J H := rfl
theorem op_box {t : TypeId} {x : Operand} : vcOp P L mu ⟨d, .box t x, ty, pos, af, g⟩ env H J = if mu.contains (d.getD 0) then vcMut t (ev env x) H J else lift (qBox (ev env x)) J H := rfl
theorem op_alloc {t : TypeId} : vcOp P L mu ⟨d, .alloc t, ty, pos, af, g⟩ env H J = (known (L t) = true ∧ vcNew (bufOf mu (d.getD 0)) t (L t).zero H J) := by unfold vcOp vcNew; rfl
theorem op_store {t : TypeId} {a x : Operand} : vcOp P L mu ⟨d, .store t a x, ty, pos, af, g⟩ env H J = vcStore L t (ev env a) (ev env x) H J := rfl
theorem op_callv {f : Operand} {as : Array Operand} {ts : Array TypeId} : vcOp P L mu ⟨d, .call ⟨.value f, as, ts⟩, ty, pos, af, g⟩ env H J = vcCall P (ev env f) (as.toList.map (ev env)) H J := rfl
theorem op_callb {b : Builtin} {as : Array Operand} {ts : Array TypeId} : vcOp P L mu ⟨d, .call ⟨.builtin b, as, ts⟩, ty, pos, af, g⟩ env H J = vcBuiltin (mu.contains (d.getD 0)) L b (as.toList.map (ev env)) ts.toList H J := rfl
theorem op_nilCheck {x : Operand} : vcOp P L mu ⟨d, .nilCheck x, ty, pos, af, g⟩ env H J = lift (qNil (ev env x)) J H := rfl
theorem op_makeFunc {f : Fn} {fs cs : Array Operand} : vcOp P L mu ⟨d, .makeFunc f fs cs, ty, pos, af, g⟩ env H J = lift (qTrue (.fn f (fs.toList.map (ev env)) (cs.toList.map (ev env)))) J H := rfl
theorem op_makeSlice {t : TypeId} {x y : Operand} : vcOp P L mu ⟨d, .makeSlice t x y, ty, pos, af, g⟩ env H J = vcMake L t (ev env x) (ev env y) H J := rfl
theorem op_makeInterface {t : TypeId} {x : Operand} : vcOp P L mu ⟨d, .makeInterface t x, ty, pos, af, g⟩ env H J = lift (qIface L t (ev env x)) J H := rfl
theorem od_move {x : Operand} : vcOpD P L ⟨d, .move x, ty, pos, af, g⟩ env H D = liftD (qTrue (ev env x)) D := rfl
theorem od_assign {x : Operand} : vcOpD P L ⟨d, .assign x, ty, pos, af, g⟩ env H D = liftD (qTrue (ev env x)) D := rfl
theorem od_pick {a b c : Operand} : vcOpD P L ⟨d, .pick a b c, ty, pos, af, g⟩ env H D = liftD (qPick (ev env a) (ev env b) (ev env c)) D := rfl
theorem od_bin {op : BinOp} {t t' : TypeId} {x y : Operand} : vcOpD P L ⟨d, .binOp op t x y t', ty, pos, af, g⟩ env H D = liftD (if nilCmp y then none else qBin L op t (isConst y) (ev env x) (ev env y)) D := rfl
theorem od_un {op : UnOp} {t : TypeId} {x : Operand} : vcOpD P L ⟨d, .unOp op t x, ty, pos, af, g⟩ env H D = liftD (qUn' op (ev env x)) D := rfl
theorem od_conv {s t : TypeId} {x : Operand} : vcOpD P L ⟨d, .convert s t x, ty, pos, af, g⟩ env H D = liftD (qConvH P L H s t (ev env x)) D := rfl
theorem od_extract {x : Operand} {i : Nat} : vcOpD P L ⟨d, .extract x i, ty, pos, af, g⟩ env H D = liftD (qExtract (ev env x) i) D := rfl
theorem od_indexAddr {t : TypeId} {x i : Operand} : vcOpD P L ⟨d, .indexAddr t x i, ty, pos, af, g⟩ env H D = liftD (qIndexAddr L t (ev env x) (ev env i)) D := rfl
theorem od_index {t : TypeId} {x i : Operand} : vcOpD P L ⟨d, .index t x i, ty, pos, af, g⟩ env H D = liftD (qIndex L t (ev env x) (ev env i)) D := rfl
theorem od_load {t : TypeId} {x : Operand} : vcOpD P L ⟨d, .load t x, ty, pos, af, g⟩ env H D = liftD (qLoad L H t (ev env x)) D := rfl
theorem od_slice {t : TypeId} {x : Operand} {lo hi mx : Option Operand} : vcOpD P L ⟨d, .slice t x lo hi mx, ty, pos, af, g⟩ env H D = liftD (qSlice L t (ev env x) (evO env lo) (evO env hi) (evO env mx)) D := rfl
theorem od_fieldAddr {t : TypeId} {x : Operand} {f : Nat} : vcOpD P L ⟨d, .fieldAddr t x f, ty, pos, af, g⟩ env H D = liftD (qFieldAddr L t (ev env x) f) D := rfl
theorem od_field {t : TypeId} {x : Operand} {f : Nat} : vcOpD P L ⟨d, .field t x f, ty, pos, af, g⟩ env H D = liftD (qField L t (ev env x) f) D := rfl
theorem od_build {t : TypeId} {ps : Array (Nat × Operand)} : vcOpD P L ⟨d, .build t ps, ty, pos, af, g⟩ env H D = liftD (qBuild L t (evParts env ps)) D := rfl
theorem od_buildSlice {t : TypeId} {len : Nat} {ps : Array (Nat × Operand)} : vcOpD P L ⟨d, .buildSlice t len ps, ty, pos, af, g⟩ env H D = if len = 0 ∧ ps.size ≠ 0 then False else liftD (qBuildSlice L t len (evParts env ps)) D := rfl
theorem od_box {t : TypeId} {x : Operand} : vcOpD P L ⟨d, .box t x, ty, pos, af, g⟩ env H D = liftD (qBox (ev env x)) D := rfl
theorem od_nilCheck {x : Operand} : vcOpD P L ⟨d, .nilCheck x, ty, pos, af, g⟩ env H D = liftD (qNil (ev env x)) D := rfl
theorem od_makeFunc {f : Fn} {fs cs : Array Operand} : vcOpD P L ⟨d, .makeFunc f fs cs, ty, pos, af, g⟩ env H D = liftD (qTrue (.fn f (fs.toList.map (ev env)) (cs.toList.map (ev env)))) D := rfl
theorem od_makeInterface {t : TypeId} {x : Operand} : vcOpD P L ⟨d, .makeInterface t x, ty, pos, af, g⟩ env H D = liftD (qIface L t (ev env x)) D := rfl
theorem od_callv {f : Operand} {as : Array Operand} {ts : Array TypeId} : vcOpD P L ⟨d, .call ⟨.value f, as, ts⟩, ty, pos, af, g⟩ env H D = vcCallD P (ev env f) (as.toList.map (ev env)) H D := rfl
theorem od_callb {b : Builtin} {as : Array Operand} {ts : Array TypeId} : vcOpD P L ⟨d, .call ⟨.builtin b, as, ts⟩, ty, pos, af, g⟩ env H D = vcBuiltinD L H b (as.toList.map (ev env)) ts.toList D := rfl
end
theorem call_fn {f : FuncId} {fs cs args : List AV} : vcCall P (.fn (.func f) fs cs) args H J = ACalls P f (fs ++ args ++ cs) H J := rfl
theorem call_fn0 {f : FuncId} {args : List AV} : vcCall P (.fn (.func f) [] []) args H J = ACalls P f args H J := by show ACalls P f ([] ++ args ++ []) H J = _; simp
theorem calld_fn0 {f : FuncId} {args : List AV} : vcCallD P (.fn (.func f) [] []) args H D = ∃ z, ACalls P f args H (fun x H' => x = z ∧ H' = H) ∧ Hold (D z) := by show (∃ z, ACalls P f ([] ++ args ++ []) H (fun x H' => x = z ∧ H' = H) ∧ D z) = _; simp [hold_eq]
section
variable {d : Option Tmp} {ty : TypeId} {pos : String} {af : Array Edge} {g : Option (Nat × Bool)}
theorem oe_move {x : Operand} : vcOpE P L mu ⟨d, .move x, ty, pos, af, g⟩ env H J = vcOp P L mu ⟨d, .move x, ty, pos, af, g⟩ env H J := rfl
theorem oe_assign {x : Operand} : vcOpE P L mu ⟨d, .assign x, ty, pos, af, g⟩ env H J = vcOp P L mu ⟨d, .assign x, ty, pos, af, g⟩ env H J := rfl
theorem oe_pick {a b c : Operand} : vcOpE P L mu ⟨d, .pick a b c, ty, pos, af, g⟩ env H J = vcOp P L mu ⟨d, .pick a b c, ty, pos, af, g⟩ env H J := rfl
theorem oe_unOp {op : UnOp} {t : TypeId} {x : Operand} : vcOpE P L mu ⟨d, .unOp op t x, ty, pos, af, g⟩ env H J = vcOp P L mu ⟨d, .unOp op t x, ty, pos, af, g⟩ env H J := rfl
theorem oe_convert {s t : TypeId} {x : Operand} : vcOpE P L mu ⟨d, .convert s t x, ty, pos, af, g⟩ env H J = vcOp P L mu ⟨d, .convert s t x, ty, pos, af, g⟩ env H J := rfl
theorem oe_extract {x : Operand} {i : Nat} : vcOpE P L mu ⟨d, .extract x i, ty, pos, af, g⟩ env H J = vcOp P L mu ⟨d, .extract x i, ty, pos, af, g⟩ env H J := rfl
theorem oe_indexAddr {t : TypeId} {x i : Operand} : vcOpE P L mu ⟨d, .indexAddr t x i, ty, pos, af, g⟩ env H J = vcOp P L mu ⟨d, .indexAddr t x i, ty, pos, af, g⟩ env H J := rfl
theorem oe_index {t : TypeId} {x i : Operand} : vcOpE P L mu ⟨d, .index t x i, ty, pos, af, g⟩ env H J = vcOp P L mu ⟨d, .index t x i, ty, pos, af, g⟩ env H J := rfl
theorem oe_load {t : TypeId} {x : Operand} : vcOpE P L mu ⟨d, .load t x, ty, pos, af, g⟩ env H J = vcOp P L mu ⟨d, .load t x, ty, pos, af, g⟩ env H J := rfl
theorem oe_slice {t : TypeId} {x : Operand} {lo hi mx : Option Operand} : vcOpE P L mu ⟨d, .slice t x lo hi mx, ty, pos, af, g⟩ env H J = vcOp P L mu ⟨d, .slice t x lo hi mx, ty, pos, af, g⟩ env H J := rfl
theorem oe_fieldAddr {t : TypeId} {x : Operand} {f : Nat} : vcOpE P L mu ⟨d, .fieldAddr t x f, ty, pos, af, g⟩ env H J = vcOp P L mu ⟨d, .fieldAddr t x f, ty, pos, af, g⟩ env H J := rfl
theorem oe_field {t : TypeId} {x : Operand} {f : Nat} : vcOpE P L mu ⟨d, .field t x f, ty, pos, af, g⟩ env H J = vcOp P L mu ⟨d, .field t x f, ty, pos, af, g⟩ env H J := rfl
theorem oe_build {t : TypeId} {ps : Array (Nat × Operand)} : vcOpE P L mu ⟨d, .build t ps, ty, pos, af, g⟩ env H J = vcOp P L mu ⟨d, .build t ps, ty, pos, af, g⟩ env H J := rfl
theorem oe_buildSlice {t : TypeId} {len : Nat} {ps : Array (Nat × Operand)} : vcOpE P L mu ⟨d, .buildSlice t len ps, ty, pos, af, g⟩ env H J = vcOp P L mu ⟨d, .buildSlice t len ps, ty, pos, af, g⟩ env H J := rfl
theorem oe_box {t : TypeId} {x : Operand} : vcOpE P L mu ⟨d, .box t x, ty, pos, af, g⟩ env H J = vcOp P L mu ⟨d, .box t x, ty, pos, af, g⟩ env H J := rfl
theorem oe_alloc {t : TypeId} : vcOpE P L mu ⟨d, .alloc t, ty, pos, af, g⟩ env H J = vcOp P L mu ⟨d, .alloc t, ty, pos, af, g⟩ env H J := rfl
theorem oe_store {t : TypeId} {a x : Operand} : vcOpE P L mu ⟨d, .store t a x, ty, pos, af, g⟩ env H J = vcOp P L mu ⟨d, .store t a x, ty, pos, af, g⟩ env H J := rfl
theorem oe_makeSlice {t : TypeId} {x y : Operand} : vcOpE P L mu ⟨d, .makeSlice t x y, ty, pos, af, g⟩ env H J = vcOp P L mu ⟨d, .makeSlice t x y, ty, pos, af, g⟩ env H J := rfl
theorem oe_nilCheck {x : Operand} : vcOpE P L mu ⟨d, .nilCheck x, ty, pos, af, g⟩ env H J = vcOp P L mu ⟨d, .nilCheck x, ty, pos, af, g⟩ env H J := rfl
theorem oe_makeFunc {f : Fn} {fs cs : Array Operand} : vcOpE P L mu ⟨d, .makeFunc f fs cs, ty, pos, af, g⟩ env H J = vcOp P L mu ⟨d, .makeFunc f fs cs, ty, pos, af, g⟩ env H J := rfl
theorem oe_makeInterface {t : TypeId} {x : Operand} : vcOpE P L mu ⟨d, .makeInterface t x, ty, pos, af, g⟩ env H J = vcOp P L mu ⟨d, .makeInterface t x, ty, pos, af, g⟩ env H J := rfl
theorem oe_binOp {op : BinOp} {t t' : TypeId} {x y : Operand} : vcOpE P L mu ⟨d, .binOp op t x y t', ty, pos, af, g⟩ env H J = if nilCmp y then False else lift (qBin L op t (isConst y) (ev env x) (ev env y)) J H := by unfold vcOpE; simp only [vcOp]; split <;> simp_all
theorem oe_callv {f : FuncId} {as : Array Operand} {ts : Array TypeId} : vcOpE P L mu ⟨d, .call ⟨.value (.func f), as, ts⟩, ty, pos, af, g⟩ env H J = ∃ z H', ACalls P f (as.toList.map (ev env)) H (fun x H'' => x = z ∧ H'' = H') ∧ Hold (J z H') := by simp only [vcOpE, vcOp, hold_eq]; congr; funext z; congr; funext H'; rw [show ev env (.func f) = .fn (.func f) [] [] from rfl, call_fn0]
theorem oe_len {as : Array Operand} {ts : Array TypeId} : vcOpE P L mu ⟨d, .call ⟨.builtin .len, as, ts⟩, ty, pos, af, g⟩ env H J = vcBuiltin (mu.contains (d.getD 0)) L .len (as.toList.map (ev env)) ts.toList H J := rfl
theorem oe_cap {as : Array Operand} {ts : Array TypeId} : vcOpE P L mu ⟨d, .call ⟨.builtin .cap, as, ts⟩, ty, pos, af, g⟩ env H J = vcBuiltin (mu.contains (d.getD 0)) L .cap (as.toList.map (ev env)) ts.toList H J := rfl
theorem oe_min {as : Array Operand} {ts : Array TypeId} : vcOpE P L mu ⟨d, .call ⟨.builtin .min, as, ts⟩, ty, pos, af, g⟩ env H J = vcBuiltin (mu.contains (d.getD 0)) L .min (as.toList.map (ev env)) ts.toList H J := rfl
theorem oe_max {as : Array Operand} {ts : Array TypeId} : vcOpE P L mu ⟨d, .call ⟨.builtin .max, as, ts⟩, ty, pos, af, g⟩ env H J = vcBuiltin (mu.contains (d.getD 0)) L .max (as.toList.map (ev env)) ts.toList H J := rfl
theorem oe_copy {as : Array Operand} {ts : Array TypeId} : vcOpE P L mu ⟨d, .call ⟨.builtin .copy, as, ts⟩, ty, pos, af, g⟩ env H J = vcBuiltin (mu.contains (d.getD 0)) L .copy (as.toList.map (ev env)) ts.toList H J := rfl
theorem oe_sliceData {as : Array Operand} {ts : Array TypeId} : vcOpE P L mu ⟨d, .call ⟨.builtin .unsafeSliceData, as, ts⟩, ty, pos, af, g⟩ env H J = vcBuiltin (mu.contains (d.getD 0)) L .unsafeSliceData (as.toList.map (ev env)) ts.toList H J := rfl
theorem oe_string {as : Array Operand} {ts : Array TypeId} : vcOpE P L mu ⟨d, .call ⟨.builtin .unsafeString, as, ts⟩, ty, pos, af, g⟩ env H J = vcBuiltin (mu.contains (d.getD 0)) L .unsafeString (as.toList.map (ev env)) ts.toList H J := rfl
theorem oe_append {x y : Operand} {t t' : TypeId} : vcOpE P L mu ⟨d, .call ⟨.builtin .append, #[x, y], #[t, t']⟩, ty, pos, af, g⟩ env H J = (notMsl [ev env x] ∧ vcApp (mu.contains (d.getD 0)) L t t' (ev env x) (ev env y) H J) := by unfold vcOpE; simp only [vcOp, vcBuiltin]; simp only [List.map]; congr 1; unfold notMsl; cases ev env x <;> rfl
section
variable {rid i : Nat} {z : AV} {H' : List AObj} {hist : List (Nat × List AObj)} {rs : List (Nat × Oper × Env × AV)} {k : List (Nat × List AObj) → List (Nat × Oper × Env × AV) → Prop}
theorem nx_move {x : Operand} : vcNext P L mu rid i ⟨d, .move x, ty, pos, af, g⟩ env H z H' hist rs k = k hist rs := rfl
theorem nx_assign {x : Operand} : vcNext P L mu rid i ⟨d, .assign x, ty, pos, af, g⟩ env H z H' hist rs k = k hist rs := rfl
theorem nx_pick {a b c : Operand} : vcNext P L mu rid i ⟨d, .pick a b c, ty, pos, af, g⟩ env H z H' hist rs k = k hist rs := rfl
theorem nx_unOp {op : UnOp} {t : TypeId} {x : Operand} : vcNext P L mu rid i ⟨d, .unOp op t x, ty, pos, af, g⟩ env H z H' hist rs k = k hist rs := rfl
theorem nx_extract {x : Operand} {j : Nat} : vcNext P L mu rid i ⟨d, .extract x j, ty, pos, af, g⟩ env H z H' hist rs k = k hist rs := rfl
theorem nx_indexAddr {t : TypeId} {x y : Operand} : vcNext P L mu rid i ⟨d, .indexAddr t x y, ty, pos, af, g⟩ env H z H' hist rs k = k hist rs := rfl
theorem nx_index {t : TypeId} {x y : Operand} : vcNext P L mu rid i ⟨d, .index t x y, ty, pos, af, g⟩ env H z H' hist rs k = k hist rs := rfl
theorem nx_slice {t : TypeId} {x : Operand} {lo hi mx : Option Operand} : vcNext P L mu rid i ⟨d, .slice t x lo hi mx, ty, pos, af, g⟩ env H z H' hist rs k = k hist rs := rfl
theorem nx_fieldAddr {t : TypeId} {x : Operand} {f : Nat} : vcNext P L mu rid i ⟨d, .fieldAddr t x f, ty, pos, af, g⟩ env H z H' hist rs k = k hist rs := rfl
theorem nx_field {t : TypeId} {x : Operand} {f : Nat} : vcNext P L mu rid i ⟨d, .field t x f, ty, pos, af, g⟩ env H z H' hist rs k = k hist rs := rfl
theorem nx_build {t : TypeId} {ps : Array (Nat × Operand)} : vcNext P L mu rid i ⟨d, .build t ps, ty, pos, af, g⟩ env H z H' hist rs k = k hist rs := rfl
theorem nx_nilCheck {x : Operand} : vcNext P L mu rid i ⟨d, .nilCheck x, ty, pos, af, g⟩ env H z H' hist rs k = k hist rs := rfl
theorem nx_makeFunc {f : Fn} {fs cs : Array Operand} : vcNext P L mu rid i ⟨d, .makeFunc f fs cs, ty, pos, af, g⟩ env H z H' hist rs k = k hist rs := rfl
theorem nx_makeInterface {t : TypeId} {x : Operand} : vcNext P L mu rid i ⟨d, .makeInterface t x, ty, pos, af, g⟩ env H z H' hist rs k = k hist rs := rfl
theorem nx_binOp {op : BinOp} {t t' : TypeId} {x y : Operand} (h : nilCmp y = false) : vcNext P L mu rid i ⟨d, .binOp op t x y t', ty, pos, af, g⟩ env H z H' hist rs k = k hist rs := by unfold vcNext effOp pureOp; simp [h]
theorem nx_len {as : Array Operand} {ts : Array TypeId} : vcNext P L mu rid i ⟨d, .call ⟨.builtin .len, as, ts⟩, ty, pos, af, g⟩ env H z H' hist rs k = k hist rs := rfl
theorem nx_cap {as : Array Operand} {ts : Array TypeId} : vcNext P L mu rid i ⟨d, .call ⟨.builtin .cap, as, ts⟩, ty, pos, af, g⟩ env H z H' hist rs k = k hist rs := rfl
theorem nx_min {as : Array Operand} {ts : Array TypeId} : vcNext P L mu rid i ⟨d, .call ⟨.builtin .min, as, ts⟩, ty, pos, af, g⟩ env H z H' hist rs k = k hist rs := rfl
theorem nx_max {as : Array Operand} {ts : Array TypeId} : vcNext P L mu rid i ⟨d, .call ⟨.builtin .max, as, ts⟩, ty, pos, af, g⟩ env H z H' hist rs k = k hist rs := rfl
theorem nx_store {t : TypeId} {a x : Operand} : vcNext P L mu rid i ⟨d, .store t a x, ty, pos, af, g⟩ env H z H' hist rs k = (staysAll P L mu rid i H' rs ∧ k ((i, H) :: hist) rs) := rfl
theorem nx_makeSlice {t : TypeId} {x y : Operand} : vcNext P L mu rid i ⟨d, .makeSlice t x y, ty, pos, af, g⟩ env H z H' hist rs k = (staysAll P L mu rid i H' rs ∧ k ((i, H) :: hist) rs) := rfl
theorem nx_alloc {t : TypeId} : vcNext P L mu rid i ⟨d, .alloc t, ty, pos, af, g⟩ env H z H' hist rs k = (staysAll P L mu rid i H' rs ∧ k ((i, H) :: hist) rs) := rfl
theorem nx_append {as : Array Operand} {ts : Array TypeId} : vcNext P L mu rid i ⟨d, .call ⟨.builtin .append, as, ts⟩, ty, pos, af, g⟩ env H z H' hist rs k = (staysAll P L mu rid i H' rs ∧ k ((i, H) :: hist) rs) := rfl
theorem nx_copy {as : Array Operand} {ts : Array TypeId} : vcNext P L mu rid i ⟨d, .call ⟨.builtin .copy, as, ts⟩, ty, pos, af, g⟩ env H z H' hist rs k = (staysAll P L mu rid i H' rs ∧ k ((i, H) :: hist) rs) := rfl
theorem nx_load {t : TypeId} {x : Operand} : vcNext P L mu rid i ⟨d, .load t x, ty, pos, af, g⟩ env H z H' hist rs k = (H' = H ∧ wasAll P L mu rid i ⟨d, .load t x, ty, pos, af, g⟩ env z hist ∧ k hist ((i, ⟨d, .load t x, ty, pos, af, g⟩, env, z) :: rs)) := rfl
theorem nx_box {t : TypeId} {x : Operand} : vcNext P L mu rid i ⟨d, .box t x, ty, pos, af, g⟩ env H z H' hist rs k = if mu.contains (d.getD 0) then (staysAll P L mu rid i H' rs ∧ k ((i, H) :: hist) rs) else k hist rs := by unfold vcNext effOp pureOp; cases h : mu.contains (d.getD 0) <;> simp [h]
theorem nx_buildSlice {t : TypeId} {len : Nat} {ps : Array (Nat × Operand)} : vcNext P L mu rid i ⟨d, .buildSlice t len ps, ty, pos, af, g⟩ env H z H' hist rs k = if mu.contains (d.getD 0) then (staysAll P L mu rid i H' rs ∧ k ((i, H) :: hist) rs) else (H' = H ∧ wasAll P L mu rid i ⟨d, .buildSlice t len ps, ty, pos, af, g⟩ env z hist ∧ k hist ((i, ⟨d, .buildSlice t len ps, ty, pos, af, g⟩, env, z) :: rs)) := by unfold vcNext effOp pureOp; cases h : mu.contains (d.getD 0) <;> simp [h]
theorem nx_convert {s t : TypeId} {x : Operand} : vcNext P L mu rid i ⟨d, .convert s t x, ty, pos, af, g⟩ env H z H' hist rs k = if mu.contains (d.getD 0) then (staysAll P L mu rid i H' rs ∧ k ((i, H) :: hist) rs) else (H' = H ∧ wasAll P L mu rid i ⟨d, .convert s t x, ty, pos, af, g⟩ env z hist ∧ k hist ((i, ⟨d, .convert s t x, ty, pos, af, g⟩, env, z) :: rs)) := by unfold vcNext effOp pureOp; cases h : mu.contains (d.getD 0) <;> simp [h]
theorem nx_callv {f : Operand} {as : Array Operand} {ts : Array TypeId} : vcNext P L mu rid i ⟨d, .call ⟨.value f, as, ts⟩, ty, pos, af, g⟩ env H z H' hist rs k = if mu.contains (2000000 + d.getD 0) then (H' = H ∧ wasAll P L mu rid i ⟨d, .call ⟨.value f, as, ts⟩, ty, pos, af, g⟩ env z hist ∧ k hist ((i, ⟨d, .call ⟨.value f, as, ts⟩, ty, pos, af, g⟩, env, z) :: rs)) else (staysAll P L mu rid i H' rs ∧ k ((i, H) :: hist) rs) := by unfold vcNext effOp pureOp; cases h : mu.contains (2000000 + d.getD 0) <;> simp [h]
theorem nx_sliceData {as : Array Operand} {ts : Array TypeId} : vcNext P L mu rid i ⟨d, .call ⟨.builtin .unsafeSliceData, as, ts⟩, ty, pos, af, g⟩ env H z H' hist rs k = (H' = H ∧ wasAll P L mu rid i ⟨d, .call ⟨.builtin .unsafeSliceData, as, ts⟩, ty, pos, af, g⟩ env z hist ∧ k hist ((i, ⟨d, .call ⟨.builtin .unsafeSliceData, as, ts⟩, ty, pos, af, g⟩, env, z) :: rs)) := rfl
theorem nx_string {as : Array Operand} {ts : Array TypeId} : vcNext P L mu rid i ⟨d, .call ⟨.builtin .unsafeString, as, ts⟩, ty, pos, af, g⟩ env H z H' hist rs k = (H' = H ∧ wasAll P L mu rid i ⟨d, .call ⟨.builtin .unsafeString, as, ts⟩, ty, pos, af, g⟩ env z hist ∧ k hist ((i, ⟨d, .call ⟨.builtin .unsafeString, as, ts⟩, ty, pos, af, g⟩, env, z) :: rs)) := rfl
theorem st_nil {j : Nat} : staysAll P L mu rid j H' [] = True := rfl
theorem st_cons {j : Nat} {o : Oper} {r : List (Nat × Oper × Env × AV)} : staysAll P L mu rid j H' ((i, o, env, z) :: r) = if mu.contains (1000000000000 + (rid * 1000 + i) * 1000 + j) then vcOp P L mu o env H' (fun x H'' => x = z ∧ H'' = H') ∧ staysAll P L mu rid j H' r else staysAll P L mu rid j H' r := by rw [← race_eq]; rfl
theorem wa_nil {o : Oper} : wasAll P L mu rid i o env z [] = True := rfl
theorem wa_cons {j : Nat} {o : Oper} {r : List (Nat × List AObj)} : wasAll P L mu rid i o env z ((j, H) :: r) = if mu.contains (1000000000000 + (rid * 1000 + i) * 1000 + j) then vcOp P L mu o env H (fun x H'' => x = z ∧ H'' = H) ∧ wasAll P L mu rid i o env z r else wasAll P L mu rid i o env z r := by rw [← race_eq]; rfl
theorem ch_nil : vcChain P L mu rid all i [] env H hist rs K = K env H := rfl
theorem ch_cons {op : Op} : vcChain P L mu rid all i (⟨d, op, ty, pos, af, none⟩ :: rest) env H hist rs K = vcOpE P L mu ⟨d, op, ty, pos, af, none⟩ env H fun v H' => vcNext P L mu rid i ⟨d, op, ty, pos, af, none⟩ env H v H' hist rs fun hist' rs' => vcChain P L mu rid all (i + 1) rest (put d v env) H' hist' rs' K := rfl
theorem ch_guard {op : Op} {j : Nat} {b : Bool} : vcChain P L mu rid all i (⟨d, op, ty, pos, af, some (j, b)⟩ :: rest) env H hist rs K =
    vcGuard (gval all env j) b (vcOpE P L mu ⟨d, op, ty, pos, af, some (j, b)⟩ (known1 all j b env) H fun v H' => vcNext P L mu rid i ⟨d, op, ty, pos, af, some (j, b)⟩ (known1 all j b env) H v H' hist rs fun hist' rs' => vcChain P L mu rid all (i + 1) rest (put d v (known1 all j b env)) H' hist' rs' K) (vcChain P L mu rid all (i + 1) rest (put d (.lit undef) (known1 all j (!b) env)) H hist rs K) (vcChain P L mu rid all (i + 1) rest (put d (.lit undef) env) H hist rs K) := rfl
end
end
theorem b_len {m : Bool} {x : AV} {t : TypeId} : vcBuiltin m L .len [x] [t] H J = lift (qLen' L t x) J H := rfl
theorem b_cap {m : Bool} {x : AV} {t : TypeId} : vcBuiltin m L .cap [x] [t] H J = lift (qCap L t x) J H := rfl
theorem b_min {m : Bool} {x y : AV} {t t' : TypeId} : vcBuiltin m L .min [x, y] [t, t'] H J = lift (qLeast false x y) J H := rfl
theorem b_max {m : Bool} {x y : AV} {t t' : TypeId} : vcBuiltin m L .max [x, y] [t, t'] H J = lift (qLeast true x y) J H := rfl
theorem b_copy {m : Bool} {x y : AV} {t t' : TypeId} : vcBuiltin m L .copy [x, y] [t, t'] H J = vcCopy L t x y H J := rfl
theorem b_sliceData {m : Bool} {x : AV} {t : TypeId} : vcBuiltin m L .unsafeSliceData [x] [t] H J = lift (qSliceData H x) J H := rfl
theorem b_string {m : Bool} {x y : AV} {t t' : TypeId} : vcBuiltin m L .unsafeString [.data x, y] [t, t'] H J = lift (qString L H t (.data x) y) J H := rfl
theorem b_strobj {m : Bool} {k off : Nat} {y : AV} {t t' : TypeId} : vcBuiltin m L .unsafeString [.mp k off, y] [t, t'] H J = vcStrObj L t k off y H J := rfl
theorem b_append {m : Bool} {x y : AV} {t t' : TypeId} : vcBuiltin m L .append [x, y] [t, t'] H J = vcApp m L t t' x y H J := rfl
theorem ap_sl {m : Bool} {o : Own} {s : Nat} {xs : List AV} {y : AV} {t t' : TypeId} : vcApp m L t t' (.sl o s xs) y H J = if m then vcAppendM L t t' (.sl o s xs) y H J else vcAppend L t t' (.sl o s xs) y H J := rfl
theorem ap_mrow {m : Bool} {k n : Nat} {y : AV} {t t' : TypeId} : vcApp m L t t' (.mrow k n) y H J = vcAppendR L t t' (.mrow k n) y H J := rfl
theorem ap_msl {m : Bool} {k off n c : Nat} {y : AV} {t t' : TypeId} : vcApp m L t t' (.msl k off n c) y H J = vcAppendZ L t t' (.msl k off n c) y H J := rfl
theorem nc_tmp {t : Tmp} : nilCmp (.tmp t) = false := rfl
theorem nc_glob {g : Nat} : nilCmp (.global g) = false := rfl
theorem nc_func {f : FuncId} : nilCmp (.func f) = false := rfl
theorem nc_int {k : IntKind} {i : Int} : nilCmp (.const (.int k i)) = false := rfl
theorem nc_bool {b : Bool} : nilCmp (.const (.bool b)) = false := rfl
theorem nc_str {s : ByteArray} : nilCmp (.const (.string s)) = false := rfl
theorem nc_ptr {a : Option Addr} : nilCmp (.const (.pointer a)) = false := rfl
theorem nc_iface : nilCmp (.const .nilIface) = false := rfl
theorem nc_nfunc : nilCmp (.const .nilFunc) = false := rfl
theorem nc_map {a : Option Nat} : nilCmp (.const (.map a)) = false := rfl
theorem nc_nil : nilCmp (.const (.slice none 0 0)) = true := rfl
theorem bd_len {x : AV} {t : TypeId} : vcBuiltinD L H .len [x] [t] D = liftD (qLen' L t x) D := rfl
theorem bd_cap {x : AV} {t : TypeId} : vcBuiltinD L H .cap [x] [t] D = liftD (qCap L t x) D := rfl
theorem bd_sliceData {x : AV} {t : TypeId} : vcBuiltinD L H .unsafeSliceData [x] [t] D = liftD (qSliceData H x) D := rfl
theorem bd_string {x y : AV} {t t' : TypeId} : vcBuiltinD L H .unsafeString [x, y] [t, t'] D = liftD (qString L H t x y) D := rfl
theorem bd_min {x y : AV} {t t' : TypeId} : vcBuiltinD L H .min [x, y] [t, t'] D = liftD (qLeast false x y) D := rfl
theorem bd_max {x y : AV} {t t' : TypeId} : vcBuiltinD L H .max [x, y] [t, t'] D = liftD (qLeast true x y) D := rfl
theorem kn_zero {d : Tmp} {op : Op} {ty : TypeId} {pos : String} {af : Array Edge} {g : Option (Nat × Bool)} {b : Bool} : known1 (⟨some d, op, ty, pos, af, g⟩ :: rest) 0 b env = (d, .lit (.bool b)) :: env := rfl
theorem kn_succ {o : Oper} {j : Nat} {b : Bool} : known1 (o :: rest) (j + 1) b env = known1 rest j b env := rfl
theorem put_some {d : Tmp} {v : AV} : put (some d) v env = (d, v) :: env := rfl
theorem put_none {v : AV} : put none v env = env := rfl
theorem ev_tmp {t : Tmp} : ev env (.tmp t) = get env t := rfl
theorem ev_const {v : Value} : ev env (.const v) = ofConst v := rfl
theorem ev_global {g : Nat} : ev env (.global g) = globAV g := rfl
theorem ev_func {f : FuncId} : ev env (.func f) = .fn (.func f) [] [] := rfl
theorem get_cons {k t : Nat} {v : AV} : get ((k, v) :: env) t = if k = t then v else get env t := rfl
theorem get_cons' {k t : Nat} {v : AV} : get ((k, v) :: env) t = if k = t then v else get env t := rfl
theorem get_nil {t : Nat} : get [] t = .any := rfl
theorem of_int {k : IntKind} {i : Int} : ofConst (.int k i) = .lit (.int k i) := rfl
theorem of_bool {b : Bool} : ofConst (.bool b) = .lit (.bool b) := rfl
theorem of_str {a : List UInt8} : ofConst (.string ⟨a.toArray⟩) = .str a := rfl
theorem of_nil : ofConst (.slice none 0 0) = .sl .full 0 [] := rfl
theorem of_ptr {a : Option Addr} : ofConst (.pointer a) = .lit (.pointer a) := rfl
theorem of_niface : ofConst .nilIface = .lit .nilIface := rfl
theorem of_nfunc : ofConst .nilFunc = .lit .nilFunc := rfl
theorem of_nmap {a : Option Nat} : ofConst (.map a) = .lit (.map a) := rfl
theorem zeroFlat_unf {zs : List AV} {n : Nat} : zeroFlat zs n = (List.range n).map fun i => zs.getD (i % zs.length) .any := rfl
theorem zeroFlat_one {z : AV} {n : Nat} : zeroFlat [z] n = List.replicate n z := by
  unfold zeroFlat
  refine List.ext_getElem? fun i => ?_
  rw [List.getElem?_map, List.getElem?_replicate]
  by_cases h : i < n
  · rw [List.getElem?_range h, if_pos h]
    simp [Nat.mod_one]
  · rw [List.getElem?_eq_none (by simpa using h), if_neg h]
    rfl
theorem flat_agg {cs : List AV} : (AV.agg cs).flat = cs := rfl
theorem flat_lit {v : Value} : (AV.lit v).flat = [.lit v] := rfl
theorem flat_str {l : List UInt8} : (AV.str l).flat = [.str l] := rfl
theorem flat_sl {o : Own} {s : Nat} {xs : List AV} : (AV.sl o s xs).flat = [.sl o s xs] := rfl
theorem flat_ip {x : AV} : (AV.ip x).flat = [.ip x] := rfl
theorem flat_mp {k off : Nat} : (AV.mp k off).flat = [.mp k off] := rfl
theorem flat_msl {k off n c : Nat} : (AV.msl k off n c).flat = [.msl k off n c] := rfl
theorem flat_mrow {k n : Nat} : (AV.mrow k n).flat = [.mrow k n] := rfl
theorem flat_fn {f : Fn} {fs cs : List AV} : (AV.fn f fs cs).flat = [.fn f fs cs] := rfl
theorem flat_ifc {t : TypeId} {x : AV} : (AV.ifc t x).flat = [.ifc t x] := rfl
theorem flat_err : AV.err.flat = [.err] := rfl
theorem flat_data {x : AV} : (AV.data x).flat = [.data x] := rfl
theorem flat_any : (AV.any).flat = [.any] := rfl
theorem flat_tup {cs : List AV} : (AV.tup cs).flat = [.tup cs] := rfl
theorem okv_agg {cs : List AV} : (AV.agg cs).okv = cs.all AV.scalar := rfl
theorem okv_lit {v : Value} : (AV.lit v).okv = v.oneCell' := rfl
theorem okv_str {l : List UInt8} : (AV.str l).okv = true := rfl
theorem okv_sl {o : Own} {s : Nat} {xs : List AV} : (AV.sl o s xs).okv = true := rfl
theorem okv_ip {x : AV} : (AV.ip x).okv = true := rfl
theorem okv_mp {k off : Nat} : (AV.mp k off).okv = true := rfl
theorem okv_msl {k off n c : Nat} : (AV.msl k off n c).okv = true := rfl
theorem okv_mrow {k n : Nat} : (AV.mrow k n).okv = true := rfl
theorem okv_fn {f : Fn} {fs cs : List AV} : (AV.fn f fs cs).okv = true := rfl
theorem okv_ifc {t : TypeId} {x : AV} : (AV.ifc t x).okv = true := rfl
theorem okv_err : AV.err.okv = true := rfl
theorem okv_data {x : AV} : (AV.data x).okv = true := rfl
theorem okv_any : (AV.any).okv = false := rfl
theorem okv_tup {cs : List AV} : (AV.tup cs).okv = false := rfl
/-- The end: a result that may be told in a weaker way, and objects that may be dropped, or written no more. -/
def Done (H₀ : List AObj) (R : AV → List AObj → Prop) (x : AV) (H : List AObj) [Tag R] [Tag H₀] : Prop :=
  ∃ y H', Ends H₀ x H y H' ∧ R y H'
def finL (q : Option (Prop × List AV)) (H₀ : List AObj) (R : AV → List AObj → Prop) (H : List AObj) [Tag R] [Tag H₀] : Prop :=
  match q with
  | some (p, xs) => p ∧ Done H₀ R (resTop xs) H
  | none => False
theorem fin_eq {rs : List ResultVar} {H₀ : List AObj} {R : AV → List AObj → Prop} : Fin L rs H₀ R env H = finL (resList L env H rs) H₀ R H := rfl
theorem finL_some {p : Prop} {xs : List AV} {H₀ : List AObj} {R : AV → List AObj → Prop} : finL (some (p, xs)) H₀ R H = (p ∧ Done H₀ R (resTop xs) H) := rfl
theorem rl_nil : resList L env H [] = some (True, []) := rfl
def rlCons (q : Option (Prop × AV)) (r : Option (Prop × List AV)) : Option (Prop × List AV) :=
  match q, r with
  | some (p, x), some (q, xs) => some (p ∧ q, x :: xs)
  | _, _ => none
theorem rl_cons {r : ResultVar} {rs : List ResultVar} : resList L env H (r :: rs) = rlCons (resOne L env H r) (resList L env H rs) := by
  unfold rlCons
  rw [resList] <;> cases resOne L env H r <;> cases resList L env H rs <;> rfl
theorem rlCons_some {p q : Prop} {x : AV} {xs : List AV} : rlCons (some (p, x)) (some (q, xs)) = some (p ∧ q, x :: xs) := rfl
theorem r_tmp {t : Tmp} : resOne L env H (.tmp t) = some (True, get env t) := rfl
theorem r_cell {a : Tmp} {t : TypeId} : resOne L env H (.cell a t) = qLoad L H t (get env a) := rfl
theorem rt_one {x : AV} : resTop [x] = x := rfl
theorem rt_two {x y : AV} {r : List AV} : resTop (x :: y :: r) = .tup (x :: y :: r) := rfl
theorem rt_nil : resTop [] = .tup [] := rfl
theorem done_keep {H₀ : List AObj} {R : AV → List AObj → Prop} {x : AV} (y : AV) (hx : Le x y) (hl : H₀.length ≤ H.length) (hr : R y H) : Done H₀ R x H := ⟨y, H, ends_le hx, hr⟩
theorem done_same {H₀ : List AObj} {R : AV → List AObj → Prop} {x : AV} (hr : R x H₀) : Done H₀ R x H₀ := done_keep x (Le.refl x) (Nat.le_refl _) hr
theorem done_cut {H₀ M : List AObj} {R : AV → List AObj → Prop} {x : AV} (y : AV) (hx : Le x y) (hl : Low H₀.length y) (hr : R y H₀) : Done H₀ R x (H₀ ++ M) := by
  refine ⟨y, (H₀ ++ M).take H₀.length, ends_cut hx (Nat.le_refl _) hl fun k sh cs hk e => .inl ?_, by rw [List.take_left]; exact hr⟩
  rwa [List.getElem?_append_left hk] at e
/-- The new objects are written no more. -/
theorem done_frz {H₀ M : List AObj} {R : AV → List AObj → Prop} {x : AV} (y : AV) (f : Frz H₀.length (H₀ ++ M) x y) (hr : R y H₀) : Done H₀ R x (H₀ ++ M) := by
  refine ⟨y, (H₀ ++ M).take H₀.length, ends_frz (Le.refl x) (Nat.le_refl _) f fun k sh cs hk e => .inl ?_, by rw [List.take_left]; exact hr⟩
  rwa [List.getElem?_append_left hk] at e
theorem done_drop {H₀ : List AObj} {o : AObj} {R : AV → List AObj → Prop} {x : AV} (hl : Low H₀.length x) (hr : R x H₀) : Done H₀ R x (H₀ ++ [o]) := done_cut x (Le.refl x) hl hr
attribute [irreducible] Done
end

def EnvLe (env env' : Env) : Prop := ∀ t, Le (get env t) (get env' t)
theorem envLe_nil {env : Env} : EnvLe env [] := fun t => Le.any _
theorem envLe_cons {env r : Env} {k : Nat} {v : AV} (h : Le (get env k) v) (hr : EnvLe env r) : EnvLe env ((k, v) :: r) := fun t => by
  rw [get_cons]
  split
  · rename_i e; subst e; exact h
  · exact hr t
theorem le_eq {x y : AV} (h : x = y) : Le x y := h ▸ Le.refl x
theorem getD_bytes {l : List UInt8} {i : Nat} (h : i < l.length) : (l.map byteAV).getD i .any = .lit (.int .u8 (l.getD i 0).toNat) := by
  simp [List.getD, List.getElem?_eq_getElem h, byteAV]
theorem byte_u8 (b : UInt8) : IntKind.u8.wrap (b.toNat : Int) = (b.toNat : Int) := IntWalk.u8_in _ (by have := b.toNat_lt; omega)
theorem byte_i32 (b : UInt8) : IntKind.i32.wrap (b.toNat : Int) = (b.toNat : Int) := IntWalk.i32_in _ (by have := b.toNat_lt; omega)
theorem byte_i64 (b : UInt8) : IntKind.i64.wrap (b.toNat : Int) = (b.toNat : Int) := IntWalk.i64_in _ (by have := b.toNat_lt; omega)
theorem byte_u32 (b : UInt8) : IntKind.u32.wrap (b.toNat : Int) = (b.toNat : Int) := IntWalk.u32_in _ (by have := b.toNat_lt; omega)
theorem byte_u64 (b : UInt8) : IntKind.u64.wrap (b.toNat : Int) = (b.toNat : Int) := IntWalk.u64_in _ (by have := b.toNat_lt; omega)
theorem getD_runes {l : List Int} {i : Nat} (h : i < l.length) : (l.map runeAV).getD i .any = .lit (.int .i32 (l.getD i 0)) := by
  simp [List.getD, List.getElem?_eq_getElem h, runeAV]
theorem acalls_same {P : Program} {f : FuncId} {args : List AV} {H H₁ : List AObj} {z : AV} {K : AV → List AObj → Prop} (h : ACalls P f args H (fun x H' => x = z ∧ H' = H₁)) (k : K z H₁) : ACalls P f args H K :=
  h.mono fun _ _ ⟨e, e'⟩ => by subst e; subst e'; exact k
theorem min_left {a b : Nat} (h : a ≤ b) : min a b = a := Nat.min_eq_left h
theorem fdiv_nat {n : Nat} {k : Int} (h : 0 ≤ k) : (n : Int).fdiv k = ((n / k.toNat : Nat) : Int) := by
  rw [Int.fdiv_eq_ediv_of_nonneg _ h, Int.natCast_ediv, Int.toNat_of_nonneg h]
theorem fdiv_pos {a k : Int} (h : 0 ≤ k) : a.fdiv k = a / k := Int.fdiv_eq_ediv_of_nonneg _ h
theorem tdiv_pos {a k : Int} (h : 0 ≤ a) : a.tdiv k = a / k := Int.tdiv_eq_ediv_of_nonneg h
theorem tmod_pos {a k : Int} (h : 0 ≤ a) : a.tmod k = a % k := Int.tmod_eq_emod_of_nonneg h
theorem and_mask_ {k : Nat} {m : Nat} {a : Int} (h : 0 ≤ a) (h2 : a < 2 ^ k) (hm : m ≤ k) : ((BitVec.ofInt k a &&& BitVec.ofInt k (2 ^ m - 1)).toNat : Int) = a % 2 ^ m := by
  obtain ⟨n, rfl⟩ := Int.eq_ofNat_of_zero_le h
  have hn : n < 2 ^ k := by exact_mod_cast h2
  have hp : (2 : Int) ^ m - 1 = ((2 ^ m - 1 : Nat) : Int) := by
    have h0 : 0 < 2 ^ m := Nat.two_pow_pos m
    have h1 : ((2 ^ m : Nat) : Int) = (2 : Int) ^ m := by simp
    rw [← h1]
    omega
  have hle : 2 ^ m ≤ 2 ^ k := Nat.pow_le_pow_right (by decide) hm
  have h0 : 0 < 2 ^ m := Nat.two_pow_pos m
  rw [hp, BitVec.toNat_and, BitVec.ofInt_natCast, BitVec.ofInt_natCast, BitVec.toNat_ofNat, BitVec.toNat_ofNat, Nat.mod_eq_of_lt hn, Nat.mod_eq_of_lt (by omega), Nat.and_two_pow_sub_one_eq_mod]
  exact_mod_cast rfl
theorem u8_and (m : Nat) {a : Int} (h : 0 ≤ a ∧ a < 256) (hm : m ≤ 8) : ((BitVec.ofInt 8 a &&& BitVec.ofInt 8 (2 ^ m - 1)).toNat : Int) = a % 2 ^ m := and_mask_ h.1 h.2 hm
theorem u8_and63 {a : Int} (h : 0 ≤ a ∧ a < 256) : ((BitVec.ofInt IntKind.u8.bits a &&& BitVec.ofInt IntKind.u8.bits 63).toNat : Int) = a % 64 := u8_and 6 h (by decide)
theorem u8_and15 {a : Int} (h : 0 ≤ a ∧ a < 256) : ((BitVec.ofInt IntKind.u8.bits a &&& BitVec.ofInt IntKind.u8.bits 15).toNat : Int) = a % 16 := u8_and 4 h (by decide)
theorem u8_and31 {a : Int} (h : 0 ≤ a ∧ a < 256) : ((BitVec.ofInt IntKind.u8.bits a &&& BitVec.ofInt IntKind.u8.bits 31).toNat : Int) = a % 32 := u8_and 5 h (by decide)
theorem u8_and7 {a : Int} (h : 0 ≤ a ∧ a < 256) : ((BitVec.ofInt IntKind.u8.bits a &&& BitVec.ofInt IntKind.u8.bits 7).toNat : Int) = a % 8 := u8_and 3 h (by decide)
theorem or_parts_ {k : Nat} {m : Nat} {c a : Int} (h : 0 ≤ a) (h2 : a < 2 ^ m) (hm : m ≤ k) (hc : 0 ≤ c) (hc2 : c < 2 ^ k) (hd : c % 2 ^ m = 0) : ((BitVec.ofInt k c ||| BitVec.ofInt k a).toNat : Int) = c + a := by
  obtain ⟨n, rfl⟩ := Int.eq_ofNat_of_zero_le h
  obtain ⟨q, rfl⟩ := Int.eq_ofNat_of_zero_le hc
  have hn : n < 2 ^ m := by exact_mod_cast h2
  have hq : q < 2 ^ k := by exact_mod_cast hc2
  have hq2 : q % 2 ^ m = 0 := by exact_mod_cast hd
  have hle : 2 ^ m ≤ 2 ^ k := Nat.pow_le_pow_right (by decide) hm
  rw [BitVec.toNat_or, BitVec.ofInt_natCast, BitVec.ofInt_natCast, BitVec.toNat_ofNat, BitVec.toNat_ofNat, Nat.mod_eq_of_lt hq, Nat.mod_eq_of_lt (by omega)]
  have e : q = 2 ^ m * (q / 2 ^ m) := by have := Nat.div_add_mod q (2 ^ m); omega
  rw [e, ← Nat.two_pow_add_eq_or_of_lt hn]
  exact_mod_cast rfl
theorem u8_or (m : Nat) {c a : Int} (h : 0 ≤ a ∧ a < 2 ^ m) (hm : m ≤ 8) (hc : 0 ≤ c ∧ c < 256 ∧ c % 2 ^ m = 0) : ((BitVec.ofInt 8 c ||| BitVec.ofInt 8 a).toNat : Int) = c + a := or_parts_ h.1 h.2 hm hc.1 hc.2.1 hc.2.2
theorem u8_or128 {a : Int} (h : 0 ≤ a ∧ a < 64) : ((BitVec.ofInt IntKind.u8.bits 128 ||| BitVec.ofInt IntKind.u8.bits a).toNat : Int) = 128 + a := u8_or 6 h (by decide) (by decide)
theorem u8_or192 {a : Int} (h : 0 ≤ a ∧ a < 32) : ((BitVec.ofInt IntKind.u8.bits 192 ||| BitVec.ofInt IntKind.u8.bits a).toNat : Int) = 192 + a := u8_or 5 h (by decide) (by decide)
theorem u8_or224 {a : Int} (h : 0 ≤ a ∧ a < 16) : ((BitVec.ofInt IntKind.u8.bits 224 ||| BitVec.ofInt IntKind.u8.bits a).toNat : Int) = 224 + a := u8_or 4 h (by decide) (by decide)
theorem u8_or240 {a : Int} (h : 0 ≤ a ∧ a < 8) : ((BitVec.ofInt IntKind.u8.bits 240 ||| BitVec.ofInt IntKind.u8.bits a).toNat : Int) = 240 + a := u8_or 3 h (by decide) (by decide)
theorem i32_or (m : Nat) {c a : Int} (h : 0 ≤ a ∧ a < 2 ^ m) (hm : m ≤ 32) (hc : 0 ≤ c ∧ c < 4294967296 ∧ c % 2 ^ m = 0) : ((BitVec.ofInt IntKind.i32.bits c ||| BitVec.ofInt IntKind.i32.bits a).toNat : Int) = c + a := or_parts_ (k := 32) h.1 h.2 hm hc.1 hc.2.1 hc.2.2
theorem i32_or6 {c a : Int} (h : (0 ≤ a ∧ a < 64) ∧ 0 ≤ c ∧ c < 4294967296 ∧ c % 64 = 0) : ((BitVec.ofInt IntKind.i32.bits c ||| BitVec.ofInt IntKind.i32.bits a).toNat : Int) = c + a := i32_or 6 h.1 (by decide) h.2
theorem i32_or12 {c a : Int} (h : (0 ≤ a ∧ a < 4096) ∧ 0 ≤ c ∧ c < 4294967296 ∧ c % 4096 = 0) : ((BitVec.ofInt IntKind.i32.bits c ||| BitVec.ofInt IntKind.i32.bits a).toNat : Int) = c + a := i32_or 12 h.1 (by decide) h.2
theorem i32_or18 {c a : Int} (h : (0 ≤ a ∧ a < 262144) ∧ 0 ≤ c ∧ c < 4294967296 ∧ c % 262144 = 0) : ((BitVec.ofInt IntKind.i32.bits c ||| BitVec.ofInt IntKind.i32.bits a).toNat : Int) = c + a := i32_or 18 h.1 (by decide) h.2
theorem u8_wrap (a : Int) : IntKind.u8.wrap a = a % 256 := by
  simp [IntKind.wrap, IntKind.signed, IntKind.bits]
theorem bits_u8 : IntKind.u8.bits = 8 := rfl
theorem bits_u16 : IntKind.u16.bits = 16 := rfl
theorem bits_u32 : IntKind.u32.bits = 32 := rfl
theorem bits_u64 : IntKind.u64.bits = 64 := rfl
theorem bits_i8 : IntKind.i8.bits = 8 := rfl
theorem bits_i16 : IntKind.i16.bits = 16 := rfl
theorem bits_i32 : IntKind.i32.bits = 32 := rfl
theorem bits_i64 : IntKind.i64.bits = 64 := rfl
theorem byte_lt (b : UInt8) : ((b.toNat : Int) < 256) = True := eq_true (by have := b.toNat_lt; omega)
theorem byte_lt' (b : UInt8) : (b.toNat < 256) = True := eq_true (by have := b.toNat_lt; omega)
theorem byte_ge (n : Nat) : (0 ≤ (n : Int)) = True := eq_true (by omega)
def firstAV : List AV := tabFirst.map ofCell
def acceptAV : List AV := tabAccept.map ofCell
theorem firstAV_eq : firstAV = (List.range 256).map fun c => .lit (.int .u8 (Lib.firstT c)) := by
  unfold firstAV tabFirst
  rw [List.map_map]
  rfl
theorem firstAV_len : firstAV.length = 256 := by rw [firstAV_eq]; simp
theorem first_at (b : UInt8) : firstAV.getD b.toNat .any = .lit (.int .u8 (Lib.firstT b.toNat)) := by
  have := b.toNat_lt
  rw [firstAV_eq, List.getD, List.getElem?_map, List.getElem?_range (by omega)]
  rfl
theorem acceptAV_len : acceptAV.length = 32 := by unfold acceptAV; rw [List.length_map]; decide
theorem accept_at {i : Nat} (h : i < 16) : (acceptAV.drop (i * 2)).take 2 = [.lit (.int .u8 (Lib.accLo i)), .lit (.int .u8 (Lib.accHi i))] := by
  unfold acceptAV
  match i, h with
  | 0, _ => rfl
  | 1, _ => rfl
  | 2, _ => rfl
  | 3, _ => rfl
  | 4, _ => rfl
  | 5, _ => rfl
  | 6, _ => rfl
  | 7, _ => rfl
  | 8, _ => rfl
  | 9, _ => rfl
  | 10, _ => rfl
  | 11, _ => rfl
  | 12, _ => rfl
  | 13, _ => rfl
  | 14, _ => rfl
  | 15, _ => rfl
  | _ + 16, h => omega
theorem acc0 : acceptAV.take 2 = [.lit (.int .u8 128), .lit (.int .u8 191)] := accept_at (i := 0) (by decide)
theorem acc1 : (acceptAV.drop 2).take 2 = [.lit (.int .u8 160), .lit (.int .u8 191)] := accept_at (i := 1) (by decide)
theorem acc2 : (acceptAV.drop 4).take 2 = [.lit (.int .u8 128), .lit (.int .u8 159)] := accept_at (i := 2) (by decide)
theorem acc3 : (acceptAV.drop 6).take 2 = [.lit (.int .u8 144), .lit (.int .u8 191)] := accept_at (i := 3) (by decide)
theorem acc4 : (acceptAV.drop 8).take 2 = [.lit (.int .u8 128), .lit (.int .u8 143)] := accept_at (i := 4) (by decide)
theorem glob_first {g : Nat} (h : gtab g = tabFirst) (hi : gifc g = none) : globAV g = .ip (.agg firstAV) := by
  unfold globAV
  rw [hi]
  simp only
  rw [h, if_neg (by decide)]
  rfl
theorem glob_accept {g : Nat} (h : gtab g = tabAccept) (hi : gifc g = none) : globAV g = .ip (.agg acceptAV) := by
  unfold globAV
  rw [hi]
  simp only
  rw [h, if_neg (by decide)]
  rfl
def pow10AV : List AV := tabPow10.map ofCell
theorem glob_pow10 {g : Nat} (h : gtab g = tabPow10) (hi : gifc g = none) : globAV g = .ip (.agg pow10AV) := by
  unfold globAV
  rw [hi]
  simp only
  rw [h, if_neg (by decide)]
  rfl
theorem pow10AV_len : pow10AV.length = 20 := by unfold pow10AV; rw [List.length_map]; decide
theorem pow10_at {i : Nat} (h : i < 20) : pow10AV.getD i .any = .lit (.int .u64 ((10 ^ i : Nat) : Int)) := by
  unfold pow10AV tabPow10
  rw [List.map_map, List.getD, List.getElem?_map, List.getElem?_range (by omega)]
  rfl
theorem glob_ifc {g : Nat} {t : TypeId} (hi : gifc g = some t) : globAV g = .ip .err := by
  unfold globAV
  rw [hi]
attribute [irreducible] firstAV acceptAV pow10AV
theorem drop_bytes {l : List UInt8} {n : Nat} : (l.map byteAV).drop n = (l.drop n).map byteAV := List.map_drop.symm
theorem take_bytes {l : List UInt8} {n : Nat} : (l.map byteAV).take n = (l.take n).map byteAV := List.map_take.symm
theorem take_len {α : Type} {l : List α} {n : Nat} (h : l.length ≤ n) : l.take n = l := List.take_of_length_le h
theorem getD_drop' {l : List UInt8} {n i : Nat} : (l.drop n).getD i 0 = l.getD (n + i) 0 := by rw [List.getD, List.getElem?_drop, List.getD]
theorem app_bytes {l m : List UInt8} : l.map byteAV ++ m.map byteAV = (l ++ m).map byteAV := List.map_append.symm
theorem app_runes {l m : List Int} : l.map runeAV ++ m.map runeAV = (l ++ m).map runeAV := List.map_append.symm
theorem take_all {l m : List AV} {n : Nat} (h : l.length = n) : (l ++ m).take n = l := by subst h; simp
theorem isBytes_eq {l : List UInt8} : isBytes (l.map byteAV) = True := eq_true (isBytes_map l)
theorem getD_left {l m : List AV} {i : Nat} (h : i < l.length) : (l ++ m).getD i .any = l.getD i .any := by
  simp [List.getD, List.getElem?_append_left h]
theorem h_set {H : List AObj} {o o' : AObj} : (H ++ [o]).set H.length o' = H ++ [o'] := by simp
theorem h_at0 {H M : List AObj} : (H ++ M)[H.length]? = M[0]? := by rw [List.getElem?_append_right (Nat.le_refl _), Nat.sub_self]
theorem h_atk {H M : List AObj} {k : Nat} : (H ++ M)[H.length + k]? = M[k]? := by rw [List.getElem?_append_right (by omega), Nat.add_sub_cancel_left]
theorem h_set0 {H M : List AObj} {o : AObj} : (H ++ M).set H.length o = H ++ M.set 0 o := by rw [List.set_append_right _ _ (Nat.le_refl _), Nat.sub_self]
theorem h_setk {H M : List AObj} {o : AObj} {k : Nat} : (H ++ M).set (H.length + k) o = H ++ M.set k o := by rw [List.set_append_right _ _ (by omega), Nat.add_sub_cancel_left]
theorem h_left {H M : List AObj} {k : Nat} (h : k < H.length) : (H ++ M)[k]? = H[k]? := List.getElem?_append_left h
theorem h_setl {H M : List AObj} {k : Nat} {o : AObj} (h : k < H.length) : (H ++ M).set k o = H.set k o ++ M := List.set_append_left _ _ h
theorem le_sh {o : Own} {s : Nat} {xs : List AV} : Le (.sl o s xs) (.sl .sh s xs) := fun _ _ _ _ h => by
  cases h with
  | sl _ _ _ a len cap val hl hcap hs hc hr hf ha ho => exact .sl .sh s xs a len cap val hl hcap hs hc hr (fun e => by cases e) ha (fun k e => by cases e)
theorem bool_eq {a b : Bool} (h : a = b) : AV.lit (.bool a) = AV.lit (.bool b) := by rw [h]
theorem int_eq {k : IntKind} {a b : Int} (h : a = b) : AV.lit (.int k a) = AV.lit (.int k b) := by rw [h]
def EnvLow (m : Nat) (env : Env) : Prop := ∀ t, Low m (get env t)
theorem envLow_nil {m : Nat} : EnvLow m [] := fun t => .any
theorem envLow_cons {m : Nat} {r : Env} {k : Nat} {v : AV} (h : Low m v) (hr : EnvLow m r) : EnvLow m ((k, v) :: r) := fun t => by
  rw [get_cons]
  split
  · exact h
  · exact hr t
theorem low_scalars {m : Nat} {xs : List AV} {o : Own} {s : Nat} (h : ∀ x ∈ xs, ∃ v, x = .lit v) (ho : ∀ k, o = .tok k → k < m) : Low m (.sl o s xs) := by
  refine .sl _ _ _ ho fun x hx => ?_
  unfold flats at hx
  obtain ⟨y, hy, hxy⟩ := List.mem_flatMap.1 hx
  obtain ⟨v, rfl⟩ := h y hy
  simp only [AV.flat, List.mem_singleton] at hxy
  subst hxy
  exact .lit _
theorem low_bytes {m s : Nat} {l : List UInt8} : Low m (.sl .sh s (l.map byteAV)) := low_scalars (fun x hx => by
  obtain ⟨b, _, rfl⟩ := List.mem_map.1 hx
  exact ⟨_, rfl⟩) (fun k e => by cases e)
theorem low_runes {m s : Nat} {l : List Int} : Low m (.sl .sh s (l.map runeAV)) := low_scalars (fun x hx => by
  obtain ⟨b, _, rfl⟩ := List.mem_map.1 hx
  exact ⟨_, rfl⟩) (fun k e => by cases e)
/-- A state may be told as another one, when a loop goes round. -/
def Shift (H₀ : List AObj) (env : Env) (H : List AObj) (env' : Env) (H' : List AObj) : Prop :=
  ∀ G₀ w₀ G w (vs : Nat → Value), HInv G₀ H₀ w₀ → HInv G H w → Step G₀ H₀ w₀ G H w → (∀ t, Rel G H w (get env t) (vs t)) → ∃ G', HInv G' H' w ∧ Step G₀ H₀ w₀ G' H' w ∧ ∀ t, Rel G' H' w (get env' t) (vs t)
theorem shift_le {H₀ H : List AObj} {env env' : Env} (h : EnvLe env env') : Shift H₀ env H env' H := fun _ _ G w vs _ hi hs r => ⟨G, hi, hs, fun t => h t _ _ _ _ (r t)⟩
theorem shift_cut {H₀ M : List AObj} {env env' : Env} (h : EnvLe env env') (hl : EnvLow H₀.length env') : Shift H₀ env (H₀ ++ M) env' H₀ := fun G₀ w₀ G w vs h0 hi hs r => by
  have htk : (H₀ ++ M).take H₀.length = H₀ := List.take_left
  have hc := hi.cut H₀.length fun k sh cs hk e y hy => by
    rw [List.getElem?_append_left hk] at e
    obtain ⟨arr, T, fr, hb', hsz, hr', _⟩ := h0.cells k sh cs e
    obtain ⟨j, hj⟩ := List.mem_iff_getElem?.1 hy
    have hja : j < arr.size := Nat.lt_of_lt_of_le (lt_of_get hj) hsz
    exact (hr' j y _ hj (Array.getElem?_eq_getElem hja)).low
  have hs' := hs.cut (m := H₀.length) (Nat.le_refl _)
  rw [htk] at hc hs'
  refine ⟨G, hc, hs', fun t => ?_⟩
  have := (h t _ _ _ _ (r t)).cut H₀.length (hl t)
  rwa [htk] at this
/-- Once more through a loop. -/
def Again {α : Type} (I : α → Prop) (E : α → Env) (Hf : α → List AObj) (m : α → Nat) (x : α) (env : Env) (H : List AObj) [Tag I] [Tag E] [Tag Hf] [Tag m] : Prop := ∃ y, m y < m x ∧ I y ∧ Shift (Hf x) env H (E y) (Hf y)
theorem again {α : Type} {I : α → Prop} {E : α → Env} {Hf : α → List AObj} {m : α → Nat} {x : α} {env : Env} {H : List AObj} (y : α) (hm : m y < m x) (hI : I y) (hH : H = Hf y) (hE : EnvLe env (E y)) : Again I E Hf m x env H := ⟨y, hm, hI, hH ▸ shift_le hE⟩
theorem again_cut {α : Type} {I : α → Prop} {E : α → Env} {H₀ : List AObj} {m : α → Nat} {x : α} {env : Env} {M : List AObj} (y : α) (hm : m y < m x) (hI : I y) (hL : EnvLow H₀.length (E y)) (hE : EnvLe env (E y)) : Again I E (fun _ => H₀) m x env (H₀ ++ M) :=
  ⟨y, hm, hI, shift_cut hE hL⟩
theorem again_shift {α : Type} {I : α → Prop} {E : α → Env} {Hf : α → List AObj} {m : α → Nat} {x : α} {env : Env} {H : List AObj} (y : α) (hm : m y < m x) (hI : I y) (hS : Shift (Hf x) env H (E y) (Hf y)) : Again I E Hf m x env H := ⟨y, hm, hI, hS⟩
attribute [irreducible] Again
theorem Sat.le {n : Nat} {G : Gh} {env env' : Env} {H : List AObj} {a : Act} {w : World} (s : Sat n G env H a w) (h : EnvLe env env') : Sat n G env' H a w :=
  ⟨s.size, s.defers, fun t => h t G H w _ (s.env t), s.inv⟩
theorem vc_loop {P : Program} {L : Tab} (hL : TabOk P L) (hmx : P.follows .mixedOrders = true) (mu : List Nat) {n : Nat} {c : Code} {Q : Exit → Env → List AObj → Prop} {env : Env} {H : List AObj} {α : Type} (I : α → Prop) (E : α → Env) (Hf : α → List AObj) (m : α → Nat) (hok : okC mu n c = true)
    (round : ∀ x, I x → vcC P L mu n c (Ex (fun env H => Again I E Hf m x env H) Q) (E x) (Hf x)) (x : α) (hx : I x) (hE : EnvLe env (E x)) (hH : H = Hf x) : AW P n (.loop c) Q env H := by
  intro G a w s
  subst hH
  refine wp_loop_gh (fun k a' w' => ∃ y G', m y = k ∧ I y ∧ Sat n G' (E y) (Hf y) a' w' ∧ Step G (Hf x) w G' (Hf y) w') (fun k a' w' ⟨y, G', hk, hy, s', stp⟩ => ?_) (m x) a w ⟨x, G, rfl, hx, s.le hE, .refl _ _ _⟩
  refine wp_mono (vcC_sound hL hmx c hok (round y hy) G' a' w' s') fun e a'' w'' ⟨G'', env'', H'', s'', stp', q⟩ => ?_
  cases e with
  | normal =>
    unfold Ex Again at q
    obtain ⟨z, h1, h2, h3⟩ := q
    obtain ⟨G3, hi3, st3, hr3⟩ := h3 G' w' G'' w'' (fun t => a''.tmps.getD t undef) s'.inv s''.inv stp' s''.env
    exact ⟨m z, hk ▸ h1, z, G3, rfl, h2, ⟨s''.size, s''.defers, hr3, hi3⟩, stp.trans st3⟩
  | _ => exact ⟨G'', env'', H'', s'', stp.trans stp', q⟩
/-- The slots that a loop does not write keep what they have. -/
def kept (env : Env) : List Nat → Env
  | [] => []
  | t :: r => (t, get env t) :: kept env r
theorem kept_nil {env : Env} : kept env [] = [] := rfl
theorem kept_cons {env : Env} {t : Nat} {r : List Nat} : kept env (t :: r) = (t, get env t) :: kept env r := rfl
theorem vc_loopk {P : Program} {L : Tab} (hL : TabOk P L) (hmx : P.follows .mixedOrders = true) (mu ks : List Nat) {n : Nat} {c : Code} {Q : Exit → Env → List AObj → Prop} {env : Env} {H : List AObj} {α : Type} (I : α → Prop) (E : α → Env) (Hf : α → List AObj) (m : α → Nat) (hok : okC mu n c = true)
    (round : ∀ x, I x → vcC P L mu n c (Ex (fun env' H => Again I (fun y => E y ++ kept env ks) Hf m x env' H) Q) (E x ++ kept env ks) (Hf x)) (x : α) (hx : I x) (hE : EnvLe env (E x ++ kept env ks)) (hH : H = Hf x) : AW P n (.loop c) Q env H :=
  vc_loop hL hmx mu I (fun y => E y ++ kept env ks) Hf m hok round x hx hE hH
/-- A slice whose capacity is its length gets a token of its own: a step of the proof alone. -/
theorem aw_mint {P : Program} {n : Nat} {c : Code} {Q : Exit → Env → List AObj → Prop} {env : Env} {H : List AObj} (t s : Nat) {z : Nat} {xs : List AV} (ht : get env t = .sl .full z xs) (hs : 0 < s) (hz : xs ≠ [] → z = s)
    (h : AW P n c Q ((t, .sl (.tok H.length) s xs) :: env) (H ++ [.grow s xs.length none])) : AW P n c Q env H := by
  intro G a w sat
  have r := sat.env t
  rw [ht] at r
  generalize hv : a.tmps.getD t undef = v at r
  have r0 := r
  cases r with
  | sl _ _ _ ad len cap val hl hcap hs' hc hr hf ha ho =>
    obtain ⟨hi, st, hr'⟩ := mint none sat.inv r0 hs hz (fun h => absurd rfl h)
    refine wp_mono (h _ a w ⟨sat.size, sat.defers, fun u => ?_, hi⟩) fun _ _ _ p => p.trans st
    rw [get_cons]
    split
    · rename_i e
      subst e
      rw [hv]
      exact hr'
    · exact (sat.env u).mono st
theorem le_nil {o : Own} {s t : Nat} : Le (.sl o s []) (.sl .sh t []) := fun _ _ _ _ h => by
  cases h with
  | sl _ _ _ a len cap val hl hcap hs hc hr hf ha ho => exact .sl .sh t [] a len cap val hl hcap (fun x hx => by cases hx) hc hr (fun e => by cases e) ha (fun k e => by cases e)
theorem done_grow {H₀ M : List AObj} {R : AV → List AObj → Prop} {x : AV} (hr : R x (H₀ ++ M)) : Done H₀ R x (H₀ ++ M) := done_keep x (Le.refl x) (by simp) hr
def LowAll (m : Nat) (xs : List AV) : Prop := ∀ x ∈ xs, Low m x
theorem lowAll_nil {m : Nat} : LowAll m [] := fun x hx => by cases hx
theorem lowAll_cons {m : Nat} {x : AV} {xs : List AV} (h : Low m x) (k : LowAll m xs) : LowAll m (x :: xs) := fun y hy => by
  rcases List.mem_cons.1 hy with rfl | hy
  · exact h
  · exact k y hy
theorem low_tup {m : Nat} {xs : List AV} (h : LowAll m xs) : Low m (.tup xs) := .tup _ h
theorem low_agg {m : Nat} {xs : List AV} (h : LowAll m xs) : Low m (.agg xs) := .agg _ h
theorem low_nilsl {m s : Nat} {o : Own} (ho : ∀ k, o = .tok k → k < m) : Low m (.sl o s []) := .sl _ _ _ ho fun x hx => by simp [flats] at hx
inductive LeAll : List AV → List AV → Prop
  | nil : LeAll [] []
  | cons {x y : AV} {xs ys : List AV} (h : Le x y) (k : LeAll xs ys) : LeAll (x :: xs) (y :: ys)
theorem LeAll.get {xs ys : List AV} (h : LeAll xs ys) : xs.length = ys.length ∧ ∀ (j : Nat) y, ys[j]? = some y → ∃ x, xs[j]? = some x ∧ Le x y := by
  induction h with
  | nil => exact ⟨rfl, fun j y e => by simp at e⟩
  | cons h _ ih =>
    refine ⟨by simp [ih.1], fun j y e => ?_⟩
    cases j with
    | zero => simp at e; subst e; exact ⟨_, rfl, h⟩
    | succ j => simpa using ih.2 j y (by simpa using e)
theorem le_tup {xs ys : List AV} (h : LeAll xs ys) : Le (.tup xs) (.tup ys) := fun _ _ _ _ r => by
  obtain ⟨hl, hg⟩ := h.get
  cases r with
  | tup _ arr hs hr =>
    refine .tup _ _ (hs.trans hl) fun j z v e e' => ?_
    obtain ⟨x, hx, hle⟩ := hg j z e
    exact hle _ _ _ _ (hr j x v hx e')
theorem le_agg {xs ys : List AV} (h : LeAll xs ys) : Le (.agg xs) (.agg ys) := fun _ _ _ _ r => by
  obtain ⟨hl, hg⟩ := h.get
  cases r with
  | agg _ arr hs hr =>
    refine .agg _ _ (hs.trans hl) fun j z v e e' => ?_
    obtain ⟨x, hx, hle⟩ := hg j z e
    exact hle _ _ _ _ (hr j x v hx e')
theorem done_lit {H₀ M : List AObj} {R : AV → List AObj → Prop} {v : Value} (hr : R (.lit v) H₀) : Done H₀ R (.lit v) (H₀ ++ M) := done_cut _ (Le.refl _) (.lit _) hr
theorem done_le {H₀ : List AObj} {R : AV → List AObj → Prop} {x : AV} (y : AV) (h : Le x y) (hr : R y H₀) : Done H₀ R x H₀ := done_keep y h (Nat.le_refl _) hr
end Go.Proofs.YtplmbhjhihoneaaGreatDoor.V
end
