/- append: the operation. -/
import Derived.Test.YthaicajgfioogaaDoorVi
set_option linter.unusedSimpArgs false
set_option linter.unusedVariables false
namespace Go.Proofs.YthaicajgfioogaaDoor.V
open Go

section
variable {P : Program} {env : Env} {H : List AObj} {dst : Option Tmp} {ty : TypeId} {pos : String} {after : Array Edge} {guard : Option (Nat × Bool)}

theorem store_none {w : World} (a : Addr) (i : Nat) : (storeCells a [] i).run P w = .ok () w := rfl

/-- The run of append at a token's slice. -/
theorem append_tok {L : Tab} (hL : TabOk P L) {t t2 e : TypeId} {G : Gh} {w : World} (hi : HInv G H w) {k s : Nat} {xs ys : List AV} {v v2 : Value} {y : AV} {z : Nat} (r : Rel G H w (.sl (.tok k) s xs) v) (hk : H[k]? = some (.grow s xs.length))
    (r2 : Rel G H w y v2) (hy : srcAV y = some (z, ys)) (hz : ys ≠ [] → z = s) (ht : (L t).k = .slice e) (ht2 : (∃ e', (L t2).k = .slice e') ∨ (L t2).k = .str) (he : known (L e) = true) (hse : s = (L e).size) (hby : 0 < (L e).bytes)
    (hroom : (xs.length + ys.length) * (L e).bytes ≤ 140737488355328) :
    ∃ v' w' G', (Builtin.append_ #[t, t2] ty #[v, v2]).run P w = .ok v' w' ∧ HInv G' (H.set k (.grow s (xs.length + ys.length))) w' ∧ Step G H w G' (H.set k (.grow s (xs.length + ys.length))) w' ∧ Rel G' (H.set k (.grow s (xs.length + ys.length))) w' (.sl (.tok k) s (xs ++ ys)) v' := by
  have hs : 0 < s := (hi.grow k s _ hk).1
  have hu := (hL t (by rw [ht]; simp)).1
  rw [ht] at hu
  simp only [TKOk] at hu
  obtain ⟨_, ie, zv, hie, hisz, hiby, hzl, hzv, hzs, _⟩ := hL e (known_ne he)
  have hu2 : ∃ d, P.underlying t2 = some d ∧ (∀ q, d ≠ .int q) := by
    rcases ht2 with ⟨e', h⟩ | h
    · have := (hL t2 (by rw [h]; simp)).1
      rw [h] at this
      exact ⟨_, this, fun q => by simp⟩
    · have := (hL t2 (by rw [h]; simp)).1
      rw [h] at this
      exact ⟨_, this, fun q => by simp⟩
  obtain ⟨d2, hd2, hnint⟩ := hu2
  obtain ⟨hlen, huni2, vs, hvl, hvr, hfirst⟩ := src_run (P := P) r2 hy hz hs
  have hvl' : vs.length = ys.length * s := by rw [hvl, flats_len fun x hx => (huni2 x hx).1]
  have r' := r
  cases r with
  | sl _ _ _ a len cap val hl hcap huni hc hr hf ha ho =>
  subst hl
  obtain ⟨n0, hn0, _, hown⟩ := ho k rfl
  rw [hk] at hn0
  cases hn0
  have hown := hown rfl
  have hcap2 : (G.own k).2 = cap := by rw [hown]
  have ha1 : (G.own k).1 = a := by rw [hown]
  have huniAll : ∀ x ∈ xs ++ ys, x.flat.length = s ∧ x.okv = true := fun x hx => by
    rcases List.mem_append.1 hx with h | h
    · exact huni x h
    · exact huni2 x h
  have hxl : (flats xs).length = xs.length * s := flats_len fun x hx => (huni x hx).1
  have hyl : (flats ys).length = ys.length * s := flats_len fun x hx => (huni2 x hx).1
  by_cases hfit : xs.length + ys.length ≤ cap
  · -- in place
    rcases Nat.eq_zero_or_pos ys.length with hm | hm
    · have hnil : ys = [] := List.eq_nil_of_length_eq_zero hm
      subst hnil
      have hvs0 : vs = [] := List.eq_nil_of_length_eq_zero (by rw [hvl']; simp)
      subst hvs0
      have hset : H.set k (.grow s (xs.length + ([] : List AV).length)) = H := by
        have : (H[k]'(lt_of_get hk)) = .grow s xs.length := by rw [List.getElem?_eq_getElem (lt_of_get hk)] at hk; exact Option.some.inj hk
        simp only [List.length_nil, Nat.add_zero]
        rw [← this, List.set_getElem_self]
      rw [hset, List.append_nil]
      refine ⟨.slice a xs.length cap, w, G, ?_, hi, .refl _ _ _, r'⟩
      have := hfirst w (fun _ => rfl)
      simp only [List.length_nil] at this hlen
      cases a with
      | none => simp [Builtin.append_, run_underlying hu, run_size hL (known_ne he), run_underlying hd2, hlen, hcap, ← hse, this]
      | some a => simp [Builtin.append_, run_underlying hu, run_size hL (known_ne he), run_underlying hd2, hlen, hcap, ← hse, this, store_none]
    · obtain ⟨_, _, hsp⟩ := hi.grow k s _ hk
      rw [hcap2, ha1] at hsp
      obtain ⟨b, off, arr, T, fr, rfl, hb, hsz, hj⟩ := hsp (by omega)
      have hle : (xs.length + ys.length) * s ≤ cap * s := Nat.mul_le_mul_right s hfit
      have hms : (xs.length + ys.length) * s = xs.length * s + ys.length * s := Nat.add_mul ..
      obtain ⟨w', hrun, hov⟩ := run_storeCells (P := P) (off + xs.length * s) vs 0 w arr hb (fun v hv => by
        obtain ⟨j, hj'⟩ := List.mem_iff_getElem?.1 hv
        have hjl : j < (flats ys).length := by rw [← hvl]; exact lt_of_get hj'
        exact (hvr j _ v (List.getElem?_eq_getElem hjl) hj').2) (by rw [hvl']; omega) (fun j h1 h2 => (hj j (by omega) (by omega)).2)
      obtain ⟨hi', hst, hnewc⟩ := grow_here (m := ys.length) hi hk ha1 hb (by rw [hcap2]; exact hsz) (by rw [hcap2]; exact hj) hm (by rw [hcap2]; exact hfit) hvl' rfl hov
      refine ⟨.slice (some ⟨b, off, none⟩) (xs.length + ys.length) cap, w', _, ?_, hi', hst, ?_⟩
      · have := hfirst w (fun _ => rfl)
        simp [Builtin.append_, run_underlying hu, run_size hL (known_ne he), run_underlying hd2, hlen, hfit, ← hse, this, addr_add, hrun]
      · refine .sl (.tok k) s _ _ _ _ (fun j => if j < xs.length * s then val j else vs.getD (j - xs.length * s) undef) (by simp) hfit huniAll (fun j x e => ?_) (fun j x e => ?_) (fun e => by cases e) (fun _ => rfl) (fun k' e => ?_)
        · refine ⟨b, off, rfl, ?_⟩
          rw [flats_append] at e
          by_cases hjx : j < xs.length * s
          · rw [List.getElem?_append_left (by omega)] at e
            obtain ⟨b', off', ea, him, hw⟩ := hc j x e
            cases ea
            rw [if_pos hjx]
            exact ⟨.inl him, (hst.cell _ _ him).trans hw⟩
          · rw [List.getElem?_append_right (by omega), hxl] at e
            rw [if_neg hjx]
            have hjy : j - xs.length * s < ys.length * s := by rw [← hyl]; exact lt_of_get e
            refine ⟨.inr ⟨rfl, by omega, by omega⟩, ?_⟩
            have h3 := hnewc (j - xs.length * s) hjy
            rw [show off + xs.length * s + (j - xs.length * s) = off + j by omega] at h3
            rw [h3]
            simp [List.getD, List.getElem?_eq_getElem (show j - xs.length * s < vs.length by omega)]
        · rw [flats_append] at e
          by_cases hjx : j < xs.length * s
          · rw [List.getElem?_append_left (by omega)] at e
            rw [if_pos hjx]
            exact (hr j x e).mono hst
          · rw [List.getElem?_append_right (by omega), hxl] at e
            rw [if_neg hjx]
            have hjy : j - xs.length * s < vs.length := by rw [hvl]; exact lt_of_get e
            exact (hvr _ x _ e (by simp [List.getD, List.getElem?_eq_getElem hjy])).1.mono hst
        · cases e
          exact ⟨xs.length + ys.length, by simp [lt_of_get hk], by simp, fun _ => by rw [← hown]; rfl⟩
  · -- a new array
    have hm : 0 < ys.length := by omega
    have hneed : cap < xs.length + ys.length := by omega
    have hnoov : ¬ (Builtin.nextslicecap (xs.length + ys.length) cap * ie.bytes > 281474976710656) := by
      have := growslice_fits (need := xs.length + ys.length) (old := cap) (bytes := ie.bytes) hneed (by rw [hiby]; exact hroom)
      omega
    have hbz : ie.bytes ≠ 0 := by rw [hiby]; omega
    have hold : ∃ us : List Value, us.length = (flats xs).length ∧ (∀ (j : Nat) x u, (flats xs)[j]? = some x → us[j]? = some u → Rel G H w x u) ∧
        (∀ w', (∀ a, w'.cell? a = w.cell? a) → (Builtin.firstCells s xs.length (.slice a xs.length cap)).run P w' = .ok us.toArray w') := by
      rcases Nat.eq_zero_or_pos xs.length with h0 | h0
      · have hnil : xs = [] := List.eq_nil_of_length_eq_zero h0
        subst hnil
        refine ⟨[], rfl, fun j x u e => by simp [flats] at e, fun w' _ => ?_⟩
        cases a with
        | none => simp [Builtin.firstCells]
        | some a => simp [Builtin.firstCells, loadCells, loadCellsFrom]
      · obtain ⟨b, off, cap', ev, _, hcc⟩ := r'.sl_addr hs h0
        cases ev
        obtain ⟨us, hl, h1, h2⟩ := exists_vals (G := G) (H := H) (w := w) (b := b) (off := off) (flats xs) (fun j y e => (hcc j y e).2)
        exact ⟨us, hl, h2, fun w' hw' => run_firstCells_some w' s xs.length ⟨b, off, none⟩ xs.length cap us (by rw [hl, hxl]) (fun j v e => by rw [addr_add, hw']; exact h1 j v e)⟩
    obtain ⟨us, hul, hur, hufirst⟩ := hold
    have hcg : xs.length + ys.length ≤ grownCap w (xs.length + ys.length) cap e := grownCap_ge w _ cap e
    have hzsz : zv.cells.size = s := by
      have := (rel_zero (H := H) (G := G) (w := w) hzs).1
      rw [this, hzl, hse]
    have hrest : (Builtin.zeroCells zv.cells (grownCap w (xs.length + ys.length) cap e - (xs.length + ys.length))).size = (grownCap w (xs.length + ys.length) cap e - (xs.length + ys.length)) * s := by
      simp [Builtin.zeroCells, hzsz]
    have harr : (us.toArray ++ vs.toArray ++ Builtin.zeroCells zv.cells (grownCap w (xs.length + ys.length) cap e - (xs.length + ys.length))).size = grownCap w (xs.length + ys.length) cap e * s := by
      rw [Array.size_append, Array.size_append, hrest, List.size_toArray, List.size_toArray, hul, hvl, hxl, hyl, ← Nat.add_mul, ← Nat.add_mul]
      congr 1
      omega
    obtain ⟨hi', hst, hcell⟩ := grow_move (m := ys.length) (e := e) hi (More.refl w).drew rfl hk hm hcg harr
    refine ⟨.slice (some ⟨w.heap.size, 0, none⟩) (xs.length + ys.length) (grownCap w (xs.length + ys.length) cap e), _, _, ?_, hi', hst, ?_⟩
    · have hf1 := hufirst w.drew (fun _ => rfl)
      have hf2 := hfirst w.drew (fun _ => rfl)
      simp only [Builtin.append_, Sem.run_bind, run_underlying hu, run_size hL (known_ne he), run_underlying hd2, Result.andThen_ok, Sem.run_pure, List.getElem?_toArray, List.getElem?_cons_zero, List.getElem?_cons_succ]
      simp only [Bool.false_eq_true, if_false, hlen, Result.andThen_ok, if_neg hfit, typeInfo, Sem.run_bind, run_program, hie, Sem.run_pure, hbz, false_or, and_false]
      simp only [show (2 : Nat) ^ 48 = 281474976710656 from rfl, if_neg hnoov, Sem.run_bind, Sem.run_pure, Result.andThen_ok, run_choose_drew, Question.forced, Bool.false_eq_true, if_false, run_askRoom, ← hse, zeroValue, typeInfo, run_program, hie, hzv, newRow, run_newObj_alloc]
      rw [show (Question.appendCap (xs.length + ys.length) cap e).cut (w.tape w.drawn (Question.appendCap (xs.length + ys.length) cap e)) = grownCap w (xs.length + ys.length) cap e from rfl]
      simp [hf1, hf2]
      refine congrArg (fun c => w.drew.alloc (Obj.cells c e)) ?_
      apply Array.ext'
      simp
    · refine .sl (.tok k) s _ _ _ _ (fun j => if j < xs.length * s then us.getD j undef else vs.getD (j - xs.length * s) undef) (by simp) hcg huniAll (fun j x e => ?_) (fun j x e => ?_) (fun e => by cases e) (fun _ => rfl) (fun k' e => ?_)
      · refine ⟨w.heap.size, 0, rfl, ?_⟩
        rw [Nat.zero_add]
        have hjl : j < (xs.length + ys.length) * s := by
          have := lt_of_get e
          rwa [flats_append, List.length_append, hxl, hyl, ← Nat.add_mul] at this
        refine ⟨.inr ⟨rfl, hjl⟩, ?_⟩
        rw [hcell j]
        rw [Nat.add_mul] at hjl
        by_cases hjx : j < xs.length * s
        · rw [if_pos hjx]
          rw [Array.getElem?_append_left (by rw [Array.size_append, List.size_toArray, List.size_toArray]; omega), Array.getElem?_append_left (by rw [List.size_toArray]; omega)]
          simp [List.getD, List.getElem?_eq_getElem (show j < us.length by omega)]
        · rw [if_neg hjx]
          rw [Array.getElem?_append_left (by rw [Array.size_append, List.size_toArray, List.size_toArray]; omega), Array.getElem?_append_right (by rw [List.size_toArray]; omega)]
          rw [List.size_toArray, hul, hxl]
          simp [List.getD, List.getElem?_eq_getElem (show j - xs.length * s < vs.length by omega)]
      · rw [flats_append] at e
        by_cases hjx : j < xs.length * s
        · rw [List.getElem?_append_left (by omega)] at e
          rw [if_pos hjx]
          exact (hur j x _ e (by simp [List.getD, List.getElem?_eq_getElem (show j < us.length by omega)])).mono hst
        · rw [List.getElem?_append_right (by omega), hxl] at e
          rw [if_neg hjx]
          have hjy : j - xs.length * s < vs.length := by rw [hvl]; exact lt_of_get e
          exact (hvr _ x _ e (by simp [List.getD, List.getElem?_eq_getElem hjy])).1.mono hst
      · cases e
        exact ⟨xs.length + ys.length, by simp [lt_of_get hk], by simp, fun _ => by simp [moveTo]⟩

/-- May append write behind a slice's end, or must it move? -/
def canAppend (H : List AObj) (o : Own) (z : Nat) (xs : List AV) (s : Nat) : Prop :=
  match o with
  | .sh => False
  | .full => xs ≠ [] → z = s
  | .tok k => z = s ∧ H[k]? = some (.grow s xs.length)
def appRes (H : List AObj) (o : Own) (s n : Nat) : Own × List AObj :=
  match o with
  | .tok k => (.tok k, H.set k (.grow s n))
  | _ => (.tok H.length, H ++ [.grow s n])
def srcKind : TK → Bool
  | .slice _ | .str => true
  | _ => false

theorem aop_append {L : Tab} (hL : TabOk P L) {t t2 e : TypeId} {x y : Operand} {K : AV → List AObj → Prop} {o : Own} {z z2 : Nat} {xs ys : List AV} (hx : ev env x = .sl o z xs) (hy : srcAV (ev env y) = some (z2, ys)) (ht : (L t).k = .slice e)
    (hp : srcKind (L t2).k = true ∧ known (L e) = true ∧ 0 < (L e).size ∧ 0 < (L e).bytes ∧ canAppend H o z xs (L e).size ∧ (ys ≠ [] → z2 = (L e).size) ∧ (xs.length + ys.length) * (L e).bytes ≤ 140737488355328)
    (hK : K (.sl (appRes H o (L e).size (xs.length + ys.length)).1 (L e).size (xs ++ ys)) (appRes H o (L e).size (xs.length + ys.length)).2) :
    AOp P ⟨dst, .call { callee := .builtin .append, args := #[x, y], argTypes := #[t, t2] }, ty, pos, after, guard⟩ env H K := .of_run fun n G a w s => by
  obtain ⟨h1, h2, h3, h4, h5, h6, h7⟩ := hp
  have rx := s.ev x
  have ry := s.ev y
  rw [hx] at rx
  have ht2 : (∃ e', (L t2).k = .slice e') ∨ (L t2).k = .str := by
    cases hk : (L t2).k <;> simp_all [srcKind]
  have hop : ∀ v v2 : Value, a.eval x = v → a.eval y = v2 → ∀ v' w', (Builtin.append_ #[t, t2] ty #[v, v2]).run P w = .ok v' w' →
      (execOp a.eval ⟨dst, .call { callee := .builtin .append, args := #[x, y], argTypes := #[t, t2] }, ty, pos, after, guard⟩).run P w = .ok (.value v') w' := fun v v2 e1 e2 v' w' hr => by
    simp [execOp, resolve, invoke, builtin, e1, e2, hr]
  cases o with
  | sh => exact h5.elim
  | tok k =>
    obtain ⟨hz, hk⟩ := h5
    subst hz
    obtain ⟨v', w', G', hrun, hi', hst, hrel⟩ := append_tok (ty := ty) hL s.inv rx hk ry hy h6 ht ht2 h2 rfl h4 h7
    exact ⟨v', w', _, G', _, hop _ _ rfl rfl _ _ hrun, hi', hst, hrel, hK⟩
  | full =>
    generalize hv : a.eval x = v at rx
    have rx0 := rx
    cases rx with
    | sl _ _ _ ad len cap val hl =>
      obtain ⟨hi1, st1, r1⟩ := mint s.inv rx0 h3 h5
      have hk : (H ++ [AObj.grow (L e).size xs.length])[H.length]? = some (.grow (L e).size xs.length) := List.getElem?_concat_length
      obtain ⟨v', w', G', hrun, hi', hst, hrel⟩ := append_tok (ty := ty) hL hi1 r1 hk (ry.mono st1) hy h6 ht ht2 h2 rfl h4 h7
      have hset : (H ++ [AObj.grow (L e).size xs.length]).set H.length (.grow (L e).size (xs.length + ys.length)) = H ++ [.grow (L e).size (xs.length + ys.length)] := by
        rw [List.set_append_right _ _ (Nat.le_refl _)]
        simp
      rw [hset] at hi' hst hrel
      exact ⟨v', w', _, G', _, hop _ _ hv rfl _ _ hrun, hi', st1.trans hst, hrel, hK⟩
end
end Go.Proofs.YthaicajgfioogaaDoor.V
