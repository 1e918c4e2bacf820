/- The verification condition of a list of operations, and that it is sound. -/
import Derived.Test.YthaicajgfioogaaDoorVj
set_option linter.unusedSimpArgs false
set_option linter.unusedVariables false
namespace Go.Proofs.YthaicajgfioogaaDoor.V
open Go

/-- What is asked, and what it gives. -/
def lift (q : Option (Prop × AV)) (K : AV → List AObj → Prop) (H : List AObj) [Tag K] : Prop :=
  match q with
  | some (p, z) => p ∧ K z H
  | none => False
theorem lift_some {p : Prop} {z : AV} {K : AV → List AObj → Prop} {H : List AObj} : lift (some (p, z)) K H = (p ∧ K z H) := rfl
theorem lift_none {K : AV → List AObj → Prop} {H : List AObj} : lift none K H = False := rfl

def qTrue (z : AV) : Option (Prop × AV) := some (True, z)
def qPick (c a b : AV) : Option (Prop × AV) :=
  match c with
  | .lit (.bool t) => some (True, if t then a else b)
  | _ => none
def qUn' (op : UnOp) (x : AV) : Option (Prop × AV) := (qUn op x).map fun z => (True, z)
def qLen' (L : Tab) (t : TypeId) (x : AV) : Option (Prop × AV) := (qLen L t x).map fun z => (True, z)
def qExtract (x : AV) (i : Nat) : Option (Prop × AV) :=
  match x with
  | .tup xs => (xs[i]?).map fun z => (True, z)
  | _ => none
def qBox (x : AV) : Option (Prop × AV) := some (x.okv = true, .ip x)

/-- A store, at an object. -/
def vcStore (L : Tab) (t : TypeId) (ad x : AV) (H : List AObj) (K : AV → List AObj → Prop) [Tag K] : Prop :=
  match ad with
  | .mp k off => match H[k]? with
    | some (.cells cs) => (known (L t) = true ∧ x.okv = true ∧ x.flat.length = (L t).size ∧ off + (L t).size ≤ cs.length) ∧ K .any (H.set k (.cells (aset cs off x.flat)))
    | _ => False
  | _ => False

def vcAppend (L : Tab) (t t2 : TypeId) (x y : AV) (H : List AObj) (K : AV → List AObj → Prop) [Tag K] : Prop :=
  match (L t).k, x, srcAV y with
  | .slice e, .sl o z xs, some (z2, ys) => (srcKind (L t2).k = true ∧ known (L e) = true ∧ 0 < (L e).size ∧ 0 < (L e).bytes ∧ canAppend H o z xs (L e).size ∧ (ys ≠ [] → z2 = (L e).size) ∧ (xs.length + ys.length) * (L e).bytes ≤ 140737488355328) ∧
      K (.sl (appRes H o (L e).size (xs.length + ys.length)).1 (L e).size (xs ++ ys)) (appRes H o (L e).size (xs.length + ys.length)).2
  | _, _, _ => False


/-- A call of a function value. -/
def vcCall (P : Program) (f : AV) (args : List AV) (H : List AObj) (K : AV → List AObj → Prop) [Tag K] : Prop :=
  match f with
  | .fn (.func g) fs cs => ACalls P g (fs ++ args ++ cs) H K
  | _ => False

def vcMut (x : AV) (H : List AObj) (K : AV → List AObj → Prop) [Tag K] : Prop := x.okv = true ∧ K (.mp H.length 0) (H ++ [.cells x.flat])

/-- A builtin function. -/
def vcBuiltin (L : Tab) (b : Builtin) (args : List AV) (ts : List TypeId) (H : List AObj) (K : AV → List AObj → Prop) [Tag K] : Prop :=
  match b, args, ts with
  | .len, [x], [t] => lift (qLen' L t x) K H
  | .append, [x, y], [t, t2] => vcAppend L t t2 x y H K
  | _, _, _ => False

/-- One operation. 'mu': the slots whose new variables are objects that are written. -/
def vcOp (P : Program) (L : Tab) (mu : List Nat) (o : Oper) (env : Env) (H : List AObj) (K : AV → List AObj → Prop) : Prop :=
  match o.op with
  | .move x | .assign x => lift (qTrue (ev env x)) K H
  | .pick c a b => lift (qPick (ev env c) (ev env a) (ev env b)) K H
  | .binOp op t x y _ => lift (qBin L op t (ev env x) (ev env y)) K H
  | .unOp op _ x => lift (qUn' op (ev env x)) K H
  | .convert s d x => if mu.contains (o.dst.getD 0) then vcBytes L s d (ev env x) H K else lift (qConvH L H s d (ev env x)) K H
  | .extract x i => lift (qExtract (ev env x) i) K H
  | .indexAddr t x i => lift (qIndexAddr L t (ev env x) (ev env i)) K H
  | .index t x i => lift (qIndex L t (ev env x) (ev env i)) K H
  | .load t x => lift (qLoad L H t (ev env x)) K H
  | .slice t x lo hi mx => lift (qSlice L t (ev env x) (evO env lo) (evO env hi) (evO env mx)) K H
  | .fieldAddr t x f => lift (qFieldAddr L t (ev env x) f) K H
  | .field t x f => lift (qField L t (ev env x) f) K H
  | .build t parts => lift (qBuild L t (evParts env parts)) K H
  | .buildSlice t len parts => if len = 0 ∧ parts.size ≠ 0 then False else lift (qBuildSlice L t len (evParts env parts)) K H
  | .box _ x => if mu.contains (o.dst.getD 0) then vcMut (ev env x) H K else lift (qBox (ev env x)) K H
  | .alloc e => known (L e) = true ∧ K (.mp H.length 0) (H ++ [.cells (L e).zero])
  | .store t a x => vcStore L t (ev env a) (ev env x) H K
  | .call c => match c.callee with
    | .builtin b => vcBuiltin L b (c.args.toList.map (ev env)) c.argTypes.toList H K
    | .value f => vcCall P (ev env f) (c.args.toList.map (ev env)) H K
    | .invoke _ _ => False
  | _ => False

theorem still_aop {P : Program} {o : Oper} {env : Env} {H : List AObj} {p : Prop} {z : AV} {K : AV → List AObj → Prop} (h : Still P o env H p z) (hp : p) (hk : K z H) : AOp P o env H K := .of_run fun n G a w s =>
  let ⟨v, hr, hx⟩ := h hp n G a w s
  ⟨v, w, z, G, H, hr, s.inv, .refl _ _ _, hx, hk⟩
theorem quiet_aop {P : Program} {o : Oper} {env : Env} {H : List AObj} {p : Prop} {z : AV} {K : AV → List AObj → Prop} (h : Quiet P o env H p z) (hp : p) (hk : K z H) : AOp P o env H K := .of_run fun n G a w s =>
  let ⟨v, w', G', hr, hi, hs, hx⟩ := h hp n G a w s
  ⟨v, w', z, G', H, hr, hi, hs, hx, hk⟩
theorem lift_still {P : Program} {o : Oper} {env : Env} {H : List AObj} {q : Option (Prop × AV)} {K : AV → List AObj → Prop} (h : ∀ p z, q = some (p, z) → Still P o env H p z) (hk : lift q K H) : AOp P o env H K := by
  unfold lift at hk
  split at hk
  · exact still_aop (h _ _ rfl) hk.1 hk.2
  · exact hk.elim
theorem lift_quiet {P : Program} {o : Oper} {env : Env} {H : List AObj} {q : Option (Prop × AV)} {K : AV → List AObj → Prop} (h : ∀ p z, q = some (p, z) → Quiet P o env H p z) (hk : lift q K H) : AOp P o env H K := by
  unfold lift at hk
  split at hk
  · exact quiet_aop (h _ _ rfl) hk.1 hk.2
  · exact hk.elim

section
variable {P : Program} {env : Env} {H : List AObj} {dst : Option Tmp} {ty : TypeId} {pos : String} {after : Array Edge} {guard : Option (Nat × Bool)}

theorem relAll_map {n : Nat} {G : Gh} {a : Act} {w : World} (s : Sat n G env H a w) (xs : Array Operand) : RelAll G H w (xs.toList.map (ev env)) (xs.map a.eval) := by
  refine ⟨by simp, fun j x v e e' => ?_⟩
  simp only [List.getElem?_map, Array.getElem?_map, Array.getElem?_toList] at e e'
  cases h : xs[j]? with
  | none => rw [h] at e; cases e
  | some y =>
    rw [h] at e e'
    cases e
    cases e'
    exact s.ev y
theorem relAll_append {G : Gh} {w : World} {xs ys : List AV} {vs us : Array Value} (h : RelAll G H w xs vs) (k : RelAll G H w ys us) : RelAll G H w (xs ++ ys) (vs ++ us) := by
  refine ⟨by simp [h.1, k.1], fun j x v e e' => ?_⟩
  by_cases hj : j < xs.length
  · rw [List.getElem?_append_left hj] at e
    rw [Array.getElem?_append_left (by rw [h.1]; exact hj)] at e'
    exact h.2 j x v e e'
  · rw [List.getElem?_append_right (by omega)] at e
    rw [Array.getElem?_append_right (by rw [h.1]; omega), h.1] at e'
    exact k.2 _ x v e e'

theorem aop_call {f : Operand} {args : Array Operand} {ats : Array TypeId} {K : AV → List AObj → Prop} (h : vcCall P (ev env f) (args.toList.map (ev env)) H K) : AOp P ⟨dst, .call { callee := .value f, args, argTypes := ats }, ty, pos, after, guard⟩ env H K := by
  intro Q n G a w s
  have rf := s.ev f
  unfold vcCall at h
  split at h
  · rename_i g fs cs ef
    rw [ef] at rf
    generalize hv : a.eval f = v at rf
    cases rf with
    | fn _ _ _ fa ca hf hc hrf hrc =>
      have hargs : RelAll G H w (fs ++ args.toList.map (ev env) ++ cs) (fa ++ args.map a.eval ++ ca) := relAll_append (relAll_append ⟨hf, hrf⟩ (relAll_map s args)) ⟨hc, hrc⟩
      have hinv : (execOp a.eval ⟨dst, .call { callee := .value f, args, argTypes := ats }, ty, pos, after, guard⟩).run P w = (callFunc g (fa ++ args.map a.eval ++ ca)).run P w := by
        simp [execOp, resolve, hv, Deferred.ofValue, invoke]
      rcases h G w _ s.inv hargs with ⟨fn, hfn, hbody, hname, hcall⟩ | ⟨v, w', hcall, x, G', H', hi, hs, hx, hk⟩
      · have hb : fn.body ≠ none := by intro e; rw [e] at hbody; cases hbody
        have hn : fn.name ≠ "runtime.NumGoroutine" := by simpa using hname
        have hrun : (execOp a.eval ⟨dst, .call { callee := .value f, args, argTypes := ats }, ty, pos, after, guard⟩).run P w = .ok (.enter g (fa ++ args.map a.eval ++ ca)) w := by
          rw [hinv]
          simp [callFunc, hfn, hb, hn]
        unfold Oper.wp
        rw [hrun, Oper.upon_enter]
        refine hcall.mono ?_
        rintro e w' ⟨v, rfl, x, G', H', hi, hs, hx, hk⟩
        exact ⟨v, x, G', H', rfl, hi, hs, hx, hk⟩
      · unfold Oper.wp
        rw [hinv, hcall]
        exact ⟨v, x, G', H', rfl, hi, hs, hx, hk⟩
  · exact h.elim

theorem vcOp_sound {L : Tab} (hL : TabOk P L) {mu : List Nat} {o : Oper} {K : AV → List AObj → Prop} (h : vcOp P L mu o env H K) : AOp P o env H K := by
  obtain ⟨dst, op, ty, pos, after, guard⟩ := o
  unfold vcOp at h
  simp only at h
  split at h
  · exact lift_still (fun p z e => by cases e; exact still_move) h
  · exact lift_still (fun p z e => by cases e; exact still_assign) h
  · refine lift_still (fun p z e => ?_) h
    unfold qPick at e
    split at e
    · rename_i t et
      cases e
      exact still_pick et
    · cases e
  · exact lift_still (fun p z e => still_bin hL e) h
  · refine lift_still (fun p z e => ?_) h
    unfold qUn' at e
    rename_i op' _ x
    cases e' : qUn op' (ev env x) with
    | none => rw [e'] at e; cases e
    | some u => rw [e'] at e; cases e; exact still_un e'
  · split at h
    · exact aop_bytes hL h
    · exact lift_quiet (fun p z e => quiet_convH hL e) h
  · rename_i x' i'
    refine lift_still (fun p z e => ?_) h
    unfold qExtract at e
    split at e
    · rename_i xs ex
      cases e' : xs[i']? with
      | none => rw [e'] at e; cases e
      | some u => rw [e'] at e; cases e; exact still_extract ex e'
    · cases e
  · exact lift_still (fun p z e => still_indexAddr hL e) h
  · exact lift_still (fun p z e => still_index hL e) h
  · exact lift_still (fun p z e => still_load hL e) h
  · exact lift_still (fun p z e => still_slice hL e) h
  · exact lift_still (fun p z e => still_fieldAddr hL e) h
  · exact lift_still (fun p z e => still_field hL e) h
  · exact lift_still (fun p z e => still_build hL e) h
  · split at h
    · exact h.elim
    · rename_i hne
      refine lift_quiet (fun p z e => quiet_buildSlice hL e fun h0 => ?_) h
      rename_i parts
      have : ¬ (parts.size ≠ 0) := fun hs => hne ⟨h0, hs⟩
      exact Array.eq_empty_of_size_eq_zero (by omega)
  · split at h
    · exact aop_box_mut h.1 h.2
    · exact lift_quiet (fun p z e => by cases e; exact quiet_box) h
  · exact aop_alloc hL h.1 h.2
  · unfold vcStore at h
    split at h
    · rename_i k off ea
      split at h
      · rename_i cs hk
        exact aop_store hL ea hk h.1 h.2
      · exact h.elim
    · exact h.elim
  · rename_i c
    obtain ⟨callee, args, ats⟩ := c
    simp only at h
    split at h
    · rename_i b
      unfold vcBuiltin at h
      split at h
      · rename_i x t hx ht
        obtain ⟨y, rfl, rfl⟩ : ∃ y, args = #[y] ∧ x = ev env y := by
          obtain ⟨l⟩ := args
          match l, hx with
          | [y], hx => exact ⟨y, rfl, by simpa using hx.symm⟩
        obtain rfl : ats = #[t] := Array.ext' (by simpa using ht)
        refine lift_still (fun p z e => ?_) h
        unfold qLen' at e
        cases e' : qLen L t (ev env y) with
        | none => rw [e'] at e; cases e
        | some u => rw [e'] at e; cases e; exact still_len hL e'
      · rename_i x y t t2 hx ht
        obtain ⟨x', y', rfl, rfl, rfl⟩ : ∃ x' y', args = #[x', y'] ∧ x = ev env x' ∧ y = ev env y' := by
          obtain ⟨l⟩ := args
          match l, hx with
          | [x', y'], hx => exact ⟨x', y', rfl, by simp at hx; exact hx.1.symm, by simp at hx; exact hx.2.symm⟩
        obtain rfl : ats = #[t, t2] := Array.ext' (by simpa using ht)
        unfold vcAppend at h
        split at h
        · rename_i h1 h2 h3
          exact aop_append hL h2 h3 h1 h.1 h.2
        · exact h.elim
      · exact h.elim
    · exact aop_call h
    · exact h.elim
  · exact h.elim
end

/-- The value of the operation that a guard hangs on. -/
def gval (all : List Oper) (env : Env) (j : Nat) : AV := match (all[j]?).bind (·.dst) with | some d => get env d | none => .any
def vcGuard (g : AV) (want : Bool) (run skip skip0 : Prop) [Tag run] [Tag skip] [Tag skip0] : Prop :=
  match g with
  | .lit (.bool b) => (b = want → run) ∧ (b ≠ want → skip)
  | .lit (.tuple _) => skip0
  | _ => False
theorem vcGuard_tt {r s z : Prop} : vcGuard (.lit (.bool true)) true r s z = r := by simp [vcGuard]
theorem vcGuard_ff {r s z : Prop} : vcGuard (.lit (.bool false)) false r s z = r := by simp [vcGuard]
theorem vcGuard_tf {r s z : Prop} : vcGuard (.lit (.bool true)) false r s z = s := by simp [vcGuard]
theorem vcGuard_ft {r s z : Prop} : vcGuard (.lit (.bool false)) true r s z = s := by simp [vcGuard]
theorem vcGuard_u {r s z : Prop} {b : Bool} {a : Array Value} : vcGuard (.lit (.tuple a)) b r s z = z := rfl
theorem vcGuard_b {r s z : Prop} {t : Bool} : vcGuard (.lit (.bool t)) true r s z = ((t = true → Hold r) ∧ (t = false → Hold s)) := by cases t <;> simp [vcGuard, hold_eq]
theorem vcGuard_b' {r s z : Prop} {t : Bool} : vcGuard (.lit (.bool t)) false r s z = ((t = true → Hold s) ∧ (t = false → Hold r)) := by cases t <;> simp [vcGuard, hold_eq]
/-- The guard's slot, once it is known. -/
def known1 (all : List Oper) (j : Nat) (b : Bool) (env : Env) : Env := put ((all[j]?).bind (·.dst)) (.lit (.bool b)) env

def vcOps (P : Program) (L : Tab) (mu : List Nat) (all : List Oper) : List Oper → Env → List AObj → (Env → List AObj → Prop) → Prop
  | [], env, H, K => K env H
  | o :: rest, env, H, K =>
    match o.guard with
    | none => vcOp P L mu o env H fun v H' => vcOps P L mu all rest (put o.dst v env) H' K
    | some (j, want) => vcGuard (gval all env j) want (vcOp P L mu o (known1 all j want env) H fun v H' => vcOps P L mu all rest (put o.dst v (known1 all j want env)) H' K) (vcOps P L mu all rest (put o.dst (.lit undef) (known1 all j (!want) env)) H K) (vcOps P L mu all rest (put o.dst (.lit undef) env) H K)

def dstsOk (n : Nat) (ops : List Oper) : Bool := ops.all fun o => match o.dst with | some d => decide (d < n) | none => true

theorem wanted_of {n : Nat} {G : Gh} {env : Env} {H : List AObj} {a : Act} {w : World} (s : Sat n G env H a w) {all : Array Oper} {o : Oper} {j : Nat} {want b : Bool} (hg : o.guard = some (j, want)) (hb : gval all.toList env j = .lit (.bool b)) (hd : dstsOk n all.toList = true) :
    Region.wanted o (yielded all a.tmps) = decide (b = want) := by
  unfold gval at hb
  simp only [Region.wanted, hg, yielded]
  split at hb
  · rename_i d hj
    rw [Array.getElem?_toList] at hj
    rw [hj]
    have r := s.env d
    rw [hb] at r
    have e := rel_lit_inv r
    have hdn : d < n := by
      cases ho : all[j]? with
      | none => rw [ho] at hj; cases hj
      | some oj =>
        rw [ho] at hj
        have := List.all_eq_true.1 hd oj (by rw [Array.mem_toList_iff]; exact Array.mem_of_getElem? ho)
        simp only [Option.bind_some] at hj
        rw [hj] at this
        simpa using this
    have hlt : d < a.tmps.size := by rw [s.size]; exact hdn
    have : a.tmps[d]? = some (.bool b) := by
      rw [Array.getD_eq_getD_getElem?, Array.getElem?_eq_getElem hlt] at e
      rw [Array.getElem?_eq_getElem hlt]
      exact congrArg some e
    simp only [Option.bind_some, this]
    cases b <;> cases want <;> rfl
  · cases hb

theorem wanted_undef {n : Nat} {G : Gh} {env : Env} {H : List AObj} {a : Act} {w : World} (s : Sat n G env H a w) {all : Array Oper} {o : Oper} {j : Nat} {want : Bool} {ar : Array Value} (hg : o.guard = some (j, want)) (hb : gval all.toList env j = .lit (.tuple ar)) (hd : dstsOk n all.toList = true) :
    Region.wanted o (yielded all a.tmps) = false := by
  unfold gval at hb
  simp only [Region.wanted, hg, yielded]
  split at hb
  · rename_i d hj
    rw [Array.getElem?_toList] at hj
    rw [hj]
    have r := s.env d
    rw [hb] at r
    have e := rel_lit_inv r
    rw [Array.getD_eq_getD_getElem?] at e
    simp only [Option.bind_some]
    cases h : a.tmps[d]? with
    | none => cases want <;> rfl
    | some v =>
      rw [h] at e
      simp only [Option.getD_some] at e
      subst e
      cases want <;> rfl
  · cases hb

theorem Sat.known {n : Nat} {G : Gh} {env : Env} {H : List AObj} {a : Act} {w : World} (s : Sat n G env H a w) {all : List Oper} {j : Nat} {b : Bool} (hb : gval all env j = .lit (.bool b)) : Sat n G (known1 all j b env) H a w := by
  refine ⟨s.size, s.defers, fun t => ?_, s.inv⟩
  unfold known1 V.put
  unfold gval at hb
  split at hb
  · rename_i d hd
    rw [hd]
    simp only [get]
    split
    · rename_i e
      subst e
      rw [← hb]
      exact s.env d
    · exact s.env t
  · cases hb

theorem vcOps_sound {P : Program} {L : Tab} (hL : TabOk P L) {mu : List Nat} {n : Nat} {all : Array Oper} (hall : dstsOk n all.toList = true) {Q : Exit → Env → List AObj → Prop} :
    ∀ (rest : List Oper) (env : Env) (H : List AObj), dstsOk n rest = true → vcOps P L mu all.toList rest env H (Q .normal) → ∀ G a w, Sat n G env H a w → wpList P all (Post n G H w Q) rest a w
  | [], env, H, _, h, G, a, w, s => ⟨G, env, H, s, .refl _ _ _, h⟩
  | o :: rest, env, H, hd, h, G, a, w, s => by
    simp only [dstsOk, List.all_cons, Bool.and_eq_true] at hd
    obtain ⟨hd1, hd2⟩ := hd
    have hdst : ∀ t, o.dst = some t → t < n := fun t e => by rw [e] at hd1; simpa using hd1
    have run : ∀ env, Sat n G env H a w → vcOp P L mu o env H (fun v H' => vcOps P L mu all.toList rest (put o.dst v env) H' (Q .normal)) → o.wp P a w (wpList P all (Post n G H w Q) rest) (Post n G H w Q) := fun env s hv => by
      have := vcOp_sound hL hv (Post n G H w Q) n G a w s
      have mono : ∀ {N N' : Act → World → Prop}, (∀ a w, N a w → N' a w) → o.wp P a w N (Post n G H w Q) → o.wp P a w N' (Post n G H w Q) := by
        intro N N' hN hw
        unfold Oper.wp Oper.upon at *
        split at hw <;> first | exact hN _ _ hw | exact hw | skip
        · refine Calls.mono hw fun e w'' he => ?_
          cases e with
          | returned v => exact hN _ _ he
          | _ => exact he
        · exact Rows.mono hw fun v w'' he => hN _ _ he
      refine mono (fun a' w' hx => ?_) this
      obtain ⟨v, x, G', H', rfl, hi, hs, hx, hk⟩ := hx
      have s' := s.put hs hi hx hdst
      have := vcOps_sound hL hall (Q := Q) rest _ H' hd2 hk G' _ w' s'
      have lm : ∀ (l : List Oper) (a : Act) (w1 : World), wpList P all (Post n G' H' w' Q) l a w1 → wpList P all (Post n G H w Q) l a w1 := by
        intro l
        induction l with
        | nil => intro a w1 hp; exact hp.trans hs
        | cons o' r ih =>
          intro a w1 hp
          unfold wpList at hp ⊢
          split at hp
          · rename_i hw
            rw [if_pos hw]
            rcases hp with hp | ⟨hp, a0, w0, hq⟩
            · left
              unfold Oper.wp Oper.upon at *
              split at hp <;> first | exact ih _ _ hp | exact Post.trans hs hp | exact hp | skip
              · refine Calls.mono hp fun e w'' he => ?_
                cases e with
                | returned v => exact ih _ _ he
                | panicked c => exact Post.trans hs he
                | outgrown =>
                  obtain ⟨a0, w0, hq⟩ := he
                  exact ⟨a0, w0, Post.trans hs hq⟩
              · exact Rows.mono hp fun v w'' he => ih _ _ he
            · right
              exact ⟨hp, a0, w0, Post.trans hs hq⟩
          · rename_i hw
            rw [if_neg hw]
            exact ih _ _ hp
      exact lm _ _ _ this
    unfold vcOps at h
    unfold wpList
    cases hg : o.guard with
    | none =>
      rw [hg] at h
      have hw : Region.wanted o (yielded all a.tmps) = true := by simp [Region.wanted, hg]
      rw [if_pos hw]
      exact .inl (run env s h)
    | some jw =>
      obtain ⟨j, want⟩ := jw
      rw [hg] at h
      simp only [vcGuard] at h
      split at h
      · rename_i b hb
        have hwd := wanted_of s hg hb hall
        rw [hwd]
        by_cases e : b = want
        · rw [if_pos (by simpa using e)]
          exact .inl (run _ (s.known (e ▸ hb)) (h.1 e))
        · rw [if_neg (by simpa using e)]
          have hb' : gval all.toList env j = .lit (.bool !want) := by rw [hb]; cases b <;> cases want <;> simp_all
          exact vcOps_sound hL hall (Q := Q) rest _ H hd2 (h.2 e) G _ w ((s.known hb').put (.refl _ _ _) s.inv (.lit _) hdst)
      · rename_i ar hb
        rw [wanted_undef s hg hb hall]
        rw [if_neg (by simp)]
        exact vcOps_sound hL hall (Q := Q) rest _ H hd2 h G _ w (s.put (.refl _ _ _) s.inv (.lit _) hdst)
      · exact h.elim

/-- A region whose order is the text's. -/
theorem aw_region {P : Program} {L : Tab} (hL : TabOk P L) (mu : List Nat) {n : Nat} {id : Nat} {ops : List Oper} (hops : dstsOk n ops = true) {Q : Exit → Env → List AObj → Prop} {env : Env} {H : List AObj}
    (h : vcOps P L mu ops ops env H (Q .normal)) : AW P n (.region id ops.toArray false) Q env H := fun G a w s =>
  wp_region_list (vcOps_sound (all := ops.toArray) hL (by simpa using hops) ops env H hops (by simpa using h) G a w s)

end Go.Proofs.YthaicajgfioogaaDoor.V
