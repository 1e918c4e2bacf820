/- The abstract state of a frame, the abstract weakest precondition of code, contracts of calls, and their rules. -/
import Derived.Test.YthaicajgfioogaaDoorVa
set_option linter.unusedSimpArgs false
set_option linter.unusedVariables false
namespace Go.Proofs.YthaicajgfioogaaDoor.V
open Go
universe u

abbrev Env := List (Nat × AV)
def get : Env → Nat → AV
  | [], _ => .any
  | (k, v) :: r, t => if k = t then v else get r t

def ofCell : Value → AV
  | .string s => .str s.data.toList
  | .slice none 0 0 => .sl .full 0 []
  | v => .lit v
def ofConst : Value → AV
  | .agg cs => .agg (cs.toList.map ofCell)
  | v => ofCell v
/-- A package variable's address. -/
def globAV (g : Nat) : AV := if gtab g = [] then .lit (.pointer (some ⟨g, 0, none⟩)) else .ip (.agg ((gtab g).map ofCell))
def ev (env : Env) : Operand → AV
  | .tmp t => get env t
  | .const v => ofConst v
  | .global g => globAV g
  | .func f => .fn (.func f) [] []

theorem rel_nil {G : Gh} {H : List AObj} {w : World} (s : Nat) : Rel G H w (.sl .full s []) (.slice none 0 0) :=
  .sl .full s [] none 0 0 (fun _ => undef) rfl (Nat.le_refl _) (fun x hx => by cases hx) (fun j x e => by simp [flats] at e) (fun j x e => by simp [flats] at e) (fun _ => rfl) (fun h => absurd h (by omega)) (fun k e => by cases e)
theorem rel_ofCell {G : Gh} {H : List AObj} {w : World} (v : Value) : Rel G H w (ofCell v) v := by
  unfold ofCell
  split
  · rename_i s
    have : s = ⟨s.data.toList.toArray⟩ := by simp
    rw [this]
    exact .str _
  · exact rel_nil 0
  · exact .lit _
theorem rel_ofConst {G : Gh} {H : List AObj} {w : World} (v : Value) : Rel G H w (ofConst v) v := by
  unfold ofConst
  split
  · rename_i cs
    refine .agg _ _ (by simp) fun j x v e e' => ?_
    rw [List.getElem?_map] at e
    have : cs.toList[j]? = some v := by simpa using e'
    rw [this] at e
    cases e
    exact rel_ofCell v
  · exact rel_ofCell v

structure Sat (n : Nat) (G : Gh) (env : Env) (H : List AObj) (a : Act) (w : World) : Prop where
  size : a.tmps.size = n
  defers : a.defers = []
  env : ∀ t, Rel G H w (get env t) (a.tmps.getD t undef)
  inv : HInv G H w

theorem Sat.ev {n : Nat} {G : Gh} {env : Env} {H : List AObj} {a : Act} {w : World} (h : Sat n G env H a w) (x : Operand) : Rel G H w (V.ev env x) (a.eval x) := by
  cases x with
  | tmp t => exact h.env t
  | const v => exact rel_ofConst v
  | global g =>
    show Rel G H w (globAV g) _
    unfold globAV
    split
    · exact .lit _
    · refine .ip _ g 0 (fun j => ((gtab g)[j]?).getD undef) (fun j y e => ?_) (fun j y e => ?_)
      · simp only [AV.flat, List.getElem?_map, Option.map_eq_some_iff] at e
        obtain ⟨v, hv, _⟩ := e
        have := h.inv.tabs g j v hv
        rw [Nat.zero_add, hv]
        exact this
      · simp only [AV.flat, List.getElem?_map, Option.map_eq_some_iff] at e
        obtain ⟨v, hv, rfl⟩ := e
        rw [hv]
        exact rel_ofCell v
  | func f => exact .fn _ [] [] #[] #[] rfl rfl (fun j x v e => by simp at e) (fun j x v e => by simp at e)

theorem getD_set {vs : Array Value} {d t : Nat} {v : Value} (hd : d < vs.size) : (vs.setIfInBounds d v).getD t undef = if d = t then v else vs.getD t undef := by
  simp only [Array.getD_eq_getD_getElem?, Array.getElem?_setIfInBounds]
  by_cases h : d = t
  · subst h; simp [hd]
  · simp [h]

def put (d : Option Nat) (v : AV) (env : Env) : Env :=
  match d with
  | some d => (d, v) :: env
  | none => env

theorem Sat.put {n : Nat} {G G' : Gh} {env : Env} {H H' : List AObj} {a : Act} {w w' : World} (h : Sat n G env H a w) (hs : Step G H w G' H' w') (hi : HInv G' H' w')
    {x : AV} {v : Value} (hr : Rel G' H' w' x v) {d : Option Nat} (hd : ∀ t, d = some t → t < n) : Sat n G' (V.put d x env) H' (a.put d v) w' := by
  cases d with
  | none => exact ⟨h.size, h.defers, fun t => (h.env t).mono hs, hi⟩
  | some d =>
    have hdn := hd d rfl
    refine ⟨by simp [Act.put, h.size], h.defers, fun t => ?_, hi⟩
    simp only [V.put, get, Act.put]
    rw [getD_set (by rw [h.size]; exact hdn)]
    by_cases e : d = t
    · simp only [e, if_true]; exact hr
    · simp only [e, if_false]; exact (h.env t).mono hs

theorem Sat.step {n : Nat} {G G' : Gh} {env : Env} {H H' : List AObj} {a : Act} {w w' : World} (h : Sat n G env H a w) (hs : Step G H w G' H' w') (hi : HInv G' H' w') : Sat n G' env H' a w' :=
  ⟨h.size, h.defers, fun t => (h.env t).mono hs, hi⟩

/-- A mark that keeps rewriting out of what it marks. -/
class Tag {α : Sort u} (a : α) : Type where
instance {α : Sort u} (a : α) : Tag a := {}
def Hold (a : Prop) [Tag a] : Prop := a
theorem unhold {a : Prop} (h : a) : Hold a := h
theorem hold_eq {a : Prop} : Hold a = a := rfl
attribute [irreducible] Hold

def Post (n : Nat) (G : Gh) (H : List AObj) (w : World) (Q : Exit → Env → List AObj → Prop) : Exit → Act → World → Prop :=
  fun e a' w' => ∃ G' env' H', Sat n G' env' H' a' w' ∧ Step G H w G' H' w' ∧ Q e env' H'

def AW (P : Program) (n : Nat) (c : Code) (Q : Exit → Env → List AObj → Prop) (env : Env) (H : List AObj) [Tag c] [Tag Q] : Prop :=
  ∀ G a w, Sat n G env H a w → c.wp P (Post n G H w Q) a w

def Ex (next : Env → List AObj → Prop) (Q : Exit → Env → List AObj → Prop) : Exit → Env → List AObj → Prop
  | .normal, env, H => next env H
  | e, env, H => Q e env H
def InB (id : Nat) (Q : Exit → Env → List AObj → Prop) : Exit → Env → List AObj → Prop
  | .exit id', env, H => if id' = id then Q .normal env H else Q (.exit id') env H
  | e, env, H => Q e env H

section
variable {P : Program} {n : Nat} {Q : Exit → Env → List AObj → Prop} {env : Env} {H : List AObj}

theorem Post.trans {G G' : Gh} {H H' : List AObj} {w w' : World} (hs : Step G H w G' H' w') {e : Exit} {a : Act} {w'' : World} (h : Post n G' H' w' Q e a w'') : Post n G H w Q e a w'' :=
  let ⟨G'', env'', H'', s, st, q⟩ := h
  ⟨G'', env'', H'', s, hs.trans st, q⟩

theorem AW.mono {c : Code} {Q' : Exit → Env → List AObj → Prop} (h : AW P n c Q env H) (hq : ∀ e env H, Q e env H → Q' e env H) : AW P n c Q' env H :=
  fun G a w s => wp_mono (h G a w s) fun _ _ _ ⟨G', env', H', s', st, q⟩ => ⟨G', env', H', s', st, hq _ _ _ q⟩

theorem aw_skip (h : Q .normal env H) : AW P n .skip Q env H := fun G _ _ s => wp_skip ⟨G, env, H, s, .refl _ _ _, h⟩
theorem aw_exit {id : Nat} (h : Q (.exit id) env H) : AW P n (.exit id) Q env H := fun G _ _ s => wp_exit ⟨G, env, H, s, .refl _ _ _, h⟩
theorem aw_ret (h : Q .ret env H) : AW P n .ret Q env H := fun G _ _ s => wp_ret ⟨G, env, H, s, .refl _ _ _, h⟩

theorem aw_seq_ {x y : Code} (h : AW P n x (Ex (fun env H => AW P n y Q env H) Q) env H) : AW P n (.seq x y) Q env H := fun G a w s => by
  refine wp_seq (wp_mono (h G a w s) fun e a' w' ⟨G', env', H', s', st, q⟩ => ?_)
  cases e with
  | normal => exact wp_mono (q G' a' w' s') fun _ _ _ p => p.trans st
  | _ => exact ⟨G', env', H', s', st, q⟩
theorem aw_seq {x y : Code} (h : ∀ K : Env → List AObj → Prop, (∀ env H, AW P n y Q env H → K env H) → AW P n x (Ex K Q) env H) : AW P n (.seq x y) Q env H :=
  aw_seq_ (h _ fun _ _ h => h)

theorem aw_cond {c : Operand} {x y : Code} {t : Bool} (hc : ev env c = .lit (.bool t)) (ht : t = true → AW P n x Q env H) (hf : t = false → AW P n y Q env H) : AW P n (.cond c x y) Q env H :=
  fun G a w s => by
    have r := s.ev c
    rw [hc] at r
    generalize hv : a.eval c = v at r
    cases r
    exact wp_cond_split hv (fun e => ht e G a w s) (fun e => hf e G a w s)
theorem aw_if {c : Operand} {x y : Code} (t : Prop) [Decidable t] (hc : ev env c = .lit (.bool (decide t))) (ht : t → AW P n x Q env H) (hf : ¬ t → AW P n y Q env H) : AW P n (.cond c x y) Q env H :=
  aw_cond hc (fun e => ht (of_decide_eq_true e)) (fun e => hf (of_decide_eq_false e))

theorem aw_block {id : Nat} {c : Code} (h : AW P n c (InB id Q) env H) : AW P n (.block id c) Q env H := fun G a w s =>
  wp_block (wp_mono (h G a w s) fun e a' w' ⟨G', env', H', s', st, q⟩ => by
    cases e with
    | exit id' =>
      simp only [Exit.inBlock]
      simp only [InB] at q
      split <;> rename_i hid
      · exact ⟨G', env', H', s', st, by simpa [hid] using q⟩
      · exact ⟨G', env', H', s', st, by simpa [hid] using q⟩
    | _ => exact ⟨G', env', H', s', st, q⟩)

/-- A loop: a family of states with a measure. -/
theorem wp_loop_gh {c : Code} {R : Exit → Act → World → Prop} (I : Nat → Act → World → Prop)
    (round : ∀ m a w, I m a w → c.wp P (Exit.then (fun a' w' => ∃ m', m' < m ∧ I m' a' w') R) a w) : ∀ m a w, I m a w → (Code.loop c).wp P R a w := by
  intro m a w h₀ b k cs
  have key : ∀ m a w, I m a w → ∃ e a' w', R e a' w' ∧ Arrives P (lone (b.at a (.code c :: .inLoop c :: k)) cs w) b k cs e a' w' := by
    intro m
    induction m using Nat.strongRecOn with
    | _ m ih =>
      intro a w hI
      obtain ⟨e, a₁, w₁, hq, harr⟩ := round m a w hI b (.inLoop c :: k) cs
      cases e with
      | normal =>
        obtain ⟨m', hlt, hI₁⟩ := hq
        obtain ⟨e₂, a₂, w₂, hq₂, harr₂⟩ := ih m' hlt a₁ w₁ hI₁
        exact ⟨e₂, a₂, w₂, hq₂, .of_steps (Steps.trans harr (.one step_inLoop)) harr₂⟩
      | exit id => exact ⟨_, a₁, w₁, hq, .pass (x := .inLoop c) rfl (fun _ _ => .inl (by simp)) harr⟩
      | goto l => exact ⟨_, a₁, w₁, hq, .pass (x := .inLoop c) rfl (fun _ _ => .inl (by simp)) harr⟩
      | ret => exact ⟨_, a₁, w₁, hq, .pass (x := .inLoop c) rfl (fun _ _ => .inl (by simp)) harr⟩
      | panic ch => exact ⟨_, a₁, w₁, hq, .pass (x := .inLoop c) rfl (fun _ _ => .inl (by simp)) harr⟩
      | outgrown => exact ⟨_, a₁, w₁, hq, .pass (x := .inLoop c) rfl (fun _ _ => .inl (by simp)) harr⟩
  obtain ⟨e, a', w', hq, harr⟩ := key m a w h₀
  exact ⟨e, a', w', hq, .of_steps (.one step_loop) harr⟩

theorem aw_loop {α : Type} (st : α → Env → List AObj → Prop) (m : α → Nat) {c : Code}
    (round : ∀ x env H, st x env H → AW P n c (Ex (fun env' H' => ∃ y, m y < m x ∧ st y env' H') Q) env H) (x : α) (h : st x env H) : AW P n (.loop c) Q env H :=
  fun G a w s => by
    refine wp_loop_gh (fun k a' w' => ∃ y G' env' H', m y = k ∧ st y env' H' ∧ Sat n G' env' H' a' w' ∧ Step G H w G' H' w') (fun k a' w' ⟨y, G', env', H', hk, hst, s', stp⟩ => ?_) (m x) a w ⟨x, G, env, H, rfl, h, s, .refl _ _ _⟩
    refine wp_mono (round y env' H' hst G' a' w' s') fun e a'' w'' ⟨G'', env'', H'', s'', stp', q⟩ => ?_
    cases e with
    | normal =>
      obtain ⟨z, hlt, hz⟩ := q
      exact ⟨m z, hk ▸ hlt, z, G'', env'', H'', rfl, hz, s'', stp.trans stp'⟩
    | _ => exact ⟨G'', env'', H'', s'', stp.trans stp', q⟩

/-- x says more than y. -/
def Le (x y : AV) : Prop := ∀ G H w v, Rel G H w x v → Rel G H w y v
theorem Le.refl (x : AV) : Le x x := fun _ _ _ _ h => h
theorem Le.any (x : AV) : Le x .any := fun _ _ _ v _ => .any v
theorem AW.weak {c : Code} {env' : Env} (h : AW P n c Q env' H) (hw : ∀ t, Le (get env t) (get env' t)) : AW P n c Q env H :=
  fun G a w s => h G a w ⟨s.size, s.defers, fun t => hw t G H w _ (s.env t), s.inv⟩
end

/-- What the operation o does from env and H on: K of the abstract value that it gives, and of the objects behind it. -/
def AOp (P : Program) (o : Oper) (env : Env) (H : List AObj) (K : AV → List AObj → Prop) : Prop :=
  ∀ (Q : Exit → Act → World → Prop) n G a w, Sat n G env H a w →
    o.wp P a w (fun a' w' => ∃ v x G' H', a' = a.put o.dst v ∧ HInv G' H' w' ∧ Step G H w G' H' w' ∧ Rel G' H' w' x v ∧ K x H') Q

theorem AOp.of_run {P : Program} {o : Oper} {env : Env} {H : List AObj} {K : AV → List AObj → Prop}
    (h : ∀ n G a w, Sat n G env H a w → ∃ v w' x G' H', (execOp a.eval o).run P w = .ok (.value v) w' ∧ HInv G' H' w' ∧ Step G H w G' H' w' ∧ Rel G' H' w' x v ∧ K x H') : AOp P o env H K := by
  intro Q n G a w s
  obtain ⟨v, w', x, G', H', hr, hi, hs, hx, hk⟩ := h n G a w s
  unfold Oper.wp
  rw [hr]
  exact ⟨v, x, G', H', rfl, hi, hs, hx, hk⟩
theorem AOp.of_skip {P : Program} {o : Oper} {env : Env} {H : List AObj} {K : AV → List AObj → Prop}
    (h : ∀ n G a w, Sat n G env H a w → ∃ w' G' H', (execOp a.eval o).run P w = .ok .skip w' ∧ HInv G' H' w' ∧ Step G H w G' H' w' ∧ K .any H') : AOp P o env H K := by
  intro Q n G a w s
  obtain ⟨w', G', H', hr, hi, hs, hk⟩ := h n G a w s
  unfold Oper.wp
  rw [hr]
  exact ⟨undef, .any, G', H', rfl, hi, hs, .any _, hk⟩

def RelAll (G : Gh) (H : List AObj) (w : World) (xs : List AV) (vs : Array Value) : Prop :=
  vs.size = xs.length ∧ ∀ (j : Nat) (x : AV) (v : Value), xs[j]? = some x → vs[j]? = some v → Rel G H w x v

/-- A call, of a function with a Go body or of one that the model knows by itself. -/
def CallsAt (P : Program) (f : FuncId) (vs : Array Value) (w : World) (Q : Value → World → Prop) : Prop :=
  (∃ fn, P.funcs[f]? = some fn ∧ fn.body.isSome = true ∧ (fn.name == "runtime.NumGoroutine") = false ∧ Calls P f vs w fun e w' => ∃ v, e = .returned v ∧ Q v w') ∨
  (∃ v w', (callFunc f vs).run P w = .ok (.value v) w' ∧ Q v w')
theorem CallsAt.mono {P : Program} {f : FuncId} {vs : Array Value} {w : World} {Q Q' : Value → World → Prop} (h : CallsAt P f vs w Q) (hq : ∀ v w', Q v w' → Q' v w') : CallsAt P f vs w Q' := by
  rcases h with ⟨fn, h1, h2, h3, h4⟩ | ⟨v, w', h1, h2⟩
  · exact .inl ⟨fn, h1, h2, h3, h4.mono fun _ _ ⟨v, e, q⟩ => ⟨v, e, hq _ _ q⟩⟩
  · exact .inr ⟨v, w', h1, hq _ _ h2⟩
theorem CallsAt.calls {P : Program} {f : FuncId} {vs : Array Value} {w : World} {Q : Value → World → Prop} {fn : Func} (hf : P.funcs[f]? = some fn) (hb : fn.body.isSome = true) (hn : (fn.name == "runtime.NumGoroutine") = false) (h : CallsAt P f vs w Q) : Calls P f vs w fun e w' => ∃ v, e = .returned v ∧ Q v w' := by
  rcases h with ⟨_, _, _, _, h4⟩ | ⟨v, w', h1, h2⟩
  · exact h4
  · exfalso
    have hb' : fn.body ≠ none := by intro e; rw [e] at hb; cases hb
    have hn' : fn.name ≠ "runtime.NumGoroutine" := by simpa using hn
    simp [callFunc, hf, hb', hn'] at h1
/-- The contract of a call. -/
def ACalls (P : Program) (f : FuncId) (args : List AV) (H : List AObj) (R : AV → List AObj → Prop) [Tag R] : Prop :=
  ∀ G w vs, HInv G H w → RelAll G H w args vs → CallsAt P f vs w fun v w' => ∃ x G' H', HInv G' H' w' ∧ Step G H w G' H' w' ∧ Rel G' H' w' x v ∧ R x H'

theorem ACalls.mono {P : Program} {f : FuncId} {args : List AV} {H : List AObj} {R R' : AV → List AObj → Prop} (h : ACalls P f args H R) (hr : ∀ x H', R x H' → R' x H') : ACalls P f args H R' :=
  fun G w vs hi ha => (h G w vs hi ha).mono fun _ _ ⟨x, G', H', hi', hs, hx, r⟩ => ⟨x, G', H', hi', hs, hx, hr _ _ r⟩
theorem ACalls.weak {P : Program} {f : FuncId} {args args' : List AV} {H : List AObj} {R : AV → List AObj → Prop} (h : ACalls P f args' H R) (hl : args'.length = args.length)
    (hw : ∀ (j : Nat) (x y : AV), args[j]? = some x → args'[j]? = some y → Le x y) : ACalls P f args H R :=
  fun G w vs hi ha => h G w vs hi ⟨ha.1.trans hl.symm, fun j y v ey ev => by
    have hj : j < args.length := by rw [← hl]; exact lt_of_get ey
    exact hw j args[j] y (List.getElem?_eq_getElem hj) ey G H w v (ha.2 j _ v (List.getElem?_eq_getElem hj) ev)⟩


end Go.Proofs.YthaicajgfioogaaDoor.V
