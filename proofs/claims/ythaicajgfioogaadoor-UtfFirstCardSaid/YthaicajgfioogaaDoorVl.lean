/- Contracts of functions from their bodies. -/
import Derived.Test.YthaicajgfioogaaDoorVk
set_option linter.unusedSimpArgs false
set_option linter.unusedVariables false
namespace Go.Proofs.YthaicajgfioogaaDoor.V
open Go

def initEnv : Nat → List AV → Env
  | _, [] => []
  | i, x :: r => (i, x) :: initEnv (i + 1) r
theorem get_init : ∀ (l : List AV) (i t : Nat), get (initEnv i l) t = if i ≤ t then (l[t - i]?).getD .any else .any
  | [], i, t => by simp [initEnv, get]
  | x :: r, i, t => by
    simp only [initEnv, get, get_init r]
    by_cases h : i = t
    · subst h; simp
    · simp only [h, if_false]
      by_cases h2 : i + 1 ≤ t
      · rw [if_pos h2, if_pos (by omega), show t - i = (t - (i + 1)) + 1 by omega, List.getElem?_cons_succ]
      · rw [if_neg h2, if_neg (by omega)]

def resOne (L : Tab) (env : Env) (H : List AObj) : ResultVar → Option (Prop × AV)
  | .tmp t => some (True, get env t)
  | .cell a t => qLoad L H t (get env a)
def resList (L : Tab) (env : Env) (H : List AObj) : List ResultVar → Option (Prop × List AV)
  | [] => some (True, [])
  | r :: rs => match resOne L env H r, resList L env H rs with
    | some (p, x), some (q, xs) => some (p ∧ q, x :: xs)
    | _, _ => none
def resTop : List AV → AV
  | [x] => x
  | xs => .tup xs

/-- What a body must end with. -/
def Fin (L : Tab) (rs : List ResultVar) (H₀ : List AObj) (R : AV → List AObj → Prop) (env : Env) (H : List AObj) : Prop :=
  match resList L env H rs with
  | some (p, xs) => p ∧ ∃ x m, Le (resTop xs) x ∧ H₀.length ≤ m ∧ (m < H.length → Low m x ∧ ∀ k cs, k < m → H[k]? = some (.cells cs) → H₀[k]? = some (.cells cs) ∨ ∀ y ∈ cs, Low m y) ∧ R x (H.take m)
  | none => False
def BodyQ (L : Tab) (rs : List ResultVar) (H₀ : List AObj) (R : AV → List AObj → Prop) : Exit → Env → List AObj → Prop
  | .normal, env, H => Fin L rs H₀ R env H
  | .ret, env, H => Fin L rs H₀ R env H
  | _, _, _ => False

theorem fin_keep {L : Tab} {rs : List ResultVar} {H₀ : List AObj} {R : AV → List AObj → Prop} {env : Env} {H : List AObj} {p : Prop} {xs : List AV} (h : resList L env H rs = some (p, xs)) (hp : p) (x : AV) (hx : Le (resTop xs) x) (hl : H₀.length ≤ H.length) (hr : R x H) : Fin L rs H₀ R env H := by
  unfold Fin
  rw [h]
  exact ⟨hp, x, H.length, hx, hl, fun h => absurd h (Nat.lt_irrefl _), by rw [List.take_length]; exact hr⟩
theorem fin_cut {L : Tab} {rs : List ResultVar} {H₀ M : List AObj} {R : AV → List AObj → Prop} {env : Env} {p : Prop} {xs : List AV} (h : resList L env (H₀ ++ M) rs = some (p, xs)) (hp : p) (x : AV) (hx : Le (resTop xs) x) (hl : Low H₀.length x) (hr : R x H₀) : Fin L rs H₀ R env (H₀ ++ M) := by
  unfold Fin
  rw [h]
  refine ⟨hp, x, H₀.length, hx, Nat.le_refl _, fun _ => ⟨hl, fun k cs hk e => .inl ?_⟩, by rw [List.take_left]; exact hr⟩
  rwa [List.getElem?_append_left hk] at e

def resSem (tmps : Array Value) : ResultVar → Sem Value
  | .tmp t => pure (tmps.getD t undef)
  | .cell b t => do loadVar t (← asAddr (tmps.getD b undef))
theorem results_eq (fn : Func) (tmps : Array Value) : results fn tmps = (do let vs ← fn.results.mapM (resSem tmps); pure (if h : vs.size = 1 then vs[0] else .tuple vs)) := by
  unfold results
  congr 2
theorem res_run {P : Program} {L : Tab} (hL : TabOk P L) {n : Nat} {G : Gh} {env : Env} {H : List AObj} {a : Act} {w : World} (s : Sat n G env H a w) : ∀ (rs : List ResultVar) {p : Prop} {xs : List AV}, resList L env H rs = some (p, xs) → p →
    ∃ vs : List Value, (rs.mapM (resSem a.tmps) : Sem (List Value)).run P w = .ok vs w ∧ vs.length = xs.length ∧ (∀ (j : Nat) x v, xs[j]? = some x → vs[j]? = some v → Rel G H w x v)
  | [], p, xs, h, hp => by
    simp only [resList, Option.some.injEq, Prod.mk.injEq] at h
    obtain ⟨_, rfl⟩ := h
    exact ⟨[], by simp, rfl, fun j x v e => by simp at e⟩
  | r :: rs, p, xs, h, hp => by
    simp only [resList] at h
    split at h
    · rename_i p1 x1 p2 xs2 h1 h2
      simp only [Option.some.injEq, Prod.mk.injEq] at h
      obtain ⟨rfl, rfl⟩ := h
      obtain ⟨vs, hr, hl, hrel⟩ := res_run hL s rs h2 hp.2
      have : ∃ v, (resSem a.tmps r).run P w = .ok v w ∧ Rel G H w x1 v := by
        cases r with
        | tmp t =>
          simp only [resOne, Option.some.injEq, Prod.mk.injEq] at h1
          obtain ⟨_, rfl⟩ := h1
          exact ⟨_, rfl, s.env t⟩
        | cell b t =>
          obtain ⟨ad, u, hv, hrun, hz⟩ := load_run hL (show qLoad L H t (get env b) = some (p1, x1) from h1) hp.1 s.inv (s.env b)
          exact ⟨u, by simp only [resSem, Sem.run_bind]; rw [hv]; simp [asAddr, hrun], hz⟩
      obtain ⟨v, hv, hz⟩ := this
      refine ⟨v :: vs, ?_, by simp [hl], fun j x u e e' => ?_⟩
      · rw [List.mapM_cons]
        simp only [Sem.run_bind]
        rw [hv]
        simp only [Result.andThen_ok, hr, Sem.run_pure]
      · cases j with
        | zero => simp at e e'; subst e; subst e'; exact hz
        | succ j => exact hrel j x u (by simpa using e) (by simpa using e')
    · cases h

theorem acalls_of_aw {P : Program} {L : Tab} (hL : TabOk P L) {f : FuncId} {fn : Func} {c : Code} {n : Nat} {rs : List ResultVar} {args : List AV} {H : List AObj} {R : AV → List AObj → Prop} (hf : P.funcs[f]? = some fn) (hb : fn.body = some c) (hname : (fn.name == "runtime.NumGoroutine") = false) (hn : fn.ntmps = n)
    (hrs : fn.results.toList = rs) (hargs : args.length ≤ n) (h : AW P n c (BodyQ L rs H R) (initEnv 0 args) H) : ACalls P f args H R := by
  intro G w vs hi hr
  refine .inl ⟨fn, hf, by rw [hb]; rfl, hname, ?_⟩
  refine calls_of_wp hf hb (wp_mono (h G { tmps := vs ++ Array.replicate (fn.ntmps - vs.size) undef, defers := [] } w ⟨by simp [hr.1]; omega, rfl, fun t => ?_, hi⟩) fun e a w' hq => ?_)
  · rw [get_init]
    simp only [Nat.zero_le, if_true, Nat.sub_zero]
    by_cases ht : t < args.length
    · rw [List.getElem?_eq_getElem ht]
      have hv : t < vs.size := by rw [hr.1]; exact ht
      rw [Array.getD_eq_getD_getElem?, Array.getElem?_append_left hv, Array.getElem?_eq_getElem hv]
      exact hr.2 t _ _ (List.getElem?_eq_getElem ht) (Array.getElem?_eq_getElem hv)
    · rw [List.getElem?_eq_none (by omega)]
      exact .any _
  · obtain ⟨G', env', H', s, st, q⟩ := hq
    have key : Fin L rs H R env' H' → a.defers = [] ∧ ∃ v, (results fn a.tmps).run P w' = .ok v w' ∧ ∃ v', Ending.returned v = .returned v' ∧ ∃ x G'' H'', HInv G'' H'' w' ∧ Step G H w G'' H'' w' ∧ Rel G'' H'' w' x v' ∧ R x H'' := fun hfin => by
      unfold Fin at hfin
      split at hfin
      · rename_i p xs hres
        obtain ⟨hp, x, m, hle, hm, hcut, hR⟩ := hfin
        obtain ⟨us, hrun, hlen, hrel⟩ := res_run (P := P) hL s rs hres hp
        have hres' : (results fn a.tmps).run P w' = .ok (if h : us.length = 1 then us[0] else .tuple us.toArray) w' := by
          rw [results_eq, Array.mapM_eq_mapM_toList, hrs]
          simp only [Sem.run_bind, Sem.run_map]
          rw [hrun]
          simp only [Result.andThen_ok, Sem.run_pure, List.size_toArray, List.getElem_toArray]
        have hrx : Rel G' H' w' (resTop xs) (if h : us.length = 1 then us[0] else .tuple us.toArray) := by
          unfold resTop
          split
          · have h1 : us.length = 1 := by simpa using hlen
            rw [dif_pos h1]
            exact hrel 0 _ _ rfl (by simp [h1])
          · rename_i hne
            have h1 : us.length ≠ 1 := by
              intro h1
              rw [hlen] at h1
              obtain ⟨y, hy⟩ := List.length_eq_one_iff.1 h1
              exact hne y hy
            rw [dif_neg h1]
            exact .tup _ _ (by simpa using hlen) fun j x v e e' => hrel j x v e (by simpa using e')
        have hrx' := hle _ _ _ _ hrx
        refine ⟨s.defers, _, hres', _, rfl, x, G', H'.take m, ?_, st.cut hm, ?_, hR⟩
        · by_cases hml : m < H'.length
          · obtain ⟨_, hobj⟩ := hcut hml
            refine s.inv.cut m fun k cs hk e y hy => ?_
            rcases hobj k cs hk e with h0 | h0
            · obtain ⟨arr, T, fr, hb', hsz, hr', _⟩ := hi.cells k cs h0
              obtain ⟨j, hj⟩ := List.mem_iff_getElem?.1 hy
              have hja : j < arr.size := by rw [hsz]; exact lt_of_get hj
              exact ((hr' j y _ hj (Array.getElem?_eq_getElem hja)).low).mono hm
            · exact h0 y hy
          · rw [List.take_of_length_le (by omega)]; exact s.inv
        · by_cases hml : m < H'.length
          · exact hrx'.cut m (hcut hml).1
          · rw [List.take_of_length_le (by omega)]; exact hrx'
      · exact hfin.elim
    cases e with
    | normal =>
      obtain ⟨h1, v, h2, h3⟩ := key q
      exact ⟨h1, v, h2, h3⟩
    | ret =>
      obtain ⟨h1, v, h2, h3⟩ := key q
      exact ⟨h1, v, h2, h3⟩
    | exit _ => exact q.elim
    | goto _ => exact q.elim
    | panic _ => exact q.elim
    | outgrown => exact q.elim
end Go.Proofs.YthaicajgfioogaaDoor.V
