/- The verification condition of a function's code. -/
import Derived.Test.YthaicajgfioogaaDoorVm
set_option linter.unusedSimpArgs false
set_option linter.unusedVariables false
namespace Go.Proofs.YthaicajgfioogaaDoor.V
open Go

/-- What an operation that leaves the objects alone asks and gives; none: it is none of these. -/
def qOp (L : Tab) (o : Oper) (env : Env) (H : List AObj) : Option (Prop × AV) :=
  match o.op with
  | .move x | .assign x => qTrue (ev env x)
  | .pick c a b => qPick (ev env c) (ev env a) (ev env b)
  | .binOp op t x y _ => qBin L op t (ev env x) (ev env y)
  | .unOp op _ x => qUn' op (ev env x)
  | .convert s d x => qConvH L H s d (ev env x)
  | .extract x i => qExtract (ev env x) i
  | .indexAddr t x i => qIndexAddr L t (ev env x) (ev env i)
  | .index t x i => qIndex L t (ev env x) (ev env i)
  | .load t x => qLoad L H t (ev env x)
  | .slice t x lo hi mx => qSlice L t (ev env x) (evO env lo) (evO env hi) (evO env mx)
  | .fieldAddr t x f => qFieldAddr L t (ev env x) f
  | .field t x f => qField L t (ev env x) f
  | .build t parts => qBuild L t (evParts env parts)
  | .box _ x => qBox (ev env x)
  | _ => none
theorem qOp_vc {P : Program} {L : Tab} {o : Oper} {env : Env} {H : List AObj} {p : Prop} {z : AV} (h : qOp L o env H = some (p, z)) (hp : p) : vcQuiet P L o env H z := by
  obtain ⟨dst, op, ty, pos, after, guard⟩ := o
  have key : ∀ (q : Option (Prop × AV)) (K : AV → List AObj → Prop), q = some (p, z) → K z H → lift q K H := fun q K e hk => by rw [e]; exact ⟨hp, hk⟩
  unfold vcQuiet
  cases op <;> simp only [qOp] at h <;> first | (simp at h; done) | (simp only [vcOp, List.contains_nil, Bool.false_eq_true, if_false]; exact key _ _ h ⟨rfl, rfl⟩)

/-- A call that leaves the objects alone, with one result. -/
def vcCallD (P : Program) (f : AV) (args : List AV) (H : List AObj) (K : AV → Prop) [Tag K] : Prop :=
  match f with
  | .fn (.func g) fs cs => ∃ z, ACalls P g (fs ++ args ++ cs) H (fun x H' => x = z ∧ H' = H) ∧ K z
  | _ => False
def liftD (q : Option (Prop × AV)) (K : AV → Prop) [Tag K] : Prop :=
  match q with
  | some (p, z) => p ∧ K z
  | none => False
theorem liftD_some {p : Prop} {z : AV} {K : AV → Prop} : liftD (some (p, z)) K = (p ∧ K z) := rfl
theorem liftD_none {K : AV → Prop} : liftD none K = False := rfl
def vcBuiltinD (L : Tab) (b : Builtin) (args : List AV) (ts : List TypeId) (K : AV → Prop) [Tag K] : Prop :=
  match b, args, ts with
  | .len, [x], [t] => liftD (qLen' L t x) K
  | _, _, _ => False
def vcOpD (P : Program) (L : Tab) (o : Oper) (env : Env) (H : List AObj) (K : AV → Prop) : Prop :=
  match o.op with
  | .call c => match c.callee with
    | .value f => vcCallD P (ev env f) (c.args.toList.map (ev env)) H K
    | .builtin b => vcBuiltinD L b (c.args.toList.map (ev env)) c.argTypes.toList K
    | _ => False
  | .buildSlice t len parts => if len = 0 ∧ parts.size ≠ 0 then False else liftD (qBuildSlice L t len (evParts env parts)) K
  | _ => liftD (qOp L o env H) K
theorem vcOpD_sound {P : Program} {L : Tab} {o : Oper} {env : Env} {H : List AObj} {K : AV → Prop} (h : vcOpD P L o env H K) : ∃ z, vcQuiet P L o env H z ∧ K z := by
  have key : ∀ q, q = qOp L o env H → liftD q K → ∃ z, vcQuiet P L o env H z ∧ K z := fun q e hk => by
    unfold liftD at hk
    split at hk
    · exact ⟨_, qOp_vc e.symm hk.1, hk.2⟩
    · exact hk.elim
  unfold vcOpD at h
  split at h
  · rename_i c ho
    split at h
    · rename_i f hf
      unfold vcCallD at h
      split at h
      · rename_i g fs cs ef
        obtain ⟨z, hz, hk⟩ := h
        refine ⟨z, ?_, hk⟩
        unfold vcQuiet vcOp
        rw [ho]
        simp only
        rw [hf]
        simp only
        unfold vcCall
        rw [ef]
        exact hz
      · exact h.elim
    · rename_i b hb
      unfold vcBuiltinD at h
      split at h
      · rename_i x t hx ht
        unfold liftD at h
        split at h
        · rename_i p z hq
          refine ⟨z, ?_, h.2⟩
          unfold vcQuiet vcOp
          rw [ho]
          simp only
          rw [hb]
          simp only
          rw [hx, ht]
          unfold vcBuiltin
          simp only
          rw [hq]
          exact ⟨h.1, rfl, rfl⟩
        · exact h.elim
      · exact h.elim
    · exact h.elim
  · rename_i t len parts ho
    split at h
    · exact h.elim
    · rename_i hne
      unfold liftD at h
      split at h
      · rename_i p z hq
        refine ⟨z, ?_, h.2⟩
        unfold vcQuiet vcOp
        rw [ho]
        simp only
        rw [if_neg hne, hq]
        exact ⟨h.1, rfl, rfl⟩
      · exact h.elim
  · exact key _ rfl h

def vcDraw (P : Program) (L : Tab) (all : List Oper) : List Oper → Env → List AObj → (Env → List AObj → Prop) → Prop
  | [], env, H, K => K env H
  | o :: rest, env, H, K =>
    match o.guard with
    | none => vcOpD P L o env H fun z => vcDraw P L all rest (put o.dst z env) H K
    | some (j, want) => vcGuard (gval all env j) want (vcOpD P L o (known1 all j want env) H fun z => vcDraw P L all rest (put o.dst z (known1 all j want env)) H K) (vcDraw P L all rest (put o.dst (.lit undef) (known1 all j (!want) env)) H K) (vcDraw P L all rest (put o.dst (.lit undef) env) H K)

theorem envAt_none {zs : Nat → AV} {l : Nat → Bool} : ∀ (r : List Oper) (i : Nat) (env : Env), (∀ j, j < r.length → l (i + j) = false) → envAt l zs i r env = env
  | [], _, _, _ => rfl
  | o :: r, i, env, h => by
    have h0 := h 0 (by simp)
    rw [Nat.add_zero] at h0
    simp only [envAt, h0, Bool.false_eq_true, if_false]
    exact envAt_none r (i + 1) env fun j hj => by have := h (j + 1) (by simp; omega); rwa [show i + (j + 1) = i + 1 + j by omega] at this
theorem envAt_zs {zs zs' : Nat → AV} {l l' : Nat → Bool} : ∀ (r : List Oper) (i : Nat) (env : Env), (∀ j, j < r.length → zs (i + j) = zs' (i + j) ∧ l (i + j) = l' (i + j)) → envAt l zs i r env = envAt l' zs' i r env
  | [], _, _, _ => rfl
  | o :: r, i, env, h => by
    obtain ⟨h0, h1⟩ := h 0 (by simp)
    rw [Nat.add_zero] at h0 h1
    simp only [envAt, h0, h1]
    exact envAt_zs r (i + 1) _ fun j hj => by have := h (j + 1) (by simp; omega); rwa [show i + (j + 1) = i + 1 + j by omega] at this

theorem get_known {all : List Oper} {j : Nat} {b : Bool} {env : Env} (hb : gval all env j = .lit (.bool b)) (t : Nat) : get (known1 all j b env) t = get env t := by
  unfold known1
  rw [get_put]
  unfold gval at hb
  split
  · rename_i hd
    rw [hd] at hb
    exact hb.symm
  · rfl
theorem gval_congr {all : List Oper} {j : Nat} {env env' : Env} (h : ∀ t, get env t = get env' t) : gval all env j = gval all env' j := by
  unfold gval
  split
  · exact h _
  · rfl
theorem vcDraw_sound {P : Program} {L : Tab} {all : List Oper} {H : List AObj} {K : Env → List AObj → Prop} : ∀ (r : List Oper) (i : Nat) (env env₀ : Env), (∀ t, get env t = get env₀ t) → vcDraw P L all r env H K →
    ∃ (zs : Nat → AV) (env' : Env), (∀ (k : Nat) o, r[k]? = some o → Does P L all o (envAt (fun j => decide (j < i + k)) zs i r env₀) H (zs (i + k))) ∧ (∀ t, get (envAt (fun _ => true) zs i r env₀) t = get env' t) ∧ K env' H
  | [], i, env, env₀, he, h => ⟨fun _ => .any, env, fun k o e => by simp at e, fun t => (he t).symm, h⟩
  | o :: r, i, env, env₀, he, h => by
    have fin : ∀ z env₁, (∀ t, get env₁ t = get env₀ t) → Does P L all o env₀ H z → vcDraw P L all r (put o.dst z env₁) H K →
        ∃ (zs : Nat → AV) (env' : Env), (∀ (k : Nat) q, (o :: r)[k]? = some q → Does P L all q (envAt (fun j => decide (j < i + k)) zs i (o :: r) env₀) H (zs (i + k))) ∧ (∀ t, get (envAt (fun _ => true) zs i (o :: r) env₀) t = get env' t) ∧ K env' H := fun z env₁ he₁ hz hr => by
      obtain ⟨zs, env', h1, h2, h3⟩ := vcDraw_sound r (i + 1) _ (put o.dst z env₀) (fun t => by rw [get_put, get_put, he₁ t]) hr
      refine ⟨fun j => if j = i then z else zs j, env', fun k q e => ?_, fun t => ?_, h3⟩
      · cases k with
        | zero =>
          simp only [List.getElem?_cons_zero, Option.some.injEq] at e
          subst e
          rw [envAt_none _ _ _ fun j _ => by simp]
          simpa using hz
        | succ k =>
          have := h1 k q (by simpa using e)
          have e1 : envAt (fun j => decide (j < i + (k + 1))) (fun j => if j = i then z else zs j) i (o :: r) env₀ = envAt (fun j => decide (j < i + 1 + k)) zs (i + 1) r (put o.dst z env₀) := by
            simp only [envAt, show i < i + (k + 1) by omega, decide_true, if_true]
            exact envAt_zs r (i + 1) _ fun j _ => ⟨by rw [if_neg (by omega)], by rw [show i + (k + 1) = i + 1 + k by omega]⟩
          rw [e1]
          simp only [show ¬ (i + (k + 1) = i) by omega, if_false]
          rwa [show i + (k + 1) = i + 1 + k by omega]
      · have e1 : envAt (fun _ => true) (fun j => if j = i then z else zs j) i (o :: r) env₀ = envAt (fun _ => true) zs (i + 1) r (put o.dst z env₀) := by
          simp only [envAt, if_true]
          exact envAt_zs r (i + 1) _ fun j _ => ⟨by rw [if_neg (by omega)], rfl⟩
        rw [e1]
        exact h2 t
    have hq : ∀ env₁ z, (∀ t, get env₁ t = get env₀ t) → vcQuiet P L o env₁ H z → vcQuiet P L o env₀ H z := fun env₁ z he₁ hz => by
      unfold vcQuiet at hz ⊢
      rwa [← vcOp_congr (env := env₁) fun x _ t _ => he₁ t]
    unfold vcDraw at h
    cases hg : o.guard with
    | none =>
      rw [hg] at h
      obtain ⟨z, hz, hk⟩ := vcOpD_sound h
      exact fin z env he (by unfold Does; rw [hg]; exact hq env z he hz) hk
    | some jw =>
      obtain ⟨j, want⟩ := jw
      rw [hg] at h
      simp only [vcGuard] at h
      split at h
      · rename_i b hb
        have hb0 : gval all env₀ j = .lit (.bool b) := by rw [← gval_congr he]; exact hb
        by_cases e : b = want
        · subst e
          have he₁ : ∀ t, get (known1 all j b env) t = get env₀ t := fun t => (get_known hb t).trans (he t)
          obtain ⟨z, hz, hk⟩ := vcOpD_sound (h.1 rfl)
          exact fin z _ he₁ (by unfold Does; rw [hg]; exact .inl ⟨b, hb0, .inl ⟨rfl, hq _ z he₁ hz⟩⟩) hk
        · have hbn : b = !want := by cases b <;> cases want <;> simp_all
          have he₁ : ∀ t, get (known1 all j (!want) env) t = get env₀ t := fun t => (get_known (hbn ▸ hb) t).trans (he t)
          exact fin (.lit undef) _ he₁ (by unfold Does; rw [hg]; exact .inl ⟨b, hb0, .inr ⟨e, rfl⟩⟩) (h.2 e)
      · rename_i ar hb
        exact fin (.lit undef) env he (by unfold Does; rw [hg]; exact .inr ⟨ar, by rw [← gval_congr he]; exact hb, rfl⟩) h
      · exact h.elim
theorem aw_region_draw {P : Program} {L : Tab} (hL : TabOk P L) (hm : P.follows .mixedOrders = true) {n : Nat} {rid : Nat} {ops : List Oper} (hops : dstsOk n ops = true) (hdr : drawOk ops = true) {Q : Exit → Env → List AObj → Prop} {env : Env} {H : List AObj}
    (h : vcDraw P L ops ops env H (Q .normal)) : AW P n (.region rid ops.toArray true) Q env H := by
  obtain ⟨zs, env', h1, h2, h3⟩ := vcDraw_sound ops 0 env env (fun _ => rfl) h
  exact aw_region_draw_ hL hm hops hdr zs (fun i o e => by have := h1 i o e; rwa [Nat.zero_add] at this) env' h2 h3

end Go.Proofs.YthaicajgfioogaaDoor.V
