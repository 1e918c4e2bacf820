/- Regions whose order is drawn, and whose operations write nothing: the text's order serves all orders. -/
import Derived.Test.YthaicajgfioogaaDoorVl
set_option linter.unusedSimpArgs false
set_option linter.unusedVariables false
namespace Go.Proofs.YthaicajgfioogaaDoor.V
open Go

/-- An operation that leaves the objects alone, with one result. -/
def vcQuiet (P : Program) (L : Tab) (o : Oper) (env : Env) (H : List AObj) (z : AV) : Prop := vcOp P L [] o env H fun x H' => x = z ∧ H' = H

theorem ev_congr {env env' : Env} {x : Operand} (h : ∀ t, x = .tmp t → get env t = get env' t) : ev env x = ev env' x := by
  cases x with
  | tmp t => exact h t rfl
  | _ => rfl
theorem evO_congr {env env' : Env} {x : Option Operand} (h : ∀ y t, x = some y → y = .tmp t → get env t = get env' t) : evO env x = evO env' x := by
  cases x with
  | none => rfl
  | some x => simp only [evO, Option.map_some]; rw [ev_congr fun t e => h x t rfl e]
theorem evs_congr {env env' : Env} {xs : List Operand} (h : ∀ x ∈ xs, ∀ t, x = .tmp t → get env t = get env' t) : xs.map (ev env) = xs.map (ev env') :=
  List.map_congr_left fun x hx => ev_congr (h x hx)

theorem vcOp_congr {P : Program} {L : Tab} {mu : List Nat} {o : Oper} {env env' : Env} {H : List AObj} {K : AV → List AObj → Prop} (h : ∀ x ∈ o.op.operands.toList, ∀ t, x = .tmp t → get env t = get env' t) : vcOp P L mu o env H K = vcOp P L mu o env' H K := by
  obtain ⟨dst, op, ty, pos, after, guard⟩ := o
  have e1 : ∀ x, x ∈ op.operands.toList → ev env x = ev env' x := fun x hx => ev_congr (h x hx)
  cases op <;> simp only [vcOp] <;> simp only [Op.operands] at e1
  case move x => rw [e1 x (by simp)]
  case assign x => rw [e1 x (by simp)]
  case pick a b c => rw [e1 a (by simp), e1 b (by simp), e1 c (by simp)]
  case box e x => rw [e1 x (by simp)]
  case build t parts =>
    have : evParts env parts = evParts env' parts := List.map_congr_left fun p hp => by rw [e1 p.2 (by simpa using ⟨p.1, by simpa using hp⟩)]
    rw [this]
  case buildSlice t len parts =>
    have : evParts env parts = evParts env' parts := List.map_congr_left fun p hp => by rw [e1 p.2 (by simpa using ⟨p.1, by simpa using hp⟩)]
    rw [this]
  case load t x => rw [e1 x (by simp)]
  case store t a x => rw [e1 a (by simp), e1 x (by simp)]
  case binOp op t x y t' => rw [e1 x (by simp), e1 y (by simp)]
  case unOp op t x => rw [e1 x (by simp)]
  case convert s d x => rw [e1 x (by simp)]
  case slice t x lo hi mx =>
    have eo : ∀ z, (z = lo ∨ z = hi ∨ z = mx) → evO env z = evO env' z := fun z hz => by
      cases z with
      | none => rfl
      | some y => simp only [evO, Option.map_some]; rw [e1 y (by rcases hz with rfl | rfl | rfl <;> simp)]
    rw [e1 x (by simp), eo lo (.inl rfl), eo hi (.inr (.inl rfl)), eo mx (.inr (.inr rfl))]
  case fieldAddr t x f => rw [e1 x (by simp)]
  case field t x f => rw [e1 x (by simp)]
  case indexAddr t x i => rw [e1 x (by simp), e1 i (by simp)]
  case index t x i => rw [e1 x (by simp), e1 i (by simp)]
  case extract x i => rw [e1 x (by simp)]
  case call c =>
    obtain ⟨callee, args, ats⟩ := c
    simp only [Call.operands] at e1
    have ea : args.toList.map (ev env) = args.toList.map (ev env') := List.map_congr_left fun x hx => e1 x (by simp only [Array.toList_append, List.mem_append]; exact .inr hx)
    rw [ea]
    cases callee with
    | builtin b => rfl
    | value f => simp only []; rw [e1 f (by simp)]
    | invoke r m => rfl

/-- The environment when just the listed operations have been carried out. -/
def envAt (listed : Nat → Bool) (zs : Nat → AV) : Nat → List Oper → Env → Env
  | _, [], env => env
  | i, o :: r, env => envAt listed zs (i + 1) r (if listed i then put o.dst (zs i) env else env)

theorem get_put (d : Option Nat) (v : AV) (env : Env) (t : Nat) : get (put d v env) t = if d = some t then v else get env t := by
  cases d with
  | none => simp [put]
  | some d => simp [put, get]
theorem envAt_congr {zs : Nat → AV} {l l' : Nat → Bool} {t : Nat} : ∀ (ops : List Oper) (i : Nat) (env env' : Env), get env t = get env' t → (∀ (j : Nat) o, ops[j]? = some o → o.dst = some t → l (i + j) = l' (i + j)) → get (envAt l zs i ops env) t = get (envAt l' zs i ops env') t
  | [], _, _, _, h, _ => h
  | o :: r, i, env, env', h, hl => by
    simp only [envAt]
    refine envAt_congr r (i + 1) _ _ ?_ fun j o' e hd => by have := hl (j + 1) o' (by simpa using e) hd; rwa [show i + (j + 1) = i + 1 + j by omega] at this
    by_cases hd : o.dst = some t
    · have := hl 0 o rfl hd
      rw [Nat.add_zero] at this
      rw [this]
      cases l' i
      · simpa using h
      · simp [get_put, hd]
    · cases l i <;> cases l' i <;> simp [get_put, hd, h]
theorem envAt_put {zs : Nat → AV} {l : Nat → Bool} {t : Nat} : ∀ (ops : List Oper) (i : Nat) (env : Env) (k : Nat) (o : Oper), ops[k]? = some o → l (i + k) = false → (∀ (j : Nat) o', k < j → ops[j]? = some o' → l (i + j) = true → o.dst = some t → o'.dst ≠ some t) →
    get (envAt (fun j => if j = i + k then true else l j) zs i ops env) t = get (put o.dst (zs (i + k)) (envAt l zs i ops env)) t
  | [], _, _, _, _, e, _, _ => by simp at e
  | o :: r, i, env, 0, o', e, hl, h => by
    simp only [List.getElem?_cons_zero, Option.some.injEq] at e
    subst e
    simp only [Nat.add_zero] at hl ⊢
    simp only [envAt, if_true, hl, Bool.false_eq_true, if_false]
    rw [get_put]
    by_cases hd : o.dst = some t
    · rw [if_pos hd]
      have : ∀ (ops : List Oper) (i' : Nat) (env : Env), (∀ (j : Nat) o', ops[j]? = some o' → (fun j => if j = i then true else l j) (i' + j) = true → o'.dst ≠ some t) → get (envAt (fun j => if j = i then true else l j) zs i' ops env) t = get env t := by
        intro ops
        induction ops with
        | nil => intro _ _ _; rfl
        | cons o r ih =>
          intro i' env hh
          simp only [envAt]
          rw [ih (i' + 1) _ fun j o' e he => hh (j + 1) o' (by simpa using e) (by rwa [show i' + (j + 1) = i' + 1 + j by omega])]
          by_cases hi : (if i' = i then true else l i') = true
          · rw [if_pos hi, get_put, if_neg (hh 0 o rfl (by simpa using hi))]
          · rw [if_neg hi]
      rw [this r (i + 1) _ fun j o' e he => h (j + 1) o' (by omega) (by simpa using e) (by
        simp only [show ¬ (i + 1 + j = i) by omega, if_false] at he
        rwa [show i + (j + 1) = i + 1 + j by omega]) hd, get_put, if_pos hd]
    · rw [if_neg hd]
      refine envAt_congr r (i + 1) _ _ (by rw [get_put, if_neg hd]) fun j o' e _ => by simp [show ¬ (i + 1 + j = i) by omega]
  | o :: r, i, env, k + 1, o', e, hl, h => by
    simp only [List.getElem?_cons_succ] at e
    have hne : ¬ (i = i + (k + 1)) := by omega
    simp only [envAt, hne, if_false]
    have := envAt_put r (i + 1) (if l i then put o.dst (zs i) env else env) k o' e (by rw [show i + 1 + k = i + (k + 1) by omega]; exact hl) (t := t) (zs := zs) (l := l) fun j o'' hj e' he hd => h (j + 1) o'' (by omega) (by simpa using e') (by rw [show i + (j + 1) = i + 1 + j by omega]; exact he) hd
    rw [show i + 1 + k = i + (k + 1) by omega] at this
    exact this

/-- The slots that an operation names. -/
def touches (all : List Oper) (o : Oper) : List Nat :=
  (o.op.operands.toList.filterMap fun | .tmp t => some t | _ => none) ++ (match o.guard with | some (j, _) => ((all[j]?).bind (·.dst)).toList | none => []) ++ o.dst.toList
/-- What surely comes ahead of each operation. -/
def befores : List Oper → List (List Nat) → List (List Nat)
  | [], acc => acc
  | o :: r, acc => befores r (acc ++ [(o.after.toList.flatMap fun e => if Region.binds .any e then e.on :: acc.getD e.on [] else []).eraseDups])
def ordered (bs : List (List Nat)) (ops : List Oper) (i : Nat) (o : Oper) : Nat → List Oper → Bool
  | _, [] => true
  | j, q :: r => (match q.dst with
      | some d => if j = i then true else if (touches ops o).contains d then (if j < i then (bs.getD i []).contains j else (bs.getD j []).contains i) else true
      | none => true) && ordered bs ops i o (j + 1) r
def allOrdered (bs : List (List Nat)) (ops : List Oper) : Nat → List Oper → Bool
  | _, [] => true
  | i, o :: r => ordered bs ops i o 0 ops && (o.after.toList.all fun e => !Region.binds .any e || decide (e.on < i)) && allOrdered bs ops (i + 1) r
def drawOk (ops : List Oper) : Bool := allOrdered (befores ops []) ops 0 ops

/-- Carried out are whole pasts alone. -/
def Past (ops : List Oper) (l : Nat → Bool) : Prop := ∀ (i : Nat) o, ops[i]? = some o → l i = true → ∀ e ∈ o.after.toList, Region.binds .any e = true → l e.on = true

theorem befores_len : ∀ (r : List Oper) (acc : List (List Nat)), (befores r acc).length = acc.length + r.length
  | [], acc => rfl
  | o :: r, acc => by simp only [befores, befores_len r, List.length_append, List.length_cons, List.length_nil]; omega
theorem befores_keep : ∀ (r : List Oper) (acc : List (List Nat)) (i : Nat), i < acc.length → (befores r acc).getD i [] = acc.getD i []
  | [], _, _, _ => rfl
  | o :: r, acc, i, hi => by
    rw [befores, befores_keep r _ i (by simp; omega)]
    simp [List.getD, List.getElem?_append_left hi]
theorem befores_spec {ops : List Oper} {l : Nat → Bool} (hp : Past ops l) : ∀ (r done : List Oper) (acc : List (List Nat)), ops = done ++ r → acc.length = done.length →
    (∀ i j o, i < acc.length → j ∈ acc.getD i [] → ops[i]? = some o → (∀ e ∈ o.after.toList, Region.binds .any e = true → l e.on = true) → l j = true) →
    ∀ i j o, j ∈ (befores r acc).getD i [] → ops[i]? = some o → (∀ e ∈ o.after.toList, Region.binds .any e = true → l e.on = true) → l j = true
  | [], done, acc, _, _, h, i, j, o, hj, ho, hl => by
    simp only [befores] at hj
    by_cases hi : i < acc.length
    · exact h i j o hi hj ho hl
    · simp [List.getD, List.getElem?_eq_none (by omega : acc.length ≤ i)] at hj
  | q :: r, done, acc, he, hlen, h, i, j, o, hj, ho, hl => by
    refine befores_spec hp r (done ++ [q]) _ (by simp [he]) (by simp [hlen]) (fun i j o hi hj ho hl => ?_) i j o hj ho hl
    by_cases hi' : i < acc.length
    · have : (acc ++ [(q.after.toList.flatMap fun e => if Region.binds .any e then e.on :: acc.getD e.on [] else []).eraseDups]).getD i [] = acc.getD i [] := by simp [List.getD, List.getElem?_append_left hi']
      rw [this] at hj
      exact h i j o hi' hj ho hl
    · have hi2 : i = acc.length := by simp at hi; omega
      subst hi2
      have hq : o = q := by
        rw [he, List.getElem?_append_right (by omega), hlen, Nat.sub_self] at ho
        exact (Option.some.inj ho).symm
      subst hq
      simp only [List.getD, List.getElem?_append_right (Nat.le_refl _), Nat.sub_self, List.getElem?_cons_zero, Option.getD_some, List.mem_eraseDups] at hj
      obtain ⟨e, hem, hje⟩ := List.mem_flatMap.1 hj
      split at hje
      · rename_i hb
        have hle := hl e hem hb
        rcases List.mem_cons.1 hje with rfl | hje
        · exact hle
        · have hee : e.on < acc.length := by
            rcases Nat.lt_or_ge e.on acc.length with h1 | h1
            · exact h1
            · simp [List.getElem?_eq_none h1] at hje
          cases hoe : ops[e.on]? with
          | none =>
            have : ops.length ≤ e.on := by simpa using hoe
            rw [he] at this
            simp at this
            omega
          | some oe => exact h e.on j oe hee hje hoe fun e' he' hb' => hp e.on oe hoe hle e' he' hb'
      · cases hje

theorem ordered_spec {bs : List (List Nat)} {ops : List Oper} {i : Nat} {o : Oper} : ∀ (r : List Oper) (j : Nat), ordered bs ops i o j r = true → ∀ (k : Nat) q d, r[k]? = some q → q.dst = some d → j + k ≠ i → d ∈ touches ops o → (j + k < i → (j + k) ∈ bs.getD i []) ∧ (i < j + k → i ∈ bs.getD (j + k) [])
  | [], _, _, k, q, d, e, _, _, _ => by simp at e
  | q :: r, j, h, 0, q', d, e, hd, hne, ht => by
    simp only [List.getElem?_cons_zero, Option.some.injEq] at e
    subst e
    simp only [ordered, Bool.and_eq_true, hd] at h
    have h1 := h.1
    simp only [Nat.add_zero] at hne ⊢
    rw [if_neg hne, if_pos (by simpa using ht)] at h1
    refine ⟨fun hlt => by rw [if_pos hlt] at h1; simpa using h1, fun hgt => by rw [if_neg (by omega)] at h1; simpa using h1⟩
  | q :: r, j, h, k + 1, q', d, e, hd, hne, ht => by
    simp only [ordered, Bool.and_eq_true] at h
    have := ordered_spec r (j + 1) h.2 k q' d (by simpa using e) hd (by omega) ht
    rwa [show j + 1 + k = j + (k + 1) by omega] at this
theorem allOrdered_spec {bs : List (List Nat)} {ops : List Oper} : ∀ (r : List Oper) (s : Nat), allOrdered bs ops s r = true → ∀ (i : Nat) o, r[i]? = some o → ordered bs ops (s + i) o 0 ops = true ∧ ∀ e ∈ o.after.toList, Region.binds .any e = true → e.on < s + i
  | [], _, _, i, o, e => by simp at e
  | q :: r, s, h, 0, o, e => by
    simp only [List.getElem?_cons_zero, Option.some.injEq] at e
    subst e
    simp only [allOrdered, Bool.and_eq_true, List.all_eq_true, Bool.or_eq_true, Bool.not_eq_true', decide_eq_true_eq] at h
    exact ⟨h.1.1, fun e he hb => by
      rcases h.1.2 e he with h' | h'
      · rw [hb] at h'; cases h'
      · simpa using h'⟩
  | q :: r, s, h, i + 1, o, e => by
    simp only [allOrdered, Bool.and_eq_true] at h
    have := allOrdered_spec r (s + 1) h.2 i o (by simpa using e)
    rwa [show s + 1 + i = s + (i + 1) by omega] at this

/-- What the text's order gives: each operation's result, or that it is passed over. -/
def Does (P : Program) (L : Tab) (all : List Oper) (o : Oper) (env : Env) (H : List AObj) (z : AV) : Prop :=
  match o.guard with
  | none => vcQuiet P L o env H z
  | some (j, want) => (∃ b, gval all env j = .lit (.bool b) ∧ ((b = want ∧ vcQuiet P L o env H z) ∨ (b ≠ want ∧ z = .lit undef))) ∨ (∃ ar, gval all env j = .lit (.tuple ar) ∧ z = .lit undef)

theorem does_congr {P : Program} {L : Tab} {all : List Oper} {o : Oper} {env env' : Env} {H : List AObj} {z : AV} (h : ∀ t ∈ touches all o, t ∉ o.dst.toList ∨ True → get env t = get env' t) : Does P L all o env H z → Does P L all o env' H z := by
  have h' : ∀ t ∈ touches all o, get env t = get env' t := fun t ht => h t ht (.inr trivial)
  have hq : vcQuiet P L o env H z = vcQuiet P L o env' H z := by
    unfold vcQuiet
    exact vcOp_congr fun x hx t ht => h' t (by
      unfold touches
      refine List.mem_append.2 (.inl (List.mem_append.2 (.inl (List.mem_filterMap.2 ⟨x, hx, by rw [ht]⟩))))
      )
  unfold Does
  cases hg : o.guard with
  | none => simp only; rw [hq]; exact id
  | some jw =>
    obtain ⟨j, want⟩ := jw
    simp only
    have hgv : gval all env j = gval all env' j := by
      unfold gval
      cases hj : (all[j]?).bind (·.dst) with
      | none => rfl
      | some d => exact h' d (by unfold touches; rw [hg]; simp [hj])
    rw [hq, hgv]
    exact id
theorem Sat.of_get {n : Nat} {G : Gh} {env env' : Env} {H : List AObj} {a : Act} {w : World} (s : Sat n G env H a w) (h : ∀ t, get env t = get env' t) : Sat n G env' H a w :=
  ⟨s.size, s.defers, fun t => h t ▸ s.env t, s.inv⟩

theorem step_drew {G : Gh} {H : List AObj} {w : World} : Step G H w G H w.drew := ⟨rfl, rfl, rfl, Nat.le_refl _, fun _ _ h => h, fun _ _ _ => rfl, fun _ _ => rfl, (Step.refl G H w).obj⟩
theorem inv_drew {G : Gh} {H : List AObj} {w : World} (h : HInv G H w) : HInv G H w.drew := by
  refine ⟨h.lt, fun k cs e => ?_, h.grow, h.apart, h.tabs.step (H := H) step_drew⟩
  obtain ⟨arr, T, fr, hb, hs, hr, hf⟩ := h.cells k cs e
  exact ⟨arr, T, fr, hb, hs, fun j x v ex ev => (hr j x v ex ev).mono step_drew, hf⟩
/-- One operation of a region, in whatever state its past was carried out. -/
theorem does_wp {P : Program} {L : Tab} (hL : TabOk P L) {n : Nat} {all : Array Oper} (hops : dstsOk n all.toList = true) {i : Nat} {o : Oper} (ho : all[i]? = some o) {env : Env} {H : List AObj} {z : AV} (hd : Does P L all.toList o env H z)
    {G : Gh} {a : Act} {w : World} (s : Sat n G env H a w) {K : Act → World → Prop} {Q : Exit → Act → World → Prop} (hK : ∀ G' a' w', Sat n G' (put o.dst z env) H a' w' → Step G H w G' H w' → K a' w') : wpOp P all Q i K a w := by
  have hdst : ∀ t, o.dst = some t → t < n := fun t e => by
    have := List.all_eq_true.1 hops o (by rw [Array.mem_toList_iff]; exact Array.mem_of_getElem? ho)
    rw [e] at this
    simpa using this
  have hq : vcQuiet P L o env H z → o.wp P a w K Q := fun hq => by
    refine Oper.wp_mono (fun a' w' hx => ?_) (vcOp_sound hL hq Q n G a w s)
    obtain ⟨v, x, G', H', rfl, hi, hs, hx, rfl, rfl⟩ := hx
    exact hK G' _ w' (s.put hs hi hx hdst) hs
  unfold wpOp
  rw [ho]
  simp only
  unfold Does at hd
  cases hg : o.guard with
  | none =>
    rw [hg] at hd
    rw [if_pos (by simp [Region.wanted, hg])]
    exact .inl (hq hd)
  | some jw =>
    obtain ⟨j, want⟩ := jw
    rw [hg] at hd
    rcases hd with ⟨b, hb, hd⟩ | ⟨ar, hb, rfl⟩
    · rw [wanted_of s hg hb hops]
      rcases hd with ⟨e, hd⟩ | ⟨e, rfl⟩
      · rw [if_pos (by simpa using e)]
        exact .inl (hq hd)
      · rw [if_neg (by simpa using e)]
        exact hK G _ w (s.put (.refl _ _ _) s.inv (.lit _) hdst) (.refl _ _ _)
    · rw [wanted_undef s hg hb hops]
      rw [if_neg (by simp)]
      exact hK G _ w (s.put (.refl _ _ _) s.inv (.lit _) hdst) (.refl _ _ _)

theorem aw_region_draw_ {P : Program} {L : Tab} (hL : TabOk P L) (hm : P.follows .mixedOrders = true) {n : Nat} {rid : Nat} {ops : List Oper} (hops : dstsOk n ops = true) (hdr : drawOk ops = true) {Q : Exit → Env → List AObj → Prop} {env : Env} {H : List AObj} (zs : Nat → AV)
    (hdoes : ∀ (i : Nat) o, ops[i]? = some o → Does P L ops o (envAt (fun j => decide (j < i)) zs 0 ops env) H (zs i)) (env' : Env) (henv : ∀ t, get (envAt (fun _ => true) zs 0 ops env) t = get env' t) (hQ : Q .normal env' H) : AW P n (.region rid ops.toArray true) Q env H := fun G a w s => by
  refine wp_region_draw fun t => ?_
  simp only [Region.schedule, hm, Bool.true_or, if_true]
  have hord : ∀ (i : Nat) o, ops[i]? = some o → ordered (befores ops []) ops i o 0 ops = true ∧ ∀ e ∈ o.after.toList, Region.binds .any e = true → e.on < i := fun i o e => by
    have := allOrdered_spec ops 0 hdr i o e
    rwa [Nat.zero_add] at this
  -- one step, whatever has been carried out
  have key : ∀ (fuel : Nat) (listed : Array Bool) (a : Act) (w' : World) (G' : Gh), listed.size = ops.length → Past ops (fun j => listed.getD j false) → Step G H w G' H w' → Sat n G' (envAt (fun j => listed.getD j false) zs 0 ops env) H a w' →
      (∀ i, i < ops.length → listed.getD i false = false → 0 < fuel) → (fuel + (listed.toList.filter id).length = ops.length) → wpAny P .any ops.toArray (Post n G H w Q) fuel listed a w' := by
    intro fuel
    induction fuel with
    | zero =>
      intro listed a w' G' hsz hpast hst hs hf _
      have hall : ∀ i, i < ops.length → listed.getD i false = true := fun i hi => by
        cases hl : listed.getD i false with
        | true => rfl
        | false => exact absurd (hf i hi hl) (Nat.lt_irrefl _)
      refine ⟨?_, G', _, H, hs.of_get fun t => (envAt_congr ops 0 env env rfl fun j o e _ => by rw [Nat.zero_add]; exact hall j (lt_of_get e)).trans (henv t), hst, hQ⟩
      unfold Region.ready
      rw [List.filter_eq_nil_iff]
      intro i hi
      have hi' : i < ops.length := by simpa using hi
      have := hall i hi'
      have h2 : listed.getD i true = true := by
        rw [Array.getD_eq_getD_getElem?, Array.getElem?_eq_getElem (by omega)] at this ⊢
        exact this
      simp [h2]
    | succ fuel ih =>
      intro listed a w' G' hsz hpast hst hs hf hcount
      refine ⟨fun hnil => ?_, fun i hi => ?_⟩
      · -- nothing is ready: all is done
        have hall : ∀ i, i < ops.length → listed.getD i false = true := by
          intro i
          induction i using Nat.strongRecOn with
          | _ i ihi =>
            intro hi
            cases hl : listed.getD i false with
            | true => rfl
            | false =>
              exfalso
              have hmem : i ∈ Region.ready .any ops.toArray listed := by
                unfold Region.ready
                rw [List.mem_filter]
                refine ⟨by simpa using hi, ?_⟩
                have h2 : listed.getD i true = false := by
                  rw [Array.getD_eq_getD_getElem?, Array.getElem?_eq_getElem (by omega)] at hl ⊢
                  exact hl
                have ho : ops.toArray[i]? = some ops[i] := by simp [hi]
                rw [h2, ho]
                simp only [Bool.not_false, Bool.true_and, Option.map_some, Option.getD_some]
                rw [Array.all_eq_true_iff_forall_mem]
                intro e he
                have := (hord i ops[i] (List.getElem?_eq_getElem hi)).2 e (Array.mem_toList_iff.2 he)
                cases hb : Region.binds .any e with
                | false => rfl
                | true =>
                  have h3 := this hb
                  rw [ihi e.on h3 (by omega)]
                  rfl
              rw [hnil] at hmem
              cases hmem
        exact ⟨G', _, H, hs.of_get fun t => (envAt_congr ops 0 env env rfl fun j o e _ => by rw [Nat.zero_add]; exact hall j (lt_of_get e)).trans (henv t), hst, hQ⟩
      · unfold Region.ready at hi
        rw [List.mem_filter] at hi
        obtain ⟨hi1, hi2⟩ := hi
        have hi' : i < ops.length := by simpa using hi1
        have ho : ops.toArray[i]? = some ops[i] := by simp [hi']
        rw [ho] at hi2
        simp only [Option.map_some, Option.getD_some, Bool.and_eq_true, Bool.not_eq_true'] at hi2
        obtain ⟨hl0, hready⟩ := hi2
        have hl : listed.getD i false = false := by
          rw [Array.getD_eq_getD_getElem?, Array.getElem?_eq_getElem (by omega)] at hl0 ⊢
          exact hl0
        have hpre : ∀ e ∈ (ops[i]).after.toList, Region.binds .any e = true → listed.getD e.on false = true := fun e he hb => by
          rw [Array.all_eq_true_iff_forall_mem] at hready
          have := hready e (Array.mem_toList_iff.1 he)
          rw [hb] at this
          simpa using this
        have hoi : ops[i]? = some ops[i] := List.getElem?_eq_getElem hi'
        obtain ⟨hor, hback⟩ := hord i ops[i] hoi
        have hbi : ∀ j, j ∈ (befores ops []).getD i [] → listed.getD j false = true := fun j hj =>
          befores_spec hpast ops [] [] rfl rfl (fun i j o hi => by simp at hi) i j ops[i] hj hoi hpre
        have hlater : ∀ (j : Nat) q, ops[j]? = some q → i ∈ (befores ops []).getD j [] → listed.getD j false = false := fun j q hq hij => by
          cases hlj : listed.getD j false with
          | false => rfl
          | true =>
            have := befores_spec hpast ops [] [] rfl rfl (fun i j o hi => by simp at hi) j i q hij hq (hpast j q hq hlj)
            rw [hl] at this
            cases this
        -- what it reads is what it read in the text's order
        have hsame : ∀ t ∈ touches ops ops[i], get (envAt (fun j => decide (j < i)) zs 0 ops env) t = get (envAt (fun j => listed.getD j false) zs 0 ops env) t := fun t ht => by
          refine envAt_congr ops 0 env env rfl fun j q hq hd => ?_
          rw [Nat.zero_add]
          by_cases hji : j = i
          · subst hji
            rw [hl]
            simp
          · have hsp := ordered_spec ops 0 hor j q t hq hd (by omega) ht
            rw [Nat.zero_add] at hsp
            rcases Nat.lt_or_ge j i with h1 | h1
            · rw [hbi j (hsp.1 h1)]
              simpa using h1
            · rw [hlater j q hq (hsp.2 (by omega))]
              simpa using h1
        have hdo := does_congr (fun t ht _ => hsame t ht) (hdoes i ops[i] hoi)
        refine does_wp hL (all := ops.toArray) (by simpa using hops) ho hdo hs fun G'' a'' w'' hs'' hst'' => ?_
        have hget : ∀ t, get (put (ops[i]).dst (zs i) (envAt (fun j => listed.getD j false) zs 0 ops env)) t = get (envAt (fun j => (listed.setIfInBounds i true).getD j false) zs 0 ops env) t := fun t => by
          have h1 := envAt_put (zs := zs) (l := fun j => listed.getD j false) (t := t) ops 0 env i ops[i] hoi (by rw [Nat.zero_add]; exact hl) (fun j q hj hq hlj hd => by
            intro hqd
            rw [Nat.zero_add] at hlj
            have hsp := ordered_spec ops 0 hor j q t hq hqd (by omega) (by unfold touches; rw [hd]; simp)
            rw [Nat.zero_add] at hsp
            have hlj' : listed.getD j false = true := hlj
            rw [hlater j q hq (hsp.2 hj)] at hlj'
            cases hlj')
          rw [Nat.zero_add] at h1
          rw [← h1]
          refine envAt_congr ops 0 env env rfl fun j q hq _ => ?_
          rw [Nat.zero_add]
          simp only [Array.getD_eq_getD_getElem?, Array.getElem?_setIfInBounds]
          by_cases hji : j = i
          · subst hji
            simp [show j < listed.size by omega]
          · simp [hji, show ¬ (i = j) from fun h => hji h.symm]
        have hgd : ∀ j, (listed.setIfInBounds i true).getD j false = if j = i then true else listed.getD j false := fun j => by
          simp only [Array.getD_eq_getD_getElem?, Array.getElem?_setIfInBounds]
          by_cases hji : j = i
          · subst hji
            simp [show j < listed.size by omega]
          · simp [hji, show ¬ (i = j) from fun h => hji h.symm]
        have hcnt : fuel + ((listed.setIfInBounds i true).toList.filter id).length = ops.length := by
          have : ((listed.setIfInBounds i true).toList.filter id).length = (listed.toList.filter id).length + 1 := by
            rw [Array.toList_setIfInBounds]
            have hli : i < listed.toList.length := by simp; omega
            have hlf : listed.toList[i] = false := by
              rw [Array.getD_eq_getD_getElem?, Array.getElem?_eq_getElem (by omega)] at hl
              simpa using hl
            have key2 : ∀ (l : List Bool) (i : Nat) (hi : i < l.length), l[i] = false → ((l.set i true).filter id).length = (l.filter id).length + 1 := by
              intro l
              induction l with
              | nil => intro i hi; simp at hi
              | cons b r ih =>
                intro i hi he
                cases i with
                | zero => simp at he; subst he; simp
                | succ i =>
                  simp only [List.set_cons_succ, List.filter_cons]
                  have := ih i (by simpa using hi) (by simpa using he)
                  cases b <;> simp [this]
            exact key2 _ i hli hlf
          omega
        refine ih _ _ _ G'' (by simp [hsz]) (fun j q hq hlj e he hb => ?_) (hst.trans hst'') (hs''.of_get hget) (fun j hj hlj => ?_) hcnt
        · simp only [hgd] at hlj ⊢
          by_cases hji : j = i
          · subst hji
            have hqe : q = ops[j] := by rw [hoi] at hq; exact (Option.some.inj hq).symm
            subst hqe
            split
            · rfl
            · exact hpre e he hb
          · rw [if_neg hji] at hlj
            split
            · rfl
            · exact hpast j q hq hlj e he hb
        · -- something is left, so there is fuel
          rcases Nat.eq_zero_or_pos fuel with h0 | h0
          · exfalso
            rw [h0, Nat.zero_add] at hcnt
            have hfull : ∀ (l : List Bool), (l.filter id).length = l.length → ∀ b ∈ l, b = true := fun l hl b hb => by
              have := List.filter_eq_self.1 (List.Sublist.eq_of_length (List.filter_sublist (l := l) (p := id)) hl) b hb
              simpa using this
            have hlen : ((listed.setIfInBounds i true).toList.filter id).length = (listed.setIfInBounds i true).toList.length := by rw [hcnt]; simp [hsz]
            have hjs : j < (listed.setIfInBounds i true).size := by simp; omega
            have := hfull _ hlen ((listed.setIfInBounds i true)[j]) (by rw [Array.mem_toList_iff]; exact Array.getElem_mem hjs)
            rw [Array.getD_eq_getD_getElem?, Array.getElem?_eq_getElem hjs] at hlj
            simp only [Option.getD_some] at hlj
            rw [this] at hlj
            cases hlj
          · exact h0
  have hcap : Sat n G (envAt (fun j => (Array.replicate ops.toArray.size false).getD j false) zs 0 ops env) H a { w with drawn := w.drawn + 1 } := by
    have h0 : ∀ t, get env t = get (envAt (fun j => (Array.replicate ops.toArray.size false).getD j false) zs 0 ops env) t := fun t => by
      have : ∀ (r : List Oper) (i : Nat) (env : Env), get env t = get (envAt (fun j => (Array.replicate ops.toArray.size false).getD j false) zs i r env) t := by
        intro r
        induction r with
        | nil => intro _ _; rfl
        | cons o r ih =>
          intro i env
          simp only [envAt]
          have : (Array.replicate ops.toArray.size false).getD i false = false := by
            rw [Array.getD_eq_getD_getElem?, Array.getElem?_replicate]
            split <;> rfl
          simp only [this, Bool.false_eq_true, if_false]
          exact ih (i + 1) env
      exact this ops 0 env
    exact Sat.of_get (env := env) (s.step step_drew (inv_drew s.inv)) h0
  refine wpAny_sound ops.toArray.size t _ a _ (key ops.toArray.size _ a _ G (by simp) (fun i o ho hl => ?_) step_drew hcap (fun i hi _ => by simp; omega) (by simp))
  simp only [Array.getD_eq_getD_getElem?, Array.getElem?_replicate] at hl
  split at hl <;> cases hl

end Go.Proofs.YthaicajgfioogaaDoor.V
