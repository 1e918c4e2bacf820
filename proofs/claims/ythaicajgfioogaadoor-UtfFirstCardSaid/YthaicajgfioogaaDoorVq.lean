/- Regions whose order is drawn, and whose operations write: those that look at the objects stand in a chain. -/
import Derived.Test.YthaicajgfioogaaDoorVn0
set_option linter.unusedSimpArgs false
set_option linter.unusedVariables false
namespace Go.Proofs.YthaicajgfioogaaDoor.V
open Go

/-- What the operation gives hangs on its operands alone. -/
def pureOp (mu : List Nat) (o : Oper) : Bool :=
  match o.op with
  | .move _ | .assign _ | .pick _ _ _ | .binOp .. | .unOp .. | .extract .. | .index .. | .indexAddr .. | .fieldAddr .. | .field .. | .build .. | .slice .. => true
  | .box _ _ => !mu.contains (o.dst.getD 0)
  | .call c => match c.callee with
    | .builtin .len => true
    | _ => false
  | _ => false
theorem lift_pure {q : Option (Prop × AV)} {z : AV} {H H' : List AObj} (h : lift q (fun x H'' => x = z ∧ H'' = H) H) : lift q (fun x H'' => x = z ∧ H'' = H') H' := by
  unfold lift at h ⊢
  split at h
  · exact ⟨h.1, h.2.1, rfl⟩
  · exact h.elim
theorem pure_any {P : Program} {L : Tab} {mu : List Nat} {o : Oper} {env : Env} {H H' : List AObj} {z : AV} (hp : pureOp mu o = true) (h : vcOp P L mu o env H fun x H'' => x = z ∧ H'' = H) : vcOp P L mu o env H' fun x H'' => x = z ∧ H'' = H' := by
  obtain ⟨dst, op, ty, pos, after, guard⟩ := o
  cases op <;> simp only [pureOp, vcOp, Bool.false_eq_true] at hp h ⊢ <;> first | exact lift_pure h | skip
  case box e x =>
    rw [Bool.not_eq_true'] at hp
    simp only [hp, Bool.false_eq_true, if_false] at h ⊢
    exact lift_pure h
  case call c =>
    obtain ⟨callee, args, ats⟩ := c
    cases callee with
    | builtin b =>
      cases b <;> simp only [Bool.false_eq_true] at hp
      simp only at h ⊢
      unfold vcBuiltin at h ⊢
      split at h
      · exact lift_pure h
      · rename_i e _ _ ; cases e
      · exact h.elim
    | value f => simp at hp
    | invoke r m => simp at hp

def chainRow (bs : List (List Nat)) (mu : List Nat) (j : Nat) : Nat → List Oper → Bool
  | _, [] => true
  | i, o :: r => (if i < j then pureOp mu o || (bs.getD j []).contains i else true) && chainRow bs mu j (i + 1) r
def chainAll (bs : List (List Nat)) (mu : List Nat) (ops : List Oper) : Nat → List Oper → Bool
  | _, [] => true
  | j, o :: r => (pureOp mu o || chainRow bs mu j 0 ops) && chainAll bs mu ops (j + 1) r
/-- Those that look at the objects stand in a chain. -/
def chainOk (mu : List Nat) (ops : List Oper) : Bool := chainAll (befores ops []) mu ops 0 ops
theorem chainRow_spec {bs : List (List Nat)} {mu : List Nat} {j : Nat} : ∀ (r : List Oper) (s : Nat), chainRow bs mu j s r = true → ∀ (i : Nat) o, r[i]? = some o → s + i < j → pureOp mu o = false → s + i ∈ bs.getD j []
  | [], _, _, i, o, e, _, _ => by simp at e
  | q :: r, s, h, 0, o, e, hi, hp => by
    simp only [List.getElem?_cons_zero, Option.some.injEq] at e
    subst e
    simp only [chainRow, Bool.and_eq_true] at h
    have := h.1
    rw [if_pos (by omega), hp] at this
    simpa using this
  | q :: r, s, h, i + 1, o, e, hi, hp => by
    simp only [chainRow, Bool.and_eq_true] at h
    have := chainRow_spec r (s + 1) h.2 i o (by simpa using e) (by omega) hp
    rwa [show s + 1 + i = s + (i + 1) by omega] at this
theorem chainAll_spec {bs : List (List Nat)} {mu : List Nat} {ops : List Oper} : ∀ (r : List Oper) (s : Nat), chainAll bs mu ops s r = true → ∀ (j : Nat) o, r[j]? = some o → pureOp mu o = false → chainRow bs mu (s + j) 0 ops = true
  | [], _, _, j, o, e, _ => by simp at e
  | q :: r, s, h, 0, o, e, hp => by
    simp only [List.getElem?_cons_zero, Option.some.injEq] at e
    subst e
    simp only [chainAll, Bool.and_eq_true] at h
    have := h.1
    rw [hp] at this
    simpa using this
  | q :: r, s, h, j + 1, o, e, hp => by
    simp only [chainAll, Bool.and_eq_true] at h
    have := chainAll_spec r (s + 1) h.2 j o (by simpa using e) hp
    rwa [show s + 1 + j = s + (j + 1) by omega] at this
theorem chainOk_spec {mu : List Nat} {ops : List Oper} (h : chainOk mu ops = true) {i j : Nat} {o q : Oper} (hj : ops[j]? = some q) (hi : ops[i]? = some o) (hij : i < j) (hq : pureOp mu q = false) (ho : pureOp mu o = false) : i ∈ (befores ops []).getD j [] := by
  have := chainAll_spec ops 0 h j q hj hq
  rw [Nat.zero_add] at this
  have := chainRow_spec ops 0 this i o hi (by omega) ho
  rwa [Nat.zero_add] at this

/-- What the text's order gives: each operation's result and objects, or that it is passed over. -/
def DoesE (P : Program) (L : Tab) (mu : List Nat) (all : List Oper) (o : Oper) (env : Env) (H : List AObj) (z : AV) (H' : List AObj) : Prop :=
  match o.guard with
  | none => vcOp P L mu o env H fun x H'' => x = z ∧ H'' = H'
  | some (j, want) => (∃ b, gval all env j = .lit (.bool b) ∧ ((b = want ∧ vcOp P L mu o env H fun x H'' => x = z ∧ H'' = H') ∨ (b ≠ want ∧ z = .lit undef ∧ H' = H))) ∨ (∃ ar, gval all env j = .lit (.tuple ar) ∧ z = .lit undef ∧ H' = H)
theorem doesE_congr {P : Program} {L : Tab} {mu : List Nat} {all : List Oper} {o : Oper} {env env' : Env} {H H' : List AObj} {z : AV} (h : ∀ t ∈ touches all o, get env t = get env' t) : DoesE P L mu all o env H z H' → DoesE P L mu all o env' H z H' := by
  have hq : vcOp P L mu o env H (fun x H'' => x = z ∧ H'' = H') = vcOp P L mu o env' H (fun x H'' => x = z ∧ H'' = H') :=
    vcOp_congr fun x hx t ht => h t (by
      unfold touches
      refine List.mem_append.2 (.inl (List.mem_append.2 (.inl (List.mem_filterMap.2 ⟨x, hx, by rw [ht]⟩)))))
  unfold DoesE
  cases hg : o.guard with
  | none => simp only; rw [hq]; exact id
  | some jw =>
    obtain ⟨j, want⟩ := jw
    simp only
    have hgv : gval all env j = gval all env' j := by
      unfold gval
      cases hj : (all[j]?).bind (·.dst) with
      | none => rfl
      | some d => exact h d (by unfold touches; rw [hg]; simp [hj])
    rw [hq, hgv]
    exact id
theorem doesE_pure {P : Program} {L : Tab} {mu : List Nat} {all : List Oper} {o : Oper} {env : Env} {H H' : List AObj} {z : AV} (hp : pureOp mu o = true) (h : DoesE P L mu all o env H z H) : DoesE P L mu all o env H' z H' := by
  unfold DoesE at h ⊢
  cases hg : o.guard with
  | none =>
    rw [hg] at h
    exact pure_any hp h
  | some jw =>
    obtain ⟨j, want⟩ := jw
    rw [hg] at h
    rcases h with ⟨b, hb, ⟨e, hd⟩ | ⟨e, hz, _⟩⟩ | ⟨ar, hb, hz, _⟩
    · exact .inl ⟨b, hb, .inl ⟨e, pure_any hp hd⟩⟩
    · exact .inl ⟨b, hb, .inr ⟨e, hz, rfl⟩⟩
    · exact .inr ⟨ar, hb, hz, rfl⟩
theorem doesE_wp {P : Program} {L : Tab} (hL : TabOk P L) {mu : List Nat} {n : Nat} {all : Array Oper} (hops : dstsOk n all.toList = true) {i : Nat} {o : Oper} (ho : all[i]? = some o) {env : Env} {H H' : List AObj} {z : AV} (hd : DoesE P L mu all.toList o env H z H')
    {G : Gh} {a : Act} {w : World} (s : Sat n G env H a w) {K : Act → World → Prop} {Q : Exit → Act → World → Prop} (hK : ∀ G' a' w', Sat n G' (put o.dst z env) H' a' w' → Step G H w G' H' w' → K a' w') : wpOp P all Q i K a w := by
  have hdst : ∀ t, o.dst = some t → t < n := fun t e => by
    have := List.all_eq_true.1 hops o (by rw [Array.mem_toList_iff]; exact Array.mem_of_getElem? ho)
    rw [e] at this
    simpa using this
  have hq : (vcOp P L mu o env H fun x H'' => x = z ∧ H'' = H') → o.wp P a w K Q := fun hq => by
    refine Oper.wp_mono (fun a' w' hx => ?_) (vcOp_sound hL hq Q n G a w s)
    obtain ⟨v, x, G', H'', rfl, hi, hs, hx, rfl, rfl⟩ := hx
    exact hK G' _ w' (s.put hs hi hx hdst) hs
  unfold wpOp
  rw [ho]
  simp only
  unfold DoesE at hd
  cases hg : o.guard with
  | none =>
    rw [hg] at hd
    rw [if_pos (by simp [Region.wanted, hg])]
    exact .inl (hq hd)
  | some jw =>
    obtain ⟨j, want⟩ := jw
    rw [hg] at hd
    rcases hd with ⟨b, hb, hd⟩ | ⟨ar, hb, rfl, rfl⟩
    · rw [wanted_of s hg hb hops]
      rcases hd with ⟨e, hd⟩ | ⟨e, rfl, rfl⟩
      · rw [if_pos (by simpa using e)]
        exact .inl (hq hd)
      · rw [if_neg (by simpa using e)]
        exact hK G _ w (s.put (.refl _ _ _) s.inv (.lit _) hdst) (.refl _ _ _)
    · rw [wanted_undef s hg hb hops]
      rw [if_neg (by simp)]
      exact hK G _ w (s.put (.refl _ _ _) s.inv (.lit _) hdst) (.refl _ _ _)

theorem aw_region_chain_ {P : Program} {L : Tab} (hL : TabOk P L) (hm : P.follows .mixedOrders = true) (mu : List Nat) {n : Nat} {rid : Nat} {ops : List Oper} (hops : dstsOk n ops = true) (hdr : drawOk ops = true) (hch : chainOk mu ops = true) {Q : Exit → Env → List AObj → Prop} {env : Env} {H : List AObj} (zs : Nat → AV) (oh : Nat → List AObj) (oh0 : oh 0 = H) (hpure : ∀ (i : Nat) o, ops[i]? = some o → pureOp mu o = true → oh (i + 1) = oh i)
    (hdoes : ∀ (i : Nat) o, ops[i]? = some o → DoesE P L mu ops o (envAt (fun j => decide (j < i)) zs 0 ops env) (oh i) (zs i) (oh (i + 1))) (env' : Env) (henv : ∀ t, get (envAt (fun _ => true) zs 0 ops env) t = get env' t) (hQ : Q .normal env' (oh ops.length)) : AW P n (.region rid ops.toArray true) Q env H := fun G a w s => by
  refine wp_region_draw fun t => ?_
  simp only [Region.schedule, hm, Bool.true_or, if_true]
  have hord : ∀ (i : Nat) o, ops[i]? = some o → ordered (befores ops []) ops i o 0 ops = true ∧ ∀ e ∈ o.after.toList, Region.binds .any e = true → e.on < i := fun i o e => by
    have := allOrdered_spec ops 0 hdr i o e
    rwa [Nat.zero_add] at this
  have ohc : ∀ d a, a + d ≤ ops.length → (∀ j o, a ≤ j → j < a + d → ops[j]? = some o → pureOp mu o = true) → oh (a + d) = oh a := by
    intro d
    induction d with
    | zero => intro a _ _; rfl
    | succ d ih =>
      intro a hl h
      have hlt : a + d < ops.length := by omega
      rw [show a + (d + 1) = a + d + 1 by omega, hpure (a + d) ops[a + d] (List.getElem?_eq_getElem hlt) (h (a + d) _ (by omega) (by omega) (List.getElem?_eq_getElem hlt))]
      exact ih a (by omega) fun j o h1 h2 e => h j o h1 (by omega) e
  -- one step, whatever has been carried out
  have key : ∀ (fuel : Nat) (listed : Array Bool) (a : Act) (w' : World) (G' : Gh) (m : Nat), m ≤ ops.length → (∀ j o, j < m → ops[j]? = some o → pureOp mu o = false → listed.getD j false = true) → (∀ j o, m ≤ j → ops[j]? = some o → pureOp mu o = false → listed.getD j false = false) → listed.size = ops.length → Past ops (fun j => listed.getD j false) → Step G H w G' (oh m) w' → Sat n G' (envAt (fun j => listed.getD j false) zs 0 ops env) (oh m) a w' →
      (∀ i, i < ops.length → listed.getD i false = false → 0 < fuel) → (fuel + (listed.toList.filter id).length = ops.length) → wpAny P .any ops.toArray (Post n G H w Q) fuel listed a w' := by
    intro fuel
    induction fuel with
    | zero =>
      intro listed a w' G' m hm1 hlo hhi hsz hpast hst hs hf _
      have hall : ∀ i, i < ops.length → listed.getD i false = true := fun i hi => by
        cases hl : listed.getD i false with
        | true => rfl
        | false => exact absurd (hf i hi hl) (Nat.lt_irrefl _)
      have hend : oh ops.length = oh m := by
        have := ohc (ops.length - m) m (by omega) fun j o h1 h2 e => by
          cases hp : pureOp mu o with
          | true => rfl
          | false =>
            have h3 := hhi j o h1 e hp
            rw [hall j (lt_of_get e)] at h3
            cases h3
        rwa [show m + (ops.length - m) = ops.length by omega] at this
      rw [hend] at hQ
      refine ⟨?_, G', _, oh m, hs.of_get fun t => (envAt_congr ops 0 env env rfl fun j o e _ => by rw [Nat.zero_add]; exact hall j (lt_of_get e)).trans (henv t), hst, hQ⟩
      unfold Region.ready
      rw [List.filter_eq_nil_iff]
      intro i hi
      have hi' : i < ops.length := by simpa using hi
      have := hall i hi'
      have h2 : listed.getD i true = true := by
        rw [Array.getD_eq_getD_getElem?, Array.getElem?_eq_getElem (by omega)] at this ⊢
        exact this
      simp [h2]
    | succ fuel ih =>
      intro listed a w' G' m hm1 hlo hhi hsz hpast hst hs hf hcount
      refine ⟨fun hnil => ?_, fun i hi => ?_⟩
      · -- nothing is ready: all is done
        have hall : ∀ i, i < ops.length → listed.getD i false = true := by
          intro i
          induction i using Nat.strongRecOn with
          | _ i ihi =>
            intro hi
            cases hl : listed.getD i false with
            | true => rfl
            | false =>
              exfalso
              have hmem : i ∈ Region.ready .any ops.toArray listed := by
                unfold Region.ready
                rw [List.mem_filter]
                refine ⟨by simpa using hi, ?_⟩
                have h2 : listed.getD i true = false := by
                  rw [Array.getD_eq_getD_getElem?, Array.getElem?_eq_getElem (by omega)] at hl ⊢
                  exact hl
                have ho : ops.toArray[i]? = some ops[i] := by simp [hi]
                rw [h2, ho]
                simp only [Bool.not_false, Bool.true_and, Option.map_some, Option.getD_some]
                rw [Array.all_eq_true_iff_forall_mem]
                intro e he
                have := (hord i ops[i] (List.getElem?_eq_getElem hi)).2 e (Array.mem_toList_iff.2 he)
                cases hb : Region.binds .any e with
                | false => rfl
                | true =>
                  have h3 := this hb
                  rw [ihi e.on h3 (by omega)]
                  rfl
              rw [hnil] at hmem
              cases hmem
        have hend : oh ops.length = oh m := by
          have := ohc (ops.length - m) m (by omega) fun j o h1 h2 e => by
            cases hp : pureOp mu o with
            | true => rfl
            | false =>
              have h3 := hhi j o h1 e hp
              rw [hall j (lt_of_get e)] at h3
              cases h3
          rwa [show m + (ops.length - m) = ops.length by omega] at this
        rw [hend] at hQ
        exact ⟨G', _, oh m, hs.of_get fun t => (envAt_congr ops 0 env env rfl fun j o e _ => by rw [Nat.zero_add]; exact hall j (lt_of_get e)).trans (henv t), hst, hQ⟩
      · unfold Region.ready at hi
        rw [List.mem_filter] at hi
        obtain ⟨hi1, hi2⟩ := hi
        have hi' : i < ops.length := by simpa using hi1
        have ho : ops.toArray[i]? = some ops[i] := by simp [hi']
        rw [ho] at hi2
        simp only [Option.map_some, Option.getD_some, Bool.and_eq_true, Bool.not_eq_true'] at hi2
        obtain ⟨hl0, hready⟩ := hi2
        have hl : listed.getD i false = false := by
          rw [Array.getD_eq_getD_getElem?, Array.getElem?_eq_getElem (by omega)] at hl0 ⊢
          exact hl0
        have hpre : ∀ e ∈ (ops[i]).after.toList, Region.binds .any e = true → listed.getD e.on false = true := fun e he hb => by
          rw [Array.all_eq_true_iff_forall_mem] at hready
          have := hready e (Array.mem_toList_iff.1 he)
          rw [hb] at this
          simpa using this
        have hoi : ops[i]? = some ops[i] := List.getElem?_eq_getElem hi'
        obtain ⟨hor, hback⟩ := hord i ops[i] hoi
        have hbi : ∀ j, j ∈ (befores ops []).getD i [] → listed.getD j false = true := fun j hj =>
          befores_spec hpast ops [] [] rfl rfl (fun i j o hi => by simp at hi) i j ops[i] hj hoi hpre
        have hlater : ∀ (j : Nat) q, ops[j]? = some q → i ∈ (befores ops []).getD j [] → listed.getD j false = false := fun j q hq hij => by
          cases hlj : listed.getD j false with
          | false => rfl
          | true =>
            have := befores_spec hpast ops [] [] rfl rfl (fun i j o hi => by simp at hi) j i q hij hq (hpast j q hq hlj)
            rw [hl] at this
            cases this
        -- what it reads is what it read in the text's order
        have hsame : ∀ t ∈ touches ops ops[i], get (envAt (fun j => decide (j < i)) zs 0 ops env) t = get (envAt (fun j => listed.getD j false) zs 0 ops env) t := fun t ht => by
          refine envAt_congr ops 0 env env rfl fun j q hq hd => ?_
          rw [Nat.zero_add]
          by_cases hji : j = i
          · subst hji
            rw [hl]
            simp
          · have hsp := ordered_spec ops 0 hor j q t hq hd (by omega) ht
            rw [Nat.zero_add] at hsp
            rcases Nat.lt_or_ge j i with h1 | h1
            · rw [hbi j (hsp.1 h1)]
              simpa using h1
            · rw [hlater j q hq (hsp.2 (by omega))]
              simpa using h1
        have hdo0 := doesE_congr (fun t ht => hsame t ht) (hdoes i ops[i] hoi)
        -- the objects are those that it finds in the text's order, if it looks at them
        obtain ⟨m', hm2, hlo', hhi', hdo⟩ : ∃ m', m' ≤ ops.length ∧ (∀ j o, j < m' → ops[j]? = some o → pureOp mu o = false → (if j = i then true else listed.getD j false) = true) ∧ (∀ j o, m' ≤ j → ops[j]? = some o → pureOp mu o = false → (if j = i then true else listed.getD j false) = false) ∧ DoesE P L mu ops ops[i] (envAt (fun j => listed.getD j false) zs 0 ops env) (oh m) (zs i) (oh m') := by
          cases hp : pureOp mu ops[i] with
          | true =>
            refine ⟨m, hm1, fun j o hj e hp' => ?_, fun j o hj e hp' => ?_, ?_⟩
            · split
              · rfl
              · exact hlo j o hj e hp'
            · have : j ≠ i := fun e' => by subst e'; rw [hoi] at e; cases e; rw [hp] at hp'; cases hp'
              rw [if_neg this]
              exact hhi j o hj e hp'
            · rw [hpure i ops[i] hoi hp] at hdo0
              exact doesE_pure hp hdo0
          | false =>
            have hbef : ∀ j o, j < i → ops[j]? = some o → pureOp mu o = false → listed.getD j false = true := fun j o hj e hp' =>
              hbi j (chainOk_spec hch hoi e hj hp hp')
            have haft : ∀ j o, i < j → ops[j]? = some o → pureOp mu o = false → listed.getD j false = false := fun j o hj e hp' =>
              hlater j o e (chainOk_spec hch e hoi hj hp' hp)
            have hmi : m ≤ i := by
              rcases Nat.lt_or_ge i m with h1 | h1
              · have := hlo i _ h1 hoi hp
                rw [hl] at this
                cases this
              · exact h1
            have hom : oh i = oh m := by
              have := ohc (i - m) m (by omega) fun j o h1 h2 e => by
                cases hp' : pureOp mu o with
                | true => rfl
                | false =>
                  have h3 := hhi j o h1 e hp'
                  rw [hbef j o (by omega) e hp'] at h3
                  cases h3
              rwa [show m + (i - m) = i by omega] at this
            refine ⟨i + 1, by omega, fun j o hj e hp' => ?_, fun j o hj e hp' => ?_, ?_⟩
            · split
              · rfl
              · exact hbef j o (by omega) e hp'
            · rw [if_neg (by omega)]
              exact haft j o (by omega) e hp'
            · rw [← hom]
              exact hdo0
        refine doesE_wp hL (all := ops.toArray) (by simpa using hops) ho hdo hs fun G'' a'' w'' hs'' hst'' => ?_
        have hget : ∀ t, get (put (ops[i]).dst (zs i) (envAt (fun j => listed.getD j false) zs 0 ops env)) t = get (envAt (fun j => (listed.setIfInBounds i true).getD j false) zs 0 ops env) t := fun t => by
          have h1 := envAt_put (zs := zs) (l := fun j => listed.getD j false) (t := t) ops 0 env i ops[i] hoi (by rw [Nat.zero_add]; exact hl) (fun j q hj hq hlj hd => by
            intro hqd
            rw [Nat.zero_add] at hlj
            have hsp := ordered_spec ops 0 hor j q t hq hqd (by omega) (by unfold touches; rw [hd]; simp)
            rw [Nat.zero_add] at hsp
            have hlj' : listed.getD j false = true := hlj
            rw [hlater j q hq (hsp.2 hj)] at hlj'
            cases hlj')
          rw [Nat.zero_add] at h1
          rw [← h1]
          refine envAt_congr ops 0 env env rfl fun j q hq _ => ?_
          rw [Nat.zero_add]
          simp only [Array.getD_eq_getD_getElem?, Array.getElem?_setIfInBounds]
          by_cases hji : j = i
          · subst hji
            simp [show j < listed.size by omega]
          · simp [hji, show ¬ (i = j) from fun h => hji h.symm]
        have hgd : ∀ j, (listed.setIfInBounds i true).getD j false = if j = i then true else listed.getD j false := fun j => by
          simp only [Array.getD_eq_getD_getElem?, Array.getElem?_setIfInBounds]
          by_cases hji : j = i
          · subst hji
            simp [show j < listed.size by omega]
          · simp [hji, show ¬ (i = j) from fun h => hji h.symm]
        have hcnt : fuel + ((listed.setIfInBounds i true).toList.filter id).length = ops.length := by
          have : ((listed.setIfInBounds i true).toList.filter id).length = (listed.toList.filter id).length + 1 := by
            rw [Array.toList_setIfInBounds]
            have hli : i < listed.toList.length := by simp; omega
            have hlf : listed.toList[i] = false := by
              rw [Array.getD_eq_getD_getElem?, Array.getElem?_eq_getElem (by omega)] at hl
              simpa using hl
            have key2 : ∀ (l : List Bool) (i : Nat) (hi : i < l.length), l[i] = false → ((l.set i true).filter id).length = (l.filter id).length + 1 := by
              intro l
              induction l with
              | nil => intro i hi; simp at hi
              | cons b r ih =>
                intro i hi he
                cases i with
                | zero => simp at he; subst he; simp
                | succ i =>
                  simp only [List.set_cons_succ, List.filter_cons]
                  have := ih i (by simpa using hi) (by simpa using he)
                  cases b <;> simp [this]
            exact key2 _ i hli hlf
          omega
        refine ih _ _ _ G'' m' hm2 (fun j o hj e hp' => by rw [hgd]; exact hlo' j o hj e hp') (fun j o hj e hp' => by rw [hgd]; exact hhi' j o hj e hp') (by simp [hsz]) (fun j q hq hlj e he hb => ?_) (hst.trans hst'') (hs''.of_get hget) (fun j hj hlj => ?_) hcnt
        · simp only [hgd] at hlj ⊢
          by_cases hji : j = i
          · subst hji
            have hqe : q = ops[j] := by rw [hoi] at hq; exact (Option.some.inj hq).symm
            subst hqe
            split
            · rfl
            · exact hpre e he hb
          · rw [if_neg hji] at hlj
            split
            · rfl
            · exact hpast j q hq hlj e he hb
        · -- something is left, so there is fuel
          rcases Nat.eq_zero_or_pos fuel with h0 | h0
          · exfalso
            rw [h0, Nat.zero_add] at hcnt
            have hfull : ∀ (l : List Bool), (l.filter id).length = l.length → ∀ b ∈ l, b = true := fun l hl b hb => by
              have := List.filter_eq_self.1 (List.Sublist.eq_of_length (List.filter_sublist (l := l) (p := id)) hl) b hb
              simpa using this
            have hlen : ((listed.setIfInBounds i true).toList.filter id).length = (listed.setIfInBounds i true).toList.length := by rw [hcnt]; simp [hsz]
            have hjs : j < (listed.setIfInBounds i true).size := by simp; omega
            have := hfull _ hlen ((listed.setIfInBounds i true)[j]) (by rw [Array.mem_toList_iff]; exact Array.getElem_mem hjs)
            rw [Array.getD_eq_getD_getElem?, Array.getElem?_eq_getElem hjs] at hlj
            simp only [Option.getD_some] at hlj
            rw [this] at hlj
            cases hlj
          · exact h0
  have hcap : Sat n G (envAt (fun j => (Array.replicate ops.toArray.size false).getD j false) zs 0 ops env) H a { w with drawn := w.drawn + 1 } := by
    have h0 : ∀ t, get env t = get (envAt (fun j => (Array.replicate ops.toArray.size false).getD j false) zs 0 ops env) t := fun t => by
      have : ∀ (r : List Oper) (i : Nat) (env : Env), get env t = get (envAt (fun j => (Array.replicate ops.toArray.size false).getD j false) zs i r env) t := by
        intro r
        induction r with
        | nil => intro _ _; rfl
        | cons o r ih =>
          intro i env
          simp only [envAt]
          have : (Array.replicate ops.toArray.size false).getD i false = false := by
            rw [Array.getD_eq_getD_getElem?, Array.getElem?_replicate]
            split <;> rfl
          simp only [this, Bool.false_eq_true, if_false]
          exact ih (i + 1) env
      exact this ops 0 env
    exact Sat.of_get (env := env) (s.step step_drew (inv_drew s.inv)) h0
  refine wpAny_sound ops.toArray.size t _ a _ (key ops.toArray.size _ a _ G 0 (by omega) (fun j o hj => absurd hj (by omega)) (fun j o _ e _ => by
    rw [Array.getD_eq_getD_getElem?, Array.getElem?_replicate]
    split <;> rfl) (by simp) (fun i o ho hl => ?_) (oh0 ▸ step_drew) (oh0 ▸ hcap) (fun i hi _ => by simp; omega) (by simp))
  simp only [Array.getD_eq_getD_getElem?, Array.getElem?_replicate] at hl
  split at hl <;> cases hl


/-- One operation, whose result and objects are told. -/
def vcOpE (P : Program) (L : Tab) (mu : List Nat) (o : Oper) (env : Env) (H : List AObj) (K : AV → List AObj → Prop) : Prop :=
  match o.op with
  | .call c => match c.callee with
    | .value _ => ∃ z H', vcOp P L mu o env H (fun x H'' => x = z ∧ H'' = H') ∧ K z H'
    | .builtin b => match b with
      | .len | .append => vcOp P L mu o env H K
      | _ => False
    | _ => False
  | .move _ | .assign _ | .pick _ _ _ | .binOp .. | .unOp .. | .extract .. | .index .. | .indexAddr .. | .fieldAddr .. | .field .. | .build .. | .slice .. | .load .. | .buildSlice .. | .alloc .. | .store .. => vcOp P L mu o env H K
  | .box .. => vcOp P L mu o env H K
  | .convert .. => if mu.contains (o.dst.getD 0) then False else vcOp P L mu o env H K
  | _ => False
theorem told_lift {q : Option (Prop × AV)} {K : AV → List AObj → Prop} {H : List AObj} (h : lift q K H) : ∃ z H', lift q (fun x H'' => x = z ∧ H'' = H') H ∧ K z H' := by
  unfold lift at h
  split at h
  · exact ⟨_, _, ⟨h.1, rfl, rfl⟩, h.2⟩
  · exact h.elim
theorem vcOpE_sound {P : Program} {L : Tab} {mu : List Nat} {o : Oper} {env : Env} {H : List AObj} {K : AV → List AObj → Prop} (h : vcOpE P L mu o env H K) : ∃ z H', vcOp P L mu o env H (fun x H'' => x = z ∧ H'' = H') ∧ K z H' := by
  obtain ⟨dst, op, ty, pos, after, guard⟩ := o
  cases op <;> simp only [vcOpE] at h <;> first | exact h.elim | (simp only [vcOp] at h ⊢; exact told_lift h) | skip
  case alloc e => exact ⟨_, _, ⟨h.1, rfl, rfl⟩, h.2⟩
  case box e x =>
    simp only [vcOp] at h ⊢
    split at h
    · rename_i hm
      exact ⟨_, _, by rw [if_pos hm]; exact ⟨h.1, rfl, rfl⟩, h.2⟩
    · rename_i hm
      obtain ⟨z, H', h1, h2⟩ := told_lift h
      exact ⟨z, H', by rw [if_neg hm]; exact h1, h2⟩
  case buildSlice t len parts =>
    simp only [vcOp] at h ⊢
    split at h
    · exact h.elim
    · rename_i hm
      obtain ⟨z, H', h1, h2⟩ := told_lift h
      exact ⟨z, H', by rw [if_neg hm]; exact h1, h2⟩
  case convert s d x =>
    split at h
    · exact h.elim
    · rename_i hm
      simp only [vcOp] at h ⊢
      rw [if_neg hm] at h
      obtain ⟨z, H', h1, h2⟩ := told_lift h
      exact ⟨z, H', by rw [if_neg hm]; exact h1, h2⟩
  case store t a x =>
    simp only [vcOp, vcStore] at h ⊢
    split at h
    · split at h
      · exact ⟨_, _, ⟨h.1, rfl, rfl⟩, h.2⟩
      · exact h.elim
    · exact h.elim
  case call c =>
    obtain ⟨callee, args, ats⟩ := c
    cases callee with
    | value f => exact h
    | invoke r m => exact h.elim
    | builtin b =>
      cases b <;> simp only at h <;> first | exact h.elim | skip
      all_goals
        simp only [vcOp, vcBuiltin] at h ⊢
        split at h
        · first | exact told_lift h | (rename_i e _ _; cases e)
        · first
            | (rename_i e _ _; cases e; done)
            | (unfold vcAppend at h ⊢
               split at h
               · exact ⟨_, _, ⟨h.1, rfl, rfl⟩, h.2⟩
               · exact h.elim)
        · exact h.elim
def vcChain (P : Program) (L : Tab) (mu : List Nat) (all : List Oper) : List Oper → Env → List AObj → (Env → List AObj → Prop) → Prop
  | [], env, H, K => K env H
  | o :: rest, env, H, K =>
    match o.guard with
    | none => vcOpE P L mu o env H fun z H' => vcChain P L mu all rest (put o.dst z env) H' K
    | some (j, want) => vcGuard (gval all env j) want (vcOpE P L mu o (known1 all j want env) H fun z H' => vcChain P L mu all rest (put o.dst z (known1 all j want env)) H' K) (vcChain P L mu all rest (put o.dst (.lit undef) (known1 all j (!want) env)) H K) (vcChain P L mu all rest (put o.dst (.lit undef) env) H K)

theorem lift_same {q : Option (Prop × AV)} {z : AV} {H H' : List AObj} (h : lift q (fun x H'' => x = z ∧ H'' = H') H) : H' = H := by
  unfold lift at h
  split at h
  · exact h.2.2.symm
  · exact h.elim
theorem pure_same {P : Program} {L : Tab} {mu : List Nat} {o : Oper} {env : Env} {H H' : List AObj} {z : AV} (hp : pureOp mu o = true) (h : vcOp P L mu o env H fun x H'' => x = z ∧ H'' = H') : H' = H := by
  obtain ⟨dst, op, ty, pos, after, guard⟩ := o
  cases op <;> simp only [pureOp, vcOp, Bool.false_eq_true] at hp h <;> first | exact lift_same h | skip
  case box e x =>
    rw [Bool.not_eq_true'] at hp
    simp only [hp, Bool.false_eq_true, if_false] at h
    exact lift_same h
  case call c =>
    obtain ⟨callee, args, ats⟩ := c
    cases callee with
    | builtin b =>
      cases b <;> simp only [Bool.false_eq_true] at hp
      simp only at h
      unfold vcBuiltin at h
      split at h
      · exact lift_same h
      · rename_i e _ _ ; cases e
      · exact h.elim
    | value f => simp at hp
    | invoke r m => simp at hp
theorem vcChain_sound {P : Program} {L : Tab} {mu : List Nat} {all : List Oper} {K : Env → List AObj → Prop} : ∀ (r : List Oper) (i : Nat) (env env₀ : Env) (H : List AObj), (∀ t, get env t = get env₀ t) → vcChain P L mu all r env H K →
    ∃ (zs : Nat → AV) (oh : Nat → List AObj) (env' : Env), oh i = H ∧ (∀ (k : Nat) o, r[k]? = some o → pureOp mu o = true → oh (i + k + 1) = oh (i + k)) ∧
      (∀ (k : Nat) o, r[k]? = some o → DoesE P L mu all o (envAt (fun j => decide (j < i + k)) zs i r env₀) (oh (i + k)) (zs (i + k)) (oh (i + k + 1))) ∧ (∀ t, get (envAt (fun _ => true) zs i r env₀) t = get env' t) ∧ K env' (oh (i + r.length))
  | [], i, env, env₀, H, he, h => ⟨fun _ => .any, fun _ => H, env, rfl, fun k o e => by simp at e, fun k o e => by simp at e, fun t => (he t).symm, h⟩
  | o :: r, i, env, env₀, H, he, h => by
    have fin : ∀ z H' env₁, (∀ t, get env₁ t = get env₀ t) → (pureOp mu o = true → H' = H) → DoesE P L mu all o env₀ H z H' → vcChain P L mu all r (put o.dst z env₁) H' K →
        ∃ (zs : Nat → AV) (oh : Nat → List AObj) (env' : Env), oh i = H ∧ (∀ (k : Nat) q, (o :: r)[k]? = some q → pureOp mu q = true → oh (i + k + 1) = oh (i + k)) ∧
          (∀ (k : Nat) q, (o :: r)[k]? = some q → DoesE P L mu all q (envAt (fun j => decide (j < i + k)) zs i (o :: r) env₀) (oh (i + k)) (zs (i + k)) (oh (i + k + 1))) ∧ (∀ t, get (envAt (fun _ => true) zs i (o :: r) env₀) t = get env' t) ∧ K env' (oh (i + (o :: r).length)) := fun z H' env₁ he₁ hp hz hr => by
      obtain ⟨zs, oh, env', h0, hpu, h1, h2, h3⟩ := vcChain_sound r (i + 1) _ (put o.dst z env₀) H' (fun t => by rw [get_put, get_put, he₁ t]) hr
      have hoh : ∀ j, i < j → (fun j => if j = i then H else oh j) j = oh j := fun j hj => by simp only; rw [if_neg (by omega)]
      refine ⟨fun j => if j = i then z else zs j, fun j => if j = i then H else oh j, env', by simp, fun k q e hq => ?_, fun k q e => ?_, fun t => ?_, ?_⟩
      · rw [hoh (i + k + 1) (by omega)]
        cases k with
        | zero =>
          simp only [List.getElem?_cons_zero, Option.some.injEq] at e
          subst e
          simp only [Nat.add_zero, if_true]
          rw [h0]
          exact hp hq
        | succ k =>
          rw [hoh (i + (k + 1)) (by omega)]
          have := hpu k q (by simpa using e) hq
          rwa [show i + (k + 1) + 1 = i + 1 + k + 1 by omega, show i + (k + 1) = i + 1 + k by omega]
      · rw [hoh (i + k + 1) (by omega)]
        cases k with
        | zero =>
          simp only [List.getElem?_cons_zero, Option.some.injEq] at e
          subst e
          rw [envAt_none _ _ _ fun j _ => by simp]
          simp only [Nat.add_zero, if_true]
          rw [h0]
          exact hz
        | succ k =>
          rw [hoh (i + (k + 1)) (by omega)]
          have := h1 k q (by simpa using e)
          have e1 : envAt (fun j => decide (j < i + (k + 1))) (fun j => if j = i then z else zs j) i (o :: r) env₀ = envAt (fun j => decide (j < i + 1 + k)) zs (i + 1) r (put o.dst z env₀) := by
            simp only [envAt, show i < i + (k + 1) by omega, decide_true, if_true]
            exact envAt_zs r (i + 1) _ fun j _ => ⟨by rw [if_neg (by omega)], by rw [show i + (k + 1) = i + 1 + k by omega]⟩
          rw [e1]
          simp only [show ¬ (i + (k + 1) = i) by omega, if_false]
          rwa [show i + (k + 1) + 1 = i + 1 + k + 1 by omega, show i + (k + 1) = i + 1 + k by omega]
      · have e1 : envAt (fun _ => true) (fun j => if j = i then z else zs j) i (o :: r) env₀ = envAt (fun _ => true) zs (i + 1) r (put o.dst z env₀) := by
          simp only [envAt, if_true]
          exact envAt_zs r (i + 1) _ fun j _ => ⟨by rw [if_neg (by omega)], rfl⟩
        rw [e1]
        exact h2 t
      · rw [hoh _ (by simp), List.length_cons, show i + (r.length + 1) = i + 1 + r.length by omega]
        exact h3
    have hq : ∀ env₁ z H', (∀ t, get env₁ t = get env₀ t) → vcOp P L mu o env₁ H (fun x H'' => x = z ∧ H'' = H') → vcOp P L mu o env₀ H (fun x H'' => x = z ∧ H'' = H') := fun env₁ z H' he₁ hz => by
      rwa [← vcOp_congr (env := env₁) fun x _ t _ => he₁ t]
    unfold vcChain at h
    cases hg : o.guard with
    | none =>
      rw [hg] at h
      obtain ⟨z, H', hz, hk⟩ := vcOpE_sound h
      exact fin z H' env he (fun hp => pure_same hp hz) (by unfold DoesE; rw [hg]; exact hq env z H' he hz) hk
    | some jw =>
      obtain ⟨j, want⟩ := jw
      rw [hg] at h
      simp only [vcGuard] at h
      split at h
      · rename_i b hb
        have hb0 : gval all env₀ j = .lit (.bool b) := by rw [← gval_congr he]; exact hb
        by_cases e : b = want
        · subst e
          have he₁ : ∀ t, get (known1 all j b env) t = get env₀ t := fun t => (get_known hb t).trans (he t)
          obtain ⟨z, H', hz, hk⟩ := vcOpE_sound (h.1 rfl)
          exact fin z H' _ he₁ (fun hp => pure_same hp hz) (by unfold DoesE; rw [hg]; exact .inl ⟨b, hb0, .inl ⟨rfl, hq _ z H' he₁ hz⟩⟩) hk
        · have hbn : b = !want := by cases b <;> cases want <;> simp_all
          have he₁ : ∀ t, get (known1 all j (!want) env) t = get env₀ t := fun t => (get_known (hbn ▸ hb) t).trans (he t)
          exact fin (.lit undef) H _ he₁ (fun _ => rfl) (by unfold DoesE; rw [hg]; exact .inl ⟨b, hb0, .inr ⟨e, rfl, rfl⟩⟩) (h.2 e)
      · rename_i ar hb
        exact fin (.lit undef) H env he (fun _ => rfl) (by unfold DoesE; rw [hg]; exact .inr ⟨ar, by rw [← gval_congr he]; exact hb, rfl, rfl⟩) h
      · exact h.elim
theorem aw_region_chain {P : Program} {L : Tab} (hL : TabOk P L) (hm : P.follows .mixedOrders = true) (mu : List Nat) {n : Nat} {rid : Nat} {ops : List Oper} (hops : dstsOk n ops = true) (hdr : drawOk ops = true) (hch : chainOk mu ops = true) {Q : Exit → Env → List AObj → Prop} {env : Env} {H : List AObj}
    (h : vcChain P L mu ops ops env H (Q .normal)) : AW P n (.region rid ops.toArray true) Q env H := by
  obtain ⟨zs, oh, env', h0, hpu, h1, h2, h3⟩ := vcChain_sound ops 0 env env H (fun _ => rfl) h
  exact aw_region_chain_ hL hm mu hops hdr hch zs oh h0 (fun i o e hp => by have := hpu i o e hp; rwa [Nat.zero_add] at this) (fun i o e => by have := h1 i o e; rwa [Nat.zero_add] at this) env' h2 (by rwa [Nat.zero_add] at h3)

end Go.Proofs.YthaicajgfioogaaDoor.V
