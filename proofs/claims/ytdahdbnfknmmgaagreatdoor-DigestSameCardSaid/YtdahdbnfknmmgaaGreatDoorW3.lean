/- Regions whose order is drawn, and whose operations write: those that look at the objects stand in a chain. -/
import Derived.Test.YtdahdbnfknmmgaaGreatDoorW2
import Derived.IntWalk
import Derived.Test.YtdahdbnfknmmgaaGreatDoorChecked
import Derived.Deep.DeepHandedRow
import Derived.Lib.LaidTab
import Derived.Lib.LaidU8
import Derived.ChangeSame
import Derived.ChangeStays
import Derived.ChangeMaps5
import Derived.OpenShut
section
set_option linter.unusedSimpArgs false
set_option linter.unusedVariables false
namespace Go.Proofs.YtdahdbnfknmmgaaGreatDoor.V
open Go
variable {ds : List Deferred} {ro : Option Nat} {N : Nat}

/-- What the operation gives hangs on its operands alone. -/
def pureOp (mu : List Nat) (o : Oper) : Bool :=
  match o.op with
  | .move _ | .assign _ | .pick _ _ _ | .unOp .. | .extract .. | .index .. | .indexAddr .. | .fieldAddr .. | .field .. | .build .. | .slice .. | .nilCheck .. | .makeFunc .. | .sliceToArrayPointer .. | .makeInterface .. => true
  | .binOp _ _ _ y _ => !nilCmp y
  | .box _ _ => !mu.contains (o.dst.getD 0)
  | .call c => match c.callee with
    | .builtin .len | .builtin .cap | .builtin .min | .builtin .max => true
    | _ => false
  | _ => false
theorem lift_pure {q : Option (Prop × AV)} {z : AV} {H H' : List AObj} (h : lift q (fun x H'' => x = z ∧ H'' = H) H) : lift q (fun x H'' => x = z ∧ H'' = H') H' := by
  unfold lift at h ⊢
  split at h
  · exact ⟨h.1, h.2.1, rfl⟩
  · exact h.elim
theorem pure_any {P : Program} {L : Tab} {mu : List Nat} {o : Oper} {env : Env} {H H' : List AObj} {z : AV} (hp : pureOp mu o = true) (h : vcOp P L mu o env H fun x H'' => x = z ∧ H'' = H) : vcOp P L mu o env H' fun x H'' => x = z ∧ H'' = H' := by
  obtain ⟨dst, op, ty, pos, after, guard⟩ := o
  cases op <;> simp only [pureOp, vcOp, Bool.false_eq_true] at hp h ⊢ <;> first | exact lift_pure h | skip
  case box e x =>
    rw [Bool.not_eq_true'] at hp
    simp only [hp, Bool.false_eq_true, if_false] at h ⊢
    exact lift_pure h
  case binOp op t x y t' =>
    rw [Bool.not_eq_true'] at hp
    simp only [hp, Bool.false_eq_true, if_false] at h ⊢
    exact lift_pure h
  case call c =>
    obtain ⟨callee, args, ats⟩ := c
    cases callee with
    | builtin b =>
      cases b <;> simp only [Bool.false_eq_true] at hp
      all_goals
        simp only at h ⊢
        unfold vcBuiltin at h ⊢
        split at h <;> first | exact lift_pure h | (rename_i e _ _ ; cases e; done) | exact h.elim
    | value f => simp at hp
    | invoke r m => simp at hp

/-- May the operation change the objects? -/
def effOp (mu : List Nat) (o : Oper) : Bool :=
  match o.op with
  | .store .. | .alloc .. | .makeSlice .. => true
  | .box .. | .buildSlice .. | .convert .. => mu.contains (o.dst.getD 0)
  | .call c => match c.callee with
    | .value _ => !mu.contains (2000000 + o.dst.getD 0)
    | .builtin .append | .builtin .copy | .invoke .. => true
    | _ => false
  | _ => false
/-- A reader and a writer whose order is open. -/
def raceCode (rid i j : Nat) : Nat := 1000000000000 + (rid * 1000 + i) * 1000 + j
theorem race_eq {rid i j : Nat} : raceCode rid i j = 1000000000000 + (rid * 1000 + i) * 1000 + j := rfl
attribute [irreducible] raceCode
def chainRow (rid : Nat) (bs : List (List Nat)) (mu : List Nat) (j : Nat) (q : Oper) : Nat → List Oper → Bool
  | _, [] => true
  | i, o :: r => (if i = j then true
      else if effOp mu o then
        (if effOp mu q then decide (j < i) || (bs.getD j []).contains i
         else pureOp mu q || (bs.getD j []).contains i || (bs.getD i []).contains j || mu.contains (raceCode rid j i))
      else true) && chainRow rid bs mu j q (i + 1) r
def chainAll (rid : Nat) (bs : List (List Nat)) (mu : List Nat) (ops : List Oper) : Nat → List Oper → Bool
  | _, [] => true
  | j, o :: r => chainRow rid bs mu j o 0 ops && chainAll rid bs mu ops (j + 1) r
/-- Those that may change the objects stand in a chain; the races are listed. -/
def chainOk (rid : Nat) (mu : List Nat) (ops : List Oper) : Bool := chainAll rid (befores ops []) mu ops 0 ops
theorem chainRow_spec {rid : Nat} {bs : List (List Nat)} {mu : List Nat} {j : Nat} {q : Oper} : ∀ (r : List Oper) (s : Nat), chainRow rid bs mu j q s r = true → ∀ (i : Nat) o, r[i]? = some o → s + i ≠ j → effOp mu o = true →
    (effOp mu q = true → s + i < j → s + i ∈ bs.getD j []) ∧ (effOp mu q = false → pureOp mu q = false → s + i ∈ bs.getD j [] ∨ j ∈ bs.getD (s + i) [] ∨ mu.contains (raceCode rid j (s + i)) = true)
  | [], _, _, i, o, e, _, _ => by simp at e
  | p :: r, s, h, 0, o, e, hi, hp => by
    simp only [List.getElem?_cons_zero, Option.some.injEq] at e
    subst e
    simp only [Nat.add_zero] at hi ⊢
    simp only [chainRow, Bool.and_eq_true] at h
    have := h.1
    rw [if_neg hi, if_pos hp] at this
    refine ⟨fun hq hlt => ?_, fun hq hpu => ?_⟩
    · rw [if_pos hq] at this
      simp only [Bool.or_eq_true, decide_eq_true_eq] at this
      rcases this with h1 | h1
      · omega
      · simpa using h1
    · rw [hq, hpu] at this
      simp only [Bool.false_eq_true, if_false, Bool.false_or, Bool.or_eq_true] at this
      rcases this with (h1 | h1) | h1
      · exact .inl (by simpa using h1)
      · exact .inr (.inl (by simpa using h1))
      · exact .inr (.inr h1)
  | p :: r, s, h, i + 1, o, e, hi, hp => by
    simp only [chainRow, Bool.and_eq_true] at h
    have := chainRow_spec r (s + 1) h.2 i o (by simpa using e) (by omega) hp
    rwa [show s + 1 + i = s + (i + 1) by omega] at this
theorem chainAll_spec {rid : Nat} {bs : List (List Nat)} {mu : List Nat} {ops : List Oper} : ∀ (r : List Oper) (s : Nat), chainAll rid bs mu ops s r = true → ∀ (j : Nat) o, r[j]? = some o → chainRow rid bs mu (s + j) o 0 ops = true
  | [], _, _, j, o, e => by simp at e
  | q :: r, s, h, 0, o, e => by
    simp only [List.getElem?_cons_zero, Option.some.injEq] at e
    subst e
    simp only [chainAll, Bool.and_eq_true] at h
    exact h.1
  | q :: r, s, h, j + 1, o, e => by
    simp only [chainAll, Bool.and_eq_true] at h
    have := chainAll_spec r (s + 1) h.2 j o (by simpa using e)
    rwa [show s + 1 + j = s + (j + 1) by omega] at this
theorem chainOk_spec {rid : Nat} {mu : List Nat} {ops : List Oper} (h : chainOk rid mu ops = true) {i j : Nat} {o q : Oper} (hj : ops[j]? = some q) (hi : ops[i]? = some o) (hij : i < j) (hq : effOp mu q = true) (ho : effOp mu o = true) : i ∈ (befores ops []).getD j [] := by
  have := chainAll_spec ops 0 h j q hj
  rw [Nat.zero_add] at this
  have := (chainRow_spec ops 0 this i o hi (by omega) ho).1 hq (by omega)
  rwa [Nat.zero_add] at this
theorem chainOk_race {rid : Nat} {mu : List Nat} {ops : List Oper} (h : chainOk rid mu ops = true) {i j : Nat} {o q : Oper} (hj : ops[j]? = some q) (hi : ops[i]? = some o) (hij : i ≠ j) (hq : effOp mu q = false) (hpq : pureOp mu q = false) (ho : effOp mu o = true) :
    i ∈ (befores ops []).getD j [] ∨ j ∈ (befores ops []).getD i [] ∨ mu.contains (raceCode rid j i) = true := by
  have := chainAll_spec ops 0 h j q hj
  rw [Nat.zero_add] at this
  have := (chainRow_spec ops 0 this i o hi (by omega) ho).2 hq hpq
  rwa [Nat.zero_add] at this

/-- What the text's order gives: each operation's result and objects, or that it is passed over. -/
def DoesE (P : Program) (L : Tab) (mu : List Nat) (all : List Oper) (o : Oper) (env : Env) (H : List AObj) (z : AV) (H' : List AObj) : Prop :=
  match o.guard with
  | none => vcOp P L mu o env H fun x H'' => x = z ∧ H'' = H'
  | some (j, want) => (∃ b, gval all env j = .lit (.bool b) ∧ ((b = want ∧ vcOp P L mu o env H fun x H'' => x = z ∧ H'' = H') ∨ (b ≠ want ∧ z = .lit undef ∧ H' = H))) ∨ (∃ ar, gval all env j = .lit (.tuple ar) ∧ z = .lit undef ∧ H' = H)
theorem doesE_congr {P : Program} {L : Tab} {mu : List Nat} {all : List Oper} {o : Oper} {env env' : Env} {H H' : List AObj} {z : AV} (h : ∀ t ∈ touches all o, get env t = get env' t) : DoesE P L mu all o env H z H' → DoesE P L mu all o env' H z H' := by
  have hq : vcOp P L mu o env H (fun x H'' => x = z ∧ H'' = H') = vcOp P L mu o env' H (fun x H'' => x = z ∧ H'' = H') :=
    vcOp_congr fun x hx t ht => h t (by
      unfold touches
      refine List.mem_append.2 (.inl (List.mem_append.2 (.inl (List.mem_filterMap.2 ⟨x, hx, by rw [ht]⟩)))))
  unfold DoesE
  cases hg : o.guard with
  | none => simp only; rw [hq]; exact id
  | some jw =>
    obtain ⟨j, want⟩ := jw
    simp only
    have hgv : gval all env j = gval all env' j := by
      unfold gval
      cases hj : (all[j]?).bind (·.dst) with
      | none => rfl
      | some d => exact h d (by unfold touches; rw [hg]; simp [hj])
    rw [hq, hgv]
    exact id
theorem doesE_pure {P : Program} {L : Tab} {mu : List Nat} {all : List Oper} {o : Oper} {env : Env} {H H' : List AObj} {z : AV} (hp : pureOp mu o = true) (h : DoesE P L mu all o env H z H) : DoesE P L mu all o env H' z H' := by
  unfold DoesE at h ⊢
  cases hg : o.guard with
  | none =>
    rw [hg] at h
    exact pure_any hp h
  | some jw =>
    obtain ⟨j, want⟩ := jw
    rw [hg] at h
    rcases h with ⟨b, hb, ⟨e, hd⟩ | ⟨e, hz, _⟩⟩ | ⟨ar, hb, hz, _⟩
    · exact .inl ⟨b, hb, .inl ⟨e, pure_any hp hd⟩⟩
    · exact .inl ⟨b, hb, .inr ⟨e, hz, rfl⟩⟩
    · exact .inr ⟨ar, hb, hz, rfl⟩
theorem doesE_wp {P : Program} {L : Tab} (hL : TabOk P L) {mu : List Nat} {n : Nat} {all : Array Oper} (hops : dstsOk n all.toList = true) {i : Nat} {o : Oper} (ho : all[i]? = some o) {env : Env} {H H' : List AObj} {z : AV} (hd : DoesE P L mu all.toList o env H z H')
    {G : Gh} {a : Act} {w : World} (s : Sat n ds G env H a w) {K : Act → World → Prop} {Q : Exit → Act → World → Prop} (hK : ∀ G' a' w', Sat n ds G' (put o.dst z env) H' a' w' → Step G H w G' H' w' → K a' w') : wpOpIn (fw ro) N P all Q i K a w := by
  have hdst : ∀ t, o.dst = some t → t < n := fun t e => by
    have := List.all_eq_true.1 hops o (by rw [Array.mem_toList_iff]; exact Array.mem_of_getElem? ho)
    rw [e] at this
    simpa using this
  have hq : (vcOp P L mu o env H fun x H'' => x = z ∧ H'' = H') → o.wpIn (fw ro) N P a w K Q := fun hq => by
    refine Oper.wpIn_mono (fun a' w' hx => ?_) (vcOp_sound hL hq ro N Q n ds G a w s)
    obtain ⟨v, x, G', H'', rfl, hi, hs, hx, rfl, rfl⟩ := hx
    exact hK G' _ w' (s.put hs hi hx hdst) hs
  unfold wpOpIn
  rw [ho]
  simp only
  unfold DoesE at hd
  cases hg : o.guard with
  | none =>
    rw [hg] at hd
    rw [if_pos (by simp [Region.wanted, hg])]
    exact hq hd
  | some jw =>
    obtain ⟨j, want⟩ := jw
    rw [hg] at hd
    rcases hd with ⟨b, hb, hd⟩ | ⟨ar, hb, rfl, rfl⟩
    · rw [wanted_of s hg hb hops]
      rcases hd with ⟨e, hd⟩ | ⟨e, rfl, rfl⟩
      · rw [if_pos (by simpa using e)]
        exact hq hd
      · rw [if_neg (by simpa using e)]
        exact ⟨fun _ _ => trivial, hK G _ w (s.put (.refl _ _ _) s.inv (.lit _) hdst) (.refl _ _ _)⟩
    · rw [wanted_undef s hg hb hops]
      rw [if_neg (by simp)]
      exact ⟨fun _ _ => trivial, hK G _ w (s.put (.refl _ _ _) s.inv (.lit _) hdst) (.refl _ _ _)⟩

theorem aw_region_chain_ {P : Program} {L : Tab} (hL : TabOk P L) (hm : P.follows .mixedOrders = true) (mu : List Nat) {n : Nat} {rid : Nat} {ops : List Oper} (hops : dstsOk n ops = true) (hdr : drawOk ops = true) (hch : chainOk rid mu ops = true) {Q : Exit → Env → List AObj → Prop} {env : Env} {H : List AObj} (zs : Nat → AV) (oh : Nat → List AObj) (oh0 : oh 0 = H) (hpure : ∀ (i : Nat) o, ops[i]? = some o → effOp mu o = false → oh (i + 1) = oh i)
    (hstay : ∀ (i : Nat) o, ops[i]? = some o → effOp mu o = false → ∀ m, m ≤ ops.length → (∀ j q, ops[j]? = some q → effOp mu q = true → m ≤ j → j < i → j ∉ (befores ops []).getD i []) → (∀ j q, ops[j]? = some q → effOp mu q = true → i < j → j < m → i ∉ (befores ops []).getD j []) → DoesE P L mu ops o (envAt (fun j => decide (j < i)) zs 0 ops env) (oh m) (zs i) (oh m))
    (hdoes : ∀ (i : Nat) o, ops[i]? = some o → DoesE P L mu ops o (envAt (fun j => decide (j < i)) zs 0 ops env) (oh i) (zs i) (oh (i + 1))) (env' : Env) (henv : ∀ t, get (envAt (fun _ => true) zs 0 ops env) t = get env' t) (hQ : Q .normal env' (oh ops.length)) : AW P n (.region rid ops.toArray true) Q env H := fun ro N ds G a w s => by
  refine wpIn_region_draw fun t => ?_
  simp only [Region.schedule, hm, Bool.true_or, if_true]
  have hord : ∀ (i : Nat) o, ops[i]? = some o → ordered (befores ops []) ops i o 0 ops = true ∧ ∀ e ∈ o.after.toList, Region.binds .any e = true → e.on < i := fun i o e => by
    have := allOrdered_spec ops 0 hdr i o e
    rwa [Nat.zero_add] at this
  have ohc : ∀ d a, a + d ≤ ops.length → (∀ j o, a ≤ j → j < a + d → ops[j]? = some o → effOp mu o = false) → oh (a + d) = oh a := by
    intro d
    induction d with
    | zero => intro a _ _; rfl
    | succ d ih =>
      intro a hl h
      have hlt : a + d < ops.length := by omega
      rw [show a + (d + 1) = a + d + 1 by omega, hpure (a + d) ops[a + d] (List.getElem?_eq_getElem hlt) (h (a + d) _ (by omega) (by omega) (List.getElem?_eq_getElem hlt))]
      exact ih a (by omega) fun j o h1 h2 e => h j o h1 (by omega) e
  -- one step, whatever has been carried out
  have key : ∀ (fuel : Nat) (listed : Array Bool) (a : Act) (w' : World) (G' : Gh) (m : Nat), m ≤ ops.length → (∀ j o, j < m → ops[j]? = some o → effOp mu o = true → listed.getD j false = true) → (∀ j o, m ≤ j → ops[j]? = some o → effOp mu o = true → listed.getD j false = false) → listed.size = ops.length → Past ops (fun j => listed.getD j false) → Step G H w G' (oh m) w' → Sat n ds G' (envAt (fun j => listed.getD j false) zs 0 ops env) (oh m) a w' →
      (∀ i, i < ops.length → listed.getD i false = false → 0 < fuel) → (fuel + (listed.toList.filter id).length = ops.length) → wpAnyIn (fw ro) N P .any ops.toArray (Post n ds G H w Q) fuel listed a w' := by
    intro fuel
    induction fuel with
    | zero =>
      intro listed a w' G' m hm1 hlo hhi hsz hpast hst hs hf _
      have hall : ∀ i, i < ops.length → listed.getD i false = true := fun i hi => by
        cases hl : listed.getD i false with
        | true => rfl
        | false => exact absurd (hf i hi hl) (Nat.lt_irrefl _)
      have hend : oh ops.length = oh m := by
        have := ohc (ops.length - m) m (by omega) fun j o h1 h2 e => by
          cases hp : effOp mu o with
          | false => rfl
          | true =>
            have h3 := hhi j o h1 e hp
            rw [hall j (lt_of_get e)] at h3
            cases h3
        rwa [show m + (ops.length - m) = ops.length by omega] at this
      rw [hend] at hQ
      refine ⟨?_, G', _, oh m, hs.of_get fun t => (envAt_congr ops 0 env env rfl fun j o e _ => by rw [Nat.zero_add]; exact hall j (lt_of_get e)).trans (henv t), hst, hQ⟩
      unfold Region.ready
      rw [List.filter_eq_nil_iff]
      intro i hi
      have hi' : i < ops.length := by simpa using hi
      have := hall i hi'
      have h2 : listed.getD i true = true := by
        rw [Array.getD_eq_getD_getElem?, Array.getElem?_eq_getElem (by omega)] at this ⊢
        exact this
      simp [h2]
    | succ fuel ih =>
      intro listed a w' G' m hm1 hlo hhi hsz hpast hst hs hf hcount
      refine ⟨fun hnil => ?_, fun i hi => ?_⟩
      · -- nothing is ready: all is done
        have hall : ∀ i, i < ops.length → listed.getD i false = true := by
          intro i
          induction i using Nat.strongRecOn with
          | _ i ihi =>
            intro hi
            cases hl : listed.getD i false with
            | true => rfl
            | false =>
              exfalso
              have hmem : i ∈ Region.ready .any ops.toArray listed := by
                unfold Region.ready
                rw [List.mem_filter]
                refine ⟨by simpa using hi, ?_⟩
                have h2 : listed.getD i true = false := by
                  rw [Array.getD_eq_getD_getElem?, Array.getElem?_eq_getElem (by omega)] at hl ⊢
                  exact hl
                have ho : ops.toArray[i]? = some ops[i] := by simp [hi]
                rw [h2, ho]
                simp only [Bool.not_false, Bool.true_and, Option.map_some, Option.getD_some]
                rw [Array.all_eq_true_iff_forall_mem]
                intro e he
                have := (hord i ops[i] (List.getElem?_eq_getElem hi)).2 e (Array.mem_toList_iff.2 he)
                cases hb : Region.binds .any e with
                | false => rfl
                | true =>
                  have h3 := this hb
                  rw [ihi e.on h3 (by omega)]
                  rfl
              rw [hnil] at hmem
              cases hmem
        have hend : oh ops.length = oh m := by
          have := ohc (ops.length - m) m (by omega) fun j o h1 h2 e => by
            cases hp : effOp mu o with
            | false => rfl
            | true =>
              have h3 := hhi j o h1 e hp
              rw [hall j (lt_of_get e)] at h3
              cases h3
          rwa [show m + (ops.length - m) = ops.length by omega] at this
        rw [hend] at hQ
        exact ⟨G', _, oh m, hs.of_get fun t => (envAt_congr ops 0 env env rfl fun j o e _ => by rw [Nat.zero_add]; exact hall j (lt_of_get e)).trans (henv t), hst, hQ⟩
      · unfold Region.ready at hi
        rw [List.mem_filter] at hi
        obtain ⟨hi1, hi2⟩ := hi
        have hi' : i < ops.length := by simpa using hi1
        have ho : ops.toArray[i]? = some ops[i] := by simp [hi']
        rw [ho] at hi2
        simp only [Option.map_some, Option.getD_some, Bool.and_eq_true, Bool.not_eq_true'] at hi2
        obtain ⟨hl0, hready⟩ := hi2
        have hl : listed.getD i false = false := by
          rw [Array.getD_eq_getD_getElem?, Array.getElem?_eq_getElem (by omega)] at hl0 ⊢
          exact hl0
        have hpre : ∀ e ∈ (ops[i]).after.toList, Region.binds .any e = true → listed.getD e.on false = true := fun e he hb => by
          rw [Array.all_eq_true_iff_forall_mem] at hready
          have := hready e (Array.mem_toList_iff.1 he)
          rw [hb] at this
          simpa using this
        have hoi : ops[i]? = some ops[i] := List.getElem?_eq_getElem hi'
        obtain ⟨hor, hback⟩ := hord i ops[i] hoi
        have hbi : ∀ j, j ∈ (befores ops []).getD i [] → listed.getD j false = true := fun j hj =>
          befores_spec hpast ops [] [] rfl rfl (fun i j o hi => by simp at hi) i j ops[i] hj hoi hpre
        have hlater : ∀ (j : Nat) q, ops[j]? = some q → i ∈ (befores ops []).getD j [] → listed.getD j false = false := fun j q hq hij => by
          cases hlj : listed.getD j false with
          | false => rfl
          | true =>
            have := befores_spec hpast ops [] [] rfl rfl (fun i j o hi => by simp at hi) j i q hij hq (hpast j q hq hlj)
            rw [hl] at this
            cases this
        -- what it reads is what it read in the text's order
        have hsame : ∀ t ∈ touches ops ops[i], get (envAt (fun j => decide (j < i)) zs 0 ops env) t = get (envAt (fun j => listed.getD j false) zs 0 ops env) t := fun t ht => by
          refine envAt_congr ops 0 env env rfl fun j q hq hd => ?_
          rw [Nat.zero_add]
          by_cases hji : j = i
          · subst hji
            rw [hl]
            simp
          · have hsp := ordered_spec ops 0 hor j q t hq hd (by omega) ht
            rw [Nat.zero_add] at hsp
            rcases Nat.lt_or_ge j i with h1 | h1
            · rw [hbi j (hsp.1 h1)]
              simpa using h1
            · rw [hlater j q hq (hsp.2 (by omega))]
              simpa using h1
        have hdo0 := doesE_congr (fun t ht => hsame t ht) (hdoes i ops[i] hoi)
        -- the objects are those that it finds in the text's order, if it looks at them
        obtain ⟨m', hm2, hlo', hhi', hdo⟩ : ∃ m', m' ≤ ops.length ∧ (∀ j o, j < m' → ops[j]? = some o → effOp mu o = true → (if j = i then true else listed.getD j false) = true) ∧ (∀ j o, m' ≤ j → ops[j]? = some o → effOp mu o = true → (if j = i then true else listed.getD j false) = false) ∧ DoesE P L mu ops ops[i] (envAt (fun j => listed.getD j false) zs 0 ops env) (oh m) (zs i) (oh m') := by
          cases hp : effOp mu ops[i] with
          | false =>
            refine ⟨m, hm1, fun j o hj e hp' => ?_, fun j o hj e hp' => ?_, ?_⟩
            · split
              · rfl
              · exact hlo j o hj e hp'
            · have : j ≠ i := fun e' => by subst e'; rw [hoi] at e; cases e; rw [hp] at hp'; cases hp'
              rw [if_neg this]
              exact hhi j o hj e hp'
            · refine doesE_congr (fun t ht => hsame t ht) (hstay i ops[i] hoi hp m hm1 (fun j q e hq hmj _ hb => ?_) (fun j q e hq _ hjm hb => ?_))
              · have h1 := hhi j q hmj e hq
                rw [hbi j hb] at h1
                cases h1
              · have h1 := hlo j q hjm e hq
                rw [hlater j q e hb] at h1
                cases h1
          | true =>
            have hbef : ∀ j o, j < i → ops[j]? = some o → effOp mu o = true → listed.getD j false = true := fun j o hj e hp' =>
              hbi j (chainOk_spec hch hoi e hj hp hp')
            have haft : ∀ j o, i < j → ops[j]? = some o → effOp mu o = true → listed.getD j false = false := fun j o hj e hp' =>
              hlater j o e (chainOk_spec hch e hoi hj hp' hp)
            have hmi : m ≤ i := by
              rcases Nat.lt_or_ge i m with h1 | h1
              · have := hlo i _ h1 hoi hp
                rw [hl] at this
                cases this
              · exact h1
            have hom : oh i = oh m := by
              have := ohc (i - m) m (by omega) fun j o h1 h2 e => by
                cases hp' : effOp mu o with
                | false => rfl
                | true =>
                  have h3 := hhi j o h1 e hp'
                  rw [hbef j o (by omega) e hp'] at h3
                  cases h3
              rwa [show m + (i - m) = i by omega] at this
            refine ⟨i + 1, by omega, fun j o hj e hp' => ?_, fun j o hj e hp' => ?_, ?_⟩
            · split
              · rfl
              · exact hbef j o (by omega) e hp'
            · rw [if_neg (by omega)]
              exact haft j o (by omega) e hp'
            · rw [← hom]
              exact hdo0
        refine doesE_wp hL (all := ops.toArray) (by simpa using hops) ho hdo hs fun G'' a'' w'' hs'' hst'' => ?_
        have hget : ∀ t, get (put (ops[i]).dst (zs i) (envAt (fun j => listed.getD j false) zs 0 ops env)) t = get (envAt (fun j => (listed.setIfInBounds i true).getD j false) zs 0 ops env) t := fun t => by
          have h1 := envAt_put (zs := zs) (l := fun j => listed.getD j false) (t := t) ops 0 env i ops[i] hoi (by rw [Nat.zero_add]; exact hl) (fun j q hj hq hlj hd => by
            intro hqd
            rw [Nat.zero_add] at hlj
            have hsp := ordered_spec ops 0 hor j q t hq hqd (by omega) (by unfold touches; rw [hd]; simp)
            rw [Nat.zero_add] at hsp
            have hlj' : listed.getD j false = true := hlj
            rw [hlater j q hq (hsp.2 hj)] at hlj'
            cases hlj')
          rw [Nat.zero_add] at h1
          rw [← h1]
          refine envAt_congr ops 0 env env rfl fun j q hq _ => ?_
          rw [Nat.zero_add]
          simp only [Array.getD_eq_getD_getElem?, Array.getElem?_setIfInBounds]
          by_cases hji : j = i
          · subst hji
            simp [show j < listed.size by omega]
          · simp [hji, show ¬ (i = j) from fun h => hji h.symm]
        have hgd : ∀ j, (listed.setIfInBounds i true).getD j false = if j = i then true else listed.getD j false := fun j => by
          simp only [Array.getD_eq_getD_getElem?, Array.getElem?_setIfInBounds]
          by_cases hji : j = i
          · subst hji
            simp [show j < listed.size by omega]
          · simp [hji, show ¬ (i = j) from fun h => hji h.symm]
        have hcnt : fuel + ((listed.setIfInBounds i true).toList.filter id).length = ops.length := by
          have : ((listed.setIfInBounds i true).toList.filter id).length = (listed.toList.filter id).length + 1 := by
            rw [Array.toList_setIfInBounds]
            have hli : i < listed.toList.length := by simp; omega
            have hlf : listed.toList[i] = false := by
              rw [Array.getD_eq_getD_getElem?, Array.getElem?_eq_getElem (by omega)] at hl
              simpa using hl
            have key2 : ∀ (l : List Bool) (i : Nat) (hi : i < l.length), l[i] = false → ((l.set i true).filter id).length = (l.filter id).length + 1 := by
              intro l
              induction l with
              | nil => intro i hi; simp at hi
              | cons b r ih =>
                intro i hi he
                cases i with
                | zero => simp at he; subst he; simp
                | succ i =>
                  simp only [List.set_cons_succ, List.filter_cons]
                  have := ih i (by simpa using hi) (by simpa using he)
                  cases b <;> simp [this]
            exact key2 _ i hli hlf
          omega
        refine ih _ _ _ G'' m' hm2 (fun j o hj e hp' => by rw [hgd]; exact hlo' j o hj e hp') (fun j o hj e hp' => by rw [hgd]; exact hhi' j o hj e hp') (by simp [hsz]) (fun j q hq hlj e he hb => ?_) (hst.trans hst'') (hs''.of_get hget) (fun j hj hlj => ?_) hcnt
        · simp only [hgd] at hlj ⊢
          by_cases hji : j = i
          · subst hji
            have hqe : q = ops[j] := by rw [hoi] at hq; exact (Option.some.inj hq).symm
            subst hqe
            split
            · rfl
            · exact hpre e he hb
          · rw [if_neg hji] at hlj
            split
            · rfl
            · exact hpast j q hq hlj e he hb
        · -- something is left, so there is fuel
          rcases Nat.eq_zero_or_pos fuel with h0 | h0
          · exfalso
            rw [h0, Nat.zero_add] at hcnt
            have hfull : ∀ (l : List Bool), (l.filter id).length = l.length → ∀ b ∈ l, b = true := fun l hl b hb => by
              have := List.filter_eq_self.1 (List.Sublist.eq_of_length (List.filter_sublist (l := l) (p := id)) hl) b hb
              simpa using this
            have hlen : ((listed.setIfInBounds i true).toList.filter id).length = (listed.setIfInBounds i true).toList.length := by rw [hcnt]; simp [hsz]
            have hjs : j < (listed.setIfInBounds i true).size := by simp; omega
            have := hfull _ hlen ((listed.setIfInBounds i true)[j]) (by rw [Array.mem_toList_iff]; exact Array.getElem_mem hjs)
            rw [Array.getD_eq_getD_getElem?, Array.getElem?_eq_getElem hjs] at hlj
            simp only [Option.getD_some] at hlj
            rw [this] at hlj
            cases hlj
          · exact h0
  have hcap : Sat n ds G (envAt (fun j => (Array.replicate ops.toArray.size false).getD j false) zs 0 ops env) H a { w with drawn := w.drawn + 1 } := by
    have h0 : ∀ t, get env t = get (envAt (fun j => (Array.replicate ops.toArray.size false).getD j false) zs 0 ops env) t := fun t => by
      have : ∀ (r : List Oper) (i : Nat) (env : Env), get env t = get (envAt (fun j => (Array.replicate ops.toArray.size false).getD j false) zs i r env) t := by
        intro r
        induction r with
        | nil => intro _ _; rfl
        | cons o r ih =>
          intro i env
          simp only [envAt]
          have : (Array.replicate ops.toArray.size false).getD i false = false := by
            rw [Array.getD_eq_getD_getElem?, Array.getElem?_replicate]
            split <;> rfl
          simp only [this, Bool.false_eq_true, if_false]
          exact ih (i + 1) env
      exact this ops 0 env
    exact Sat.of_get (env := env) (s.step step_drew (inv_drew s.inv)) h0
  refine wpAnyIn_sound ops.toArray.size t _ a _ (key ops.toArray.size _ a _ G 0 (by omega) (fun j o hj => absurd hj (by omega)) (fun j o _ e _ => by
    rw [Array.getD_eq_getD_getElem?, Array.getElem?_replicate]
    split <;> rfl) (by simp) (fun i o ho hl => ?_) (oh0 ▸ step_drew) (oh0 ▸ hcap) (fun i hi _ => by simp; omega) (by simp))
  simp only [Array.getD_eq_getD_getElem?, Array.getElem?_replicate] at hl
  split at hl <;> cases hl


/-- One operation, whose result and objects are told. -/
def notMsl : List AV → Prop
  | .msl _ _ _ _ :: _ => False
  | _ => True
def vcOpE (P : Program) (L : Tab) (mu : List Nat) (o : Oper) (env : Env) (H : List AObj) (K : AV → List AObj → Prop) : Prop :=
  match o.op with
  | .call c => match c.callee with
    | .value _ => ∃ z H', vcOp P L mu o env H (fun x H'' => x = z ∧ H'' = H') ∧ K z H'
    | .builtin b => match b with
      | .len | .cap | .min | .max | .copy | .unsafeSliceData | .unsafeString => vcOp P L mu o env H K
      | .append => notMsl (c.args.toList.map (ev env)) ∧ vcOp P L mu o env H K
      | _ => False
    | _ => False
  | .move _ | .assign _ | .pick _ _ _ | .unOp .. | .extract .. | .index .. | .indexAddr .. | .fieldAddr .. | .field .. | .build .. | .slice .. | .load .. | .buildSlice .. | .alloc .. | .store .. | .convert .. | .nilCheck .. | .makeFunc .. | .sliceToArrayPointer .. | .makeInterface .. | .makeSlice .. => vcOp P L mu o env H K
  | .binOp _ _ _ y _ => if nilCmp y then False else vcOp P L mu o env H K
  | .box .. => vcOp P L mu o env H K
  | _ => False
theorem told_lift {q : Option (Prop × AV)} {K : AV → List AObj → Prop} {H : List AObj} (h : lift q K H) : ∃ z H', lift q (fun x H'' => x = z ∧ H'' = H') H ∧ K z H' := by
  unfold lift at h
  split at h
  · exact ⟨_, _, ⟨h.1, rfl, rfl⟩, h.2⟩
  · exact h.elim
theorem vcOpE_sound {P : Program} {L : Tab} {mu : List Nat} {o : Oper} {env : Env} {H : List AObj} {K : AV → List AObj → Prop} (h : vcOpE P L mu o env H K) : ∃ z H', vcOp P L mu o env H (fun x H'' => x = z ∧ H'' = H') ∧ K z H' := by
  obtain ⟨dst, op, ty, pos, after, guard⟩ := o
  cases op <;> simp only [vcOpE] at h <;> first | exact h.elim | (simp only [vcOp] at h ⊢; exact told_lift h) | skip
  case alloc e =>
    simp only [vcOp] at h ⊢
    obtain ⟨h1, h2⟩ := h
    split at h2
    · rename_i hb
      exact ⟨_, _, ⟨h1, ⟨rfl, rfl⟩⟩, h2⟩
    · rename_i u hb
      exact ⟨_, _, ⟨h1, ⟨rfl, rfl⟩⟩, h2⟩
  case box e x =>
    simp only [vcOp] at h ⊢
    split at h
    · rename_i hm
      exact ⟨_, _, by rw [if_pos hm]; exact ⟨h.1, rfl, rfl⟩, h.2⟩
    · rename_i hm
      obtain ⟨z, H', h1, h2⟩ := told_lift h
      exact ⟨z, H', by rw [if_neg hm]; exact h1, h2⟩
  case buildSlice t len parts =>
    simp only [vcOp] at h ⊢
    split at h
    · rename_i hm
      simp only [if_pos hm]
      unfold vcBuildM at h ⊢
      split at h
      · exact ⟨_, _, ⟨h.1, rfl, rfl⟩, h.2⟩
      · exact h.elim
    · rename_i hm
      simp only [if_neg hm]
      split at h
      · exact h.elim
      · rename_i hm
        obtain ⟨z, H', h1, h2⟩ := told_lift h
        exact ⟨z, H', by rw [if_neg hm]; exact h1, h2⟩
  case binOp op t x y t' =>
    split at h
    · exact h.elim
    · rename_i hm
      simp only [vcOp] at h ⊢
      rw [if_neg hm] at h
      obtain ⟨z, H', h1, h2⟩ := told_lift h
      exact ⟨z, H', by rw [if_neg hm]; exact h1, h2⟩
  case convert s d x =>
    simp only [vcOp] at h ⊢
    split at h
    · rename_i hm
      simp only [if_pos hm]
      unfold vcBytes at h ⊢
      split at h
      · exact ⟨_, _, ⟨h.1, rfl, rfl⟩, h.2⟩
      · exact h.elim
    · rename_i hm
      obtain ⟨z, H', h1, h2⟩ := told_lift h
      exact ⟨z, H', by rw [if_neg hm]; exact h1, h2⟩
  case store t a x =>
    simp only [vcOp, vcStore] at h ⊢
    split at h
    · split at h
      · exact ⟨_, _, ⟨h.1, rfl, rfl⟩, h.2⟩
      · exact h.elim
    · exact h.elim
  case makeSlice t x y =>
    simp only [vcOp, vcMake] at h ⊢
    split at h
    · exact ⟨_, _, ⟨h.1, rfl, rfl⟩, h.2⟩
    · exact h.elim
  case call c =>
    obtain ⟨callee, args, ats⟩ := c
    cases callee with
    | value f => exact h
    | invoke r m => exact h.elim
    | builtin b =>
      cases b <;> simp only at h <;> first | exact h.elim | skip
      case append =>
        obtain ⟨hn, h⟩ := h
        simp only [vcOp, vcBuiltin] at h ⊢
        split at h
        · rename_i e _ _; cases e
        · rename_i x y t t2 _ hx _
          rw [hx] at hn
          unfold vcApp at h ⊢
          split at h
          · unfold vcAppendR at h ⊢
            split at h
            · split at h
              · exact ⟨_, _, ⟨h.1, rfl, rfl⟩, h.2⟩
              · exact h.elim
            · exact h.elim
          · exact hn.elim
          · split at h
            · rename_i hm
              simp only [if_pos hm]
              unfold vcAppendM at h ⊢
              split at h
              · exact ⟨_, _, ⟨h.1, rfl, rfl⟩, h.2⟩
              · exact h.elim
            · rename_i hm
              simp only [if_neg hm]
              unfold vcAppend at h ⊢
              split at h
              · exact ⟨_, _, ⟨h.1, rfl, rfl⟩, h.2⟩
              · exact h.elim
        all_goals first | (rename_i e _ _; cases e; done) | exact h.elim
      case copy =>
        simp only [vcOp, vcBuiltin] at h ⊢
        split at h
        all_goals first | (rename_i e _ _; cases e; done) | exact h.elim | skip
        unfold vcCopy at h ⊢
        split at h
        · split at h
          · exact ⟨_, _, ⟨h.1, rfl, rfl⟩, h.2⟩
          · exact h.elim
        · exact h.elim
      case unsafeString =>
        simp only [vcOp, vcBuiltin] at h ⊢
        split at h
        all_goals first | (rename_i e _ _; cases e; done) | exact h.elim | skip
        split at h
        · unfold vcStrObj at h ⊢
          split at h
          · exact ⟨_, _, ⟨h.1, rfl, rfl⟩, h.2⟩
          · exact h.elim
        · exact told_lift h
      all_goals
        simp only [vcOp, vcBuiltin] at h ⊢
        split at h
        all_goals first | exact told_lift h | (rename_i e _ _; cases e; done) | exact h.elim
/-- The readers that have been carried out give the same behind this one. -/
def staysAll (P : Program) (L : Tab) (mu : List Nat) (rid j : Nat) (H' : List AObj) : List (Nat × Oper × Env × AV) → Prop
  | [] => True
  | (i, o, env, z) :: r => if mu.contains (raceCode rid i j) then vcOp P L mu o env H' (fun x H'' => x = z ∧ H'' = H') ∧ staysAll P L mu rid j H' r else staysAll P L mu rid j H' r
/-- It gave the same ahead of the writers whose order is open. -/
def wasAll (P : Program) (L : Tab) (mu : List Nat) (rid i : Nat) (o : Oper) (env : Env) (z : AV) : List (Nat × List AObj) → Prop
  | [] => True
  | (j, H) :: r => if mu.contains (raceCode rid i j) then vcOp P L mu o env H (fun x H'' => x = z ∧ H'' = H) ∧ wasAll P L mu rid i o env z r else wasAll P L mu rid i o env z r
/-- What comes behind an operation. -/
def vcNext (P : Program) (L : Tab) (mu : List Nat) (rid i : Nat) (o : Oper) (env : Env) (H : List AObj) (z : AV) (H' : List AObj) (hist : List (Nat × List AObj)) (rs : List (Nat × Oper × Env × AV)) (k : List (Nat × List AObj) → List (Nat × Oper × Env × AV) → Prop) [Tag k] : Prop :=
  if effOp mu o then staysAll P L mu rid i H' rs ∧ k ((i, H) :: hist) rs
  else if pureOp mu o then k hist rs
  else H' = H ∧ wasAll P L mu rid i o env z hist ∧ k hist ((i, o, env, z) :: rs)
def vcChain (P : Program) (L : Tab) (mu : List Nat) (rid : Nat) (all : List Oper) : Nat → List Oper → Env → List AObj → List (Nat × List AObj) → List (Nat × Oper × Env × AV) → (Env → List AObj → Prop) → Prop
  | _, [], env, H, _, _, K => K env H
  | i, o :: rest, env, H, hist, rs, K =>
    match o.guard with
    | none => vcOpE P L mu o env H fun z H' => vcNext P L mu rid i o env H z H' hist rs fun hist' rs' => vcChain P L mu rid all (i + 1) rest (put o.dst z env) H' hist' rs' K
    | some (j, want) => vcGuard (gval all env j) want (vcOpE P L mu o (known1 all j want env) H fun z H' => vcNext P L mu rid i o (known1 all j want env) H z H' hist rs fun hist' rs' => vcChain P L mu rid all (i + 1) rest (put o.dst z (known1 all j want env)) H' hist' rs' K) (vcChain P L mu rid all (i + 1) rest (put o.dst (.lit undef) (known1 all j (!want) env)) H hist rs K) (vcChain P L mu rid all (i + 1) rest (put o.dst (.lit undef) env) H hist rs K)

theorem lift_same {q : Option (Prop × AV)} {z : AV} {H H' : List AObj} (h : lift q (fun x H'' => x = z ∧ H'' = H') H) : H' = H := by
  unfold lift at h
  split at h
  · exact h.2.2.symm
  · exact h.elim
theorem pure_same {P : Program} {L : Tab} {mu : List Nat} {o : Oper} {env : Env} {H H' : List AObj} {z : AV} (hp : pureOp mu o = true) (h : vcOp P L mu o env H fun x H'' => x = z ∧ H'' = H') : H' = H := by
  obtain ⟨dst, op, ty, pos, after, guard⟩ := o
  cases op <;> simp only [pureOp, vcOp, Bool.false_eq_true] at hp h <;> first | exact lift_same h | skip
  case binOp op t x y t' =>
    rw [Bool.not_eq_true'] at hp
    simp only [hp, Bool.false_eq_true, if_false] at h
    exact lift_same h
  case box e x =>
    rw [Bool.not_eq_true'] at hp
    simp only [hp, Bool.false_eq_true, if_false] at h
    exact lift_same h
  case call c =>
    obtain ⟨callee, args, ats⟩ := c
    cases callee with
    | builtin b =>
      cases b <;> simp only [Bool.false_eq_true] at hp
      all_goals
        simp only at h
        unfold vcBuiltin at h
        split at h <;> first | exact lift_same h | (rename_i e _ _ ; cases e; done) | exact h.elim
    | value f => simp at hp
    | invoke r m => simp at hp
theorem staysAll_get {P : Program} {L : Tab} {mu : List Nat} {rid j : Nat} {H' : List AObj} : ∀ {rs : List (Nat × Oper × Env × AV)}, staysAll P L mu rid j H' rs → ∀ i o env z, (i, o, env, z) ∈ rs → mu.contains (raceCode rid i j) = true → vcOp P L mu o env H' (fun x H'' => x = z ∧ H'' = H')
  | [], _, i, o, env, z, hm, _ => by cases hm
  | (i', o', env', z') :: r, h, i, o, env, z, hm, hc => by
    unfold staysAll at h
    rcases List.mem_cons.1 hm with e | hm
    · cases e
      rw [if_pos hc] at h
      exact h.1
    · split at h
      · exact staysAll_get h.2 i o env z hm hc
      · exact staysAll_get h i o env z hm hc
theorem wasAll_get {P : Program} {L : Tab} {mu : List Nat} {rid i : Nat} {o : Oper} {env : Env} {z : AV} : ∀ {hist : List (Nat × List AObj)}, wasAll P L mu rid i o env z hist → ∀ j H, (j, H) ∈ hist → mu.contains (raceCode rid i j) = true → vcOp P L mu o env H (fun x H'' => x = z ∧ H'' = H)
  | [], _, j, H, hm, _ => by cases hm
  | (j', H') :: r, h, j, H, hm, hc => by
    unfold wasAll at h
    rcases List.mem_cons.1 hm with e | hm
    · cases e
      rw [if_pos hc] at h
      exact h.1
    · split at h
      · exact wasAll_get h.2 j H hm hc
      · exact wasAll_get h j H hm hc
/-- What the text's order gives for the operations r, from the i-th on. -/
def ChainRes (P : Program) (L : Tab) (mu : List Nat) (rid : Nat) (all : List Oper) (K : Env → List AObj → Prop) (r : List Oper) (i : Nat) (env₀ : Env) (H : List AObj) (hist : List (Nat × List AObj)) (rs : List (Nat × Oper × Env × AV)) : Prop :=
  ∃ (zs : Nat → AV) (oh : Nat → List AObj) (env' : Env), oh i = H ∧ (∀ (k : Nat) o, r[k]? = some o → effOp mu o = false → oh (i + k + 1) = oh (i + k)) ∧
    (∀ (k : Nat) o, r[k]? = some o → DoesE P L mu all o (envAt (fun j => decide (j < i + k)) zs i r env₀) (oh (i + k)) (zs (i + k)) (oh (i + k + 1))) ∧ (∀ t, get (envAt (fun _ => true) zs i r env₀) t = get env' t) ∧ K env' (oh (i + r.length)) ∧
    (∀ q o e z, (q, o, e, z) ∈ rs → vcOp P L mu o e H (fun x H'' => x = z ∧ H'' = H) → ∀ p, p ≤ r.length → (∀ j o', j < p → r[j]? = some o' → effOp mu o' = true → mu.contains (raceCode rid q (i + j)) = true) → vcOp P L mu o e (oh (i + p)) (fun x H'' => x = z ∧ H'' = oh (i + p))) ∧
    (∀ j₀ Hj, (j₀, Hj) ∈ hist → ∀ (k : Nat) o, r[k]? = some o → effOp mu o = false → pureOp mu o = false → mu.contains (raceCode rid (i + k) j₀) = true → DoesE P L mu all o (envAt (fun j => decide (j < i + k)) zs i r env₀) Hj (zs (i + k)) Hj) ∧
    (∀ (k : Nat) o, r[k]? = some o → effOp mu o = false → pureOp mu o = false → ∀ p, p ≤ k → (∀ j o', p ≤ j → j < k → r[j]? = some o' → effOp mu o' = true → mu.contains (raceCode rid (i + k) (i + j)) = true) → DoesE P L mu all o (envAt (fun j => decide (j < i + k)) zs i r env₀) (oh (i + p)) (zs (i + k)) (oh (i + p))) ∧
    (∀ (k : Nat) o, r[k]? = some o → effOp mu o = false → pureOp mu o = false → ∀ p, k ≤ p → p ≤ r.length → (∀ j o', k < j → j < p → r[j]? = some o' → effOp mu o' = true → mu.contains (raceCode rid (i + k) (i + j)) = true) → DoesE P L mu all o (envAt (fun j => decide (j < i + k)) zs i r env₀) (oh (i + p)) (zs (i + k)) (oh (i + p)))
set_option maxRecDepth 20000 in
theorem chainRes_cons {P : Program} {L : Tab} {mu : List Nat} {rid : Nat} {all : List Oper} {K : Env → List AObj → Prop} {o : Oper} {r : List Oper} {i : Nat} {env₀ : Env} {H H' : List AObj} {hist hist' : List (Nat × List AObj)} {rs rs' : List (Nat × Oper × Env × AV)} {z : AV}
    (hp : effOp mu o = false → H' = H) (hz : DoesE P L mu all o env₀ H z H') (hr : ChainRes P L mu rid all K r (i + 1) (put o.dst z env₀) H' hist' rs')
    (hhist : ∀ x, x ∈ hist → x ∈ hist') (hrs : ∀ x, x ∈ rs → x ∈ rs') (heff : effOp mu o = true → H' = H ∨ (i, H) ∈ hist')
    (hst : effOp mu o = true → ∀ q p e y, (q, p, e, y) ∈ rs → mu.contains (raceCode rid q i) = true → vcOp P L mu p e H (fun x H'' => x = y ∧ H'' = H) → vcOp P L mu p e H' (fun x H'' => x = y ∧ H'' = H'))
    (hrd : effOp mu o = false → pureOp mu o = false → (∀ j₀ Hj, (j₀, Hj) ∈ hist → mu.contains (raceCode rid i j₀) = true → DoesE P L mu all o env₀ Hj z Hj) ∧
      ((∀ Hx, DoesE P L mu all o env₀ Hx z Hx) ∨ ∃ e, (i, o, e, z) ∈ rs' ∧ vcOp P L mu o e H (fun x H'' => x = z ∧ H'' = H) ∧ ∀ Hx, vcOp P L mu o e Hx (fun x H'' => x = z ∧ H'' = Hx) → DoesE P L mu all o env₀ Hx z Hx)) :
    ChainRes P L mu rid all K (o :: r) i env₀ H hist rs := by
  obtain ⟨zs, oh, env', h0, hpu, h1, h2, h3, h4, h5, h6, h7⟩ := hr
  have hoh : ∀ j, i < j → (fun j => if j = i then H else oh j) j = oh j := fun j hj => by simp only; rw [if_neg (by omega)]
  have hohs : ∀ j, (fun j => if j = i then H else oh j) (i + (j + 1)) = oh (i + 1 + j) := fun j => by rw [hoh _ (by omega), show i + (j + 1) = i + 1 + j by omega]
  have hoh0 : (fun j => if j = i then H else oh j) (i + 0) = H := by simp
  have hzss : ∀ j, (fun j => if j = i then z else zs j) (i + (j + 1)) = zs (i + 1 + j) := fun j => by simp only; rw [if_neg (by omega), show i + (j + 1) = i + 1 + j by omega]
  have hzs0 : (fun j => if j = i then z else zs j) (i + 0) = z := by simp
  have henv0 : envAt (fun j => decide (j < i + 0)) (fun j => if j = i then z else zs j) i (o :: r) env₀ = env₀ := envAt_none _ _ _ fun j _ => by simp
  have henvs : ∀ k, envAt (fun j => decide (j < i + (k + 1))) (fun j => if j = i then z else zs j) i (o :: r) env₀ = envAt (fun j => decide (j < i + 1 + k)) zs (i + 1) r (put o.dst z env₀) := fun k => by
    simp only [envAt, show i < i + (k + 1) by omega, decide_true, if_true]
    exact envAt_zs r (i + 1) _ fun j _ => ⟨by rw [if_neg (by omega)], by rw [show i + (k + 1) = i + 1 + k by omega]⟩
  refine ⟨fun j => if j = i then z else zs j, fun j => if j = i then H else oh j, env', by simp, fun k q e hq => ?_, fun k q e => ?_, fun t => ?_, ?_, fun q p e y hm hv m hml hmu => ?_, fun j₀ Hj hm k q e hq hq2 hc => ?_, fun k q e hq hq2 p hpk hmu => ?_, fun k q e hq hq2 p hpk hpl hmu => ?_⟩
  · cases k with
    | zero =>
      simp only [List.getElem?_cons_zero, Option.some.injEq] at e
      subst e
      rw [hoh0, show i + 0 + 1 = i + 1 from rfl, hoh (i + 1) (by omega), h0]
      exact hp hq
    | succ k =>
      rw [show i + (k + 1) + 1 = i + ((k + 1) + 1) by omega, hohs, hohs]
      have := hpu k q (by simpa using e) hq
      rwa [show i + 1 + (k + 1) = i + 1 + k + 1 by omega]
  · cases k with
    | zero =>
      simp only [List.getElem?_cons_zero, Option.some.injEq] at e
      subst e
      rw [henv0, hoh0, hzs0]
      rw [show i + 0 + 1 = i + 1 from rfl, hoh (i + 1) (by omega), h0]
      exact hz
    | succ k =>
      rw [henvs, hohs, hzss, show i + (k + 1) + 1 = i + ((k + 1) + 1) by omega, hohs]
      have := h1 k q (by simpa using e)
      rwa [show i + 1 + (k + 1) = i + 1 + k + 1 by omega]
  · have e1 : envAt (fun _ => true) (fun j => if j = i then z else zs j) i (o :: r) env₀ = envAt (fun _ => true) zs (i + 1) r (put o.dst z env₀) := by
      simp only [envAt, if_true]
      exact envAt_zs r (i + 1) _ fun j _ => ⟨by rw [if_neg (by omega)], rfl⟩
    rw [e1]
    exact h2 t
  · rw [List.length_cons, hohs]
    exact h3
  · cases m with
    | zero => rw [hoh0]; exact hv
    | succ m =>
      rw [hohs]
      refine h4 q p e y (hrs _ hm) ?_ m (by simpa using hml) fun j o' hj e' ho' => ?_
      · cases ho : effOp mu o with
        | false => rw [hp ho]; exact hv
        | true => exact hst ho q p e y hm (by have := hmu 0 o (by omega) rfl ho; simpa using this) hv
      · have := hmu (j + 1) o' (by omega) (by simpa using e') ho'
        rwa [show i + (j + 1) = i + 1 + j by omega] at this
  · cases k with
    | zero =>
      simp only [List.getElem?_cons_zero, Option.some.injEq] at e
      subst e
      rw [henv0, hzs0]
      exact (hrd hq hq2).1 j₀ Hj hm hc
    | succ k =>
      rw [henvs, hzss]
      exact h5 j₀ Hj (hhist _ hm) k q (by simpa using e) hq hq2 (by rwa [show i + 1 + k = i + (k + 1) by omega])
  · cases k with
    | zero =>
      simp only [List.getElem?_cons_zero, Option.some.injEq] at e
      subst e
      obtain rfl : p = 0 := by omega
      rw [henv0, hzs0, hoh0]
      rw [hp hq] at hz
      exact hz
    | succ k =>
      rw [henvs, hzss]
      have sub : ∀ p', p ≤ p' + 1 → ∀ j o', p' ≤ j → j < k → r[j]? = some o' → effOp mu o' = true → mu.contains (raceCode rid (i + 1 + k) (i + 1 + j)) = true := fun p' hp' j o' h8 h9 e' ho' => by
        have := hmu (j + 1) o' (by omega) (by omega) (by simpa using e') ho'
        rwa [show i + 1 + k = i + (k + 1) by omega, show i + 1 + j = i + (j + 1) by omega]
      cases p with
      | succ p =>
        rw [hohs]
        exact h6 k q (by simpa using e) hq hq2 p (by omega) (sub p (by omega))
      | zero =>
        rw [hoh0]
        have same : H' = H → DoesE P L mu all q (envAt (fun j => decide (j < i + 1 + k)) zs (i + 1) r (put o.dst z env₀)) H (zs (i + 1 + k)) H := fun hH => by
          have := h6 k q (by simpa using e) hq hq2 0 (by omega) (sub 0 (by omega))
          rw [Nat.add_zero, h0, hH] at this
          exact this
        cases ho : effOp mu o with
        | false => exact same (hp ho)
        | true =>
          rcases heff ho with hH | hH
          · exact same hH
          · have hc := hmu 0 o (by omega) (by omega) rfl ho
            rw [Nat.add_zero] at hc
            exact h5 i H hH k q (by simpa using e) hq hq2 (by rwa [show i + 1 + k = i + (k + 1) by omega])
  · cases k with
    | zero =>
      simp only [List.getElem?_cons_zero, Option.some.injEq] at e
      subst e
      rw [henv0, hzs0]
      cases p with
      | zero =>
        rw [hoh0]
        rw [hp hq] at hz
        exact hz
      | succ p =>
        rw [hohs]
        rcases (hrd hq hq2).2 with hall | ⟨e1, hm, hv, hk⟩
        · exact hall _
        · refine hk _ (h4 i o e1 z hm ?_ p (by simpa using hpl) fun j o' hj e' ho' => ?_)
          · rw [hp hq]; exact hv
          · have := hmu (j + 1) o' (by omega) (by omega) (by simpa using e') ho'
            rw [Nat.add_zero] at this
            rwa [show i + (j + 1) = i + 1 + j by omega] at this
    | succ k =>
      rw [henvs, hzss]
      cases p with
      | zero => omega
      | succ p =>
        rw [hohs]
        refine h7 k q (by simpa using e) hq hq2 p (by omega) (by simpa using hpl) fun j o' h8 h9 e' ho' => ?_
        have := hmu (j + 1) o' (by omega) (by omega) (by simpa using e') ho'
        rwa [show i + 1 + k = i + (k + 1) by omega, show i + 1 + j = i + (j + 1) by omega]
theorem vcChain_sound {P : Program} {L : Tab} {mu : List Nat} {rid : Nat} {all : List Oper} {K : Env → List AObj → Prop} (r : List Oper) : ∀ (i : Nat) (env env₀ : Env) (H : List AObj) (hist : List (Nat × List AObj)) (rs : List (Nat × Oper × Env × AV)), (∀ t, get env t = get env₀ t) → vcChain P L mu rid all i r env H hist rs K → ChainRes P L mu rid all K r i env₀ H hist rs := by
  induction r with
  | nil =>
    intro i env env₀ H hist rs he h
    exact ⟨fun _ => .any, fun _ => H, env, rfl, fun k o e => by simp at e, fun k o e => by simp at e, fun t => (he t).symm, h, fun q o e z _ hv p _ _ => hv, fun j₀ Hj _ k o e => by simp at e, fun k o e => by simp at e, fun k o e => by simp at e⟩
  | cons o r ih =>
    intro i env env₀ H hist rs he h
    have hq : ∀ env₁ z H H', (∀ t, get env₁ t = get env₀ t) → vcOp P L mu o env₁ H (fun x H'' => x = z ∧ H'' = H') → vcOp P L mu o env₀ H (fun x H'' => x = z ∧ H'' = H') := fun env₁ z H H' he₁ hz => by
      rwa [← vcOp_congr (env := env₁) fun x _ t _ => he₁ t]
    -- it is carried out
    have run : ∀ env₁, (∀ t, get env₁ t = get env₀ t) → (∀ Hx Hy z, vcOp P L mu o env₀ Hx (fun x H'' => x = z ∧ H'' = Hy) → DoesE P L mu all o env₀ Hx z Hy) →
        (vcOpE P L mu o env₁ H fun z H' => vcNext P L mu rid i o env₁ H z H' hist rs fun hist' rs' => vcChain P L mu rid all (i + 1) r (put o.dst z env₁) H' hist' rs' K) → ChainRes P L mu rid all K (o :: r) i env₀ H hist rs := fun env₁ he₁ hdo h => by
      obtain ⟨z, H', hz, hk⟩ := vcOpE_sound h
      unfold vcNext at hk
      cases ho : effOp mu o with
      | true =>
        rw [if_pos ho] at hk
        exact chainRes_cons (fun e => by rw [ho] at e; cases e) (hdo _ _ _ (hq env₁ z H H' he₁ hz)) (ih (i + 1) _ _ H' _ _ (fun t => by rw [get_put, get_put, he₁ t]) hk.2) (fun x hx => List.mem_cons_of_mem _ hx) (fun x hx => hx) (fun _ => .inr (List.mem_cons_self ..)) (fun _ q p e y hm hc _ => staysAll_get hk.1 q p e y hm hc) (fun e => by rw [ho] at e; cases e)
      | false =>
        rw [if_neg (by rw [ho]; simp)] at hk
        cases hpu : pureOp mu o with
        | true =>
          rw [if_pos hpu] at hk
          exact chainRes_cons (fun _ => pure_same hpu hz) (hdo _ _ _ (hq env₁ z H H' he₁ hz)) (ih (i + 1) _ _ H' _ _ (fun t => by rw [get_put, get_put, he₁ t]) hk) (fun x hx => hx) (fun x hx => hx) (fun e => by rw [ho] at e; cases e) (fun e => by rw [ho] at e; cases e) (fun _ e => by rw [hpu] at e; cases e)
        | false =>
          rw [if_neg (by rw [hpu]; simp)] at hk
          obtain ⟨rfl, hw, hk⟩ := hk
          refine chainRes_cons (fun _ => rfl) (hdo _ _ _ (hq env₁ z H' H' he₁ hz)) (ih (i + 1) _ _ H' _ _ (fun t => by rw [get_put, get_put, he₁ t]) hk) (fun x hx => hx) (fun x hx => List.mem_cons_of_mem _ hx) (fun e => by rw [ho] at e; cases e) (fun e => by rw [ho] at e; cases e) (fun _ _ => ⟨fun j₀ Hj hm hc => hdo _ _ _ (hq env₁ z Hj Hj he₁ (wasAll_get hw j₀ Hj hm hc)), .inr ⟨env₁, List.mem_cons_self .., hz, fun Hx hx => hdo _ _ _ (hq env₁ z Hx Hx he₁ hx)⟩⟩)
    -- it is passed over
    have skip : ∀ env₁, (∀ t, get env₁ t = get env₀ t) → (∀ Hx, DoesE P L mu all o env₀ Hx (.lit undef) Hx) → vcChain P L mu rid all (i + 1) r (put o.dst (.lit undef) env₁) H hist rs K → ChainRes P L mu rid all K (o :: r) i env₀ H hist rs := fun env₁ he₁ hdo h =>
      chainRes_cons (z := .lit undef) (hist' := hist) (rs' := rs) (fun _ => rfl) (hdo H) (ih (i + 1) _ _ H hist rs (fun t => by rw [get_put, get_put, he₁ t]) h) (fun x hx => hx) (fun x hx => hx) (fun _ => .inl rfl) (fun _ q p e y _ _ hv => hv) (fun _ _ => ⟨fun _ Hj _ _ => hdo Hj, .inl hdo⟩)
    unfold vcChain at h
    cases hg : o.guard with
    | none =>
      rw [hg] at h
      exact run env he (fun Hx Hy z hz => by unfold DoesE; rw [hg]; exact hz) h
    | some jw =>
      obtain ⟨j, want⟩ := jw
      rw [hg] at h
      simp only [vcGuard] at h
      split at h
      · rename_i b hb
        have hb0 : gval all env₀ j = .lit (.bool b) := by rw [← gval_congr he]; exact hb
        by_cases e : b = want
        · subst e
          have he₁ : ∀ t, get (known1 all j b env) t = get env₀ t := fun t => (get_known hb t).trans (he t)
          exact run _ he₁ (fun Hx Hy z hz => by unfold DoesE; rw [hg]; exact .inl ⟨b, hb0, .inl ⟨rfl, hz⟩⟩) (h.1 rfl)
        · have hbn : b = !want := by cases b <;> cases want <;> simp_all
          have he₁ : ∀ t, get (known1 all j (!want) env) t = get env₀ t := fun t => (get_known (hbn ▸ hb) t).trans (he t)
          exact skip _ he₁ (fun Hx => by unfold DoesE; rw [hg]; exact .inl ⟨b, hb0, .inr ⟨e, rfl, rfl⟩⟩) (h.2 e)
      · rename_i ar hb
        exact skip env he (fun Hx => by unfold DoesE; rw [hg]; exact .inr ⟨ar, by rw [← gval_congr he]; exact hb, rfl, rfl⟩) h
      · exact h.elim
theorem befores_lt {ops : List Oper} (hdr : drawOk ops = true) {i j : Nat} {o : Oper} (e : ops[i]? = some o) (h : j ∈ (befores ops []).getD i []) : j < i := by
  have hord : ∀ (i : Nat) o, ops[i]? = some o → ∀ e ∈ o.after.toList, Region.binds .any e = true → e.on < i := fun i o e => by
    have := (allOrdered_spec ops 0 hdr i o e).2
    rwa [Nat.zero_add] at this
  have hp : Past ops (fun k => decide (k < i)) := fun k o' ek hk e' he' hb => by
    have h1 : k < i := by simpa using hk
    have := hord k o' ek e' he' hb
    simp only [decide_eq_true_eq]
    omega
  have := befores_spec hp ops [] [] rfl rfl (fun i j o hi => by simp at hi) i j o h e (fun e' he' hb => by have := hord i o e e' he' hb; simpa using this)
  simpa using this
theorem aw_region_chain {P : Program} {L : Tab} (hL : TabOk P L) (hm : P.follows .mixedOrders = true) (mu : List Nat) {n : Nat} {rid : Nat} {ops : List Oper} (hops : dstsOk n ops = true) (hdr : drawOk ops = true) (hch : chainOk rid mu ops = true) {Q : Exit → Env → List AObj → Prop} {env : Env} {H : List AObj}
    (h : vcChain P L mu rid ops 0 ops env H [] [] (Q .normal)) : AW P n (.region rid ops.toArray true) Q env H := by
  obtain ⟨zs, oh, env', h0, hpu, h1, h2, h3, _, _, h6, h7⟩ := vcChain_sound ops 0 env env H [] [] (fun _ => rfl) h
  simp only [Nat.zero_add] at hpu h1 h3 h6 h7
  refine aw_region_chain_ hL hm mu hops hdr hch zs oh h0 hpu (fun i o e ho m hml hA hB => ?_) h1 env' h2 h3
  cases hp : pureOp mu o with
  | true =>
    have := h1 i o e
    rw [hpu i o e ho] at this
    exact doesE_pure hp this
  | false =>
    rcases Nat.lt_or_ge i m with him | him
    · refine h7 i o e ho hp m (by omega) hml fun j o' hij hjm e' ho' => ?_
      rcases chainOk_race hch e e' (by omega) ho hp ho' with h8 | h8 | h8
      · exfalso
        have := befores_lt hdr e h8
        omega
      · exact absurd h8 (hB j o' e' ho' hij hjm)
      · exact h8
    · refine h6 i o e ho hp m him fun j o' hmj hji e' ho' => ?_
      rcases chainOk_race hch e e' (by omega) ho hp ho' with h8 | h8 | h8
      · exact absurd h8 (hA j o' e' ho' hmj hji)
      · exfalso
        have := befores_lt hdr e' h8
        omega
      · exact h8

end Go.Proofs.YtdahdbnfknmmgaaGreatDoor.V
end

section
set_option linter.unusedSimpArgs false
set_option linter.unusedVariables false
namespace Go.Proofs.YtdahdbnfknmmgaaGreatDoor.V
open Go

/-- A branch. -/
def vcIf (c : AV) (a b : Prop) [Tag a] [Tag b] : Prop :=
  match c with
  | .lit (.bool t) => (t = true → a) ∧ (t = false → b)
  | _ => False
theorem vcIf_true {a b : Prop} : vcIf (.lit (.bool true)) a b = a := by simp [vcIf]
theorem vcIf_false {a b : Prop} : vcIf (.lit (.bool false)) a b = b := by simp [vcIf]
theorem vcIf_bool {t : Bool} {a b : Prop} : vcIf (.lit (.bool t)) a b = ((t = true → Hold a) ∧ (t = false → Hold b)) := by rw [hold_eq, hold_eq]; rfl
/-- Code. Loops stand as they are. -/
def vcC (P : Program) (L : Tab) (mu : List Nat) (n : Nat) : Code → (Exit → Env → List AObj → Prop) → Env → List AObj → Prop
  | .skip, Q, env, H => Q .normal env H
  | .seq x y, Q, env, H => vcC P L mu n x (Ex (fun env H => vcC P L mu n y Q env H) Q) env H
  | .cond c x y, Q, env, H => vcIf (ev env c) (vcC P L mu n x Q env H) (vcC P L mu n y Q env H)
  | .block id c, Q, env, H => vcC P L mu n c (InB id Q) env H
  | .exit id, Q, env, H => Q (.exit id) env H
  | .ret, Q, env, H => Q .ret env H
  | .region _ ops false, Q, env, H => vcOps P L mu ops.toList ops.toList env H (Q .normal)
  | .region id ops true, Q, env, H => if mu.contains (1000000 + id) then vcChain P L mu id ops.toList 0 ops.toList env H [] [] (Q .normal) else vcDraw P L ops.toList ops.toList env H (Q .normal)
  | c, Q, env, H => AW P n c Q env H
/-- What is asked of the code itself. -/
def okC (mu : List Nat) (n : Nat) : Code → Bool
  | .seq x y => okC mu n x && okC mu n y
  | .cond _ x y => okC mu n x && okC mu n y
  | .block _ c => okC mu n c
  | .region id ops d => dstsOk n ops.toList && (!d || (drawOk ops.toList && (!mu.contains (1000000 + id) || chainOk id mu ops.toList)))
  | _ => true
theorem vcC_sound {P : Program} {L : Tab} (hL : TabOk P L) (hm : P.follows .mixedOrders = true) {mu : List Nat} {n : Nat} : ∀ (c : Code) {Q : Exit → Env → List AObj → Prop} {env : Env} {H : List AObj}, okC mu n c = true → vcC P L mu n c Q env H → AW P n c Q env H
  | .skip, _, _, _, _, h => aw_skip h
  | .seq x y, Q, env, H, ho, h => by
    simp only [okC, Bool.and_eq_true] at ho
    exact aw_seq_ ((vcC_sound hL hm x ho.1 h).mono fun e env' H' q => by
      cases e with
      | normal => exact vcC_sound hL hm y ho.2 q
      | _ => exact q)
  | .cond c x y, Q, env, H, ho, h => by
    simp only [okC, Bool.and_eq_true] at ho
    simp only [vcC, vcIf] at h
    split at h
    · rename_i t ht
      exact aw_cond ht (fun e => vcC_sound hL hm x ho.1 (h.1 e)) (fun e => vcC_sound hL hm y ho.2 (h.2 e))
    · exact h.elim
  | .block id c, Q, env, H, ho, h => aw_block (vcC_sound hL hm c ho h)
  | .exit id, _, _, _, _, h => aw_exit h
  | .ret, _, _, _, _, h => aw_ret h
  | .region id ops false, Q, env, H, ho, h => by
    simp only [okC, Bool.and_eq_true] at ho
    have := aw_region hL mu (id := id) (ops := ops.toList) ho.1 h
    simpa using this
  | .region id ops true, Q, env, H, ho, h => by
    simp only [okC, Bool.and_eq_true] at ho
    have ho2 : drawOk ops.toList = true ∧ (mu.contains (1000000 + id) = true → chainOk id mu ops.toList = true) := by
      have := ho.2
      simp only [Bool.not_true, Bool.false_or, Bool.and_eq_true, Bool.or_eq_true, Bool.not_eq_true'] at this
      refine ⟨this.1, fun e => ?_⟩
      rcases this.2 with h' | h'
      · rw [e] at h'; cases h'
      · exact h'
    unfold vcC at h
    split at h
    · rename_i hm'
      have := aw_region_chain hL hm mu (rid := id) (ops := ops.toList) ho.1 ho2.1 (ho2.2 hm') h
      simpa using this
    · have := aw_region_draw hL hm (rid := id) (ops := ops.toList) ho.1 ho2.1 h
      simpa using this
  | .loop c, _, _, _, _, h => h
  | .rangeFunc _ _ _ _, _, _, _, _, h => h
  | .scope _, _, _, _, _, h => h
  | .label _, _, _, _, _, h => h
  | .goto _, _, _, _, _, h => h
  | .refuse _, _, _, _, _, h => h


/-- The whole: a contract from the verification condition. -/
theorem acalls_vc {P : Program} {L : Tab} (hL : TabOk P L) (hm : P.follows .mixedOrders = true) (mu : List Nat) {f : FuncId} {fn : Func} {c : Code} {n : Nat} {rs : List ResultVar} {args : List AV} {H : List AObj} {R : AV → List AObj → Prop} (hf : P.funcs[f]? = some fn) (hb : fn.body = some c) (hname : (fn.name == "runtime.NumGoroutine") = false) (hn : fn.ntmps = n)
    (hrs : fn.results.toList = rs) (hargs : args.length ≤ n) (ho : okC mu n c = true) (h : vcC P L mu n c (BodyQ L rs H R) (initEnv 0 args) H) : ACalls P f args H R :=
  acalls_of_aw hL hf hb hname hn hrs hargs (vcC_sound hL hm c ho h)
end Go.Proofs.YtdahdbnfknmmgaaGreatDoor.V
end

section
set_option linter.unusedSimpArgs false
set_option linter.unusedVariables false
namespace Go.Proofs.YtdahdbnfknmmgaaGreatDoor.V
open Go
variable {ds : List Deferred}
section
variable {P : Program} {L : Tab} {mu : List Nat} {n : Nat} {Q : Exit → Env → List AObj → Prop} {env : Env} {H : List AObj} {all rest : List Oper} {K : Env → List AObj → Prop} {J : AV → List AObj → Prop} {D : AV → Prop}
def vcNew (b : Option Nat) (t : TypeId) (zs : List AV) (H : List AObj) (K : AV → List AObj → Prop) [Tag K] : Prop :=
  match b with
  | none => K (.mp H.length 0) (H ++ [.cells (.one t) zs])
  | some u => K (.mp H.length 0) (H ++ [.cells (.one t) (mintNil (H.length + 1) zs), .grow 1 0 (some u)])
theorem new_none {t : TypeId} {zs : List AV} : vcNew none t zs H J = J (.mp H.length 0) (H ++ [.cells (.one t) zs]) := rfl
theorem new_some {u t : Nat} {zs : List AV} : vcNew (some u) t zs H J = J (.mp H.length 0) (H ++ [.cells (.one t) (mintNil (H.length + 1) zs), .grow 1 0 (some u)]) := rfl
theorem c_skip : vcC P L mu n .skip Q env H = Q .normal env H := rfl
theorem c_seq {x y : Code} : vcC P L mu n (.seq x y) Q env H = vcC P L mu n x (Ex (fun env H => vcC P L mu n y Q env H) Q) env H := rfl
theorem c_cond {c : Operand} {x y : Code} : vcC P L mu n (.cond c x y) Q env H = vcIf (ev env c) (vcC P L mu n x Q env H) (vcC P L mu n y Q env H) := rfl
theorem c_block {id : Nat} {c : Code} : vcC P L mu n (.block id c) Q env H = vcC P L mu n c (InB id Q) env H := rfl
theorem c_exit {id : Nat} : vcC P L mu n (.exit id) Q env H = Q (.exit id) env H := rfl
theorem c_ret : vcC P L mu n .ret Q env H = Q .ret env H := rfl
theorem c_region {id : Nat} {ops : List Oper} : vcC P L mu n (.region id ops.toArray false) Q env H = vcOps P L mu ops ops env H (Q .normal) := by show vcOps P L mu ops.toArray.toList ops.toArray.toList env H (Q .normal) = _; simp
theorem c_draw {id : Nat} {ops : List Oper} : vcC P L mu n (.region id ops.toArray true) Q env H = if mu.contains (1000000 + id) then vcChain P L mu id ops 0 ops env H [] [] (Q .normal) else vcDraw P L ops ops env H (Q .normal) := by show (if mu.contains (1000000 + id) then vcChain P L mu id ops.toArray.toList 0 ops.toArray.toList env H [] [] (Q .normal) else vcDraw P L ops.toArray.toList ops.toArray.toList env H (Q .normal)) = _; simp
theorem c_loop {c : Code} : vcC P L mu n (.loop c) Q env H = AW P n (.loop c) Q env H := rfl
theorem ex_normal : Ex K Q .normal env H = K env H := rfl
theorem ex_exit {id : Nat} : Ex K Q (.exit id) env H = Q (.exit id) env H := rfl
theorem ex_ret : Ex K Q .ret env H = Q .ret env H := rfl
theorem in_normal {id : Nat} : InB id Q .normal env H = Q .normal env H := rfl
theorem in_exit {id id' : Nat} : InB id Q (.exit id') env H = if id' = id then Q .normal env H else Q (.exit id') env H := rfl
theorem in_ret {id : Nat} : InB id Q .ret env H = Q .ret env H := rfl
theorem b_ret {rs : List ResultVar} {H₀ : List AObj} {R : AV → List AObj → Prop} : BodyQ L rs H₀ R .ret env H = Fin L rs H₀ R env H := rfl
theorem b_normal {rs : List ResultVar} {H₀ : List AObj} {R : AV → List AObj → Prop} : BodyQ L rs H₀ R .normal env H = Fin L rs H₀ R env H := rfl
theorem o_nil : vcOps P L mu all [] env H K = K env H := rfl
theorem o_cons {d : Option Tmp} {op : Op} {ty : TypeId} {pos : String} {af : Array Edge} : vcOps P L mu all (⟨d, op, ty, pos, af, none⟩ :: rest) env H K = vcOp P L mu ⟨d, op, ty, pos, af, none⟩ env H fun v H' => vcOps P L mu all rest (put d v env) H' K := rfl
theorem o_guard {d : Option Tmp} {op : Op} {ty : TypeId} {pos : String} {af : Array Edge} {j : Nat} {b : Bool} : vcOps P L mu all (⟨d, op, ty, pos, af, some (j, b)⟩ :: rest) env H K =
    vcGuard (gval all env j) b (vcOp P L mu ⟨d, op, ty, pos, af, some (j, b)⟩ (known1 all j b env) H fun v H' => vcOps P L mu all rest (put d v (known1 all j b env)) H' K) (vcOps P L mu all rest (put d (.lit undef) (known1 all j (!b) env)) H K) (vcOps P L mu all rest (put d (.lit undef) env) H K) := rfl
theorem d_nil : vcDraw P L all [] env H K = K env H := rfl
theorem d_cons {d : Option Tmp} {op : Op} {ty : TypeId} {pos : String} {af : Array Edge} : vcDraw P L all (⟨d, op, ty, pos, af, none⟩ :: rest) env H K = vcOpD P L ⟨d, op, ty, pos, af, none⟩ env H fun v => vcDraw P L all rest (put d v env) H K := rfl
theorem d_guard {d : Option Tmp} {op : Op} {ty : TypeId} {pos : String} {af : Array Edge} {j : Nat} {b : Bool} : vcDraw P L all (⟨d, op, ty, pos, af, some (j, b)⟩ :: rest) env H K =
    vcGuard (gval all env j) b (vcOpD P L ⟨d, op, ty, pos, af, some (j, b)⟩ (known1 all j b env) H fun v => vcDraw P L all rest (put d v (known1 all j b env)) H K) (vcDraw P L all rest (put d (.lit undef) (known1 all j (!b) env)) H K) (vcDraw P L all rest (put d (.lit undef) env) H K) := rfl
theorem gv_zero {d : Tmp} {op : Op} {ty : TypeId} {pos : String} {af : Array Edge} {g : Option (Nat × Bool)} : gval (⟨some d, op, ty, pos, af, g⟩ :: rest) env 0 = get env d := rfl
theorem gv_succ {o : Oper} {j : Nat} : gval (o :: rest) env (j + 1) = gval rest env j := rfl
section
variable {d : Option Tmp} {ty : TypeId} {pos : String} {af : Array Edge} {g : Option (Nat × Bool)}
theorem op_move {x : Operand} : vcOp P L mu ⟨d, .move x, ty, pos, af, g⟩ env H J = lift (qTrue (ev env x)) J H := rfl
theorem op_assign {x : Operand} : vcOp P L mu ⟨d, .assign x, ty, pos, af, g⟩ env H J = lift (qTrue (ev env x)) J H := rfl
theorem op_pick {a b c : Operand} : vcOp P L mu ⟨d, .pick a b c, ty, pos, af, g⟩ env H J = lift (qPick (ev env a) (ev env b) (ev env c)) J H := rfl
theorem op_bin {op : BinOp} {t t' : TypeId} {x y : Operand} : vcOp P L mu ⟨d, .binOp op t x y t', ty, pos, af, g⟩ env H J = if nilCmp y then vcNil L op t (ev env x) H J else lift (qBin L op t (isConst y) (ev env x) (ev env y)) J H := rfl
theorem op_un {op : UnOp} {t : TypeId} {x : Operand} : vcOp P L mu ⟨d, .unOp op t x, ty, pos, af, g⟩ env H J = lift (qUn' op (ev env x)) J H := rfl
theorem op_conv {s t : TypeId} {x : Operand} : vcOp P L mu ⟨d, .convert s t x, ty, pos, af, g⟩ env H J = if mu.contains (d.getD 0) then vcBytes L s t (ev env x) H J else lift (qConvH P L H s t (ev env x)) J H := rfl
theorem op_extract {x : Operand} {i : Nat} : vcOp P L mu ⟨d, .extract x i, ty, pos, af, g⟩ env H J = lift (qExtract (ev env x) i) J H := rfl
theorem op_indexAddr {t : TypeId} {x i : Operand} : vcOp P L mu ⟨d, .indexAddr t x i, ty, pos, af, g⟩ env H J = lift (qIndexAddr L t (ev env x) (ev env i)) J H := rfl
theorem op_index {t : TypeId} {x i : Operand} : vcOp P L mu ⟨d, .index t x i, ty, pos, af, g⟩ env H J = lift (qIndex L t (ev env x) (ev env i)) J H := rfl
theorem op_load {t : TypeId} {x : Operand} : vcOp P L mu ⟨d, .load t x, ty, pos, af, g⟩ env H J = lift (qLoad L H t (ev env x)) J H := rfl
theorem op_slice {t : TypeId} {x : Operand} {lo hi mx : Option Operand} : vcOp P L mu ⟨d, .slice t x lo hi mx, ty, pos, af, g⟩ env H J = lift (qSlice L t (ev env x) (evO env lo) (evO env hi) (evO env mx)) J H := rfl
theorem op_fieldAddr {t : TypeId} {x : Operand} {f : Nat} : vcOp P L mu ⟨d, .fieldAddr t x f, ty, pos, af, g⟩ env H J = lift (qFieldAddr L t (ev env x) f) J H := rfl
theorem op_field {t : TypeId} {x : Operand} {f : Nat} : vcOp P L mu ⟨d, .field t x f, ty, pos, af, g⟩ env H J = lift (qField L t (ev env x) f) J H := rfl
theorem op_build {t : TypeId} {ps : Array (Nat × Operand)} : vcOp P L mu ⟨d, .build t ps, ty, pos, af, g⟩ env H J = lift (qBuild L t (evParts env ps)) J H := rfl
theorem op_buildSlice {t : TypeId} {len : Nat} {ps : Array (Nat × Operand)} : vcOp P L mu ⟨d, .buildSlice t len ps, ty, pos, af, g⟩ env H J = if mu.contains (d.getD 0) then vcBuildM L t len (evParts env ps) H J else if len = 0 ∧ ps.size ≠ 0 then False else lift (qBuildSlice L t len (evParts env ps)) J H := rfl
theorem op_box {t : TypeId} {x : Operand} : vcOp P L mu ⟨d, .box t x, ty, pos, af, g⟩ env H J = if mu.contains (d.getD 0) then vcMut t (ev env x) H J else lift (qBox (ev env x)) J H := rfl
theorem op_alloc {t : TypeId} : vcOp P L mu ⟨d, .alloc t, ty, pos, af, g⟩ env H J = (known (L t) = true ∧ vcNew (bufOf mu (d.getD 0)) t (L t).zero H J) := by unfold vcOp vcNew; rfl
theorem op_store {t : TypeId} {a x : Operand} : vcOp P L mu ⟨d, .store t a x, ty, pos, af, g⟩ env H J = vcStore L t (ev env a) (ev env x) H J := rfl
theorem op_callv {f : Operand} {az : Array Operand} {ts : Array TypeId} : vcOp P L mu ⟨d, .call ⟨.value f, az, ts⟩, ty, pos, af, g⟩ env H J = vcCall P (ev env f) (az.toList.map (ev env)) H J := rfl
theorem op_callb {b : Builtin} {az : Array Operand} {ts : Array TypeId} : vcOp P L mu ⟨d, .call ⟨.builtin b, az, ts⟩, ty, pos, af, g⟩ env H J = vcBuiltin (mu.contains (d.getD 0)) L b (az.toList.map (ev env)) ts.toList H J := rfl
theorem op_nilCheck {x : Operand} : vcOp P L mu ⟨d, .nilCheck x, ty, pos, af, g⟩ env H J = lift (qNil (ev env x)) J H := rfl
theorem op_makeFunc {f : Fn} {fs cs : Array Operand} : vcOp P L mu ⟨d, .makeFunc f fs cs, ty, pos, af, g⟩ env H J = lift (qTrue (.fn f (fs.toList.map (ev env)) (cs.toList.map (ev env)))) J H := rfl
theorem op_makeSlice {t : TypeId} {x y : Operand} : vcOp P L mu ⟨d, .makeSlice t x y, ty, pos, af, g⟩ env H J = vcMake L t (ev env x) (ev env y) H J := rfl
theorem op_makeInterface {t : TypeId} {x : Operand} : vcOp P L mu ⟨d, .makeInterface t x, ty, pos, af, g⟩ env H J = lift (qIface L t (ev env x)) J H := rfl
theorem op_toArr {t : TypeId} {x : Operand} : vcOp P L mu ⟨d, .sliceToArrayPointer t x, ty, pos, af, g⟩ env H J = lift (qToArr L t (ev env x)) J H := rfl
theorem od_move {x : Operand} : vcOpD P L ⟨d, .move x, ty, pos, af, g⟩ env H D = liftD (qTrue (ev env x)) D := rfl
theorem od_assign {x : Operand} : vcOpD P L ⟨d, .assign x, ty, pos, af, g⟩ env H D = liftD (qTrue (ev env x)) D := rfl
theorem od_pick {a b c : Operand} : vcOpD P L ⟨d, .pick a b c, ty, pos, af, g⟩ env H D = liftD (qPick (ev env a) (ev env b) (ev env c)) D := rfl
theorem od_bin {op : BinOp} {t t' : TypeId} {x y : Operand} : vcOpD P L ⟨d, .binOp op t x y t', ty, pos, af, g⟩ env H D = liftD (if nilCmp y then none else qBin L op t (isConst y) (ev env x) (ev env y)) D := rfl
theorem od_un {op : UnOp} {t : TypeId} {x : Operand} : vcOpD P L ⟨d, .unOp op t x, ty, pos, af, g⟩ env H D = liftD (qUn' op (ev env x)) D := rfl
theorem od_conv {s t : TypeId} {x : Operand} : vcOpD P L ⟨d, .convert s t x, ty, pos, af, g⟩ env H D = liftD (qConvH P L H s t (ev env x)) D := rfl
theorem od_extract {x : Operand} {i : Nat} : vcOpD P L ⟨d, .extract x i, ty, pos, af, g⟩ env H D = liftD (qExtract (ev env x) i) D := rfl
theorem od_indexAddr {t : TypeId} {x i : Operand} : vcOpD P L ⟨d, .indexAddr t x i, ty, pos, af, g⟩ env H D = liftD (qIndexAddr L t (ev env x) (ev env i)) D := rfl
theorem od_index {t : TypeId} {x i : Operand} : vcOpD P L ⟨d, .index t x i, ty, pos, af, g⟩ env H D = liftD (qIndex L t (ev env x) (ev env i)) D := rfl
theorem od_load {t : TypeId} {x : Operand} : vcOpD P L ⟨d, .load t x, ty, pos, af, g⟩ env H D = liftD (qLoad L H t (ev env x)) D := rfl
theorem od_slice {t : TypeId} {x : Operand} {lo hi mx : Option Operand} : vcOpD P L ⟨d, .slice t x lo hi mx, ty, pos, af, g⟩ env H D = liftD (qSlice L t (ev env x) (evO env lo) (evO env hi) (evO env mx)) D := rfl
theorem od_fieldAddr {t : TypeId} {x : Operand} {f : Nat} : vcOpD P L ⟨d, .fieldAddr t x f, ty, pos, af, g⟩ env H D = liftD (qFieldAddr L t (ev env x) f) D := rfl
theorem od_field {t : TypeId} {x : Operand} {f : Nat} : vcOpD P L ⟨d, .field t x f, ty, pos, af, g⟩ env H D = liftD (qField L t (ev env x) f) D := rfl
theorem od_build {t : TypeId} {ps : Array (Nat × Operand)} : vcOpD P L ⟨d, .build t ps, ty, pos, af, g⟩ env H D = liftD (qBuild L t (evParts env ps)) D := rfl
theorem od_buildSlice {t : TypeId} {len : Nat} {ps : Array (Nat × Operand)} : vcOpD P L ⟨d, .buildSlice t len ps, ty, pos, af, g⟩ env H D = if len = 0 ∧ ps.size ≠ 0 then False else liftD (qBuildSlice L t len (evParts env ps)) D := rfl
theorem od_box {t : TypeId} {x : Operand} : vcOpD P L ⟨d, .box t x, ty, pos, af, g⟩ env H D = liftD (qBox (ev env x)) D := rfl
theorem od_nilCheck {x : Operand} : vcOpD P L ⟨d, .nilCheck x, ty, pos, af, g⟩ env H D = liftD (qNil (ev env x)) D := rfl
theorem od_makeFunc {f : Fn} {fs cs : Array Operand} : vcOpD P L ⟨d, .makeFunc f fs cs, ty, pos, af, g⟩ env H D = liftD (qTrue (.fn f (fs.toList.map (ev env)) (cs.toList.map (ev env)))) D := rfl
theorem od_makeInterface {t : TypeId} {x : Operand} : vcOpD P L ⟨d, .makeInterface t x, ty, pos, af, g⟩ env H D = liftD (qIface L t (ev env x)) D := rfl
theorem od_toArr {t : TypeId} {x : Operand} : vcOpD P L ⟨d, .sliceToArrayPointer t x, ty, pos, af, g⟩ env H D = liftD (qToArr L t (ev env x)) D := rfl
theorem od_callv {f : Operand} {az : Array Operand} {ts : Array TypeId} : vcOpD P L ⟨d, .call ⟨.value f, az, ts⟩, ty, pos, af, g⟩ env H D = vcCallD P (ev env f) (az.toList.map (ev env)) H D := rfl
theorem od_callb {b : Builtin} {az : Array Operand} {ts : Array TypeId} : vcOpD P L ⟨d, .call ⟨.builtin b, az, ts⟩, ty, pos, af, g⟩ env H D = vcBuiltinD L H b (az.toList.map (ev env)) ts.toList D := rfl
end
theorem call_fn {f : FuncId} {fs cs args : List AV} : vcCall P (.fn (.func f) fs cs) args H J = ACalls P f (fs ++ args ++ cs) H J := rfl
theorem call_yld {k : Nat} {args : List AV} : vcCall P (.yld k) args H J = AYields P k args H J := rfl
theorem call_fn0 {f : FuncId} {args : List AV} : vcCall P (.fn (.func f) [] []) args H J = ACalls P f args H J := by show ACalls P f ([] ++ args ++ []) H J = _; simp
theorem calld_fn0 {f : FuncId} {args : List AV} : vcCallD P (.fn (.func f) [] []) args H D = ∃ z, ACalls P f args H (fun x H' => x = z ∧ H' = H) ∧ Hold (D z) := by show (∃ z, ACalls P f ([] ++ args ++ []) H (fun x H' => x = z ∧ H' = H) ∧ D z) = _; simp [hold_eq]
section
variable {d : Option Tmp} {ty : TypeId} {pos : String} {af : Array Edge} {g : Option (Nat × Bool)}
theorem oe_move {x : Operand} : vcOpE P L mu ⟨d, .move x, ty, pos, af, g⟩ env H J = vcOp P L mu ⟨d, .move x, ty, pos, af, g⟩ env H J := rfl
theorem oe_assign {x : Operand} : vcOpE P L mu ⟨d, .assign x, ty, pos, af, g⟩ env H J = vcOp P L mu ⟨d, .assign x, ty, pos, af, g⟩ env H J := rfl
theorem oe_pick {a b c : Operand} : vcOpE P L mu ⟨d, .pick a b c, ty, pos, af, g⟩ env H J = vcOp P L mu ⟨d, .pick a b c, ty, pos, af, g⟩ env H J := rfl
theorem oe_unOp {op : UnOp} {t : TypeId} {x : Operand} : vcOpE P L mu ⟨d, .unOp op t x, ty, pos, af, g⟩ env H J = vcOp P L mu ⟨d, .unOp op t x, ty, pos, af, g⟩ env H J := rfl
theorem oe_convert {s t : TypeId} {x : Operand} : vcOpE P L mu ⟨d, .convert s t x, ty, pos, af, g⟩ env H J = vcOp P L mu ⟨d, .convert s t x, ty, pos, af, g⟩ env H J := rfl
theorem oe_extract {x : Operand} {i : Nat} : vcOpE P L mu ⟨d, .extract x i, ty, pos, af, g⟩ env H J = vcOp P L mu ⟨d, .extract x i, ty, pos, af, g⟩ env H J := rfl
theorem oe_indexAddr {t : TypeId} {x i : Operand} : vcOpE P L mu ⟨d, .indexAddr t x i, ty, pos, af, g⟩ env H J = vcOp P L mu ⟨d, .indexAddr t x i, ty, pos, af, g⟩ env H J := rfl
theorem oe_index {t : TypeId} {x i : Operand} : vcOpE P L mu ⟨d, .index t x i, ty, pos, af, g⟩ env H J = vcOp P L mu ⟨d, .index t x i, ty, pos, af, g⟩ env H J := rfl
theorem oe_load {t : TypeId} {x : Operand} : vcOpE P L mu ⟨d, .load t x, ty, pos, af, g⟩ env H J = vcOp P L mu ⟨d, .load t x, ty, pos, af, g⟩ env H J := rfl
theorem oe_slice {t : TypeId} {x : Operand} {lo hi mx : Option Operand} : vcOpE P L mu ⟨d, .slice t x lo hi mx, ty, pos, af, g⟩ env H J = vcOp P L mu ⟨d, .slice t x lo hi mx, ty, pos, af, g⟩ env H J := rfl
theorem oe_fieldAddr {t : TypeId} {x : Operand} {f : Nat} : vcOpE P L mu ⟨d, .fieldAddr t x f, ty, pos, af, g⟩ env H J = vcOp P L mu ⟨d, .fieldAddr t x f, ty, pos, af, g⟩ env H J := rfl
theorem oe_field {t : TypeId} {x : Operand} {f : Nat} : vcOpE P L mu ⟨d, .field t x f, ty, pos, af, g⟩ env H J = vcOp P L mu ⟨d, .field t x f, ty, pos, af, g⟩ env H J := rfl
theorem oe_build {t : TypeId} {ps : Array (Nat × Operand)} : vcOpE P L mu ⟨d, .build t ps, ty, pos, af, g⟩ env H J = vcOp P L mu ⟨d, .build t ps, ty, pos, af, g⟩ env H J := rfl
theorem oe_buildSlice {t : TypeId} {len : Nat} {ps : Array (Nat × Operand)} : vcOpE P L mu ⟨d, .buildSlice t len ps, ty, pos, af, g⟩ env H J = vcOp P L mu ⟨d, .buildSlice t len ps, ty, pos, af, g⟩ env H J := rfl
theorem oe_box {t : TypeId} {x : Operand} : vcOpE P L mu ⟨d, .box t x, ty, pos, af, g⟩ env H J = vcOp P L mu ⟨d, .box t x, ty, pos, af, g⟩ env H J := rfl
theorem oe_alloc {t : TypeId} : vcOpE P L mu ⟨d, .alloc t, ty, pos, af, g⟩ env H J = vcOp P L mu ⟨d, .alloc t, ty, pos, af, g⟩ env H J := rfl
theorem oe_store {t : TypeId} {a x : Operand} : vcOpE P L mu ⟨d, .store t a x, ty, pos, af, g⟩ env H J = vcOp P L mu ⟨d, .store t a x, ty, pos, af, g⟩ env H J := rfl
theorem oe_makeSlice {t : TypeId} {x y : Operand} : vcOpE P L mu ⟨d, .makeSlice t x y, ty, pos, af, g⟩ env H J = vcOp P L mu ⟨d, .makeSlice t x y, ty, pos, af, g⟩ env H J := rfl
theorem oe_nilCheck {x : Operand} : vcOpE P L mu ⟨d, .nilCheck x, ty, pos, af, g⟩ env H J = vcOp P L mu ⟨d, .nilCheck x, ty, pos, af, g⟩ env H J := rfl
theorem oe_makeFunc {f : Fn} {fs cs : Array Operand} : vcOpE P L mu ⟨d, .makeFunc f fs cs, ty, pos, af, g⟩ env H J = vcOp P L mu ⟨d, .makeFunc f fs cs, ty, pos, af, g⟩ env H J := rfl
theorem oe_makeInterface {t : TypeId} {x : Operand} : vcOpE P L mu ⟨d, .makeInterface t x, ty, pos, af, g⟩ env H J = vcOp P L mu ⟨d, .makeInterface t x, ty, pos, af, g⟩ env H J := rfl
theorem oe_toArr {t : TypeId} {x : Operand} : vcOpE P L mu ⟨d, .sliceToArrayPointer t x, ty, pos, af, g⟩ env H J = vcOp P L mu ⟨d, .sliceToArrayPointer t x, ty, pos, af, g⟩ env H J := rfl
theorem oe_binOp {op : BinOp} {t t' : TypeId} {x y : Operand} : vcOpE P L mu ⟨d, .binOp op t x y t', ty, pos, af, g⟩ env H J = if nilCmp y then False else lift (qBin L op t (isConst y) (ev env x) (ev env y)) J H := by unfold vcOpE; simp only [vcOp]; split <;> simp_all
theorem oe_callv {f : FuncId} {az : Array Operand} {ts : Array TypeId} : vcOpE P L mu ⟨d, .call ⟨.value (.func f), az, ts⟩, ty, pos, af, g⟩ env H J = ∃ z H', ACalls P f (az.toList.map (ev env)) H (fun x H'' => x = z ∧ H'' = H') ∧ Hold (J z H') := by simp only [vcOpE, vcOp, hold_eq]; congr; funext z; congr; funext H'; rw [show ev env (.func f) = .fn (.func f) [] [] from rfl, call_fn0]
theorem oe_len {az : Array Operand} {ts : Array TypeId} : vcOpE P L mu ⟨d, .call ⟨.builtin .len, az, ts⟩, ty, pos, af, g⟩ env H J = vcBuiltin (mu.contains (d.getD 0)) L .len (az.toList.map (ev env)) ts.toList H J := rfl
theorem oe_cap {az : Array Operand} {ts : Array TypeId} : vcOpE P L mu ⟨d, .call ⟨.builtin .cap, az, ts⟩, ty, pos, af, g⟩ env H J = vcBuiltin (mu.contains (d.getD 0)) L .cap (az.toList.map (ev env)) ts.toList H J := rfl
theorem oe_min {az : Array Operand} {ts : Array TypeId} : vcOpE P L mu ⟨d, .call ⟨.builtin .min, az, ts⟩, ty, pos, af, g⟩ env H J = vcBuiltin (mu.contains (d.getD 0)) L .min (az.toList.map (ev env)) ts.toList H J := rfl
theorem oe_max {az : Array Operand} {ts : Array TypeId} : vcOpE P L mu ⟨d, .call ⟨.builtin .max, az, ts⟩, ty, pos, af, g⟩ env H J = vcBuiltin (mu.contains (d.getD 0)) L .max (az.toList.map (ev env)) ts.toList H J := rfl
theorem oe_copy {az : Array Operand} {ts : Array TypeId} : vcOpE P L mu ⟨d, .call ⟨.builtin .copy, az, ts⟩, ty, pos, af, g⟩ env H J = vcBuiltin (mu.contains (d.getD 0)) L .copy (az.toList.map (ev env)) ts.toList H J := rfl
theorem oe_sliceData {az : Array Operand} {ts : Array TypeId} : vcOpE P L mu ⟨d, .call ⟨.builtin .unsafeSliceData, az, ts⟩, ty, pos, af, g⟩ env H J = vcBuiltin (mu.contains (d.getD 0)) L .unsafeSliceData (az.toList.map (ev env)) ts.toList H J := rfl
theorem oe_string {az : Array Operand} {ts : Array TypeId} : vcOpE P L mu ⟨d, .call ⟨.builtin .unsafeString, az, ts⟩, ty, pos, af, g⟩ env H J = vcBuiltin (mu.contains (d.getD 0)) L .unsafeString (az.toList.map (ev env)) ts.toList H J := rfl
theorem oe_append {x y : Operand} {t t' : TypeId} : vcOpE P L mu ⟨d, .call ⟨.builtin .append, #[x, y], #[t, t']⟩, ty, pos, af, g⟩ env H J = (notMsl [ev env x] ∧ vcApp (mu.contains (d.getD 0)) L t t' (ev env x) (ev env y) H J) := by unfold vcOpE; simp only [vcOp, vcBuiltin]; simp only [List.map]; congr 1; unfold notMsl; cases ev env x <;> rfl
section
variable {rid i : Nat} {z : AV} {H' : List AObj} {hist : List (Nat × List AObj)} {rs : List (Nat × Oper × Env × AV)} {k : List (Nat × List AObj) → List (Nat × Oper × Env × AV) → Prop}
theorem nx_move {x : Operand} : vcNext P L mu rid i ⟨d, .move x, ty, pos, af, g⟩ env H z H' hist rs k = k hist rs := rfl
theorem nx_assign {x : Operand} : vcNext P L mu rid i ⟨d, .assign x, ty, pos, af, g⟩ env H z H' hist rs k = k hist rs := rfl
theorem nx_pick {a b c : Operand} : vcNext P L mu rid i ⟨d, .pick a b c, ty, pos, af, g⟩ env H z H' hist rs k = k hist rs := rfl
theorem nx_unOp {op : UnOp} {t : TypeId} {x : Operand} : vcNext P L mu rid i ⟨d, .unOp op t x, ty, pos, af, g⟩ env H z H' hist rs k = k hist rs := rfl
theorem nx_extract {x : Operand} {j : Nat} : vcNext P L mu rid i ⟨d, .extract x j, ty, pos, af, g⟩ env H z H' hist rs k = k hist rs := rfl
theorem nx_indexAddr {t : TypeId} {x y : Operand} : vcNext P L mu rid i ⟨d, .indexAddr t x y, ty, pos, af, g⟩ env H z H' hist rs k = k hist rs := rfl
theorem nx_index {t : TypeId} {x y : Operand} : vcNext P L mu rid i ⟨d, .index t x y, ty, pos, af, g⟩ env H z H' hist rs k = k hist rs := rfl
theorem nx_slice {t : TypeId} {x : Operand} {lo hi mx : Option Operand} : vcNext P L mu rid i ⟨d, .slice t x lo hi mx, ty, pos, af, g⟩ env H z H' hist rs k = k hist rs := rfl
theorem nx_fieldAddr {t : TypeId} {x : Operand} {f : Nat} : vcNext P L mu rid i ⟨d, .fieldAddr t x f, ty, pos, af, g⟩ env H z H' hist rs k = k hist rs := rfl
theorem nx_field {t : TypeId} {x : Operand} {f : Nat} : vcNext P L mu rid i ⟨d, .field t x f, ty, pos, af, g⟩ env H z H' hist rs k = k hist rs := rfl
theorem nx_build {t : TypeId} {ps : Array (Nat × Operand)} : vcNext P L mu rid i ⟨d, .build t ps, ty, pos, af, g⟩ env H z H' hist rs k = k hist rs := rfl
theorem nx_nilCheck {x : Operand} : vcNext P L mu rid i ⟨d, .nilCheck x, ty, pos, af, g⟩ env H z H' hist rs k = k hist rs := rfl
theorem nx_makeFunc {f : Fn} {fs cs : Array Operand} : vcNext P L mu rid i ⟨d, .makeFunc f fs cs, ty, pos, af, g⟩ env H z H' hist rs k = k hist rs := rfl
theorem nx_makeInterface {t : TypeId} {x : Operand} : vcNext P L mu rid i ⟨d, .makeInterface t x, ty, pos, af, g⟩ env H z H' hist rs k = k hist rs := rfl
theorem nx_toArr {t : TypeId} {x : Operand} : vcNext P L mu rid i ⟨d, .sliceToArrayPointer t x, ty, pos, af, g⟩ env H z H' hist rs k = k hist rs := rfl
theorem nx_binOp {op : BinOp} {t t' : TypeId} {x y : Operand} (h : nilCmp y = false) : vcNext P L mu rid i ⟨d, .binOp op t x y t', ty, pos, af, g⟩ env H z H' hist rs k = k hist rs := by unfold vcNext effOp pureOp; simp [h]
theorem nx_len {az : Array Operand} {ts : Array TypeId} : vcNext P L mu rid i ⟨d, .call ⟨.builtin .len, az, ts⟩, ty, pos, af, g⟩ env H z H' hist rs k = k hist rs := rfl
theorem nx_cap {az : Array Operand} {ts : Array TypeId} : vcNext P L mu rid i ⟨d, .call ⟨.builtin .cap, az, ts⟩, ty, pos, af, g⟩ env H z H' hist rs k = k hist rs := rfl
theorem nx_min {az : Array Operand} {ts : Array TypeId} : vcNext P L mu rid i ⟨d, .call ⟨.builtin .min, az, ts⟩, ty, pos, af, g⟩ env H z H' hist rs k = k hist rs := rfl
theorem nx_max {az : Array Operand} {ts : Array TypeId} : vcNext P L mu rid i ⟨d, .call ⟨.builtin .max, az, ts⟩, ty, pos, af, g⟩ env H z H' hist rs k = k hist rs := rfl
theorem nx_store {t : TypeId} {a x : Operand} : vcNext P L mu rid i ⟨d, .store t a x, ty, pos, af, g⟩ env H z H' hist rs k = (staysAll P L mu rid i H' rs ∧ k ((i, H) :: hist) rs) := rfl
theorem nx_makeSlice {t : TypeId} {x y : Operand} : vcNext P L mu rid i ⟨d, .makeSlice t x y, ty, pos, af, g⟩ env H z H' hist rs k = (staysAll P L mu rid i H' rs ∧ k ((i, H) :: hist) rs) := rfl
theorem nx_alloc {t : TypeId} : vcNext P L mu rid i ⟨d, .alloc t, ty, pos, af, g⟩ env H z H' hist rs k = (staysAll P L mu rid i H' rs ∧ k ((i, H) :: hist) rs) := rfl
theorem nx_append {az : Array Operand} {ts : Array TypeId} : vcNext P L mu rid i ⟨d, .call ⟨.builtin .append, az, ts⟩, ty, pos, af, g⟩ env H z H' hist rs k = (staysAll P L mu rid i H' rs ∧ k ((i, H) :: hist) rs) := rfl
theorem nx_copy {az : Array Operand} {ts : Array TypeId} : vcNext P L mu rid i ⟨d, .call ⟨.builtin .copy, az, ts⟩, ty, pos, af, g⟩ env H z H' hist rs k = (staysAll P L mu rid i H' rs ∧ k ((i, H) :: hist) rs) := rfl
theorem nx_load {t : TypeId} {x : Operand} : vcNext P L mu rid i ⟨d, .load t x, ty, pos, af, g⟩ env H z H' hist rs k = (H' = H ∧ wasAll P L mu rid i ⟨d, .load t x, ty, pos, af, g⟩ env z hist ∧ k hist ((i, ⟨d, .load t x, ty, pos, af, g⟩, env, z) :: rs)) := rfl
theorem nx_box {t : TypeId} {x : Operand} : vcNext P L mu rid i ⟨d, .box t x, ty, pos, af, g⟩ env H z H' hist rs k = if mu.contains (d.getD 0) then (staysAll P L mu rid i H' rs ∧ k ((i, H) :: hist) rs) else k hist rs := by unfold vcNext effOp pureOp; cases h : mu.contains (d.getD 0) <;> simp [h]
theorem nx_buildSlice {t : TypeId} {len : Nat} {ps : Array (Nat × Operand)} : vcNext P L mu rid i ⟨d, .buildSlice t len ps, ty, pos, af, g⟩ env H z H' hist rs k = if mu.contains (d.getD 0) then (staysAll P L mu rid i H' rs ∧ k ((i, H) :: hist) rs) else (H' = H ∧ wasAll P L mu rid i ⟨d, .buildSlice t len ps, ty, pos, af, g⟩ env z hist ∧ k hist ((i, ⟨d, .buildSlice t len ps, ty, pos, af, g⟩, env, z) :: rs)) := by unfold vcNext effOp pureOp; cases h : mu.contains (d.getD 0) <;> simp [h]
theorem nx_convert {s t : TypeId} {x : Operand} : vcNext P L mu rid i ⟨d, .convert s t x, ty, pos, af, g⟩ env H z H' hist rs k = if mu.contains (d.getD 0) then (staysAll P L mu rid i H' rs ∧ k ((i, H) :: hist) rs) else (H' = H ∧ wasAll P L mu rid i ⟨d, .convert s t x, ty, pos, af, g⟩ env z hist ∧ k hist ((i, ⟨d, .convert s t x, ty, pos, af, g⟩, env, z) :: rs)) := by unfold vcNext effOp pureOp; cases h : mu.contains (d.getD 0) <;> simp [h]
theorem nx_callv {f : Operand} {az : Array Operand} {ts : Array TypeId} : vcNext P L mu rid i ⟨d, .call ⟨.value f, az, ts⟩, ty, pos, af, g⟩ env H z H' hist rs k = if mu.contains (2000000 + d.getD 0) then (H' = H ∧ wasAll P L mu rid i ⟨d, .call ⟨.value f, az, ts⟩, ty, pos, af, g⟩ env z hist ∧ k hist ((i, ⟨d, .call ⟨.value f, az, ts⟩, ty, pos, af, g⟩, env, z) :: rs)) else (staysAll P L mu rid i H' rs ∧ k ((i, H) :: hist) rs) := by unfold vcNext effOp pureOp; cases h : mu.contains (2000000 + d.getD 0) <;> simp [h]
theorem nx_sliceData {az : Array Operand} {ts : Array TypeId} : vcNext P L mu rid i ⟨d, .call ⟨.builtin .unsafeSliceData, az, ts⟩, ty, pos, af, g⟩ env H z H' hist rs k = (H' = H ∧ wasAll P L mu rid i ⟨d, .call ⟨.builtin .unsafeSliceData, az, ts⟩, ty, pos, af, g⟩ env z hist ∧ k hist ((i, ⟨d, .call ⟨.builtin .unsafeSliceData, az, ts⟩, ty, pos, af, g⟩, env, z) :: rs)) := rfl
theorem nx_string {az : Array Operand} {ts : Array TypeId} : vcNext P L mu rid i ⟨d, .call ⟨.builtin .unsafeString, az, ts⟩, ty, pos, af, g⟩ env H z H' hist rs k = (H' = H ∧ wasAll P L mu rid i ⟨d, .call ⟨.builtin .unsafeString, az, ts⟩, ty, pos, af, g⟩ env z hist ∧ k hist ((i, ⟨d, .call ⟨.builtin .unsafeString, az, ts⟩, ty, pos, af, g⟩, env, z) :: rs)) := rfl
theorem st_nil {j : Nat} : staysAll P L mu rid j H' [] = True := rfl
theorem st_cons {j : Nat} {o : Oper} {r : List (Nat × Oper × Env × AV)} : staysAll P L mu rid j H' ((i, o, env, z) :: r) = if mu.contains (1000000000000 + (rid * 1000 + i) * 1000 + j) then vcOp P L mu o env H' (fun x H'' => x = z ∧ H'' = H') ∧ staysAll P L mu rid j H' r else staysAll P L mu rid j H' r := by rw [← race_eq]; rfl
theorem wa_nil {o : Oper} : wasAll P L mu rid i o env z [] = True := rfl
theorem wa_cons {j : Nat} {o : Oper} {r : List (Nat × List AObj)} : wasAll P L mu rid i o env z ((j, H) :: r) = if mu.contains (1000000000000 + (rid * 1000 + i) * 1000 + j) then vcOp P L mu o env H (fun x H'' => x = z ∧ H'' = H) ∧ wasAll P L mu rid i o env z r else wasAll P L mu rid i o env z r := by rw [← race_eq]; rfl
theorem ch_nil : vcChain P L mu rid all i [] env H hist rs K = K env H := rfl
theorem ch_cons {op : Op} : vcChain P L mu rid all i (⟨d, op, ty, pos, af, none⟩ :: rest) env H hist rs K = vcOpE P L mu ⟨d, op, ty, pos, af, none⟩ env H fun v H' => vcNext P L mu rid i ⟨d, op, ty, pos, af, none⟩ env H v H' hist rs fun hist' rs' => vcChain P L mu rid all (i + 1) rest (put d v env) H' hist' rs' K := rfl
theorem ch_guard {op : Op} {j : Nat} {b : Bool} : vcChain P L mu rid all i (⟨d, op, ty, pos, af, some (j, b)⟩ :: rest) env H hist rs K =
    vcGuard (gval all env j) b (vcOpE P L mu ⟨d, op, ty, pos, af, some (j, b)⟩ (known1 all j b env) H fun v H' => vcNext P L mu rid i ⟨d, op, ty, pos, af, some (j, b)⟩ (known1 all j b env) H v H' hist rs fun hist' rs' => vcChain P L mu rid all (i + 1) rest (put d v (known1 all j b env)) H' hist' rs' K) (vcChain P L mu rid all (i + 1) rest (put d (.lit undef) (known1 all j (!b) env)) H hist rs K) (vcChain P L mu rid all (i + 1) rest (put d (.lit undef) env) H hist rs K) := rfl
end
end
theorem b_len {m : Bool} {x : AV} {t : TypeId} : vcBuiltin m L .len [x] [t] H J = lift (qLen' L t x) J H := rfl
theorem b_cap {m : Bool} {x : AV} {t : TypeId} : vcBuiltin m L .cap [x] [t] H J = lift (qCap L t x) J H := rfl
theorem b_min {m : Bool} {x y : AV} {t t' : TypeId} : vcBuiltin m L .min [x, y] [t, t'] H J = lift (qLeast false x y) J H := rfl
theorem b_max {m : Bool} {x y : AV} {t t' : TypeId} : vcBuiltin m L .max [x, y] [t, t'] H J = lift (qLeast true x y) J H := rfl
theorem b_copy {m : Bool} {x y : AV} {t t' : TypeId} : vcBuiltin m L .copy [x, y] [t, t'] H J = vcCopy L t x y H J := rfl
theorem b_sliceData {m : Bool} {x : AV} {t : TypeId} : vcBuiltin m L .unsafeSliceData [x] [t] H J = lift (qSliceData H x) J H := rfl
theorem b_string {m : Bool} {x y : AV} {t t' : TypeId} : vcBuiltin m L .unsafeString [.data x, y] [t, t'] H J = lift (qString L H t (.data x) y) J H := rfl
theorem b_strobj {m : Bool} {k off : Nat} {y : AV} {t t' : TypeId} : vcBuiltin m L .unsafeString [.mp k off, y] [t, t'] H J = vcStrObj L t k off y H J := rfl
theorem b_append {m : Bool} {x y : AV} {t t' : TypeId} : vcBuiltin m L .append [x, y] [t, t'] H J = vcApp m L t t' x y H J := rfl
theorem ap_sl {m : Bool} {o : Own} {s : Nat} {xs : List AV} {y : AV} {t t' : TypeId} : vcApp m L t t' (.sl o s xs) y H J = if m then vcAppendM L t t' (.sl o s xs) y H J else vcAppend L t t' (.sl o s xs) y H J := rfl
theorem ap_mrow {m : Bool} {k n : Nat} {y : AV} {t t' : TypeId} : vcApp m L t t' (.mrow k n) y H J = vcAppendR L t t' (.mrow k n) y H J := rfl
theorem ap_msl {m : Bool} {k off n c : Nat} {y : AV} {t t' : TypeId} : vcApp m L t t' (.msl k off n c) y H J = vcAppendZ L t t' (.msl k off n c) y H J := rfl
theorem nc_tmp {t : Tmp} : nilCmp (.tmp t) = false := rfl
theorem nc_glob {g : Nat} : nilCmp (.global g) = false := rfl
theorem nc_func {f : FuncId} : nilCmp (.func f) = false := rfl
theorem nc_int {k : IntKind} {i : Int} : nilCmp (.const (.int k i)) = false := rfl
theorem nc_bool {b : Bool} : nilCmp (.const (.bool b)) = false := rfl
theorem nc_str {s : ByteArray} : nilCmp (.const (.string s)) = false := rfl
theorem nc_ptr {a : Option Addr} : nilCmp (.const (.pointer a)) = false := rfl
theorem nc_iface : nilCmp (.const .nilIface) = false := rfl
theorem nc_nfunc : nilCmp (.const .nilFunc) = false := rfl
theorem nc_map {a : Option Nat} : nilCmp (.const (.map a)) = false := rfl
theorem nc_nil : nilCmp (.const (.slice none 0 0)) = true := rfl
theorem bd_len {x : AV} {t : TypeId} : vcBuiltinD L H .len [x] [t] D = liftD (qLen' L t x) D := rfl
theorem bd_cap {x : AV} {t : TypeId} : vcBuiltinD L H .cap [x] [t] D = liftD (qCap L t x) D := rfl
theorem bd_sliceData {x : AV} {t : TypeId} : vcBuiltinD L H .unsafeSliceData [x] [t] D = liftD (qSliceData H x) D := rfl
theorem bd_string {x y : AV} {t t' : TypeId} : vcBuiltinD L H .unsafeString [x, y] [t, t'] D = liftD (qString L H t x y) D := rfl
theorem bd_min {x y : AV} {t t' : TypeId} : vcBuiltinD L H .min [x, y] [t, t'] D = liftD (qLeast false x y) D := rfl
theorem bd_max {x y : AV} {t t' : TypeId} : vcBuiltinD L H .max [x, y] [t, t'] D = liftD (qLeast true x y) D := rfl
theorem kn_zero {d : Tmp} {op : Op} {ty : TypeId} {pos : String} {af : Array Edge} {g : Option (Nat × Bool)} {b : Bool} : known1 (⟨some d, op, ty, pos, af, g⟩ :: rest) 0 b env = (d, .lit (.bool b)) :: env := rfl
theorem kn_succ {o : Oper} {j : Nat} {b : Bool} : known1 (o :: rest) (j + 1) b env = known1 rest j b env := rfl
theorem put_some {d : Tmp} {v : AV} : put (some d) v env = (d, v) :: env := rfl
theorem put_none {v : AV} : put none v env = env := rfl
theorem ev_tmp {t : Tmp} : ev env (.tmp t) = get env t := rfl
theorem ev_const {v : Value} : ev env (.const v) = ofConst v := rfl
theorem ev_global {g : Nat} : ev env (.global g) = globAV g := rfl
theorem ev_func {f : FuncId} : ev env (.func f) = .fn (.func f) [] [] := rfl
theorem get_cons {k t : Nat} {v : AV} : get ((k, v) :: env) t = if k = t then v else get env t := rfl
theorem get_cons' {k t : Nat} {v : AV} : get ((k, v) :: env) t = if k = t then v else get env t := rfl
theorem get_nil {t : Nat} : get [] t = .any := rfl
theorem of_int {k : IntKind} {i : Int} : ofConst (.int k i) = .lit (.int k i) := rfl
theorem of_bool {b : Bool} : ofConst (.bool b) = .lit (.bool b) := rfl
theorem of_str {a : List UInt8} : ofConst (.string ⟨a.toArray⟩) = .str a := rfl
theorem of_nil : ofConst (.slice none 0 0) = .sl .full 0 [] := rfl
theorem of_ptr {a : Option Addr} : ofConst (.pointer a) = .lit (.pointer a) := rfl
theorem of_niface : ofConst .nilIface = .lit .nilIface := rfl
theorem of_nfunc : ofConst .nilFunc = .lit .nilFunc := rfl
theorem of_nmap {a : Option Nat} : ofConst (.map a) = .lit (.map a) := rfl
theorem ones_map {α : Type} {f : α → AV} {l : List α} (h : ∀ x, (f x).scalar = true) : ones (l.map f) := fun y hy => by
  obtain ⟨x, _, rfl⟩ := List.mem_map.1 hy
  exact h x
theorem ones_bytes {l : List UInt8} : ones (l.map byteAV) = True := eq_true (ones_map fun _ => rfl)
theorem isInts_map {α : Type} {k : IntKind} {f : α → Int} {l : List α} : isInts k (l.map fun x => .lit (.int k (f x))) = True := eq_true (by unfold isInts; simp [intOf])
theorem isInts_bytes {l : List UInt8} : isInts .u8 (l.map byteAV) = True := isInts_map
theorem ints_bytes {l : List UInt8} : (l.map byteAV).map intOf = l.map fun b => (b.toNat : Int) := by simp [intOf, byteAV]
theorem ints_inj {l m : List UInt8} : (l.map (fun b => (b.toNat : Int)) = m.map fun b => (b.toNat : Int)) = (l = m) := by
  refine propext ⟨fun h => ?_, fun h => by rw [h]⟩
  have h2 := congrArg (List.map fun z : Int => UInt8.ofNat z.toNat) h
  have e : ((fun z : Int => UInt8.ofNat z.toNat) ∘ fun b : UInt8 => (b.toNat : Int)) = id := by
    funext b
    simp
  rwa [List.map_map, List.map_map, e, List.map_id, List.map_id] at h2
theorem zeroFlat_unf {zs : List AV} {n : Nat} : zeroFlat zs n = (List.range n).map fun i => zs.getD (i % zs.length) .any := rfl
theorem zeroFlat_one {z : AV} {n : Nat} : zeroFlat [z] n = List.replicate n z := by
  unfold zeroFlat
  refine List.ext_getElem? fun i => ?_
  rw [List.getElem?_map, List.getElem?_replicate]
  by_cases h : i < n
  · rw [List.getElem?_range h, if_pos h]
    simp [Nat.mod_one]
  · rw [List.getElem?_eq_none (by simpa using h), if_neg h]
    rfl
theorem flat_agg {cs : List AV} : (AV.agg cs).flat = cs := rfl
theorem flat_lit {v : Value} : (AV.lit v).flat = [.lit v] := rfl
theorem flat_str {l : List UInt8} : (AV.str l).flat = [.str l] := rfl
theorem flat_sl {o : Own} {s : Nat} {xs : List AV} : (AV.sl o s xs).flat = [.sl o s xs] := rfl
theorem flat_ip {x : AV} : (AV.ip x).flat = [.ip x] := rfl
theorem flat_mp {k off : Nat} : (AV.mp k off).flat = [.mp k off] := rfl
theorem flat_msl {k off n c : Nat} : (AV.msl k off n c).flat = [.msl k off n c] := rfl
theorem flat_mrow {k n : Nat} : (AV.mrow k n).flat = [.mrow k n] := rfl
theorem flat_fn {f : Fn} {fs cs : List AV} : (AV.fn f fs cs).flat = [.fn f fs cs] := rfl
theorem flat_ifc {t : TypeId} {x : AV} : (AV.ifc t x).flat = [.ifc t x] := rfl
theorem flat_err : AV.err.flat = [.err] := rfl
theorem flat_data {x : AV} : (AV.data x).flat = [.data x] := rfl
theorem flat_any : (AV.any).flat = [.any] := rfl
theorem flat_tup {cs : List AV} : (AV.tup cs).flat = [.tup cs] := rfl
theorem okv_agg {cs : List AV} : (AV.agg cs).okv = cs.all AV.scalar := rfl
theorem okv_lit {v : Value} : (AV.lit v).okv = v.oneCell' := rfl
theorem okv_str {l : List UInt8} : (AV.str l).okv = true := rfl
theorem okv_sl {o : Own} {s : Nat} {xs : List AV} : (AV.sl o s xs).okv = true := rfl
theorem okv_ip {x : AV} : (AV.ip x).okv = true := rfl
theorem okv_mp {k off : Nat} : (AV.mp k off).okv = true := rfl
theorem okv_msl {k off n c : Nat} : (AV.msl k off n c).okv = true := rfl
theorem okv_mrow {k n : Nat} : (AV.mrow k n).okv = true := rfl
theorem okv_fn {f : Fn} {fs cs : List AV} : (AV.fn f fs cs).okv = true := rfl
theorem okv_ifc {t : TypeId} {x : AV} : (AV.ifc t x).okv = true := rfl
theorem okv_err : AV.err.okv = true := rfl
theorem okv_data {x : AV} : (AV.data x).okv = true := rfl
theorem okv_any : (AV.any).okv = false := rfl
theorem okv_tup {cs : List AV} : (AV.tup cs).okv = false := rfl
/-- The end: a result that may be told in a weaker way, and objects that may be dropped, or written no more. -/
def Done (H₀ : List AObj) (R : AV → List AObj → Prop) (x : AV) (H : List AObj) [Tag R] [Tag H₀] : Prop :=
  ∃ y H', Ends H₀ x H y H' ∧ R y H'
def finL (q : Option (Prop × List AV)) (H₀ : List AObj) (R : AV → List AObj → Prop) (H : List AObj) [Tag R] [Tag H₀] : Prop :=
  match q with
  | some (p, xs) => p ∧ Done H₀ R (resTop xs) H
  | none => False
theorem fin_eq {rs : List ResultVar} {H₀ : List AObj} {R : AV → List AObj → Prop} : Fin L rs H₀ R env H = finL (resList L env H rs) H₀ R H := rfl
theorem finL_some {p : Prop} {xs : List AV} {H₀ : List AObj} {R : AV → List AObj → Prop} : finL (some (p, xs)) H₀ R H = (p ∧ Done H₀ R (resTop xs) H) := rfl
theorem rl_nil : resList L env H [] = some (True, []) := rfl
def rlCons (q : Option (Prop × AV)) (r : Option (Prop × List AV)) : Option (Prop × List AV) :=
  match q, r with
  | some (p, x), some (q, xs) => some (p ∧ q, x :: xs)
  | _, _ => none
theorem rl_cons {r : ResultVar} {rs : List ResultVar} : resList L env H (r :: rs) = rlCons (resOne L env H r) (resList L env H rs) := by
  unfold rlCons
  rw [resList] <;> cases resOne L env H r <;> cases resList L env H rs <;> rfl
theorem rlCons_some {p q : Prop} {x : AV} {xs : List AV} : rlCons (some (p, x)) (some (q, xs)) = some (p ∧ q, x :: xs) := rfl
theorem r_tmp {t : Tmp} : resOne L env H (.tmp t) = some (True, get env t) := rfl
theorem r_cell {a : Tmp} {t : TypeId} : resOne L env H (.cell a t) = qLoad L H t (get env a) := rfl
theorem rt_one {x : AV} : resTop [x] = x := rfl
theorem rt_two {x y : AV} {r : List AV} : resTop (x :: y :: r) = .tup (x :: y :: r) := rfl
theorem rt_nil : resTop [] = .tup [] := rfl
theorem done_keep {H₀ : List AObj} {R : AV → List AObj → Prop} {x : AV} (y : AV) (hx : Le x y) (hl : H₀.length ≤ H.length) (hr : R y H) : Done H₀ R x H := ⟨y, H, ends_le hx, hr⟩
theorem done_same {H₀ : List AObj} {R : AV → List AObj → Prop} {x : AV} (hr : R x H₀) : Done H₀ R x H₀ := done_keep x (Le.refl x) (Nat.le_refl _) hr
theorem done_cut {H₀ M : List AObj} {R : AV → List AObj → Prop} {x : AV} (y : AV) (hx : Le x y) (hl : Low H₀.length y) (hr : R y H₀) : Done H₀ R x (H₀ ++ M) := by
  refine ⟨y, (H₀ ++ M).take H₀.length, ends_cut hx (Nat.le_refl _) hl fun k sh cs hk e => .inl ?_, by rw [List.take_left]; exact hr⟩
  rwa [List.getElem?_append_left hk] at e
/-- The new objects are written no more. -/
theorem done_frz {H₀ M : List AObj} {R : AV → List AObj → Prop} {x : AV} (y : AV) (f : Frz H₀.length (H₀ ++ M) x y) (hr : R y H₀) : Done H₀ R x (H₀ ++ M) := by
  refine ⟨y, (H₀ ++ M).take H₀.length, ends_frz (Le.refl x) (Nat.le_refl _) f fun k sh cs hk e => .inl ?_, by rw [List.take_left]; exact hr⟩
  rwa [List.getElem?_append_left hk] at e
theorem done_drop {H₀ : List AObj} {o : AObj} {R : AV → List AObj → Prop} {x : AV} (hl : Low H₀.length x) (hr : R x H₀) : Done H₀ R x (H₀ ++ [o]) := done_cut x (Le.refl x) hl hr
attribute [irreducible] Done
end

def EnvLe (env env' : Env) : Prop := ∀ t, Le (get env t) (get env' t)
theorem envLe_nil {env : Env} : EnvLe env [] := fun t => Le.any _
theorem envLe_cons {env r : Env} {k : Nat} {v : AV} (h : Le (get env k) v) (hr : EnvLe env r) : EnvLe env ((k, v) :: r) := fun t => by
  rw [get_cons]
  split
  · rename_i e; subst e; exact h
  · exact hr t
theorem le_eq {x y : AV} (h : x = y) : Le x y := h ▸ Le.refl x
theorem getD_bytes {l : List UInt8} {i : Nat} (h : i < l.length) : (l.map byteAV).getD i .any = .lit (.int .u8 (l.getD i 0).toNat) := by
  simp [List.getD, List.getElem?_eq_getElem h, byteAV]
theorem byte_u8 (b : UInt8) : IntKind.u8.wrap (b.toNat : Int) = (b.toNat : Int) := IntWalk.u8_in _ (by have := b.toNat_lt; omega)
theorem byte_i32 (b : UInt8) : IntKind.i32.wrap (b.toNat : Int) = (b.toNat : Int) := IntWalk.i32_in _ (by have := b.toNat_lt; omega)
theorem byte_i64 (b : UInt8) : IntKind.i64.wrap (b.toNat : Int) = (b.toNat : Int) := IntWalk.i64_in _ (by have := b.toNat_lt; omega)
theorem byte_u32 (b : UInt8) : IntKind.u32.wrap (b.toNat : Int) = (b.toNat : Int) := IntWalk.u32_in _ (by have := b.toNat_lt; omega)
theorem byte_u64 (b : UInt8) : IntKind.u64.wrap (b.toNat : Int) = (b.toNat : Int) := IntWalk.u64_in _ (by have := b.toNat_lt; omega)
theorem getD_runes {l : List Int} {i : Nat} (h : i < l.length) : (l.map runeAV).getD i .any = .lit (.int .i32 (l.getD i 0)) := by
  simp [List.getD, List.getElem?_eq_getElem h, runeAV]
theorem ayields_same {P : Program} {k : Nat} {args : List AV} {H H₁ : List AObj} {z : AV} {K : AV → List AObj → Prop} (h : AYields P k args H (fun x H' => x = z ∧ H' = H₁)) (kk : K z H₁) : AYields P k args H K := fun ro N G w vs l hi ha hl => by
  obtain ⟨fn, tmps, assign, body, h1, h2⟩ := h ro N G w vs l hi ha hl
  refine ⟨fn, tmps, assign, body, h1, h2.mono ?_⟩
  rintro e w' ⟨v, x, G', H', h3, h4, h5, h6, rfl, rfl⟩
  exact ⟨v, x, G', H', h3, h4, h5, h6, kk⟩
theorem acalls_same {P : Program} {f : FuncId} {args : List AV} {H H₁ : List AObj} {z : AV} {K : AV → List AObj → Prop} (h : ACalls P f args H (fun x H' => x = z ∧ H' = H₁)) (k : K z H₁) : ACalls P f args H K :=
  h.mono fun _ _ ⟨e, e'⟩ => by subst e; subst e'; exact k
theorem min_left {a b : Nat} (h : a ≤ b) : min a b = a := Nat.min_eq_left h
theorem fdiv_nat {n : Nat} {k : Int} (h : 0 ≤ k) : (n : Int).fdiv k = ((n / k.toNat : Nat) : Int) := by
  rw [Int.fdiv_eq_ediv_of_nonneg _ h, Int.natCast_ediv, Int.toNat_of_nonneg h]
theorem fdiv_pos {a k : Int} (h : 0 ≤ k) : a.fdiv k = a / k := Int.fdiv_eq_ediv_of_nonneg _ h
theorem tdiv_pos {a k : Int} (h : 0 ≤ a) : a.tdiv k = a / k := Int.tdiv_eq_ediv_of_nonneg h
theorem tmod_pos {a k : Int} (h : 0 ≤ a) : a.tmod k = a % k := Int.tmod_eq_emod_of_nonneg h
theorem and_mask_ {k : Nat} {m : Nat} {a : Int} (h : 0 ≤ a) (h2 : a < 2 ^ k) (hm : m ≤ k) : ((BitVec.ofInt k a &&& BitVec.ofInt k (2 ^ m - 1)).toNat : Int) = a % 2 ^ m := by
  obtain ⟨n, rfl⟩ := Int.eq_ofNat_of_zero_le h
  have hn : n < 2 ^ k := by exact_mod_cast h2
  have hp : (2 : Int) ^ m - 1 = ((2 ^ m - 1 : Nat) : Int) := by
    have h0 : 0 < 2 ^ m := Nat.two_pow_pos m
    have h1 : ((2 ^ m : Nat) : Int) = (2 : Int) ^ m := by simp
    rw [← h1]
    omega
  have hle : 2 ^ m ≤ 2 ^ k := Nat.pow_le_pow_right (by decide) hm
  have h0 : 0 < 2 ^ m := Nat.two_pow_pos m
  rw [hp, BitVec.toNat_and, BitVec.ofInt_natCast, BitVec.ofInt_natCast, BitVec.toNat_ofNat, BitVec.toNat_ofNat, Nat.mod_eq_of_lt hn, Nat.mod_eq_of_lt (by omega), Nat.and_two_pow_sub_one_eq_mod]
  exact_mod_cast rfl
theorem u8_and (m : Nat) {a : Int} (h : 0 ≤ a ∧ a < 256) (hm : m ≤ 8) : ((BitVec.ofInt 8 a &&& BitVec.ofInt 8 (2 ^ m - 1)).toNat : Int) = a % 2 ^ m := and_mask_ h.1 h.2 hm
theorem u8_and63 {a : Int} (h : 0 ≤ a ∧ a < 256) : ((BitVec.ofInt IntKind.u8.bits a &&& BitVec.ofInt IntKind.u8.bits 63).toNat : Int) = a % 64 := u8_and 6 h (by decide)
theorem u8_and15 {a : Int} (h : 0 ≤ a ∧ a < 256) : ((BitVec.ofInt IntKind.u8.bits a &&& BitVec.ofInt IntKind.u8.bits 15).toNat : Int) = a % 16 := u8_and 4 h (by decide)
theorem u8_and31 {a : Int} (h : 0 ≤ a ∧ a < 256) : ((BitVec.ofInt IntKind.u8.bits a &&& BitVec.ofInt IntKind.u8.bits 31).toNat : Int) = a % 32 := u8_and 5 h (by decide)
theorem u8_and7 {a : Int} (h : 0 ≤ a ∧ a < 256) : ((BitVec.ofInt IntKind.u8.bits a &&& BitVec.ofInt IntKind.u8.bits 7).toNat : Int) = a % 8 := u8_and 3 h (by decide)
theorem or_parts_ {k : Nat} {m : Nat} {c a : Int} (h : 0 ≤ a) (h2 : a < 2 ^ m) (hm : m ≤ k) (hc : 0 ≤ c) (hc2 : c < 2 ^ k) (hd : c % 2 ^ m = 0) : ((BitVec.ofInt k c ||| BitVec.ofInt k a).toNat : Int) = c + a := by
  obtain ⟨n, rfl⟩ := Int.eq_ofNat_of_zero_le h
  obtain ⟨q, rfl⟩ := Int.eq_ofNat_of_zero_le hc
  have hn : n < 2 ^ m := by exact_mod_cast h2
  have hq : q < 2 ^ k := by exact_mod_cast hc2
  have hq2 : q % 2 ^ m = 0 := by exact_mod_cast hd
  have hle : 2 ^ m ≤ 2 ^ k := Nat.pow_le_pow_right (by decide) hm
  rw [BitVec.toNat_or, BitVec.ofInt_natCast, BitVec.ofInt_natCast, BitVec.toNat_ofNat, BitVec.toNat_ofNat, Nat.mod_eq_of_lt hq, Nat.mod_eq_of_lt (by omega)]
  have e : q = 2 ^ m * (q / 2 ^ m) := by have := Nat.div_add_mod q (2 ^ m); omega
  rw [e, ← Nat.two_pow_add_eq_or_of_lt hn]
  exact_mod_cast rfl
theorem u8_or (m : Nat) {c a : Int} (h : 0 ≤ a ∧ a < 2 ^ m) (hm : m ≤ 8) (hc : 0 ≤ c ∧ c < 256 ∧ c % 2 ^ m = 0) : ((BitVec.ofInt 8 c ||| BitVec.ofInt 8 a).toNat : Int) = c + a := or_parts_ h.1 h.2 hm hc.1 hc.2.1 hc.2.2
theorem u8_or128 {a : Int} (h : 0 ≤ a ∧ a < 64) : ((BitVec.ofInt IntKind.u8.bits 128 ||| BitVec.ofInt IntKind.u8.bits a).toNat : Int) = 128 + a := u8_or 6 h (by decide) (by decide)
theorem u8_or192 {a : Int} (h : 0 ≤ a ∧ a < 32) : ((BitVec.ofInt IntKind.u8.bits 192 ||| BitVec.ofInt IntKind.u8.bits a).toNat : Int) = 192 + a := u8_or 5 h (by decide) (by decide)
theorem u8_or224 {a : Int} (h : 0 ≤ a ∧ a < 16) : ((BitVec.ofInt IntKind.u8.bits 224 ||| BitVec.ofInt IntKind.u8.bits a).toNat : Int) = 224 + a := u8_or 4 h (by decide) (by decide)
theorem u8_or240 {a : Int} (h : 0 ≤ a ∧ a < 8) : ((BitVec.ofInt IntKind.u8.bits 240 ||| BitVec.ofInt IntKind.u8.bits a).toNat : Int) = 240 + a := u8_or 3 h (by decide) (by decide)
theorem i32_or (m : Nat) {c a : Int} (h : 0 ≤ a ∧ a < 2 ^ m) (hm : m ≤ 32) (hc : 0 ≤ c ∧ c < 4294967296 ∧ c % 2 ^ m = 0) : ((BitVec.ofInt IntKind.i32.bits c ||| BitVec.ofInt IntKind.i32.bits a).toNat : Int) = c + a := or_parts_ (k := 32) h.1 h.2 hm hc.1 hc.2.1 hc.2.2
theorem i32_or6 {c a : Int} (h : (0 ≤ a ∧ a < 64) ∧ 0 ≤ c ∧ c < 4294967296 ∧ c % 64 = 0) : ((BitVec.ofInt IntKind.i32.bits c ||| BitVec.ofInt IntKind.i32.bits a).toNat : Int) = c + a := i32_or 6 h.1 (by decide) h.2
theorem i32_or12 {c a : Int} (h : (0 ≤ a ∧ a < 4096) ∧ 0 ≤ c ∧ c < 4294967296 ∧ c % 4096 = 0) : ((BitVec.ofInt IntKind.i32.bits c ||| BitVec.ofInt IntKind.i32.bits a).toNat : Int) = c + a := i32_or 12 h.1 (by decide) h.2
theorem i32_or18 {c a : Int} (h : (0 ≤ a ∧ a < 262144) ∧ 0 ≤ c ∧ c < 4294967296 ∧ c % 262144 = 0) : ((BitVec.ofInt IntKind.i32.bits c ||| BitVec.ofInt IntKind.i32.bits a).toNat : Int) = c + a := i32_or 18 h.1 (by decide) h.2
theorem u8_wrap (a : Int) : IntKind.u8.wrap a = a % 256 := by
  simp [IntKind.wrap, IntKind.signed, IntKind.bits]
theorem bits_u8 : IntKind.u8.bits = 8 := rfl
theorem bits_u16 : IntKind.u16.bits = 16 := rfl
theorem bits_u32 : IntKind.u32.bits = 32 := rfl
theorem bits_u64 : IntKind.u64.bits = 64 := rfl
theorem bits_i8 : IntKind.i8.bits = 8 := rfl
theorem bits_i16 : IntKind.i16.bits = 16 := rfl
theorem bits_i32 : IntKind.i32.bits = 32 := rfl
theorem bits_i64 : IntKind.i64.bits = 64 := rfl
theorem byte_lt (b : UInt8) : ((b.toNat : Int) < 256) = True := eq_true (by have := b.toNat_lt; omega)
theorem byte_lt' (b : UInt8) : (b.toNat < 256) = True := eq_true (by have := b.toNat_lt; omega)
theorem byte_ge (n : Nat) : (0 ≤ (n : Int)) = True := eq_true (by omega)
def firstAV : List AV := tabFirst.map ofCell
def acceptAV : List AV := tabAccept.map ofCell
theorem firstAV_eq : firstAV = (List.range 256).map fun c => .lit (.int .u8 (Lib.firstT c)) := by
  unfold firstAV tabFirst
  rw [List.map_map]
  rfl
theorem firstAV_len : firstAV.length = 256 := by rw [firstAV_eq]; simp
theorem first_at (b : UInt8) : firstAV.getD b.toNat .any = .lit (.int .u8 (Lib.firstT b.toNat)) := by
  have := b.toNat_lt
  rw [firstAV_eq, List.getD, List.getElem?_map, List.getElem?_range (by omega)]
  rfl
theorem acceptAV_len : acceptAV.length = 32 := by unfold acceptAV; rw [List.length_map]; decide
theorem accept_at {i : Nat} (h : i < 16) : (acceptAV.drop (i * 2)).take 2 = [.lit (.int .u8 (Lib.accLo i)), .lit (.int .u8 (Lib.accHi i))] := by
  unfold acceptAV
  match i, h with
  | 0, _ => rfl
  | 1, _ => rfl
  | 2, _ => rfl
  | 3, _ => rfl
  | 4, _ => rfl
  | 5, _ => rfl
  | 6, _ => rfl
  | 7, _ => rfl
  | 8, _ => rfl
  | 9, _ => rfl
  | 10, _ => rfl
  | 11, _ => rfl
  | 12, _ => rfl
  | 13, _ => rfl
  | 14, _ => rfl
  | 15, _ => rfl
  | _ + 16, h => omega
theorem acc0 : acceptAV.take 2 = [.lit (.int .u8 128), .lit (.int .u8 191)] := accept_at (i := 0) (by decide)
theorem acc1 : (acceptAV.drop 2).take 2 = [.lit (.int .u8 160), .lit (.int .u8 191)] := accept_at (i := 1) (by decide)
theorem acc2 : (acceptAV.drop 4).take 2 = [.lit (.int .u8 128), .lit (.int .u8 159)] := accept_at (i := 2) (by decide)
theorem acc3 : (acceptAV.drop 6).take 2 = [.lit (.int .u8 144), .lit (.int .u8 191)] := accept_at (i := 3) (by decide)
theorem acc4 : (acceptAV.drop 8).take 2 = [.lit (.int .u8 128), .lit (.int .u8 143)] := accept_at (i := 4) (by decide)
theorem glob_first {g : Nat} (h : gtab g = tabFirst) (hi : gifc g = none) : globAV g = .ip (.agg firstAV) := by
  unfold globAV
  rw [hi]
  simp only
  rw [h, if_neg (by decide)]
  rfl
theorem glob_accept {g : Nat} (h : gtab g = tabAccept) (hi : gifc g = none) : globAV g = .ip (.agg acceptAV) := by
  unfold globAV
  rw [hi]
  simp only
  rw [h, if_neg (by decide)]
  rfl
def pow10AV : List AV := tabPow10.map ofCell
theorem glob_pow10 {g : Nat} (h : gtab g = tabPow10) (hi : gifc g = none) : globAV g = .ip (.agg pow10AV) := by
  unfold globAV
  rw [hi]
  simp only
  rw [h, if_neg (by decide)]
  rfl
theorem pow10AV_len : pow10AV.length = 20 := by unfold pow10AV; rw [List.length_map]; decide
theorem pow10_at {i : Nat} (h : i < 20) : pow10AV.getD i .any = .lit (.int .u64 ((10 ^ i : Nat) : Int)) := by
  unfold pow10AV tabPow10
  rw [List.map_map, List.getD, List.getElem?_map, List.getElem?_range (by omega)]
  rfl
theorem glob_ifc {g : Nat} {t : TypeId} (hi : gifc g = some t) : globAV g = .ip .err := by
  unfold globAV
  rw [hi]
def rootsAV : List AV := tabRoots.map ofCell
def beginsAV : List AV := tabBegins.map ofCell
def spaceAV : List AV := tabSpace.map ofCell
theorem glob_roots {g : Nat} (h : gtab g = tabRoots) (hi : gifc g = none) : globAV g = .ip (.agg rootsAV) := by
  unfold globAV
  rw [hi]
  simp only
  rw [h, if_neg (by decide)]
  rfl
theorem glob_begins {g : Nat} (h : gtab g = tabBegins) (hi : gifc g = none) : globAV g = .ip (.agg beginsAV) := by
  unfold globAV
  rw [hi]
  simp only
  rw [h, if_neg (by decide)]
  rfl
theorem glob_space {g : Nat} (h : gtab g = tabSpace) (hi : gifc g = none) : globAV g = .ip (.agg spaceAV) := by
  unfold globAV
  rw [hi]
  simp only
  rw [h, if_neg (by decide)]
  rfl
theorem rootsAV_len : rootsAV.length = 80 := by unfold rootsAV tabRoots; rw [List.length_map, List.length_map]; decide
theorem beginsAV_len : beginsAV.length = 8 := by unfold beginsAV tabBegins; rw [List.length_map, List.length_map]; decide
theorem spaceAV_len : spaceAV.length = 256 := by unfold spaceAV tabSpace; rw [List.length_map, List.length_map, List.length_range]
theorem roots_at {i : Nat} (h : i < 80) : rootsAV.getD i .any = .lit (.int .u64 ((rootsN.getD i 0 : Nat) : Int)) := by
  have : i < rootsN.length := h
  unfold rootsAV tabRoots
  simp [List.getD, List.getElem?_eq_getElem this, ofCell]
theorem begins_at {i : Nat} (h : i < 8) : beginsAV.getD i .any = .lit (.int .u64 ((beginsN.getD i 0 : Nat) : Int)) := by
  have : i < beginsN.length := h
  unfold beginsAV tabBegins
  simp [List.getD, List.getElem?_eq_getElem this, ofCell]
theorem space_at {i : Nat} (h : i < 256) : spaceAV.getD i .any = .lit (.int .u8 ((spaceN i : Nat) : Int)) := by
  unfold spaceAV tabSpace
  simp [List.getD, List.getElem?_map, List.getElem?_range h, ofCell]
attribute [irreducible] firstAV acceptAV pow10AV rootsAV beginsAV spaceAV
theorem drop_bytes {l : List UInt8} {n : Nat} : (l.map byteAV).drop n = (l.drop n).map byteAV := List.map_drop.symm
theorem take_bytes {l : List UInt8} {n : Nat} : (l.map byteAV).take n = (l.take n).map byteAV := List.map_take.symm
theorem take_len {α : Type} {l : List α} {n : Nat} (h : l.length ≤ n) : l.take n = l := List.take_of_length_le h
theorem getD_drop' {l : List UInt8} {n i : Nat} : (l.drop n).getD i 0 = l.getD (n + i) 0 := by rw [List.getD, List.getElem?_drop, List.getD]
theorem app_bytes {l m : List UInt8} : l.map byteAV ++ m.map byteAV = (l ++ m).map byteAV := List.map_append.symm
theorem app_runes {l m : List Int} : l.map runeAV ++ m.map runeAV = (l ++ m).map runeAV := List.map_append.symm
theorem take_all {l m : List AV} {n : Nat} (h : l.length = n) : (l ++ m).take n = l := by subst h; simp
theorem isBytes_eq {l : List UInt8} : isBytes (l.map byteAV) = True := eq_true (isBytes_map l)
theorem getD_left {l m : List AV} {i : Nat} (h : i < l.length) : (l ++ m).getD i .any = l.getD i .any := by
  simp [List.getD, List.getElem?_append_left h]
theorem h_set {H : List AObj} {o o' : AObj} : (H ++ [o]).set H.length o' = H ++ [o'] := by simp
theorem h_at0 {H M : List AObj} : (H ++ M)[H.length]? = M[0]? := by rw [List.getElem?_append_right (Nat.le_refl _), Nat.sub_self]
theorem h_atk {H M : List AObj} {k : Nat} : (H ++ M)[H.length + k]? = M[k]? := by rw [List.getElem?_append_right (by omega), Nat.add_sub_cancel_left]
theorem h_set0 {H M : List AObj} {o : AObj} : (H ++ M).set H.length o = H ++ M.set 0 o := by rw [List.set_append_right _ _ (Nat.le_refl _), Nat.sub_self]
theorem h_setk {H M : List AObj} {o : AObj} {k : Nat} : (H ++ M).set (H.length + k) o = H ++ M.set k o := by rw [List.set_append_right _ _ (by omega), Nat.add_sub_cancel_left]
theorem h_left {H M : List AObj} {k : Nat} (h : k < H.length) : (H ++ M)[k]? = H[k]? := List.getElem?_append_left h
theorem h_setl {H M : List AObj} {k : Nat} {o : AObj} (h : k < H.length) : (H ++ M).set k o = H.set k o ++ M := List.set_append_left _ _ h
theorem le_sh {o : Own} {s : Nat} {xs : List AV} : Le (.sl o s xs) (.sl .sh s xs) := fun _ _ _ _ h => by
  cases h with
  | sl _ _ _ a len cap val hl hcap hs hc hr hf ha ho => exact .sl .sh s xs a len cap val hl hcap hs hc hr (fun e => by cases e) ha (fun k e => by cases e)
theorem bool_eq {a b : Bool} (h : a = b) : AV.lit (.bool a) = AV.lit (.bool b) := by rw [h]
theorem int_eq {k : IntKind} {a b : Int} (h : a = b) : AV.lit (.int k a) = AV.lit (.int k b) := by rw [h]
def EnvLow (m : Nat) (env : Env) : Prop := ∀ t, Low m (get env t)
theorem envLow_nil {m : Nat} : EnvLow m [] := fun t => .any
theorem envLow_cons {m : Nat} {r : Env} {k : Nat} {v : AV} (h : Low m v) (hr : EnvLow m r) : EnvLow m ((k, v) :: r) := fun t => by
  rw [get_cons]
  split
  · exact h
  · exact hr t
theorem low_scalars {m : Nat} {xs : List AV} {o : Own} {s : Nat} (h : ∀ x ∈ xs, ∃ v, x = .lit v) (ho : ∀ k, o = .tok k → k < m) : Low m (.sl o s xs) := by
  refine .sl _ _ _ ho fun x hx => ?_
  unfold flats at hx
  obtain ⟨y, hy, hxy⟩ := List.mem_flatMap.1 hx
  obtain ⟨v, rfl⟩ := h y hy
  simp only [AV.flat, List.mem_singleton] at hxy
  subst hxy
  exact .lit _
theorem low_bytes {m s : Nat} {l : List UInt8} : Low m (.sl .sh s (l.map byteAV)) := low_scalars (fun x hx => by
  obtain ⟨b, _, rfl⟩ := List.mem_map.1 hx
  exact ⟨_, rfl⟩) (fun k e => by cases e)
theorem low_runes {m s : Nat} {l : List Int} : Low m (.sl .sh s (l.map runeAV)) := low_scalars (fun x hx => by
  obtain ⟨b, _, rfl⟩ := List.mem_map.1 hx
  exact ⟨_, rfl⟩) (fun k e => by cases e)
/-- A state may be told as another one, when a loop goes round. -/
def Shift (H₀ : List AObj) (env : Env) (H : List AObj) (env' : Env) (H' : List AObj) : Prop :=
  ∀ G₀ w₀ G w (vs : Nat → Value), HInv G₀ H₀ w₀ → HInv G H w → Step G₀ H₀ w₀ G H w → (∀ t, Rel G H w (get env t) (vs t)) → ∃ G', HInv G' H' w ∧ Step G₀ H₀ w₀ G' H' w ∧ ∀ t, Rel G' H' w (get env' t) (vs t)
theorem shift_le {H₀ H : List AObj} {env env' : Env} (h : EnvLe env env') : Shift H₀ env H env' H := fun _ _ G w vs _ hi hs r => ⟨G, hi, hs, fun t => h t _ _ _ _ (r t)⟩
theorem shift_cut {H₀ M : List AObj} {env env' : Env} (h : EnvLe env env') (hl : EnvLow H₀.length env') : Shift H₀ env (H₀ ++ M) env' H₀ := fun G₀ w₀ G w vs h0 hi hs r => by
  have htk : (H₀ ++ M).take H₀.length = H₀ := List.take_left
  have hc := hi.cut H₀.length fun k sh cs hk e y hy => by
    rw [List.getElem?_append_left hk] at e
    obtain ⟨arr, T, fr, hb', hsz, hr', _⟩ := h0.cells k sh cs e
    obtain ⟨j, hj⟩ := List.mem_iff_getElem?.1 hy
    have hja : j < arr.size := Nat.lt_of_lt_of_le (lt_of_get hj) hsz
    exact (hr' j y _ hj (Array.getElem?_eq_getElem hja)).low
  have hs' := hs.cut (m := H₀.length) (Nat.le_refl _)
  rw [htk] at hc hs'
  refine ⟨G, hc, hs', fun t => ?_⟩
  have := (h t _ _ _ _ (r t)).cut H₀.length (hl t)
  rwa [htk] at this
/-- Once more through a loop. -/
def Again {α : Type} (I : α → Prop) (E : α → Env) (Hf : α → List AObj) (m : α → Nat) (x : α) (env : Env) (H : List AObj) [Tag I] [Tag E] [Tag Hf] [Tag m] : Prop := ∃ y, m y < m x ∧ I y ∧ Shift (Hf x) env H (E y) (Hf y)
theorem again {α : Type} {I : α → Prop} {E : α → Env} {Hf : α → List AObj} {m : α → Nat} {x : α} {env : Env} {H : List AObj} (y : α) (hm : m y < m x) (hI : I y) (hH : H = Hf y) (hE : EnvLe env (E y)) : Again I E Hf m x env H := ⟨y, hm, hI, hH ▸ shift_le hE⟩
theorem again_cut {α : Type} {I : α → Prop} {E : α → Env} {H₀ : List AObj} {m : α → Nat} {x : α} {env : Env} {M : List AObj} (y : α) (hm : m y < m x) (hI : I y) (hL : EnvLow H₀.length (E y)) (hE : EnvLe env (E y)) : Again I E (fun _ => H₀) m x env (H₀ ++ M) :=
  ⟨y, hm, hI, shift_cut hE hL⟩
theorem again_shift {α : Type} {I : α → Prop} {E : α → Env} {Hf : α → List AObj} {m : α → Nat} {x : α} {env : Env} {H : List AObj} (y : α) (hm : m y < m x) (hI : I y) (hS : Shift (Hf x) env H (E y) (Hf y)) : Again I E Hf m x env H := ⟨y, hm, hI, hS⟩
attribute [irreducible] Again
theorem Sat.le {n : Nat} {G : Gh} {env env' : Env} {H : List AObj} {a : Act} {w : World} (s : Sat n ds G env H a w) (h : EnvLe env env') : Sat n ds G env' H a w :=
  ⟨s.size, s.defers, fun t => h t G H w _ (s.env t), s.inv⟩
theorem vc_loop {P : Program} {L : Tab} (hL : TabOk P L) (hmx : P.follows .mixedOrders = true) (mu : List Nat) {n : Nat} {c : Code} {Q : Exit → Env → List AObj → Prop} {env : Env} {H : List AObj} {α : Type} (I : α → Prop) (E : α → Env) (Hf : α → List AObj) (m : α → Nat) (hok : okC mu n c = true)
    (round : ∀ x, I x → vcC P L mu n c (Ex (fun env H => Again I E Hf m x env H) Q) (E x) (Hf x)) (x : α) (hx : I x) (hE : EnvLe env (E x)) (hH : H = Hf x) : AW P n (.loop c) Q env H := by
  intro ro N ds G a w s
  subst hH
  refine wp_loop_gh (fun k a' w' => ∃ y G', m y = k ∧ I y ∧ Sat n ds G' (E y) (Hf y) a' w' ∧ Step G (Hf x) w G' (Hf y) w') (fun k a' w' ⟨y, G', hk, hy, s', stp⟩ => ?_) (m x) a w ⟨x, G, rfl, hx, s.le hE, .refl _ _ _⟩
  refine wpIn_mono (vcC_sound hL hmx c hok (round y hy) ro N ds G' a' w' s') fun e a'' w'' ⟨G'', env'', H'', s'', stp', q⟩ => ?_
  cases e with
  | normal =>
    unfold Ex Again at q
    obtain ⟨z, h1, h2, h3⟩ := q
    obtain ⟨G3, hi3, st3, hr3⟩ := h3 G' w' G'' w'' (fun t => a''.tmps.getD t undef) s'.inv s''.inv stp' s''.env
    exact ⟨m z, hk ▸ h1, z, G3, rfl, h2, ⟨s''.size, s''.defers, hr3, hi3⟩, stp.trans st3⟩
  | _ => exact ⟨G'', env'', H'', s'', stp.trans stp', q⟩
/-- The slots that a loop does not write keep what they have. -/
def kept (env : Env) : List Nat → Env
  | [] => []
  | t :: r => (t, get env t) :: kept env r
theorem kept_nil {env : Env} : kept env [] = [] := rfl
theorem kept_cons {env : Env} {t : Nat} {r : List Nat} : kept env (t :: r) = (t, get env t) :: kept env r := rfl
theorem vc_loopk {P : Program} {L : Tab} (hL : TabOk P L) (hmx : P.follows .mixedOrders = true) (mu ks : List Nat) {n : Nat} {c : Code} {Q : Exit → Env → List AObj → Prop} {env : Env} {H : List AObj} {α : Type} (I : α → Prop) (E : α → Env) (Hf : α → List AObj) (m : α → Nat) (hok : okC mu n c = true)
    (round : ∀ x, I x → vcC P L mu n c (Ex (fun env' H => Again I (fun y => E y ++ kept env ks) Hf m x env' H) Q) (E x ++ kept env ks) (Hf x)) (x : α) (hx : I x) (hE : EnvLe env (E x ++ kept env ks)) (hH : H = Hf x) : AW P n (.loop c) Q env H :=
  vc_loop hL hmx mu I (fun y => E y ++ kept env ks) Hf m hok round x hx hE hH
/-- A slice whose capacity is its length gets a token of its own: a step of the proof alone. -/
theorem aw_mint {P : Program} {n : Nat} {c : Code} {Q : Exit → Env → List AObj → Prop} {env : Env} {H : List AObj} (t s : Nat) {z : Nat} {xs : List AV} (ht : get env t = .sl .full z xs) (hs : 0 < s) (hz : xs ≠ [] → z = s)
    (h : AW P n c Q ((t, .sl (.tok H.length) s xs) :: env) (H ++ [.grow s xs.length none])) : AW P n c Q env H := by
  intro ro N ds G a w sat
  have r := sat.env t
  rw [ht] at r
  generalize hv : a.tmps.getD t undef = v at r
  have r0 := r
  cases r with
  | sl _ _ _ ad len cap val hl hcap hs' hc hr hf ha ho =>
    obtain ⟨hi, st, hr'⟩ := mint none sat.inv r0 hs hz (fun h => absurd rfl h)
    refine wpIn_mono (h ro N ds _ a w ⟨sat.size, sat.defers, fun u => ?_, hi⟩) fun _ _ _ p => p.trans st
    rw [get_cons]
    split
    · rename_i e
      subst e
      rw [hv]
      exact hr'
    · exact (sat.env u).mono st
theorem le_nil {o : Own} {s t : Nat} : Le (.sl o s []) (.sl .sh t []) := fun _ _ _ _ h => by
  cases h with
  | sl _ _ _ a len cap val hl hcap hs hc hr hf ha ho => exact .sl .sh t [] a len cap val hl hcap (fun x hx => by cases hx) hc hr (fun e => by cases e) ha (fun k e => by cases e)
theorem done_grow {H₀ M : List AObj} {R : AV → List AObj → Prop} {x : AV} (hr : R x (H₀ ++ M)) : Done H₀ R x (H₀ ++ M) := done_keep x (Le.refl x) (by simp) hr
def LowAll (m : Nat) (xs : List AV) : Prop := ∀ x ∈ xs, Low m x
theorem lowAll_nil {m : Nat} : LowAll m [] := fun x hx => by cases hx
theorem lowAll_cons {m : Nat} {x : AV} {xs : List AV} (h : Low m x) (k : LowAll m xs) : LowAll m (x :: xs) := fun y hy => by
  rcases List.mem_cons.1 hy with rfl | hy
  · exact h
  · exact k y hy
theorem low_tup {m : Nat} {xs : List AV} (h : LowAll m xs) : Low m (.tup xs) := .tup _ h
theorem low_agg {m : Nat} {xs : List AV} (h : LowAll m xs) : Low m (.agg xs) := .agg _ h
theorem low_nilsl {m s : Nat} {o : Own} (ho : ∀ k, o = .tok k → k < m) : Low m (.sl o s []) := .sl _ _ _ ho fun x hx => by simp [flats] at hx
inductive LeAll : List AV → List AV → Prop
  | nil : LeAll [] []
  | cons {x y : AV} {xs ys : List AV} (h : Le x y) (k : LeAll xs ys) : LeAll (x :: xs) (y :: ys)
theorem LeAll.get {xs ys : List AV} (h : LeAll xs ys) : xs.length = ys.length ∧ ∀ (j : Nat) y, ys[j]? = some y → ∃ x, xs[j]? = some x ∧ Le x y := by
  induction h with
  | nil => exact ⟨rfl, fun j y e => by simp at e⟩
  | cons h _ ih =>
    refine ⟨by simp [ih.1], fun j y e => ?_⟩
    cases j with
    | zero => simp at e; subst e; exact ⟨_, rfl, h⟩
    | succ j => simpa using ih.2 j y (by simpa using e)
theorem le_tup {xs ys : List AV} (h : LeAll xs ys) : Le (.tup xs) (.tup ys) := fun _ _ _ _ r => by
  obtain ⟨hl, hg⟩ := h.get
  cases r with
  | tup _ arr hs hr =>
    refine .tup _ _ (hs.trans hl) fun j z v e e' => ?_
    obtain ⟨x, hx, hle⟩ := hg j z e
    exact hle _ _ _ _ (hr j x v hx e')
theorem le_agg {xs ys : List AV} (h : LeAll xs ys) : Le (.agg xs) (.agg ys) := fun _ _ _ _ r => by
  obtain ⟨hl, hg⟩ := h.get
  cases r with
  | agg _ arr hs hr =>
    refine .agg _ _ (hs.trans hl) fun j z v e e' => ?_
    obtain ⟨x, hx, hle⟩ := hg j z e
    exact hle _ _ _ _ (hr j x v hx e')
theorem done_lit {H₀ M : List AObj} {R : AV → List AObj → Prop} {v : Value} (hr : R (.lit v) H₀) : Done H₀ R (.lit v) (H₀ ++ M) := done_cut _ (Le.refl _) (.lit _) hr
theorem done_le {H₀ : List AObj} {R : AV → List AObj → Prop} {x : AV} (y : AV) (h : Le x y) (hr : R y H₀) : Done H₀ R x H₀ := done_keep y h (Nat.le_refl _) hr
end Go.Proofs.YtdahdbnfknmmgaaGreatDoor.V
end

section
set_option linter.unusedSimpArgs false
set_option linter.unusedVariables false
namespace Go.Proofs.YtdahdbnfknmmgaaGreatDoor.V
open Go
attribute [go_sem ↓] c_skip
attribute [go_sem ↓] c_seq
attribute [go_sem ↓] c_cond
attribute [go_sem ↓] c_block
attribute [go_sem ↓] c_exit
attribute [go_sem ↓] c_ret
attribute [go_sem ↓] c_region
attribute [go_sem ↓] c_draw
attribute [go_sem ↓] c_loop
attribute [go_sem ↓] ex_normal
attribute [go_sem ↓] ex_exit
attribute [go_sem ↓] ex_ret
attribute [go_sem ↓] in_normal
attribute [go_sem ↓] in_exit
attribute [go_sem ↓] in_ret
attribute [go_sem ↓] b_ret
attribute [go_sem ↓] b_normal
attribute [go_sem ↓] o_nil
attribute [go_sem ↓] o_cons
attribute [go_sem ↓] o_guard
attribute [go_sem ↓] d_nil
attribute [go_sem ↓] d_cons
attribute [go_sem ↓] d_guard
attribute [go_sem ↓] gv_zero
attribute [go_sem ↓] gv_succ
attribute [go_sem ↓] kn_zero
attribute [go_sem ↓] kn_succ
attribute [go_sem ↓] op_move
attribute [go_sem ↓] op_assign
attribute [go_sem ↓] op_pick
attribute [go_sem ↓] op_bin
attribute [go_sem ↓] op_un
attribute [go_sem ↓] op_conv
attribute [go_sem ↓] op_extract
attribute [go_sem ↓] op_indexAddr
attribute [go_sem ↓] op_index
attribute [go_sem ↓] op_load
attribute [go_sem ↓] op_slice
attribute [go_sem ↓] op_fieldAddr
attribute [go_sem ↓] op_field
attribute [go_sem ↓] op_build
attribute [go_sem ↓] op_buildSlice
attribute [go_sem ↓] op_box
attribute [go_sem ↓] op_alloc
attribute [go_sem ↓] op_store
attribute [go_sem ↓] op_callv
attribute [go_sem ↓] op_callb
attribute [go_sem ↓] od_move
attribute [go_sem ↓] od_assign
attribute [go_sem ↓] od_pick
attribute [go_sem ↓] od_bin
attribute [go_sem ↓] od_un
attribute [go_sem ↓] od_conv
attribute [go_sem ↓] od_extract
attribute [go_sem ↓] od_indexAddr
attribute [go_sem ↓] od_index
attribute [go_sem ↓] od_load
attribute [go_sem ↓] od_slice
attribute [go_sem ↓] od_fieldAddr
attribute [go_sem ↓] od_field
attribute [go_sem ↓] od_build
attribute [go_sem ↓] od_buildSlice
attribute [go_sem ↓] od_box
attribute [go_sem ↓] od_callv
attribute [go_sem ↓] od_callb
attribute [go_sem ↓] call_yld call_fn0
attribute [go_sem ↓] call_fn
attribute [go_sem ↓] calld_fn0
attribute [go_sem ↓] b_len
attribute [go_sem ↓] b_append
attribute [go_sem ↓] bd_len
attribute [go_sem ↓] put_some
attribute [go_sem ↓] put_none
attribute [go_sem ↓] ev_tmp
attribute [go_sem ↓] ev_const
attribute [go_sem ↓] ev_func
attribute [go_sem ↓] get_cons
attribute [go_sem ↓] lift_some
attribute [go_sem ↓] lift_none
attribute [go_sem ↓] liftD_some
attribute [go_sem ↓] liftD_none
attribute [go_sem ↓] ev_global
attribute [go_sem ↓] oe_move
attribute [go_sem ↓] oe_assign
attribute [go_sem ↓] oe_pick
attribute [go_sem ↓] oe_unOp
attribute [go_sem ↓] oe_convert
attribute [go_sem ↓] oe_extract
attribute [go_sem ↓] oe_indexAddr
attribute [go_sem ↓] oe_index
attribute [go_sem ↓] oe_load
attribute [go_sem ↓] oe_slice
attribute [go_sem ↓] oe_fieldAddr
attribute [go_sem ↓] oe_field
attribute [go_sem ↓] oe_build
attribute [go_sem ↓] oe_buildSlice
attribute [go_sem ↓] oe_box
attribute [go_sem ↓] oe_alloc
attribute [go_sem ↓] oe_store
attribute [go_sem ↓] oe_nilCheck
attribute [go_sem ↓] oe_makeFunc
attribute [go_sem ↓] oe_makeInterface oe_toArr
attribute [go_sem ↓] oe_binOp
attribute [go_sem ↓] oe_callv
attribute [go_sem ↓] oe_len
attribute [go_sem ↓] oe_cap
attribute [go_sem ↓] oe_min
attribute [go_sem ↓] oe_max
attribute [go_sem ↓] oe_copy
attribute [go_sem ↓] oe_append
attribute [go_sem ↓] nx_move
attribute [go_sem ↓] nx_assign
attribute [go_sem ↓] nx_pick
attribute [go_sem ↓] nx_unOp
attribute [go_sem ↓] nx_extract
attribute [go_sem ↓] nx_indexAddr
attribute [go_sem ↓] nx_index
attribute [go_sem ↓] nx_slice
attribute [go_sem ↓] nx_fieldAddr
attribute [go_sem ↓] nx_field
attribute [go_sem ↓] nx_build
attribute [go_sem ↓] nx_nilCheck
attribute [go_sem ↓] nx_makeFunc
attribute [go_sem ↓] nx_makeInterface nx_toArr
attribute [go_sem ↓] nx_binOp
attribute [go_sem ↓] nx_len
attribute [go_sem ↓] nx_cap
attribute [go_sem ↓] nx_min
attribute [go_sem ↓] nx_max
attribute [go_sem ↓] nx_store
attribute [go_sem ↓] nx_alloc
attribute [go_sem ↓] nx_append
attribute [go_sem ↓] nx_copy
attribute [go_sem ↓] nx_load
attribute [go_sem ↓] nx_box
attribute [go_sem ↓] nx_buildSlice
attribute [go_sem ↓] nx_convert
attribute [go_sem ↓] nx_callv
attribute [go_sem ↓] oe_sliceData oe_string nx_sliceData nx_string b_sliceData b_string bd_sliceData bd_string
attribute [go_sem ↓] b_strobj op_makeSlice oe_makeSlice nx_makeSlice
attribute [go_sem] qSliceData qString vcMake vcStrObj
attribute [go_sem ↓] st_nil st_cons wa_nil wa_cons
attribute [go_sem ↓] op_nilCheck op_makeFunc op_makeInterface op_toArr od_toArr od_nilCheck od_makeFunc od_makeInterface new_none new_some b_cap b_min b_max b_copy bd_cap bd_min bd_max ap_sl ap_mrow ap_msl
attribute [go_sem] nc_tmp nc_glob nc_func nc_int nc_bool nc_str nc_ptr nc_iface nc_nfunc nc_map nc_nil of_ptr of_niface of_nfunc of_nmap
attribute [go_sem] qToArr aggBin ones_bytes isInts_bytes ints_bytes ints_inj vcAppendM vcAppendR vcAppendZ vcCopy copySrc vcBuildM vcNil qNil qLeast qCap qIface mintNil bufOf notMsl tokTy_grow okTy_none okTy_some AObj.cells.injEq Shape.one.injEq
attribute [go_sem ↓] ch_nil
attribute [go_sem ↓] ch_cons
attribute [go_sem ↓] ch_guard
attribute [go_sem ↓] kept_cons
attribute [go_sem 100] fdiv_pos
attribute [go_sem] tdiv_pos tmod_pos u8_and63 u8_and31 u8_and15 u8_and7 u8_or128 u8_or192 u8_or224 u8_or240
attribute [go_sem] i32_or6 i32_or12 i32_or18 acc0 acc1 acc2 acc3 acc4
attribute [go_sem] sameBin isConst
attribute [go_sem] h_at0 h_atk h_set0 h_setk h_left h_setl kept_nil fin_eq finL_some rl_nil rl_cons rlCons_some r_tmp r_cell rt_one rt_two rt_nil get_cons' get_nil of_int of_bool of_str of_nil vcGuard_u undef vcGuard_tt vcGuard_ff vcGuard_tf vcGuard_ft vcGuard_b vcGuard_b' vcIf_true
attribute [go_sem] vcIf_false vcIf_bool decide_eq_true_eq decide_eq_false_iff_not Bool.not_eq_true' Bool.not_eq_false' Decidable.not_not Int.not_lt Int.not_le initEnv qTrue qPick qUn' qUn qLen' qLen qExtract qBox qBin isShift intBin intShift strBin boolBin qIndexAddr
attribute [go_sem] qIndex qLoad okLoad okGet getPart qSlice numOr evO qFieldAddr qField qConv qBuild qBuildSlice evParts afill aset regroup flat_agg flat_lit flat_str flat_sl flat_ip flat_mp flat_msl flat_mrow flat_fn flat_ifc flat_data flat_err flat_any flat_tup okv_agg okv_lit okv_str okv_sl okv_ip okv_mp okv_msl okv_mrow okv_fn okv_ifc okv_data okv_err okv_any okv_tup AV.scalar Value.oneCell' TK.agg known srcKind
attribute [go_sem] app_bytes app_runes canAppend Array.size_empty Option.some.injEq AObj.grow.injEq drop_bytes take_bytes take_len getD_drop' List.drop_drop List.length_drop List.length_take min_left fdiv_nat bits_u8 bits_u16 bits_u32 bits_u64 bits_i8 bits_i16 bits_i32 bits_i64 List.getD_cons_zero List.getD_cons_succ
attribute [go_sem 100] zeroFlat_unf
attribute [go_sem] pow10AV_len pow10_at rootsAV_len beginsAV_len spaceAV_len roots_at begins_at space_at
attribute [go_sem] List.set_cons_zero List.set_cons_succ Int.cast_ofNat_Int List.nil_append List.append_nil List.cons_append byte_lt byte_lt' byte_ge firstAV_len first_at acceptAV_len accept_at take_all isBytes_eq unbytes_map getD_bytes getD_runes byte_u8 byte_i32 byte_i64 byte_u32 byte_u64 getD_left h_set
attribute [go_sem] List.length_map List.length_append List.length_replicate List.append_assoc IntWalk.i64_in IntWalk.i32_in IntWalk.u8_in IntWalk.u32_in IntWalk.u64_in vcAppend vcStore vcMut vcBytes qConvH List.contains_nil List.contains_cons Option.getD_some Option.getD_none Bool.or_false Bool.false_or Bool.or_true Bool.true_or beq_self_eq_true srcAV appRes
attribute [go_sem] Option.map_some Option.map_none Option.isSome_some Option.isSome_none List.map_cons List.map_nil List.toList_toArray List.getElem?_cons_zero List.getElem?_cons_succ List.all_cons List.all_nil Bool.and_self Bool.and_true Bool.true_and Bool.not_true Bool.not_false true_and and_true false_and and_false ne_eq not_true_eq_false not_false_eq_true if_true if_false
attribute [go_sem] Bool.false_eq_true forall_const eq_self decide_true decide_false true_implies implies_true false_implies ite_self Nat.zero_add Nat.mul_one List.drop_zero Int.toNat_natCast Int.toNat_zero Int.toNat_one List.length_cons List.length_nil List.range_succ List.range_zero
theorem vcI {p q a b : Prop} [Tag a] [Tag b] (h : p → a) (k : q → b) : (p → Hold a) ∧ (q → Hold b) := ⟨fun x => unhold (h x), fun x => unhold (k x)⟩
theorem ll1 {α β : Type} {f : α → β} {l : List α} : (l.map f).length = l.length := List.length_map f
theorem ll2 {α : Type} {l m : List α} : (l ++ m).length = l.length + m.length := List.length_append
theorem ll3 {α : Type} {a : α} {l : List α} : (a :: l).length = l.length + 1 := rfl
theorem ll4 {α : Type} : ([] : List α).length = 0 := rfl
theorem ll5 {α : Type} {n : Nat} {a : α} : (List.replicate n a).length = n := List.length_replicate
theorem ll6 {α : Type} {n : Nat} {l : List α} : (l.drop n).length = l.length - n := List.length_drop
theorem ll7 {α : Type} {n : Nat} {l : List α} : (l.take n).length = min n l.length := List.length_take
theorem ll8 {α : Type} {n : Nat} {l : List α} {a : α} : (l.set n a).length = l.length := List.length_set
theorem vcA {p q : Prop} (h : p) (k : q) : p ∧ q := ⟨h, k⟩
theorem env_ok {a b : Env} (h : EnvLe a b := by repeat (first | exact envLe_nil | (refine envLe_cons ?_ ?_; focus (first | exact Le.refl _ | exact Le.any _ | exact le_sh | exact le_nil | (refine le_tup ?_; repeat (first | exact LeAll.nil | (refine LeAll.cons ?_ ?_; focus (first | exact Le.refl _ | exact Le.any _ | exact le_sh | exact le_nil)))) | (refine le_agg ?_; repeat (first | exact LeAll.nil | (refine LeAll.cons ?_ ?_; focus (first | exact Le.refl _ | exact Le.any _ | exact le_sh | exact le_nil)))) | (refine le_eq ?_; simp -implicitDefEqProofs (disch := omega) only [get_cons, get_nil, if_true, if_false, ↓reduceIte, Nat.reduceEqDiff, eq_self, IntWalk.i64_in, IntWalk.i32_in, IntWalk.u8_in, IntWalk.u32_in, IntWalk.u64_in, reduceCtorEq]; try (first | rfl | (refine int_eq ?_; omega))))))) : EnvLe a b := h
attribute [go_sem] Nat.reducePow Int.reducePow Nat.reduceDiv Nat.reduceBEq Nat.reduceEqDiff Nat.reduceLT Nat.reduceLeDiff Nat.reduceAdd Nat.reduceSub Nat.reduceMul Nat.reduceMod Int.reduceToNat Int.reduceNeg Int.reduceAdd Int.reduceSub Int.reduceMul Int.reduceDiv Int.reduceMod Int.reduceLT Int.reduceLE Int.reduceEq reduceCtorEq
attribute [go_sem ↓] reduceIte
end Go.Proofs.YtdahdbnfknmmgaaGreatDoor.V
end

section
set_option linter.unusedSimpArgs false
set_option linter.unusedVariables false
namespace Go.Proofs.YtdahdbnfknmmgaaGreatDoor.V
open Go
def tbl : List LT := [
  ltOther,
  ⟨.one, 1, 8, [.lit .nilFunc]⟩,
  ⟨.int .i64, 1, 8, [.lit (.int .i64 0)]⟩,
  ⟨.int .i64, 1, 8, [.lit (.int .i64 0)]⟩,
  ⟨.bool, 1, 1, [.lit (.bool false)]⟩,
  ⟨.int .u8, 1, 1, [.lit (.int .u8 0)]⟩,
  ⟨.int .u8, 1, 1, [.lit (.int .u8 0)]⟩,
  ⟨.struct [(0, 2), (1, 3), (2, 4), (3, 6)], 4, 24, [.lit (.int .i64 0), .lit (.int .i64 0), .lit (.bool false), .lit (.int .u8 0)]⟩,
  ⟨.struct [(0, 2), (1, 3), (2, 4), (3, 6)], 4, 24, [.lit (.int .i64 0), .lit (.int .i64 0), .lit (.bool false), .lit (.int .u8 0)]⟩,
  ⟨.str, 1, 16, [.str []]⟩,
  ⟨.str, 1, 16, [.str []]⟩,
  ⟨.str, 1, 16, [.str []]⟩,
  ⟨.int .u64, 1, 8, [.lit (.int .u64 0)]⟩,
  ⟨.struct [(0, 9), (1, 12)], 2, 24, [.str [], .lit (.int .u64 0)]⟩,
  ⟨.struct [(0, 9), (1, 12)], 2, 24, [.str [], .lit (.int .u64 0)]⟩,
  ⟨.ptr 216, 1, 8, [.lit (.pointer none)]⟩,
  ⟨.ptr 219, 1, 8, [.lit (.pointer none)]⟩,
  ⟨.ptr 226, 1, 8, [.lit (.pointer none)]⟩,
  ⟨.struct [(0, 17)], 1, 8, [.lit (.pointer none)]⟩,
  ⟨.struct [(0, 17)], 1, 8, [.lit (.pointer none)]⟩,
  ⟨.iface, 1, 16, [.lit .nilIface]⟩,
  ⟨.int .i32, 1, 4, [.lit (.int .i32 0)]⟩,
  ⟨.one, 1, 8, [.lit .nilFunc]⟩,
  ⟨.int .i64, 1, 8, [.lit (.int .i64 0)]⟩,
  ltOther,
  ⟨.one, 1, 8, [.lit .nilFunc]⟩,
  ⟨.slice 9, 1, 24, [.sl .full 0 []]⟩,
  ⟨.slice 29, 1, 24, [.sl .full 0 []]⟩,
  ⟨.struct [(0, 3), (1, 3), (2, 9), (3, 26), (4, 27)], 5, 80, [.lit (.int .i64 0), .lit (.int .i64 0), .str [], .sl .full 0 [], .sl .full 0 []]⟩,
  ⟨.struct [(0, 3), (1, 3), (2, 9), (3, 26), (4, 27)], 5, 80, [.lit (.int .i64 0), .lit (.int .i64 0), .str [], .sl .full 0 [], .sl .full 0 []]⟩,
  ltOther,
  ⟨.one, 1, 8, [.lit .nilFunc]⟩,
  ⟨.one, 1, 8, [.lit .nilFunc]⟩,
  ⟨.one, 1, 8, [.lit .nilFunc]⟩,
  ⟨.one, 1, 8, [.lit .nilFunc]⟩,
  ⟨.one, 1, 8, [.lit .nilFunc]⟩,
  ⟨.one, 1, 8, [.lit .nilFunc]⟩,
  ⟨.arr 32 5, 32, 32, List.replicate 32 (.lit (.int .u8 0))⟩,
  ltOther,
  ⟨.one, 1, 8, [.lit .nilFunc]⟩,
  ltOther,
  ⟨.one, 1, 8, [.lit .nilFunc]⟩,
  ⟨.one, 1, 8, [.lit .nilFunc]⟩,
  ⟨.one, 1, 8, [.lit .nilFunc]⟩,
  ⟨.one, 1, 8, [.lit .nilFunc]⟩,
  ⟨.one, 1, 8, [.lit .nilFunc]⟩,
  ⟨.one, 1, 8, [.lit .nilFunc]⟩,
  ⟨.slice 5, 1, 24, [.sl .full 0 []]⟩,
  ⟨.ptr 50, 1, 8, [.lit (.pointer none)]⟩,
  ⟨.struct [(0, 48), (1, 47)], 2, 32, [.lit (.pointer none), .sl .full 0 []]⟩,
  ⟨.struct [(0, 48), (1, 47)], 2, 32, [.lit (.pointer none), .sl .full 0 []]⟩,
  ⟨.struct [(0, 50)], 2, 32, [.lit (.pointer none), .sl .full 0 []]⟩,
  ⟨.struct [(0, 50)], 2, 32, [.lit (.pointer none), .sl .full 0 []]⟩,
  ⟨.one, 1, 8, [.lit .nilFunc]⟩,
  ⟨.one, 1, 8, [.lit .nilFunc]⟩,
  ⟨.ptr 59, 1, 8, [.lit (.pointer none)]⟩,
  ⟨.struct [(0, 9), (1, 3)], 2, 24, [.str [], .lit (.int .i64 0)]⟩,
  ⟨.struct [(0, 9), (1, 3)], 2, 24, [.str [], .lit (.int .i64 0)]⟩,
  ⟨.struct [(0, 57), (2, 23)], 3, 32, [.str [], .lit (.int .i64 0), .lit (.int .i64 0)]⟩,
  ⟨.struct [(0, 57), (2, 23)], 3, 32, [.str [], .lit (.int .i64 0), .lit (.int .i64 0)]⟩,
  ⟨.one, 1, 8, [.lit .nilFunc]⟩,
  ⟨.one, 1, 8, [.lit .nilFunc]⟩,
  ⟨.one, 1, 8, [.lit .nilFunc]⟩,
  ⟨.one, 1, 8, [.lit .nilFunc]⟩,
  ⟨.struct [(0, 9), (1, 29)], 6, 96, [.str [], .lit (.int .i64 0), .lit (.int .i64 0), .str [], .sl .full 0 [], .sl .full 0 []]⟩,
  ⟨.struct [(0, 9), (1, 29)], 6, 96, [.str [], .lit (.int .i64 0), .lit (.int .i64 0), .str [], .sl .full 0 [], .sl .full 0 []]⟩,
  ⟨.one, 1, 8, [.lit .nilFunc]⟩,
  ⟨.one, 1, 8, [.lit .nilFunc]⟩,
  ⟨.one, 1, 8, [.lit .nilFunc]⟩,
  ⟨.one, 1, 8, [.lit .nilFunc]⟩,
  ⟨.one, 1, 8, [.lit .nilFunc]⟩,
  ⟨.one, 1, 8, [.lit .nilFunc]⟩,
  ⟨.one, 1, 8, [.lit .nilFunc]⟩,
  ⟨.one, 1, 8, [.lit .nilFunc]⟩,
  ⟨.ptr 52, 1, 8, [.lit (.pointer none)]⟩,
  ⟨.iface, 1, 16, [.lit .nilIface]⟩,
  ⟨.iface, 1, 16, [.lit .nilIface]⟩,
  ⟨.one, 1, 8, [.lit .nilFunc]⟩,
  ⟨.one, 1, 8, [.lit .nilFunc]⟩,
  ltOther,
  ⟨.one, 1, 8, [.lit .nilFunc]⟩,
  ⟨.int .u64, 1, 8, [.lit (.int .u64 0)]⟩,
  ⟨.ptr 5, 1, 8, [.lit (.pointer none)]⟩,
  ⟨.one, 1, 8, [.lit .nilFunc]⟩,
  ⟨.one, 1, 8, [.lit .nilFunc]⟩,
  ⟨.ptr 57, 1, 8, [.lit (.pointer none)]⟩,
  ⟨.one, 1, 8, [.lit .nilFunc]⟩,
  ⟨.slice 65, 1, 24, [.sl .full 0 []]⟩,
  ⟨.one, 1, 8, [.lit .nilFunc]⟩,
  ⟨.one, 1, 8, [.lit .nilFunc]⟩,
  ⟨.one, 1, 8, [.lit .nilFunc]⟩,
  ltOther,
  ⟨.one, 1, 8, [.lit .nilFunc]⟩,
  ⟨.one, 1, 8, [.lit .nilFunc]⟩,
  ⟨.one, 1, 8, [.lit .nilFunc]⟩,
  ⟨.one, 1, 8, [.lit .nilFunc]⟩,
  ⟨.one, 1, 8, [.lit .nilFunc]⟩,
  ⟨.one, 1, 8, [.lit .nilFunc]⟩,
  ⟨.one, 1, 8, [.lit .nilFunc]⟩,
  ⟨.one, 1, 8, [.lit .nilFunc]⟩,
  ⟨.arr 256 5, 256, 256, List.replicate 256 (.lit (.int .u8 0))⟩,
  ⟨.struct [(0, 5), (1, 5)], 2, 2, [.lit (.int .u8 0), .lit (.int .u8 0)]⟩,
  ⟨.struct [(0, 5), (1, 5)], 2, 2, [.lit (.int .u8 0), .lit (.int .u8 0)]⟩,
  ⟨.arr 16 102, 32, 32, List.replicate 32 (.lit (.int .u8 0))⟩,
  ⟨.one, 1, 8, [.lit .nilFunc]⟩,
  ⟨.one, 1, 8, [.lit .nilFunc]⟩,
  ltOther,
  ⟨.one, 1, 8, [.lit .nilFunc]⟩,
  ⟨.one, 1, 8, [.lit .nilFunc]⟩,
  ⟨.str, 1, 16, [.str []]⟩,
  ⟨.slice 47, 1, 24, [.sl .full 0 []]⟩,
  ⟨.ptr 120, 1, 8, [.lit (.pointer none)]⟩,
  ⟨.int .u32, 1, 4, [.lit (.int .u32 0)]⟩,
  ⟨.int .u64, 1, 8, [.lit (.int .u64 0)]⟩,
  ⟨.arr 80 113, 80, 640, List.replicate 80 (.lit (.int .u64 0))⟩,
  ⟨.one, 1, 8, [.lit .nilFunc]⟩,
  ⟨.one, 1, 8, [.lit .nilFunc]⟩,
  ⟨.one, 1, 8, [.lit .nilFunc]⟩,
  ⟨.arr 8 112, 8, 32, [.lit (.int .u32 0), .lit (.int .u32 0), .lit (.int .u32 0), .lit (.int .u32 0), .lit (.int .u32 0), .lit (.int .u32 0), .lit (.int .u32 0), .lit (.int .u32 0)]⟩,
  ⟨.struct [(0, 118), (8, 3), (9, 115), (10, 117), (11, 117), (12, 117), (13, 117)], 14, 80, [.lit (.int .u32 0), .lit (.int .u32 0), .lit (.int .u32 0), .lit (.int .u32 0), .lit (.int .u32 0), .lit (.int .u32 0), .lit (.int .u32 0), .lit (.int .u32 0), .lit (.int .i64 0), .lit .nilFunc, .lit .nilFunc, .lit .nilFunc, .lit .nilFunc, .lit .nilFunc]⟩,
  ⟨.struct [(0, 118), (8, 3), (9, 115), (10, 117), (11, 117), (12, 117), (13, 117)], 14, 80, [.lit (.int .u32 0), .lit (.int .u32 0), .lit (.int .u32 0), .lit (.int .u32 0), .lit (.int .u32 0), .lit (.int .u32 0), .lit (.int .u32 0), .lit (.int .u32 0), .lit (.int .i64 0), .lit .nilFunc, .lit .nilFunc, .lit .nilFunc, .lit .nilFunc, .lit .nilFunc]⟩,
  ⟨.arr 8 113, 8, 64, [.lit (.int .u64 0), .lit (.int .u64 0), .lit (.int .u64 0), .lit (.int .u64 0), .lit (.int .u64 0), .lit (.int .u64 0), .lit (.int .u64 0), .lit (.int .u64 0)]⟩,
  ⟨.one, 1, 8, [.lit .nilFunc]⟩,
  ⟨.one, 1, 8, [.lit .nilFunc]⟩,
  ⟨.one, 1, 8, [.lit .nilFunc]⟩,
  ⟨.one, 1, 8, [.lit .nilFunc]⟩,
  ⟨.one, 1, 8, [.lit .nilFunc]⟩,
  ⟨.one, 1, 8, [.lit .nilFunc]⟩,
  ⟨.one, 1, 8, [.lit .nilFunc]⟩,
  ⟨.one, 1, 8, [.lit .nilFunc]⟩,
  ⟨.one, 1, 8, [.lit .nilFunc]⟩,
  ⟨.uptr, 1, 8, [.lit (.pointer none)]⟩,
  ⟨.one, 1, 8, [.lit .nilFunc]⟩,
  ltOther,
  ⟨.one, 1, 8, [.lit .nilFunc]⟩,
  ⟨.one, 1, 8, [.lit .nilFunc]⟩,
  ⟨.one, 1, 8, [.lit .nilFunc]⟩,
  ⟨.one, 1, 8, [.lit .nilFunc]⟩,
  ⟨.one, 1, 8, [.lit .nilFunc]⟩,
  ⟨.arr 3 5, 3, 3, [.lit (.int .u8 0), .lit (.int .u8 0), .lit (.int .u8 0)]⟩,
  ⟨.slice 3, 1, 24, [.sl .full 0 []]⟩,
  ⟨.one, 1, 8, [.lit .nilFunc]⟩,
  ⟨.one, 1, 8, [.lit .nilFunc]⟩,
  ⟨.one, 1, 8, [.lit .nilFunc]⟩,
  ⟨.one, 1, 8, [.lit .nilFunc]⟩,
  ⟨.arr 16 112, 16, 64, List.replicate 16 (.lit (.int .u32 0))⟩,
  ⟨.one, 1, 8, [.lit .nilFunc]⟩,
  ⟨.one, 1, 8, [.lit .nilFunc]⟩,
  ⟨.one, 1, 8, [.lit .nilFunc]⟩,
  ⟨.slice 151, 1, 24, [.sl .full 0 []]⟩,
  ⟨.struct [(0, 3), (1, 3)], 2, 16, [.lit (.int .i64 0), .lit (.int .i64 0)]⟩,
  ⟨.struct [(0, 3), (1, 3)], 2, 16, [.lit (.int .i64 0), .lit (.int .i64 0)]⟩,
  ⟨.one, 1, 8, [.lit .nilFunc]⟩,
  ⟨.ptr 170, 1, 8, [.lit (.pointer none)]⟩,
  ⟨.one, 1, 8, [.lit .nilFunc]⟩,
  ⟨.one, 1, 8, [.lit .nilFunc]⟩,
  ⟨.one, 1, 8, [.lit .nilFunc]⟩,
  ltOther,
  ⟨.one, 1, 8, [.lit .nilFunc]⟩,
  ⟨.one, 1, 8, [.lit .nilFunc]⟩,
  ⟨.one, 1, 8, [.lit .nilFunc]⟩,
  ⟨.int .i64, 1, 8, [.lit (.int .i64 0)]⟩,
  ⟨.ptr 194, 1, 8, [.lit (.pointer none)]⟩,
  ⟨.one, 1, 8, [.lit .nilFunc]⟩,
  ⟨.one, 1, 8, [.lit .nilFunc]⟩,
  ⟨.slice 112, 1, 24, [.sl .full 0 []]⟩,
  ⟨.one, 1, 8, [.lit .nilFunc]⟩,
  ⟨.slice 173, 1, 24, [.sl .full 0 []]⟩,
  ⟨.slice 176, 1, 24, [.sl .full 0 []]⟩,
  ⟨.struct [(0, 167), (1, 168), (2, 3)], 3, 56, [.sl .full 0 [], .sl .full 0 [], .lit (.int .i64 0)]⟩,
  ⟨.struct [(0, 167), (1, 168), (2, 3)], 3, 56, [.sl .full 0 [], .sl .full 0 [], .lit (.int .i64 0)]⟩,
  ⟨.int .u16, 1, 2, [.lit (.int .u16 0)]⟩,
  ⟨.struct [(0, 171), (1, 171), (2, 171)], 3, 6, [.lit (.int .u16 0), .lit (.int .u16 0), .lit (.int .u16 0)]⟩,
  ⟨.struct [(0, 171), (1, 171), (2, 171)], 3, 6, [.lit (.int .u16 0), .lit (.int .u16 0), .lit (.int .u16 0)]⟩,
  ⟨.one, 1, 8, [.lit .nilFunc]⟩,
  ⟨.struct [(0, 112), (1, 112), (2, 112)], 3, 12, [.lit (.int .u32 0), .lit (.int .u32 0), .lit (.int .u32 0)]⟩,
  ⟨.struct [(0, 112), (1, 112), (2, 112)], 3, 12, [.lit (.int .u32 0), .lit (.int .u32 0), .lit (.int .u32 0)]⟩,
  ⟨.one, 1, 8, [.lit .nilFunc]⟩,
  ⟨.one, 1, 8, [.lit .nilFunc]⟩,
  ⟨.one, 1, 8, [.lit .nilFunc]⟩,
  ⟨.arr 24 5, 24, 24, List.replicate 24 (.lit (.int .u8 0))⟩,
  ⟨.one, 1, 8, [.lit .nilFunc]⟩,
  ⟨.one, 1, 8, [.lit .nilFunc]⟩,
  ltOther,
  ⟨.one, 1, 8, [.lit .nilFunc]⟩,
  ⟨.one, 1, 8, [.lit .nilFunc]⟩,
  ⟨.arr 256 4, 256, 256, List.replicate 256 (.lit (.bool false))⟩,
  ⟨.arr 256 4, 256, 256, List.replicate 256 (.lit (.bool false))⟩,
  ltOther,
  ⟨.one, 1, 8, [.lit .nilFunc]⟩,
  ⟨.one, 1, 8, [.lit .nilFunc]⟩,
  ⟨.ptr 187, 1, 8, [.lit (.pointer none)]⟩,
  ⟨.one, 1, 8, [.lit .nilFunc]⟩,
  ⟨.struct [(0, 9), (1, 9), (2, 76)], 3, 48, [.str [], .str [], .lit .nilIface]⟩,
  ⟨.struct [(0, 9), (1, 9), (2, 76)], 3, 48, [.str [], .str [], .lit .nilIface]⟩,
  ⟨.one, 1, 8, [.lit .nilFunc]⟩,
  ⟨.ptr 173, 1, 8, [.lit (.pointer none)]⟩,
  ⟨.ptr 176, 1, 8, [.lit (.pointer none)]⟩,
  ⟨.one, 1, 8, [.lit .nilFunc]⟩,
  ⟨.one, 1, 8, [.lit .nilFunc]⟩,
  ⟨.arr 20 113, 20, 160, List.replicate 20 (.lit (.int .u64 0))⟩,
  ⟨.arr 65 5, 65, 65, List.replicate 65 (.lit (.int .u8 0))⟩,
  ⟨.one, 1, 8, [.lit .nilFunc]⟩,
  ⟨.one, 1, 8, [.lit .nilFunc]⟩,
  ⟨.one, 1, 8, [.lit .nilFunc]⟩,
  ltOther,
  ⟨.one, 1, 8, [.lit .nilFunc]⟩,
  ⟨.one, 1, 8, [.lit .nilFunc]⟩,
  ⟨.ptr 210, 1, 8, [.lit (.pointer none)]⟩,
  ⟨.struct [(0, 9)], 1, 16, [.str []]⟩,
  ⟨.struct [(0, 9)], 1, 16, [.str []]⟩,
  ⟨.one, 1, 8, [.lit .nilFunc]⟩,
  ⟨.one, 1, 8, [.lit .nilFunc]⟩,
  ⟨.arr 64 5, 64, 64, List.replicate 64 (.lit (.int .u8 0))⟩,
  ⟨.one, 1, 8, [.lit .nilFunc]⟩,
  ⟨.struct [(0, 17), (1, 17), (2, 17), (3, 9)], 4, 40, [.lit (.pointer none), .lit (.pointer none), .lit (.pointer none), .str []]⟩,
  ⟨.struct [(0, 17), (1, 17), (2, 17), (3, 9)], 4, 40, [.lit (.pointer none), .lit (.pointer none), .lit (.pointer none), .str []]⟩,
  ⟨.arr 0 16, 0, 0, []⟩,
  ⟨.struct [(0, 217)], 0, 0, []⟩,
  ⟨.struct [(0, 217)], 0, 0, []⟩,
  ⟨.int .u8, 1, 1, [.lit (.int .u8 0)]⟩,
  ⟨.int .u8, 1, 1, [.lit (.int .u8 0)]⟩,
  ⟨.one, 1, 8, [.lit .nilFunc]⟩,
  ⟨.int .i32, 1, 4, [.lit (.int .i32 0)]⟩,
  ⟨.int .i32, 1, 4, [.lit (.int .i32 0)]⟩,
  ⟨.struct [(0, 12), (1, 12), (2, 112), (3, 220), (4, 5), (5, 5), (6, 221), (7, 222), (8, 82), (9, 223), (10, 224)], 11, 48, [.lit (.int .u64 0), .lit (.int .u64 0), .lit (.int .u32 0), .lit (.int .u8 0), .lit (.int .u8 0), .lit (.int .u8 0), .lit (.int .u8 0), .lit .nilFunc, .lit (.pointer none), .lit (.int .i32 0), .lit (.int .i32 0)]⟩,
  ⟨.struct [(0, 12), (1, 12), (2, 112), (3, 220), (4, 5), (5, 5), (6, 221), (7, 222), (8, 82), (9, 223), (10, 224)], 11, 48, [.lit (.int .u64 0), .lit (.int .u64 0), .lit (.int .u32 0), .lit (.int .u8 0), .lit (.int .u8 0), .lit (.int .u8 0), .lit (.int .u8 0), .lit .nilFunc, .lit (.pointer none), .lit (.int .i32 0), .lit (.int .i32 0)]⟩]
def L : Tab := tabOf tbl
set_option maxRecDepth 100000 in
theorem L_ok : TabOk Tryz.prog L := tabOk_of (by kernel_rfl)
theorem mixed : Tryz.prog.follows .mixedOrders = true := by kernel_rfl
@[go_sem] theorem globAV_0 : globAV 0 = .ip (.agg firstAV) := glob_first rfl rfl
@[go_sem] theorem globAV_1 : globAV 1 = .ip (.agg acceptAV) := glob_accept rfl rfl
@[go_sem] theorem globAV_2 : globAV 2 = .ip (.agg rootsAV) := glob_roots rfl rfl
@[go_sem] theorem globAV_3 : globAV 3 = .ip (.agg beginsAV) := glob_begins rfl rfl
@[go_sem] theorem globAV_4 : globAV 4 = .ip (.agg spaceAV) := glob_space rfl rfl
@[go_sem] theorem globAV_7 : globAV 7 = .ip .err := glob_ifc rfl
@[go_sem] theorem globAV_8 : globAV 8 = .ip .err := glob_ifc rfl
@[go_sem] theorem globAV_9 : globAV 9 = .ip (.agg pow10AV) := glob_pow10 rfl rfl
@[go_sem] theorem L_0 : L 0 = ltOther := rfl
@[go_sem] theorem L_1 : L 1 = ⟨.one, 1, 8, [.lit .nilFunc]⟩ := rfl
@[go_sem] theorem L_2 : L 2 = ⟨.int .i64, 1, 8, [.lit (.int .i64 0)]⟩ := rfl
@[go_sem] theorem L_3 : L 3 = ⟨.int .i64, 1, 8, [.lit (.int .i64 0)]⟩ := rfl
@[go_sem] theorem L_4 : L 4 = ⟨.bool, 1, 1, [.lit (.bool false)]⟩ := rfl
@[go_sem] theorem L_5 : L 5 = ⟨.int .u8, 1, 1, [.lit (.int .u8 0)]⟩ := rfl
@[go_sem] theorem L_6 : L 6 = ⟨.int .u8, 1, 1, [.lit (.int .u8 0)]⟩ := rfl
@[go_sem] theorem L_7 : L 7 = ⟨.struct [(0, 2), (1, 3), (2, 4), (3, 6)], 4, 24, [.lit (.int .i64 0), .lit (.int .i64 0), .lit (.bool false), .lit (.int .u8 0)]⟩ := rfl
@[go_sem] theorem L_8 : L 8 = ⟨.struct [(0, 2), (1, 3), (2, 4), (3, 6)], 4, 24, [.lit (.int .i64 0), .lit (.int .i64 0), .lit (.bool false), .lit (.int .u8 0)]⟩ := rfl
@[go_sem] theorem L_9 : L 9 = ⟨.str, 1, 16, [.str []]⟩ := rfl
@[go_sem] theorem L_10 : L 10 = ⟨.str, 1, 16, [.str []]⟩ := rfl
@[go_sem] theorem L_11 : L 11 = ⟨.str, 1, 16, [.str []]⟩ := rfl
@[go_sem] theorem L_12 : L 12 = ⟨.int .u64, 1, 8, [.lit (.int .u64 0)]⟩ := rfl
@[go_sem] theorem L_13 : L 13 = ⟨.struct [(0, 9), (1, 12)], 2, 24, [.str [], .lit (.int .u64 0)]⟩ := rfl
@[go_sem] theorem L_14 : L 14 = ⟨.struct [(0, 9), (1, 12)], 2, 24, [.str [], .lit (.int .u64 0)]⟩ := rfl
@[go_sem] theorem L_15 : L 15 = ⟨.ptr 216, 1, 8, [.lit (.pointer none)]⟩ := rfl
@[go_sem] theorem L_16 : L 16 = ⟨.ptr 219, 1, 8, [.lit (.pointer none)]⟩ := rfl
@[go_sem] theorem L_17 : L 17 = ⟨.ptr 226, 1, 8, [.lit (.pointer none)]⟩ := rfl
@[go_sem] theorem L_18 : L 18 = ⟨.struct [(0, 17)], 1, 8, [.lit (.pointer none)]⟩ := rfl
@[go_sem] theorem L_19 : L 19 = ⟨.struct [(0, 17)], 1, 8, [.lit (.pointer none)]⟩ := rfl
@[go_sem] theorem L_20 : L 20 = ⟨.iface, 1, 16, [.lit .nilIface]⟩ := rfl
@[go_sem] theorem L_21 : L 21 = ⟨.int .i32, 1, 4, [.lit (.int .i32 0)]⟩ := rfl
@[go_sem] theorem L_22 : L 22 = ⟨.one, 1, 8, [.lit .nilFunc]⟩ := rfl
@[go_sem] theorem L_23 : L 23 = ⟨.int .i64, 1, 8, [.lit (.int .i64 0)]⟩ := rfl
@[go_sem] theorem L_24 : L 24 = ltOther := rfl
@[go_sem] theorem L_25 : L 25 = ⟨.one, 1, 8, [.lit .nilFunc]⟩ := rfl
@[go_sem] theorem L_26 : L 26 = ⟨.slice 9, 1, 24, [.sl .full 0 []]⟩ := rfl
@[go_sem] theorem L_27 : L 27 = ⟨.slice 29, 1, 24, [.sl .full 0 []]⟩ := rfl
@[go_sem] theorem L_28 : L 28 = ⟨.struct [(0, 3), (1, 3), (2, 9), (3, 26), (4, 27)], 5, 80, [.lit (.int .i64 0), .lit (.int .i64 0), .str [], .sl .full 0 [], .sl .full 0 []]⟩ := rfl
@[go_sem] theorem L_29 : L 29 = ⟨.struct [(0, 3), (1, 3), (2, 9), (3, 26), (4, 27)], 5, 80, [.lit (.int .i64 0), .lit (.int .i64 0), .str [], .sl .full 0 [], .sl .full 0 []]⟩ := rfl
@[go_sem] theorem L_30 : L 30 = ltOther := rfl
@[go_sem] theorem L_31 : L 31 = ⟨.one, 1, 8, [.lit .nilFunc]⟩ := rfl
@[go_sem] theorem L_32 : L 32 = ⟨.one, 1, 8, [.lit .nilFunc]⟩ := rfl
@[go_sem] theorem L_33 : L 33 = ⟨.one, 1, 8, [.lit .nilFunc]⟩ := rfl
@[go_sem] theorem L_34 : L 34 = ⟨.one, 1, 8, [.lit .nilFunc]⟩ := rfl
@[go_sem] theorem L_35 : L 35 = ⟨.one, 1, 8, [.lit .nilFunc]⟩ := rfl
@[go_sem] theorem L_36 : L 36 = ⟨.one, 1, 8, [.lit .nilFunc]⟩ := rfl
@[go_sem] theorem L_37 : L 37 = ⟨.arr 32 5, 32, 32, List.replicate 32 (.lit (.int .u8 0))⟩ := rfl
@[go_sem] theorem L_38 : L 38 = ltOther := rfl
@[go_sem] theorem L_39 : L 39 = ⟨.one, 1, 8, [.lit .nilFunc]⟩ := rfl
@[go_sem] theorem L_40 : L 40 = ltOther := rfl
@[go_sem] theorem L_41 : L 41 = ⟨.one, 1, 8, [.lit .nilFunc]⟩ := rfl
@[go_sem] theorem L_42 : L 42 = ⟨.one, 1, 8, [.lit .nilFunc]⟩ := rfl
@[go_sem] theorem L_43 : L 43 = ⟨.one, 1, 8, [.lit .nilFunc]⟩ := rfl
@[go_sem] theorem L_44 : L 44 = ⟨.one, 1, 8, [.lit .nilFunc]⟩ := rfl
@[go_sem] theorem L_45 : L 45 = ⟨.one, 1, 8, [.lit .nilFunc]⟩ := rfl
@[go_sem] theorem L_46 : L 46 = ⟨.one, 1, 8, [.lit .nilFunc]⟩ := rfl
@[go_sem] theorem L_47 : L 47 = ⟨.slice 5, 1, 24, [.sl .full 0 []]⟩ := rfl
@[go_sem] theorem L_48 : L 48 = ⟨.ptr 50, 1, 8, [.lit (.pointer none)]⟩ := rfl
@[go_sem] theorem L_49 : L 49 = ⟨.struct [(0, 48), (1, 47)], 2, 32, [.lit (.pointer none), .sl .full 0 []]⟩ := rfl
@[go_sem] theorem L_50 : L 50 = ⟨.struct [(0, 48), (1, 47)], 2, 32, [.lit (.pointer none), .sl .full 0 []]⟩ := rfl
@[go_sem] theorem L_51 : L 51 = ⟨.struct [(0, 50)], 2, 32, [.lit (.pointer none), .sl .full 0 []]⟩ := rfl
@[go_sem] theorem L_52 : L 52 = ⟨.struct [(0, 50)], 2, 32, [.lit (.pointer none), .sl .full 0 []]⟩ := rfl
@[go_sem] theorem L_53 : L 53 = ⟨.one, 1, 8, [.lit .nilFunc]⟩ := rfl
@[go_sem] theorem L_54 : L 54 = ⟨.one, 1, 8, [.lit .nilFunc]⟩ := rfl
@[go_sem] theorem L_55 : L 55 = ⟨.ptr 59, 1, 8, [.lit (.pointer none)]⟩ := rfl
@[go_sem] theorem L_56 : L 56 = ⟨.struct [(0, 9), (1, 3)], 2, 24, [.str [], .lit (.int .i64 0)]⟩ := rfl
@[go_sem] theorem L_57 : L 57 = ⟨.struct [(0, 9), (1, 3)], 2, 24, [.str [], .lit (.int .i64 0)]⟩ := rfl
@[go_sem] theorem L_58 : L 58 = ⟨.struct [(0, 57), (2, 23)], 3, 32, [.str [], .lit (.int .i64 0), .lit (.int .i64 0)]⟩ := rfl
@[go_sem] theorem L_59 : L 59 = ⟨.struct [(0, 57), (2, 23)], 3, 32, [.str [], .lit (.int .i64 0), .lit (.int .i64 0)]⟩ := rfl
@[go_sem] theorem L_60 : L 60 = ⟨.one, 1, 8, [.lit .nilFunc]⟩ := rfl
@[go_sem] theorem L_61 : L 61 = ⟨.one, 1, 8, [.lit .nilFunc]⟩ := rfl
@[go_sem] theorem L_62 : L 62 = ⟨.one, 1, 8, [.lit .nilFunc]⟩ := rfl
@[go_sem] theorem L_63 : L 63 = ⟨.one, 1, 8, [.lit .nilFunc]⟩ := rfl
@[go_sem] theorem L_64 : L 64 = ⟨.struct [(0, 9), (1, 29)], 6, 96, [.str [], .lit (.int .i64 0), .lit (.int .i64 0), .str [], .sl .full 0 [], .sl .full 0 []]⟩ := rfl
@[go_sem] theorem L_65 : L 65 = ⟨.struct [(0, 9), (1, 29)], 6, 96, [.str [], .lit (.int .i64 0), .lit (.int .i64 0), .str [], .sl .full 0 [], .sl .full 0 []]⟩ := rfl
@[go_sem] theorem L_66 : L 66 = ⟨.one, 1, 8, [.lit .nilFunc]⟩ := rfl
@[go_sem] theorem L_67 : L 67 = ⟨.one, 1, 8, [.lit .nilFunc]⟩ := rfl
@[go_sem] theorem L_68 : L 68 = ⟨.one, 1, 8, [.lit .nilFunc]⟩ := rfl
@[go_sem] theorem L_69 : L 69 = ⟨.one, 1, 8, [.lit .nilFunc]⟩ := rfl
@[go_sem] theorem L_70 : L 70 = ⟨.one, 1, 8, [.lit .nilFunc]⟩ := rfl
@[go_sem] theorem L_71 : L 71 = ⟨.one, 1, 8, [.lit .nilFunc]⟩ := rfl
@[go_sem] theorem L_72 : L 72 = ⟨.one, 1, 8, [.lit .nilFunc]⟩ := rfl
@[go_sem] theorem L_73 : L 73 = ⟨.one, 1, 8, [.lit .nilFunc]⟩ := rfl
@[go_sem] theorem L_74 : L 74 = ⟨.ptr 52, 1, 8, [.lit (.pointer none)]⟩ := rfl
@[go_sem] theorem L_75 : L 75 = ⟨.iface, 1, 16, [.lit .nilIface]⟩ := rfl
@[go_sem] theorem L_76 : L 76 = ⟨.iface, 1, 16, [.lit .nilIface]⟩ := rfl
@[go_sem] theorem L_77 : L 77 = ⟨.one, 1, 8, [.lit .nilFunc]⟩ := rfl
@[go_sem] theorem L_78 : L 78 = ⟨.one, 1, 8, [.lit .nilFunc]⟩ := rfl
@[go_sem] theorem L_79 : L 79 = ltOther := rfl
@[go_sem] theorem L_80 : L 80 = ⟨.one, 1, 8, [.lit .nilFunc]⟩ := rfl
@[go_sem] theorem L_81 : L 81 = ⟨.int .u64, 1, 8, [.lit (.int .u64 0)]⟩ := rfl
@[go_sem] theorem L_82 : L 82 = ⟨.ptr 5, 1, 8, [.lit (.pointer none)]⟩ := rfl
@[go_sem] theorem L_83 : L 83 = ⟨.one, 1, 8, [.lit .nilFunc]⟩ := rfl
@[go_sem] theorem L_84 : L 84 = ⟨.one, 1, 8, [.lit .nilFunc]⟩ := rfl
@[go_sem] theorem L_85 : L 85 = ⟨.ptr 57, 1, 8, [.lit (.pointer none)]⟩ := rfl
@[go_sem] theorem L_86 : L 86 = ⟨.one, 1, 8, [.lit .nilFunc]⟩ := rfl
@[go_sem] theorem L_87 : L 87 = ⟨.slice 65, 1, 24, [.sl .full 0 []]⟩ := rfl
@[go_sem] theorem L_88 : L 88 = ⟨.one, 1, 8, [.lit .nilFunc]⟩ := rfl
@[go_sem] theorem L_89 : L 89 = ⟨.one, 1, 8, [.lit .nilFunc]⟩ := rfl
@[go_sem] theorem L_90 : L 90 = ⟨.one, 1, 8, [.lit .nilFunc]⟩ := rfl
@[go_sem] theorem L_91 : L 91 = ltOther := rfl
@[go_sem] theorem L_92 : L 92 = ⟨.one, 1, 8, [.lit .nilFunc]⟩ := rfl
@[go_sem] theorem L_93 : L 93 = ⟨.one, 1, 8, [.lit .nilFunc]⟩ := rfl
@[go_sem] theorem L_94 : L 94 = ⟨.one, 1, 8, [.lit .nilFunc]⟩ := rfl
@[go_sem] theorem L_95 : L 95 = ⟨.one, 1, 8, [.lit .nilFunc]⟩ := rfl
@[go_sem] theorem L_96 : L 96 = ⟨.one, 1, 8, [.lit .nilFunc]⟩ := rfl
@[go_sem] theorem L_97 : L 97 = ⟨.one, 1, 8, [.lit .nilFunc]⟩ := rfl
@[go_sem] theorem L_98 : L 98 = ⟨.one, 1, 8, [.lit .nilFunc]⟩ := rfl
@[go_sem] theorem L_99 : L 99 = ⟨.one, 1, 8, [.lit .nilFunc]⟩ := rfl
@[go_sem] theorem L_100 : L 100 = ⟨.arr 256 5, 256, 256, List.replicate 256 (.lit (.int .u8 0))⟩ := rfl
@[go_sem] theorem L_101 : L 101 = ⟨.struct [(0, 5), (1, 5)], 2, 2, [.lit (.int .u8 0), .lit (.int .u8 0)]⟩ := rfl
@[go_sem] theorem L_102 : L 102 = ⟨.struct [(0, 5), (1, 5)], 2, 2, [.lit (.int .u8 0), .lit (.int .u8 0)]⟩ := rfl
@[go_sem] theorem L_103 : L 103 = ⟨.arr 16 102, 32, 32, List.replicate 32 (.lit (.int .u8 0))⟩ := rfl
@[go_sem] theorem L_104 : L 104 = ⟨.one, 1, 8, [.lit .nilFunc]⟩ := rfl
@[go_sem] theorem L_105 : L 105 = ⟨.one, 1, 8, [.lit .nilFunc]⟩ := rfl
@[go_sem] theorem L_106 : L 106 = ltOther := rfl
@[go_sem] theorem L_107 : L 107 = ⟨.one, 1, 8, [.lit .nilFunc]⟩ := rfl
@[go_sem] theorem L_108 : L 108 = ⟨.one, 1, 8, [.lit .nilFunc]⟩ := rfl
@[go_sem] theorem L_109 : L 109 = ⟨.str, 1, 16, [.str []]⟩ := rfl
@[go_sem] theorem L_110 : L 110 = ⟨.slice 47, 1, 24, [.sl .full 0 []]⟩ := rfl
@[go_sem] theorem L_111 : L 111 = ⟨.ptr 120, 1, 8, [.lit (.pointer none)]⟩ := rfl
@[go_sem] theorem L_112 : L 112 = ⟨.int .u32, 1, 4, [.lit (.int .u32 0)]⟩ := rfl
@[go_sem] theorem L_113 : L 113 = ⟨.int .u64, 1, 8, [.lit (.int .u64 0)]⟩ := rfl
@[go_sem] theorem L_114 : L 114 = ⟨.arr 80 113, 80, 640, List.replicate 80 (.lit (.int .u64 0))⟩ := rfl
@[go_sem] theorem L_115 : L 115 = ⟨.one, 1, 8, [.lit .nilFunc]⟩ := rfl
@[go_sem] theorem L_116 : L 116 = ⟨.one, 1, 8, [.lit .nilFunc]⟩ := rfl
@[go_sem] theorem L_117 : L 117 = ⟨.one, 1, 8, [.lit .nilFunc]⟩ := rfl
@[go_sem] theorem L_118 : L 118 = ⟨.arr 8 112, 8, 32, [.lit (.int .u32 0), .lit (.int .u32 0), .lit (.int .u32 0), .lit (.int .u32 0), .lit (.int .u32 0), .lit (.int .u32 0), .lit (.int .u32 0), .lit (.int .u32 0)]⟩ := rfl
@[go_sem] theorem L_119 : L 119 = ⟨.struct [(0, 118), (8, 3), (9, 115), (10, 117), (11, 117), (12, 117), (13, 117)], 14, 80, [.lit (.int .u32 0), .lit (.int .u32 0), .lit (.int .u32 0), .lit (.int .u32 0), .lit (.int .u32 0), .lit (.int .u32 0), .lit (.int .u32 0), .lit (.int .u32 0), .lit (.int .i64 0), .lit .nilFunc, .lit .nilFunc, .lit .nilFunc, .lit .nilFunc, .lit .nilFunc]⟩ := rfl
@[go_sem] theorem L_120 : L 120 = ⟨.struct [(0, 118), (8, 3), (9, 115), (10, 117), (11, 117), (12, 117), (13, 117)], 14, 80, [.lit (.int .u32 0), .lit (.int .u32 0), .lit (.int .u32 0), .lit (.int .u32 0), .lit (.int .u32 0), .lit (.int .u32 0), .lit (.int .u32 0), .lit (.int .u32 0), .lit (.int .i64 0), .lit .nilFunc, .lit .nilFunc, .lit .nilFunc, .lit .nilFunc, .lit .nilFunc]⟩ := rfl
@[go_sem] theorem L_121 : L 121 = ⟨.arr 8 113, 8, 64, [.lit (.int .u64 0), .lit (.int .u64 0), .lit (.int .u64 0), .lit (.int .u64 0), .lit (.int .u64 0), .lit (.int .u64 0), .lit (.int .u64 0), .lit (.int .u64 0)]⟩ := rfl
@[go_sem] theorem L_122 : L 122 = ⟨.one, 1, 8, [.lit .nilFunc]⟩ := rfl
@[go_sem] theorem L_123 : L 123 = ⟨.one, 1, 8, [.lit .nilFunc]⟩ := rfl
@[go_sem] theorem L_124 : L 124 = ⟨.one, 1, 8, [.lit .nilFunc]⟩ := rfl
@[go_sem] theorem L_125 : L 125 = ⟨.one, 1, 8, [.lit .nilFunc]⟩ := rfl
@[go_sem] theorem L_126 : L 126 = ⟨.one, 1, 8, [.lit .nilFunc]⟩ := rfl
@[go_sem] theorem L_127 : L 127 = ⟨.one, 1, 8, [.lit .nilFunc]⟩ := rfl
@[go_sem] theorem L_128 : L 128 = ⟨.one, 1, 8, [.lit .nilFunc]⟩ := rfl
@[go_sem] theorem L_129 : L 129 = ⟨.one, 1, 8, [.lit .nilFunc]⟩ := rfl
@[go_sem] theorem L_130 : L 130 = ⟨.one, 1, 8, [.lit .nilFunc]⟩ := rfl
@[go_sem] theorem L_131 : L 131 = ⟨.uptr, 1, 8, [.lit (.pointer none)]⟩ := rfl
@[go_sem] theorem L_132 : L 132 = ⟨.one, 1, 8, [.lit .nilFunc]⟩ := rfl
@[go_sem] theorem L_133 : L 133 = ltOther := rfl
@[go_sem] theorem L_134 : L 134 = ⟨.one, 1, 8, [.lit .nilFunc]⟩ := rfl
@[go_sem] theorem L_135 : L 135 = ⟨.one, 1, 8, [.lit .nilFunc]⟩ := rfl
@[go_sem] theorem L_136 : L 136 = ⟨.one, 1, 8, [.lit .nilFunc]⟩ := rfl
@[go_sem] theorem L_137 : L 137 = ⟨.one, 1, 8, [.lit .nilFunc]⟩ := rfl
@[go_sem] theorem L_138 : L 138 = ⟨.one, 1, 8, [.lit .nilFunc]⟩ := rfl
@[go_sem] theorem L_139 : L 139 = ⟨.arr 3 5, 3, 3, [.lit (.int .u8 0), .lit (.int .u8 0), .lit (.int .u8 0)]⟩ := rfl
@[go_sem] theorem L_140 : L 140 = ⟨.slice 3, 1, 24, [.sl .full 0 []]⟩ := rfl
@[go_sem] theorem L_141 : L 141 = ⟨.one, 1, 8, [.lit .nilFunc]⟩ := rfl
@[go_sem] theorem L_142 : L 142 = ⟨.one, 1, 8, [.lit .nilFunc]⟩ := rfl
@[go_sem] theorem L_143 : L 143 = ⟨.one, 1, 8, [.lit .nilFunc]⟩ := rfl
@[go_sem] theorem L_144 : L 144 = ⟨.one, 1, 8, [.lit .nilFunc]⟩ := rfl
@[go_sem] theorem L_145 : L 145 = ⟨.arr 16 112, 16, 64, List.replicate 16 (.lit (.int .u32 0))⟩ := rfl
@[go_sem] theorem L_146 : L 146 = ⟨.one, 1, 8, [.lit .nilFunc]⟩ := rfl
@[go_sem] theorem L_147 : L 147 = ⟨.one, 1, 8, [.lit .nilFunc]⟩ := rfl
@[go_sem] theorem L_148 : L 148 = ⟨.one, 1, 8, [.lit .nilFunc]⟩ := rfl
@[go_sem] theorem L_149 : L 149 = ⟨.slice 151, 1, 24, [.sl .full 0 []]⟩ := rfl
@[go_sem] theorem L_150 : L 150 = ⟨.struct [(0, 3), (1, 3)], 2, 16, [.lit (.int .i64 0), .lit (.int .i64 0)]⟩ := rfl
@[go_sem] theorem L_151 : L 151 = ⟨.struct [(0, 3), (1, 3)], 2, 16, [.lit (.int .i64 0), .lit (.int .i64 0)]⟩ := rfl
@[go_sem] theorem L_152 : L 152 = ⟨.one, 1, 8, [.lit .nilFunc]⟩ := rfl
@[go_sem] theorem L_153 : L 153 = ⟨.ptr 170, 1, 8, [.lit (.pointer none)]⟩ := rfl
@[go_sem] theorem L_154 : L 154 = ⟨.one, 1, 8, [.lit .nilFunc]⟩ := rfl
@[go_sem] theorem L_155 : L 155 = ⟨.one, 1, 8, [.lit .nilFunc]⟩ := rfl
@[go_sem] theorem L_156 : L 156 = ⟨.one, 1, 8, [.lit .nilFunc]⟩ := rfl
@[go_sem] theorem L_157 : L 157 = ltOther := rfl
@[go_sem] theorem L_158 : L 158 = ⟨.one, 1, 8, [.lit .nilFunc]⟩ := rfl
@[go_sem] theorem L_159 : L 159 = ⟨.one, 1, 8, [.lit .nilFunc]⟩ := rfl
@[go_sem] theorem L_160 : L 160 = ⟨.one, 1, 8, [.lit .nilFunc]⟩ := rfl
@[go_sem] theorem L_161 : L 161 = ⟨.int .i64, 1, 8, [.lit (.int .i64 0)]⟩ := rfl
@[go_sem] theorem L_162 : L 162 = ⟨.ptr 194, 1, 8, [.lit (.pointer none)]⟩ := rfl
@[go_sem] theorem L_163 : L 163 = ⟨.one, 1, 8, [.lit .nilFunc]⟩ := rfl
@[go_sem] theorem L_164 : L 164 = ⟨.one, 1, 8, [.lit .nilFunc]⟩ := rfl
@[go_sem] theorem L_165 : L 165 = ⟨.slice 112, 1, 24, [.sl .full 0 []]⟩ := rfl
@[go_sem] theorem L_166 : L 166 = ⟨.one, 1, 8, [.lit .nilFunc]⟩ := rfl
@[go_sem] theorem L_167 : L 167 = ⟨.slice 173, 1, 24, [.sl .full 0 []]⟩ := rfl
@[go_sem] theorem L_168 : L 168 = ⟨.slice 176, 1, 24, [.sl .full 0 []]⟩ := rfl
@[go_sem] theorem L_169 : L 169 = ⟨.struct [(0, 167), (1, 168), (2, 3)], 3, 56, [.sl .full 0 [], .sl .full 0 [], .lit (.int .i64 0)]⟩ := rfl
@[go_sem] theorem L_170 : L 170 = ⟨.struct [(0, 167), (1, 168), (2, 3)], 3, 56, [.sl .full 0 [], .sl .full 0 [], .lit (.int .i64 0)]⟩ := rfl
@[go_sem] theorem L_171 : L 171 = ⟨.int .u16, 1, 2, [.lit (.int .u16 0)]⟩ := rfl
@[go_sem] theorem L_172 : L 172 = ⟨.struct [(0, 171), (1, 171), (2, 171)], 3, 6, [.lit (.int .u16 0), .lit (.int .u16 0), .lit (.int .u16 0)]⟩ := rfl
@[go_sem] theorem L_173 : L 173 = ⟨.struct [(0, 171), (1, 171), (2, 171)], 3, 6, [.lit (.int .u16 0), .lit (.int .u16 0), .lit (.int .u16 0)]⟩ := rfl
@[go_sem] theorem L_174 : L 174 = ⟨.one, 1, 8, [.lit .nilFunc]⟩ := rfl
@[go_sem] theorem L_175 : L 175 = ⟨.struct [(0, 112), (1, 112), (2, 112)], 3, 12, [.lit (.int .u32 0), .lit (.int .u32 0), .lit (.int .u32 0)]⟩ := rfl
@[go_sem] theorem L_176 : L 176 = ⟨.struct [(0, 112), (1, 112), (2, 112)], 3, 12, [.lit (.int .u32 0), .lit (.int .u32 0), .lit (.int .u32 0)]⟩ := rfl
@[go_sem] theorem L_177 : L 177 = ⟨.one, 1, 8, [.lit .nilFunc]⟩ := rfl
@[go_sem] theorem L_178 : L 178 = ⟨.one, 1, 8, [.lit .nilFunc]⟩ := rfl
@[go_sem] theorem L_179 : L 179 = ⟨.one, 1, 8, [.lit .nilFunc]⟩ := rfl
@[go_sem] theorem L_180 : L 180 = ⟨.arr 24 5, 24, 24, List.replicate 24 (.lit (.int .u8 0))⟩ := rfl
@[go_sem] theorem L_181 : L 181 = ⟨.one, 1, 8, [.lit .nilFunc]⟩ := rfl
@[go_sem] theorem L_182 : L 182 = ⟨.one, 1, 8, [.lit .nilFunc]⟩ := rfl
@[go_sem] theorem L_183 : L 183 = ltOther := rfl
@[go_sem] theorem L_184 : L 184 = ⟨.one, 1, 8, [.lit .nilFunc]⟩ := rfl
@[go_sem] theorem L_185 : L 185 = ⟨.one, 1, 8, [.lit .nilFunc]⟩ := rfl
@[go_sem] theorem L_186 : L 186 = ⟨.arr 256 4, 256, 256, List.replicate 256 (.lit (.bool false))⟩ := rfl
@[go_sem] theorem L_187 : L 187 = ⟨.arr 256 4, 256, 256, List.replicate 256 (.lit (.bool false))⟩ := rfl
@[go_sem] theorem L_188 : L 188 = ltOther := rfl
@[go_sem] theorem L_189 : L 189 = ⟨.one, 1, 8, [.lit .nilFunc]⟩ := rfl
@[go_sem] theorem L_190 : L 190 = ⟨.one, 1, 8, [.lit .nilFunc]⟩ := rfl
@[go_sem] theorem L_191 : L 191 = ⟨.ptr 187, 1, 8, [.lit (.pointer none)]⟩ := rfl
@[go_sem] theorem L_192 : L 192 = ⟨.one, 1, 8, [.lit .nilFunc]⟩ := rfl
@[go_sem] theorem L_193 : L 193 = ⟨.struct [(0, 9), (1, 9), (2, 76)], 3, 48, [.str [], .str [], .lit .nilIface]⟩ := rfl
@[go_sem] theorem L_194 : L 194 = ⟨.struct [(0, 9), (1, 9), (2, 76)], 3, 48, [.str [], .str [], .lit .nilIface]⟩ := rfl
@[go_sem] theorem L_195 : L 195 = ⟨.one, 1, 8, [.lit .nilFunc]⟩ := rfl
@[go_sem] theorem L_196 : L 196 = ⟨.ptr 173, 1, 8, [.lit (.pointer none)]⟩ := rfl
@[go_sem] theorem L_197 : L 197 = ⟨.ptr 176, 1, 8, [.lit (.pointer none)]⟩ := rfl
@[go_sem] theorem L_198 : L 198 = ⟨.one, 1, 8, [.lit .nilFunc]⟩ := rfl
@[go_sem] theorem L_199 : L 199 = ⟨.one, 1, 8, [.lit .nilFunc]⟩ := rfl
@[go_sem] theorem L_200 : L 200 = ⟨.arr 20 113, 20, 160, List.replicate 20 (.lit (.int .u64 0))⟩ := rfl
@[go_sem] theorem L_201 : L 201 = ⟨.arr 65 5, 65, 65, List.replicate 65 (.lit (.int .u8 0))⟩ := rfl
@[go_sem] theorem L_202 : L 202 = ⟨.one, 1, 8, [.lit .nilFunc]⟩ := rfl
@[go_sem] theorem L_203 : L 203 = ⟨.one, 1, 8, [.lit .nilFunc]⟩ := rfl
@[go_sem] theorem L_204 : L 204 = ⟨.one, 1, 8, [.lit .nilFunc]⟩ := rfl
@[go_sem] theorem L_205 : L 205 = ltOther := rfl
@[go_sem] theorem L_206 : L 206 = ⟨.one, 1, 8, [.lit .nilFunc]⟩ := rfl
@[go_sem] theorem L_207 : L 207 = ⟨.one, 1, 8, [.lit .nilFunc]⟩ := rfl
@[go_sem] theorem L_208 : L 208 = ⟨.ptr 210, 1, 8, [.lit (.pointer none)]⟩ := rfl
@[go_sem] theorem L_209 : L 209 = ⟨.struct [(0, 9)], 1, 16, [.str []]⟩ := rfl
@[go_sem] theorem L_210 : L 210 = ⟨.struct [(0, 9)], 1, 16, [.str []]⟩ := rfl
@[go_sem] theorem L_211 : L 211 = ⟨.one, 1, 8, [.lit .nilFunc]⟩ := rfl
@[go_sem] theorem L_212 : L 212 = ⟨.one, 1, 8, [.lit .nilFunc]⟩ := rfl
@[go_sem] theorem L_213 : L 213 = ⟨.arr 64 5, 64, 64, List.replicate 64 (.lit (.int .u8 0))⟩ := rfl
@[go_sem] theorem L_214 : L 214 = ⟨.one, 1, 8, [.lit .nilFunc]⟩ := rfl
@[go_sem] theorem L_215 : L 215 = ⟨.struct [(0, 17), (1, 17), (2, 17), (3, 9)], 4, 40, [.lit (.pointer none), .lit (.pointer none), .lit (.pointer none), .str []]⟩ := rfl
@[go_sem] theorem L_216 : L 216 = ⟨.struct [(0, 17), (1, 17), (2, 17), (3, 9)], 4, 40, [.lit (.pointer none), .lit (.pointer none), .lit (.pointer none), .str []]⟩ := rfl
@[go_sem] theorem L_217 : L 217 = ⟨.arr 0 16, 0, 0, []⟩ := rfl
@[go_sem] theorem L_218 : L 218 = ⟨.struct [(0, 217)], 0, 0, []⟩ := rfl
@[go_sem] theorem L_219 : L 219 = ⟨.struct [(0, 217)], 0, 0, []⟩ := rfl
@[go_sem] theorem L_220 : L 220 = ⟨.int .u8, 1, 1, [.lit (.int .u8 0)]⟩ := rfl
@[go_sem] theorem L_221 : L 221 = ⟨.int .u8, 1, 1, [.lit (.int .u8 0)]⟩ := rfl
@[go_sem] theorem L_222 : L 222 = ⟨.one, 1, 8, [.lit .nilFunc]⟩ := rfl
@[go_sem] theorem L_223 : L 223 = ⟨.int .i32, 1, 4, [.lit (.int .i32 0)]⟩ := rfl
@[go_sem] theorem L_224 : L 224 = ⟨.int .i32, 1, 4, [.lit (.int .i32 0)]⟩ := rfl
@[go_sem] theorem L_225 : L 225 = ⟨.struct [(0, 12), (1, 12), (2, 112), (3, 220), (4, 5), (5, 5), (6, 221), (7, 222), (8, 82), (9, 223), (10, 224)], 11, 48, [.lit (.int .u64 0), .lit (.int .u64 0), .lit (.int .u32 0), .lit (.int .u8 0), .lit (.int .u8 0), .lit (.int .u8 0), .lit (.int .u8 0), .lit .nilFunc, .lit (.pointer none), .lit (.int .i32 0), .lit (.int .i32 0)]⟩ := rfl
@[go_sem] theorem L_226 : L 226 = ⟨.struct [(0, 12), (1, 12), (2, 112), (3, 220), (4, 5), (5, 5), (6, 221), (7, 222), (8, 82), (9, 223), (10, 224)], 11, 48, [.lit (.int .u64 0), .lit (.int .u64 0), .lit (.int .u32 0), .lit (.int .u8 0), .lit (.int .u8 0), .lit (.int .u8 0), .lit (.int .u8 0), .lit .nilFunc, .lit (.pointer none), .lit (.int .i32 0), .lit (.int .i32 0)]⟩ := rfl
end Go.Proofs.YtdahdbnfknmmgaaGreatDoor.V
end

section
set_option linter.unusedSimpArgs false
set_option linter.unusedVariables false
namespace Go.Proofs.YtdahdbnfknmmgaaGreatDoor.V
open Go Go.ChangeShapes Go.WideShapes Go.RowKit

/-- All memory that there is when the call begins stays as it is. -/
def G₀ (W : World) : Gh := { imm := fun b _ => b < W.heap.size, blk := fun _ => 0, own := fun _ => (none, 0), lp := fun _ => none }
def TabsW (W : World) : Prop := (∀ g j v, (gtab g)[j]? = some v → W.cell? ⟨g, j, none⟩ = some v) ∧ ∀ g t, gifc g = some t → ∃ t v, W.cell? ⟨g, 0, none⟩ = some (.iface t v)
theorem inv₀ {W : World} (h : TabsW W) : HInv (G₀ W) [] W := by
  have lt : ∀ g j v, W.cell? ⟨g, j, none⟩ = some v → g < W.heap.size := fun g j v this => by
    rcases Nat.lt_or_ge g W.heap.size with hl | hl
    · exact hl
    · simp [World.cell?, Array.getElem?_eq_none hl] at this
  exact ⟨fun b off h => h, fun k sh cs e => by simp at e, fun k s n t e => by simp at e, fun k k' b e => by simp [site] at e, ⟨⟨fun g j v e => ⟨lt g j v (h.1 g j v e), h.1 g j v e⟩,
    fun g t e => let ⟨u, v, hv⟩ := h.2 g t e; ⟨lt g 0 _ hv, u, v, hv⟩⟩, ⟨fun k l e => (by cases e), fun k k' l e => (by cases e), fun k l r E e => (by cases e)⟩⟩⟩
theorem law_calls {P : Program} {f : FuncId} {fn : Func} {W : World} {xs : List AV} {args : Array Value} (hf : P.funcs[f]? = some fn) (hb : fn.body.isSome = true) (hn : (fn.name == "runtime.NumGoroutine") = false) (ht : TabsW W) (hr : RelAll (G₀ W) [] W xs args)
    (hA : ACalls P f xs [] (fun x H' => x = .bool true ∧ H' = [])) : Calls P f args W fun e W' => e = .returned (.bool true) ∧ Below W.heap.size W W' := by
  refine ((hA (G₀ W) W args (inv₀ ht) hr).calls hf hb hn).mono ?_
  rintro e w' ⟨v, rfl, x, G', H', hi, hs, hx, rfl, rfl⟩
  have := rel_lit_inv hx
  subst this
  exact ⟨rfl, hs.osEq, hs.tape, hs.output, hs.size, fun b hb => hs.whole b fun off => hb⟩

section
variable {H : Type} {enc : TypeId × Value → H} {P : Program} {W W' : World}
theorem trod_below (K : Kids P (· < P.types.size)) (hsz : ∀ {t e : TypeId}, t < P.types.size → P.underlying t = some (.slice e) → 0 < P.cellsOf e) (hb : Below W.heap.size W W') {sp : Nat → Bool} :
    ∀ {ts : List TypeId} {vs : List Value} {ds : List (DataW H)} {ps : List MemPlace}, (∀ t ∈ ts, t < P.types.size) → DataW.TrodAll enc P W 0 (fun _ => true) true ts vs ds ps → (∀ p ∈ ps, sp p.block = true) → DataW.TrodAll enc P W' 0 sp true ts vs ds ps
  | [], vs, ds, ps, _, h, _ => by
    obtain ⟨rfl, rfl, rfl⟩ := trodAll_nil h
    exact trodAll_mk0
  | t :: ts, vs, ds, ps, hT, h, hs => by
    obtain ⟨v, vs1, d, ds1, a, b, rfl, rfl, rfl, ⟨n, h1⟩, h2⟩ := trodAll_cons h
    refine ⟨a, b, ⟨n, DataW.trod_stays K hsz (fun h => by cases h) (hT t (List.mem_cons_self ..)) h1 (fun p hp => hb.same (DataW.trod_lt n t _ _ h1 p hp)) fun p hp => hs p (List.mem_append_left _ hp)⟩, ?_, rfl⟩
    exact trod_below K hsz hb (fun t ht => hT t (List.mem_cons_of_mem _ ht)) h2 fun p hp => hs p (List.mem_append_right _ hp)
theorem law_post (K : Kids P (· < P.types.size)) (hsz : ∀ {t e : TypeId}, t < P.types.size → P.underlying t = some (.slice e) → 0 < P.cellsOf e) {f : Func} {s : ChangeSpec} {apart fresh handsOn again : Bool} {args : Array Value} {ds gs : List (DataW H)} {before : List MemPlace}
    (hT : ∀ t ∈ f.params.toList, t < P.types.size) {tb : TypeId} (hres : f.resultTypes = #[tb]) (htb : P.underlying tb = some .bool) (hv : s.vars = [])
    (hspec : ∀ ds : List (DataW H), ds.length = f.params.size → s.fn H ds = { results := [.lit (.bool true)], args := ds })
    (hW : DataW.Whole enc P f.params.toList s.vars apart W args.toList ds gs before) (hb : Below W.heap.size W W') : s.post enc P f apart fresh handsOn again W args (.bool true) W' := by
  have hW' := hW
  obtain ⟨p, q, hA, hV, rfl, hfz, hnd⟩ := hW
  rw [hv] at hV
  obtain ⟨rfl, rfl⟩ := trodVars_none hV
  have hlen : ∀ {ts : List TypeId} {vs : List Value} {ds : List (DataW H)} {ps : List MemPlace}, DataW.TrodAll enc P W 0 (fun _ => true) true ts vs ds ps → ds.length = ts.length := by
    intro ts
    induction ts with
    | nil => intro vs ds ps h; obtain ⟨_, rfl, _⟩ := trodAll_nil h; rfl
    | cons t ts ih =>
      intro vs ds ps h
      obtain ⟨v, vs1, d, ds1, a, b, rfl, rfl, rfl, _, h2⟩ := trodAll_cons h
      simp [ih h2]
  have hs := hspec (ds ++ []) (by rw [List.append_nil, hlen hA]; simp)
  have hold : ∀ p' ∈ p ++ [], (fun b => decide (b < W.heap.size)) p'.block = true := fun p' hp => by simpa using hW'.lt p' hp
  have hres' : ∀ (b : Nat) (sp : Nat → Bool) (hd : Bool), DataW.TrodAll enc P W' b sp hd f.resultTypes.toList ((Value.bool true).resultList f.resultTypes.size) (s.fn H (ds ++ [])).results [] := fun b sp hd => by
    rw [hs, hres]
    exact trodAll_mk1 (shut_bool htb true)
  have hargs : ∀ sp : Nat → Bool, (∀ p' ∈ p, sp p'.block = true) → DataW.TrodAll enc P W' 0 sp true f.params.toList args.toList (s.fn H (ds ++ [])).args p := fun sp hsp => by
    rw [hs, List.append_nil]
    exact trod_below K hsz hb hT hA hsp
  have hvars : ∀ sp : Nat → Bool, DataW.TrodVars enc P W' sp s.vars (s.fn H (ds ++ [])).vars [] := fun sp => by
    rw [hs, hv]
    rfl
  refine ⟨ds, [], p ++ [], [], p, [], hW', hres' _ _ _, hargs _ (fun p' hp => hold p' (List.mem_append_left _ hp)), hvars _, World.keptBut_mono (fun p' hp => ⟨hp, ?_⟩) (hb.frame (· ∈ p ++ [])), fun _ => ?_⟩
  · exact Or.inr (by simpa using hp)
  · refine ⟨fun j t r h1 h2 => ?_, _, _, ([] ++ p) ++ [], ⟨[] ++ p, [], trodAll_append (hargs _ (fun _ _ => rfl)) (hres' _ _ _), hvars _, rfl, ?_, ?_⟩, ?_⟩
    · rw [hres] at h1 h2
      match j, h1, h2 with
      | 0, h1, h2 =>
        simp at h1
        have : r = .bool true := by simpa [Value.resultList] using h2.symm
        subst h1
        subst this
        exact okWide_bool_mk htb true
      | j + 1, h1, _ => simp at h1
    · intro b off hp
      have hlt : b < W.heap.size := hW'.lt (.cell b off) (by simpa using hp)
      rw [hb.frozen (p := ⟨b, off, none⟩) hlt]
      exact hfz b off (by simpa using hp)
    · intro ha
      have := hnd ha
      simpa using this
    · intro p' hp _
      simpa using hp
end
end Go.Proofs.YtdahdbnfknmmgaaGreatDoor.V
end

section
set_option linter.unusedSimpArgs false
set_option linter.unusedVariables false
namespace Go.Proofs.YtdahdbnfknmmgaaGreatDoor.V
open Go Go.ChangeShapes Go.WideShapes Go.RowKit
theorem flats_find {s : Nat} (hs : 0 < s) : ∀ {xs : List AV}, (∀ x ∈ xs, x.flat.length = s) → ∀ {j : Nat} {y : AV}, (flats xs)[j]? = some y → ∃ x, xs[j / s]? = some x ∧ x.flat[j % s]? = some y
  | [], _, j, y, h => by simp [flats] at h
  | x :: xs, hx, j, y, h => by
    rw [flats_cons] at h
    have hl := hx x (List.mem_cons_self ..)
    by_cases hj : j < s
    · rw [List.getElem?_append_left (by omega)] at h
      rw [Nat.div_eq_of_lt hj, Nat.mod_eq_of_lt hj]
      exact ⟨x, rfl, h⟩
    · rw [List.getElem?_append_right (by omega), hl] at h
      obtain ⟨z, h1, h2⟩ := flats_find hs (fun x hx' => hx x (List.mem_cons_of_mem _ hx')) h
      refine ⟨z, ?_, ?_⟩
      · rw [show j / s = (j - s) / s + 1 by rw [← Nat.sub_add_cancel (Nat.le_of_not_lt hj), Nat.add_div_right _ hs]; simp]
        simpa using h1
      · rw [show j % s = (j - s) % s by rw [← Nat.sub_add_cancel (Nat.le_of_not_lt hj), Nat.add_mod_right]; simp]
        exact h2

/-- Cells that hold an abstract value. -/
def RelC (w : World) (x : AV) (cs : List Value) : Prop := x.okv = true ∧ x.flat.length = cs.length ∧ ∀ (j : Nat) y c, x.flat[j]? = some y → cs[j]? = some c → Rel (G₀ w) [] w y c
theorem relC_one {w : World} {x : AV} {c : Value} (hx : x.flat = [x]) (ho : x.okv = true) (h : Rel (G₀ w) [] w x c) : RelC w x [c] := by
  refine ⟨ho, by rw [hx]; rfl, fun j y d e e' => ?_⟩
  rw [hx] at e
  cases j with
  | zero => simp at e e'; subst e; subst e'; exact h
  | succ j => simp at e

section
variable {H : Type} {enc : TypeId × Value → H} {P : Program} {w : World}
/-- Whatever is read at a type, by so much fuel, is one of these values. -/
def Opens {α : Type} (enc : TypeId × Value → H) (P : Program) (w : World) (n : Nat) (t : TypeId) (f : α → AV) (p : α → Prop) : Prop :=
  ∀ (m : Nat) cs x, m ≤ n → DataW.trod enc P w 0 (fun _ => true) true m t cs = some x → ∃ v : α, p v ∧ RelC w (f v) cs
theorem Opens.mono {α : Type} {n m : Nat} {t : TypeId} {f : α → AV} {p : α → Prop} (h : Opens enc P w n t f p) (hm : m ≤ n) : Opens enc P w m t f p := fun k cs x hk hx => h k cs x (by omega) hx
theorem Opens.zero {α : Type} {t : TypeId} {f : α → AV} {p : α → Prop} : Opens enc P w 0 t f p := fun m cs x hm hx => by
  obtain rfl : m = 0 := by omega
  simp [DataW.trod] at hx
theorem Opens.imp {α β : Type} {n : Nat} {t : TypeId} {f : α → AV} {p : α → Prop} {g : β → AV} {q : β → Prop} (h : Opens enc P w n t f p) (k : ∀ v, p v → ∃ u, q u ∧ g u = f v) : Opens enc P w n t g q := fun m cs x hm hx => by
  obtain ⟨v, hv, hr⟩ := h m cs x hm hx
  obtain ⟨u, hu, e⟩ := k v hv
  exact ⟨u, hu, e ▸ hr⟩
theorem opens_int {t : TypeId} {k : IntKind} (n : Nat) (ht : P.underlying t = some (.int k)) : Opens enc P w n t (fun i : Int => .lit (.int k i)) (fun i => k.min ≤ i ∧ i ≤ k.max) := fun m cs x _ hx => by
  obtain ⟨i, rfl, _, hw⟩ := DataW.trod_int ht hx
  refine ⟨i, ?_, relC_one rfl rfl (.lit _)⟩
  simp only [Lit.wf, Bool.and_eq_true, decide_eq_true_eq] at hw
  exact hw
theorem opens_string {t : TypeId} (n : Nat) (ht : P.underlying t = some .string) : Opens enc P w n t AV.str (fun l => l.length ≤ 9223372036854775807) := fun m cs x _ hx => by
  obtain ⟨s, rfl, _, hw⟩ := DataW.trod_string ht hx
  refine ⟨s.data.toList, ?_, relC_one rfl rfl ?_⟩
  · have : s.data.toList.length = s.size := Array.length_toList
    show s.data.toList.length ≤ _
    rw [this]
    unfold maxLen at hw
    omega
  · have : s = ⟨s.data.toList.toArray⟩ := by simp
    conv => rhs; rw [this]
    exact .str _
theorem add_add (a : Addr) (i j : Nat) : (a.add i).add j = a.add (i + j) := by
  unfold Addr.add
  by_cases hi : i = 0 <;> by_cases hj : j = 0 <;> simp [hi, hj, Nat.add_assoc]
theorem opens_slice {α : Type} {t e : TypeId} {s n : Nat} {f : α → AV} {p : α → Prop} (ht : P.underlying t = some (.slice e)) (hc : P.cellsOf e = s) (hs : 0 < s) (h : Opens enc P w n e f p) :
    Opens enc P w (n + 1) t (fun l : List α => .sl .sh s (l.map f)) (fun l => l.length ≤ 9223372036854775807 ∧ ∀ v ∈ l, p v) := fun m cs x hm hx => by
  rcases DataW.trod_slice ht hx with ⟨rfl, _⟩ | ⟨a, len, cap, elems, rest, k, hk, rfl, _, hb, hl, hcap, hlen, hel, _, _⟩
  · refine ⟨[], ⟨by simp, fun v hv => by cases hv⟩, relC_one rfl rfl ?_⟩
    exact .sl .sh s [] none 0 0 (fun _ => undef) rfl (Nat.le_refl _) (fun x hx => by cases hx) (fun j x e => by simp [flats] at e) (fun j x e => by simp [flats] at e) (fun e => by cases e) (fun h => absurd h (by omega)) (fun k e => by cases e)
  · subst hc
    have each : ∀ i, i < len → ∃ v : α, p v ∧ ∃ cs', w.cells? 0 (a.add (i * P.cellsOf e)) (P.cellsOf e) = some cs' ∧ RelC w (f v) cs' := fun i hi => by
      have := hel i hi
      rw [List.getElem?_eq_getElem (by omega), Option.bind_eq_some_iff] at this
      obtain ⟨cs', h1, h2⟩ := this
      obtain ⟨v, hv, hr⟩ := h k cs' _ (by omega) h2
      exact ⟨v, hv, cs', h1, hr⟩
    obtain ⟨g, hg⟩ : ∃ g : Nat → Option α, ∀ i, i < len → ∃ v, g i = some v ∧ p v ∧ ∃ cs', w.cells? 0 (a.add (i * P.cellsOf e)) (P.cellsOf e) = some cs' ∧ RelC w (f v) cs' := by
      refine ⟨fun i => if hi : i < len then some (Classical.choose (each i hi)) else none, fun i hi => ?_⟩
      simp only [dif_pos hi]
      exact ⟨_, rfl, Classical.choose_spec (each i hi)⟩
    have hget : ∀ (n : Nat), n ≤ len → ((List.range n).filterMap g).length = n ∧ ∀ i, i < n → ((List.range n).filterMap g)[i]? = g i := by
      intro n
      induction n with
      | zero => intro _; exact ⟨rfl, fun i hi => absurd hi (by omega)⟩
      | succ n ih =>
        intro hn
        obtain ⟨h1, h2⟩ := ih (by omega)
        obtain ⟨v, hv, _⟩ := hg n (by omega)
        rw [List.range_succ, List.filterMap_append]
        have e1 : List.filterMap g [n] = [v] := by simp [hv]
        rw [e1]
        refine ⟨by simp [h1], fun i hi => ?_⟩
        by_cases hin : i < n
        · rw [List.getElem?_append_left (by omega)]; exact h2 i hin
        · obtain rfl : i = n := by omega
          rw [List.getElem?_append_right (by omega), h1, Nat.sub_self, hv]
          rfl
    obtain ⟨l, hll, hlg⟩ : ∃ l : List α, l.length = len ∧ ∀ i, i < len → l[i]? = g i := ⟨_, hget len (Nat.le_refl _)⟩
    have hat : ∀ i v, l[i]? = some v → i < len ∧ p v ∧ ∃ cs', w.cells? 0 (a.add (i * P.cellsOf e)) (P.cellsOf e) = some cs' ∧ RelC w (f v) cs' := fun i v hv => by
      have hi : i < len := by have := lt_of_get hv; omega
      rw [hlg i hi] at hv
      obtain ⟨v', h1, h2⟩ := hg i hi
      rw [h1] at hv
      cases hv
      exact ⟨hi, h2⟩
    have huni : ∀ y ∈ l.map f, y.flat.length = P.cellsOf e ∧ y.okv = true := fun y hy => by
      obtain ⟨v, hv, rfl⟩ := List.mem_map.1 hy
      obtain ⟨i, hi⟩ := List.getElem?_of_mem hv
      obtain ⟨_, _, cs', h1, h2, h3, _⟩ := hat i v hi
      exact ⟨by rw [h3]; exact (World.cells?_some h1).2.1, h2⟩
    have hmax : len ≤ 9223372036854775807 := by unfold maxLen at hcap; omega
    refine ⟨l, ⟨by rw [hll]; exact hmax, fun v hv => ?_⟩, relC_one rfl rfl ?_⟩
    · obtain ⟨i, hi⟩ := List.getElem?_of_mem hv
      exact (hat i v hi).2.1
    · by_cases h0 : len = 0
      · have hnil : l = [] := List.eq_nil_of_length_eq_zero (by omega)
        rw [hnil]
        exact .sl .sh _ [] _ _ _ (fun _ => undef) (by simp [h0]) hl (fun x hx => by cases hx) (fun j x e => by simp [flats] at e) (fun j x e => by simp [flats] at e) (fun e => by cases e) (fun h => absurd h (by omega)) (fun k e => by cases e)
      · have hcellat : ∀ (j : Nat) y, (flats (l.map f))[j]? = some y → ∃ u, w.cell? (a.add j) = some u ∧ Rel (G₀ w) [] w y u := fun j y hj => by
          obtain ⟨z, h1, h2⟩ := flats_find hs (fun y hy => (huni y hy).1) hj
          rw [List.getElem?_map, Option.map_eq_some_iff] at h1
          obtain ⟨v, hv, rfl⟩ := h1
          obtain ⟨hi, _, cs', hc', _, hl', hr⟩ := hat _ v hv
          obtain ⟨_, hn', hcell⟩ := World.cells?_some hc'
          have hlt : j % P.cellsOf e < P.cellsOf e := Nat.mod_lt _ hs
          have := hcell (j % P.cellsOf e) hlt
          rw [List.getElem?_eq_getElem (by omega)] at this
          refine ⟨_, ?_, hr _ _ _ h2 (List.getElem?_eq_getElem (by omega))⟩
          rw [← this, add_add, Nat.mul_comm, Nat.div_add_mod]
        have hlen0 : 0 < (flats (l.map f)).length := by
          rw [flats_len fun y hy => (huni y hy).1, List.length_map, hll]
          exact Nat.mul_pos (by omega) hs
        obtain ⟨u, hu, _⟩ := hcellat 0 _ (List.getElem?_eq_getElem hlen0)
        obtain ⟨b, off, rfl⟩ : ∃ b off, a = ⟨b, off, none⟩ := by
          obtain ⟨b, off, sp⟩ := a
          cases sp with
          | none => exact ⟨b, off, rfl⟩
          | some k =>
            simp only [Addr.add, if_true, World.cell?] at hu
            split at hu <;> simp at hu
        refine rel_sl_of (by simp [hll]) hl huni fun j y hj => ?_
        obtain ⟨u, hu, hr⟩ := hcellat j y hj
        have hadd : (Addr.mk b off none).add j = ⟨b, off + j, none⟩ := by
          unfold Addr.add
          split
          · rename_i e; subst e; rfl
          · rfl
        rw [hadd] at hu
        refine ⟨?_, u, hu, hr⟩
        show b < w.heap.size
        rcases Nat.lt_or_ge b w.heap.size with hlt | hlt
        · exact hlt
        · simp [World.cell?, Array.getElem?_eq_none hlt] at hu
theorem relAll_cons {w : World} {x : AV} {v : Value} {xs : List AV} {vs : List Value} (h : Rel (G₀ w) [] w x v) (k : RelAll (G₀ w) [] w xs vs.toArray) : RelAll (G₀ w) [] w (x :: xs) (v :: vs).toArray := ⟨by simpa using k.1, fun j y u e e' => by
  cases j with
  | zero => simp at e e'; subst e; subst e'; exact h
  | succ j => exact k.2 j y u (by simpa using e) (by simpa using e')⟩
theorem relAll_nil {w : World} : RelAll (G₀ w) [] w [] ([] : List Value).toArray := ⟨rfl, fun j y u e e' => by simp at e⟩
theorem rel_of_agg {w : World} {xs : List AV} {cs : Array Value} (h : RelC w (.agg xs) (Value.agg cs).cells.toList) : Rel (G₀ w) [] w (.agg xs) (.agg cs) :=
  .agg _ _ (by have := h.2.1; simpa [AV.flat, Value.cells] using this.symm) fun j x v e e' => h.2.2 j x v e (by simpa [Value.cells] using e')
end
end Go.Proofs.YtdahdbnfknmmgaaGreatDoor.V
end
