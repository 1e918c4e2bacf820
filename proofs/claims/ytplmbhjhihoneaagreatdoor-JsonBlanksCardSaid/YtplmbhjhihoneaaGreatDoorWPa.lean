/- Objects as lists of pairs; how deep right trees are. No program in sight. -/
import Derived.Test.YtplmbhjhihoneaaGreatDoorW6
section
set_option linter.unusedSimpArgs false
set_option linter.unusedVariables false
namespace Go.Proofs.YtplmbhjhihoneaaGreatDoor
open Go V
set_option maxRecDepth 10000
abbrev Prs := List (bytes × JV)
def insP (s : bytes) (x : JV) : Prs → Prs
  | [] => [(s, x)]
  | p :: r => if lessB p.1 s = true then p :: insP s x r else if p.1 = s then (s, x) :: r else (s, x) :: p :: r
def getP (s : bytes) : Prs → Option JV
  | [] => none
  | p :: r => if p.1 = s then some p.2 else getP s r
def ofP (v : JV) (l : Prs) : JV := .mk v.kind v.num v.text (l.map (·.1)) (l.map (·.2))
def prs (v : JV) : Prs := v.names.zip v.items
theorem ofP_prs {v : JV} (h : v.names.length = v.items.length) : ofP v (prs v) = v := by
  obtain ⟨k, n, t, ns, is⟩ := v
  simp only [JV.names, JV.items] at h
  simp only [ofP, prs, JV.kind, JV.num, JV.text, JV.names, JV.items]
  rw [List.map_fst_zip (by omega), List.map_snd_zip (by omega)]
theorem zip_map : ∀ l : Prs, (l.map (·.1)).zip (l.map (·.2)) = l
  | [] => rfl
  | p :: r => by rw [List.map_cons, List.map_cons, List.zip_cons_cons, zip_map r]
theorem prs_ofP (v : JV) (l : Prs) : prs (ofP v l) = l := zip_map l
theorem insP_map (s : bytes) (x : JV) : ∀ l : Prs, (if (l.map (·.1))[pos (l.map (·.1)) s]? = some s then (l.map (·.1), (l.map (·.2)).set (pos (l.map (·.1)) s) x) else ((l.map (·.1)).insertIdx (pos (l.map (·.1)) s) s, (l.map (·.2)).insertIdx (pos (l.map (·.1)) s) x)) = ((insP s x l).map (·.1), (insP s x l).map (·.2))
  | [] => by simp [insP, pos]
  | p :: r => by
    have ih := insP_map s x r
    rw [List.map_cons, List.map_cons, pos_cons, insP]
    by_cases h : lessB p.1 s = true
    · rw [if_pos h, if_pos h, List.getElem?_cons_succ, List.map_cons, List.map_cons, List.set_cons_succ, List.insertIdx_succ_cons, List.insertIdx_succ_cons]
      by_cases h2 : (r.map (·.1))[pos (r.map (·.1)) s]? = some s
      · rw [if_pos h2] at ih ⊢
        simp only [Prod.mk.injEq] at ih
        rw [← ih.1, ← ih.2]
      · rw [if_neg h2] at ih ⊢
        simp only [Prod.mk.injEq] at ih
        rw [← ih.1, ← ih.2]
    · rw [if_neg h, if_neg h, List.getElem?_cons_zero]
      by_cases h2 : p.1 = s
      · rw [if_pos (congrArg some h2), if_pos h2, List.map_cons, List.map_cons, List.set_cons_zero, h2]
      · rw [if_neg (fun e => h2 (Option.some.inj e)), if_neg h2, List.insertIdx_zero, List.insertIdx_zero]
        rfl
theorem jput_ofP (v : JV) (l : Prs) (s : bytes) (x : JV) : jput (ofP v l) s x = ofP v (insP s x l) := by
  have h := insP_map s x l
  by_cases h2 : (l.map (·.1))[pos (l.map (·.1)) s]? = some s
  · rw [if_pos h2] at h
    simp only [Prod.mk.injEq] at h
    rw [jput_old (v := ofP v l) h2]
    have : ofP v (insP s x l) = .mk v.kind v.num v.text ((insP s x l).map (·.1)) ((insP s x l).map (·.2)) := rfl
    rw [this, ← h.1, ← h.2]
    rfl
  · rw [if_neg h2] at h
    simp only [Prod.mk.injEq] at h
    rw [jput_new (v := ofP v l) h2]
    have : ofP v (insP s x l) = .mk v.kind v.num v.text ((insP s x l).map (·.1)) ((insP s x l).map (·.2)) := rfl
    rw [this, ← h.1, ← h.2]
    rfl
theorem jput_prs {v : JV} (h : v.names.length = v.items.length) (s : bytes) (x : JV) : jput v s x = ofP v (insP s x (prs v)) := by
  rw [← jput_ofP, ofP_prs h]
theorem find_getP (s : bytes) : ∀ l : Prs, (match (l.map (·.1)).findIdx? (fun n => n == s) with | some i => (l.map (·.2))[i]? | none => none) = getP s l
  | [] => rfl
  | p :: r => by
    have ih := find_getP s r
    rw [List.map_cons, List.map_cons, List.findIdx?_cons, getP]
    by_cases h : p.1 = s
    · rw [if_pos h, if_pos (by simpa using h)]
      rfl
    · rw [if_neg h, if_neg (by simpa using h), ← ih]
      cases (r.map (·.1)).findIdx? (fun n => n == s) with
      | none => rfl
      | some i => rfl
theorem jget_ofP {v : JV} (hk : v.kind = 6) (l : Prs) (s : bytes) : jget (ofP v l) s = getP s l := by
  rw [← find_getP, jget]
  exact if_pos hk
theorem jget_prs {v : JV} (hk : v.kind = 6) (h : v.names.length = v.items.length) (s : bytes) : jget v s = getP s (prs v) := by
  rw [← jget_ofP hk, ofP_prs h]
theorem less_ne {a b : bytes} (h : lessB a b = true) : ¬ a = b := lessB_ne h
theorem getP_ins (s : bytes) (x : JV) : ∀ l : Prs, getP s (insP s x l) = some x
  | [] => by simp [insP, getP]
  | p :: r => by
    rw [insP]
    split
    · rename_i h
      rw [getP, if_neg (less_ne h), getP_ins s x r]
    · split
      · rw [getP, if_pos rfl]
      · rw [getP, if_pos rfl]
theorem getP_ins_ne {s t : bytes} (h : t ≠ s) (x : JV) : ∀ l : Prs, getP t (insP s x l) = getP t l
  | [] => by simp [insP, getP, h.symm]
  | p :: r => by
    rw [insP]
    split
    · rw [getP, getP, getP_ins_ne h x r]
    · split
      · rename_i h2
        rw [getP, getP, if_neg h.symm, if_neg (by rw [h2]; exact h.symm)]
      · rw [getP, if_neg h.symm]
theorem mem_ins {s : bytes} {x : JV} : ∀ {l : Prs} {t : bytes}, t ∈ (insP s x l).map (·.1) ↔ t = s ∨ t ∈ l.map (·.1)
  | [], t => by simp [insP]
  | p :: r, t => by
    rw [insP]
    split
    · rw [List.map_cons, List.mem_cons, mem_ins (l := r), List.map_cons, List.mem_cons]
      constructor
      · rintro (h | h | h)
        · exact .inr (.inl h)
        · exact .inl h
        · exact .inr (.inr h)
      · rintro (h | h | h)
        · exact .inr (.inl h)
        · exact .inl h
        · exact .inr (.inr h)
    · split
      · rename_i h
        rw [List.map_cons, List.mem_cons, List.map_cons, List.mem_cons, h]
        constructor
        · rintro (h | h)
          · exact .inl h
          · exact .inr (.inr h)
        · rintro (h | h | h)
          · exact .inl h
          · exact .inl h
          · exact .inr h
      · rw [List.map_cons, List.mem_cons]
theorem mem_ins2 {s : bytes} {x : JV} : ∀ {l : Prs} {y : JV}, y ∈ (insP s x l).map (·.2) → y = x ∨ y ∈ l.map (·.2)
  | [], y, h => by simp [insP] at h; exact .inl h
  | p :: r, y, h => by
    rw [insP] at h
    split at h
    · rw [List.map_cons, List.mem_cons] at h
      rcases h with h | h
      · exact .inr (by rw [List.map_cons, List.mem_cons]; exact .inl h)
      · rcases mem_ins2 h with h | h
        · exact .inl h
        · exact .inr (by rw [List.map_cons, List.mem_cons]; exact .inr h)
    · split at h
      · rw [List.map_cons, List.mem_cons] at h
        rcases h with h | h
        · exact .inl h
        · exact .inr (by rw [List.map_cons, List.mem_cons]; exact .inr h)
      · rw [List.map_cons, List.mem_cons] at h
        exact h
theorem srt_ins {s : bytes} {x : JV} : ∀ {l : Prs}, srt (l.map (·.1)) = true → srt ((insP s x l).map (·.1)) = true
  | [], _ => rfl
  | p :: r, h => by
    have h0 := h
    rw [List.map_cons] at h
    rw [insP]
    split
    · rename_i hl
      rw [List.map_cons]
      refine srt_cons (fun b hb => ?_) (srt_ins (srt_tail h))
      rcases mem_ins.1 hb with rfl | hb
      · exact hl
      · exact srt_head h b hb
    · rename_i hl
      split
      · rename_i he
        rw [List.map_cons]
        simp only
        rw [← he]
        exact h
      · rename_i he
        have h1 : lessB s p.1 = true := by
          cases e : lessB s p.1 with
          | true => rfl
          | false => exact absurd (lessB_tri (by simpa using hl) e) he
        rw [List.map_cons]
        refine srt_cons (fun b hb => ?_) h0
        rw [List.map_cons] at hb
        rcases List.mem_cons.1 hb with rfl | hb
        · exact h1
        · exact lessB_trans h1 (srt_head h b hb)
theorem ins_comm {s t : bytes} (hst : s ≠ t) (x y : JV) : ∀ l : Prs, insP s x (insP t y l) = insP t y (insP s x l)
  | [] => by
    cases h : lessB t s with
    | true => simp [insP, h, lessB_asymm h, hst]
    | false =>
      have h2 : lessB s t = true := by
        cases e : lessB s t with
        | true => rfl
        | false => exact absurd (lessB_tri e h) hst
      simp [insP, h, h2, hst.symm]
  | p :: r => by
    have ih := ins_comm hst x y r
    cases h1 : lessB p.1 s with
    | true =>
      cases h2 : lessB p.1 t with
      | true => simp [insP, h1, h2, ih]
      | false =>
        by_cases h3 : p.1 = t
        · have h4 : lessB t s = true := by rw [← h3]; exact h1
          simp [insP, h1, h2, h3, h4, lessB_irrefl]
        · have h4 : lessB t p.1 = true := by
            cases e : lessB t p.1 with
            | true => rfl
            | false => exact absurd (lessB_tri h2 e) h3
          simp [insP, h1, h2, h3, lessB_trans h4 h1]
    | false =>
      by_cases h3 : p.1 = s
      · cases h2 : lessB p.1 t with
        | true =>
          have h4 : lessB s t = true := by rw [← h3]; exact h2
          simp [insP, h2, h3, h4, lessB_irrefl]
        | false =>
          have h5 : ¬ p.1 = t := fun e => hst (h3.symm.trans e)
          have h4 : lessB t s = true := by
            cases e : lessB t s with
            | true => rfl
            | false => rw [h3] at h2; exact absurd (lessB_tri h2 e) hst
          rw [h3] at h2 h5
          simp [insP, h2, h3, h4, h5, lessB_irrefl]
      · have h6 : lessB s p.1 = true := by
          cases e : lessB s p.1 with
          | true => rfl
          | false => exact absurd (lessB_tri h1 e) h3
        cases h2 : lessB p.1 t with
        | true => simp [insP, h1, h2, h3, lessB_trans h6 h2]
        | false =>
          by_cases h5 : p.1 = t
          · have h4 : lessB s t = true := by rw [← h5]; exact h6
            simp [insP, h1, h3, h5, h4, lessB_irrefl]
            rw [h5] at h1
            have := lessB_asymm h4
            simp [h1, hst.symm]
            simp [insP, h4, h5, lessB_irrefl]
          · cases h7 : lessB t s with
            | true => simp [insP, h1, h2, h3, h5, h7, lessB_asymm h7, hst]
            | false =>
              have h8 : lessB s t = true := by
                cases e : lessB s t with
                | true => rfl
                | false => exact absurd (lessB_tri e h7) hst
              simp [insP, h1, h2, h3, h5, h7, h8, hst.symm]
/-! Objects of pairs -/
def allP : Prs → Prs → Option Prs
  | a, [] => some a
  | a, p :: r => if (getP p.1 a).isSome then none else allP (insP p.1 p.2 a) r
def insAll (a l : Prs) : Prs := l.foldl (fun a p => insP p.1 p.2 a) a
theorem getP_some {s : bytes} : ∀ {l : Prs}, (getP s l).isSome = true ↔ s ∈ l.map (·.1)
  | [] => by simp [getP]
  | p :: r => by
    rw [getP, List.map_cons, List.mem_cons]
    split
    · rename_i h; simp [h]
    · rename_i h
      rw [getP_some (l := r)]
      constructor
      · exact .inr
      · rintro (e | e)
        · exact absurd e.symm h
        · exact e
open Classical in
theorem allP_eq : ∀ (l a : Prs), allP a l = if (l.map (·.1)).Nodup ∧ ∀ s ∈ l.map (·.1), s ∉ a.map (·.1) then some (insAll a l) else none
  | [], a => by rw [if_pos ⟨List.nodup_nil, fun s hs => by cases hs⟩]; rfl
  | p :: r, a => by
    rw [allP]
    by_cases h : (getP p.1 a).isSome = true
    · rw [if_pos h, if_neg]
      rintro ⟨_, h2⟩
      exact h2 p.1 (by rw [List.map_cons]; exact List.mem_cons_self ..) (getP_some.1 h)
    · rw [if_neg h, allP_eq r]
      have h' : p.1 ∉ a.map (·.1) := fun e => h (getP_some.2 e)
      by_cases h3 : (r.map (·.1)).Nodup ∧ ∀ s ∈ r.map (·.1), s ∉ (insP p.1 p.2 a).map (·.1)
      · rw [if_pos h3, if_pos]
        · rfl
        · rw [List.map_cons, List.nodup_cons]
          refine ⟨⟨fun e => h3.2 _ e (mem_ins.2 (.inl rfl)), h3.1⟩, fun s hs => ?_⟩
          rcases List.mem_cons.1 hs with rfl | hs
          · exact h'
          · exact fun e => h3.2 s hs (mem_ins.2 (.inr e))
      · rw [if_neg h3, if_neg]
        rintro ⟨h4, h5⟩
        rw [List.map_cons, List.nodup_cons] at h4
        refine h3 ⟨h4.2, fun s hs e => ?_⟩
        rcases mem_ins.1 e with rfl | e
        · exact h4.1 hs
        · exact h5 s (by rw [List.map_cons]; exact List.mem_cons_of_mem _ hs) e
theorem insAll_push (p : bytes × JV) : ∀ (l a : Prs), p.1 ∉ l.map (·.1) → insAll (insP p.1 p.2 a) l = insP p.1 p.2 (insAll a l)
  | [], a, _ => rfl
  | q :: r, a, h => by
    rw [List.map_cons, List.mem_cons, not_or] at h
    show insAll (insP q.1 q.2 (insP p.1 p.2 a)) r = insP p.1 p.2 (insAll (insP q.1 q.2 a) r)
    rw [ins_comm (fun e => h.1 e.symm), insAll_push p r _ h.2]
theorem insAll_rev : ∀ (l a : Prs), (l.map (·.1)).Nodup → insAll a l.reverse = insAll a l
  | [], a, _ => rfl
  | p :: r, a, h => by
    rw [List.map_cons, List.nodup_cons] at h
    rw [List.reverse_cons, insAll, List.foldl_append]
    show insP p.1 p.2 (insAll a r.reverse) = insAll (insP p.1 p.2 a) r
    rw [insAll_rev r a h.2, insAll_push p r a h.1]
theorem nodup_rev {l : List bytes} : l.reverse.Nodup ↔ l.Nodup := by
  unfold List.Nodup
  rw [List.pairwise_reverse]
  exact ⟨fun h => h.imp fun k => k.symm, fun h => h.imp fun k => k.symm⟩
theorem allP_rev (l a : Prs) : allP a l.reverse = allP a l := by
  have h1 : ((l.reverse.map (·.1)).Nodup ∧ ∀ s ∈ l.reverse.map (·.1), s ∉ a.map (·.1)) ↔ ((l.map (·.1)).Nodup ∧ ∀ s ∈ l.map (·.1), s ∉ a.map (·.1)) := by
    rw [List.map_reverse, nodup_rev]
    simp only [List.mem_reverse]
  rw [allP_eq, allP_eq]
  by_cases h : (l.map (·.1)).Nodup ∧ ∀ s ∈ l.map (·.1), s ∉ a.map (·.1)
  · rw [if_pos h, if_pos (h1.2 h), insAll_rev l a h.1]
  · rw [if_neg h, if_neg (fun e => h (h1.1 e))]
/-! How deep right trees are -/
theorem right_of {n : Nat} {v : JV} (h : rightJ n v = true) : oneJ v = true ∨ (0 < n ∧ manyJ v = true ∧ v.items.all (rightJ (n - 1)) = true) := by
  cases n with
  | zero => exact .inl h
  | succ n =>
    rw [rightJ, Bool.or_eq_true, Bool.and_eq_true] at h
    rcases h with h | h
    · exact .inl h
    · exact .inr ⟨Nat.succ_pos _, h.1, h.2⟩
theorem right_one {n : Nat} {v : JV} (h : oneJ v = true) : rightJ n v = true := by
  cases n with
  | zero => exact h
  | succ n => rw [rightJ, h]; rfl
theorem right_many {n : Nat} {v : JV} (h : manyJ v = true) (k : v.items.all (rightJ n) = true) : rightJ (n + 1) v = true := by
  rw [rightJ, h, k, Bool.and_self, Bool.or_true]
theorem many_kind {v : JV} (h : manyJ v = true) : v.kind = 5 ∨ v.kind = 6 := by
  unfold manyJ at h
  split at h
  · exact .inl (by assumption)
  · split at h
    · exact .inr (by assumption)
    · cases h
theorem one_kind {v : JV} (h : oneJ v = true) : ¬ (v.kind = 5 ∨ v.kind = 6) := by
  unfold oneJ at h
  intro hk
  split at h
  · omega
  · split at h
    · omega
    · split at h
      · omega
      · cases h
theorem right_up {n m : Nat} (hnm : n ≤ m) : ∀ v : JV, rightJ n v = true → rightJ m v = true := by
  induction n generalizing m with
  | zero => exact fun v h => right_one h
  | succ n ih =>
    intro v h
    rcases right_of h with h | ⟨_, h1, h2⟩
    · exact right_one h
    · obtain ⟨m, rfl⟩ : ∃ k, m = k + 1 := ⟨m - 1, by omega⟩
      refine right_many h1 (List.all_eq_true.2 fun x hx => ih (by omega) x (List.all_eq_true.1 h2 x hx))
theorem foldl_max_ge {m : Nat} : ∀ (l : List Nat) (a : Nat), m ≤ a ∨ m ∈ l → m ≤ l.foldl max a
  | [], a, h => by rcases h with h | h; exact h; cases h
  | b :: l, a, h => by
    refine foldl_max_ge l (max a b) ?_
    rcases h with h | h
    · exact .inl (by omega)
    · rcases List.mem_cons.1 h with rfl | h
      · exact .inl (by omega)
      · exact .inr h
theorem deep_item {m : Nat} {v x : JV} (hk : v.kind = 5 ∨ v.kind = 6) (hx : x ∈ v.items) : deepJ m x + 1 ≤ deepJ (m + 1) v := by
  rw [deepJ, if_pos hk]
  have := foldl_max_ge (m := deepJ m x) (v.items.map (deepJ m)) 0 (.inr (List.mem_map.2 ⟨x, hx, rfl⟩))
  omega
theorem deep_least {m k : Nat} {v : JV} (h : ∀ x ∈ v.items, deepJ m x ≤ k) : deepJ (m + 1) v ≤ k + 1 := by
  rw [deepJ]
  split
  · have := foldl_max_le (m := k) (v.items.map (deepJ m)) 0 (by omega) fun y hy => by
      obtain ⟨x, hx, rfl⟩ := List.mem_map.1 hy
      exact h x hx
    omega
  · omega
/-- A right tree that isn't deeper is right within more. -/
theorem right_deep : ∀ (m k : Nat) (n : Nat) (v : JV), rightJ n v = true → deepJ m v ≤ k → k < m → rightJ k v = true
  | 0, k, n, v, _, _, h3 => by omega
  | m + 1, k, n, v, h1, h2, h3 => by
    rcases right_of h1 with h | ⟨_, h4, h5⟩
    · exact right_one h
    · have hk := many_kind h4
      have hd : 1 ≤ deepJ (m + 1) v := by rw [deepJ, if_pos hk]; omega
      obtain ⟨k, rfl⟩ : ∃ j, k = j + 1 := ⟨k - 1, by omega⟩
      refine right_many h4 (List.all_eq_true.2 fun x hx => ?_)
      have := deep_item (m := m) hk hx
      exact right_deep m k (n - 1) x (List.all_eq_true.1 h5 x hx) (by omega) (by omega)
theorem deep_right : ∀ (k m : Nat) (v : JV), rightJ k v = true → deepJ m v ≤ k
  | k, 0, v, _ => Nat.zero_le _
  | k, m + 1, v, h => by
    rcases right_of h with h | ⟨h3, h4, h5⟩
    · rw [deepJ, if_neg (one_kind h)]; exact Nat.zero_le _
    · obtain ⟨k, rfl⟩ : ∃ j, k = j + 1 := ⟨k - 1, by omega⟩
      exact deep_least fun x hx => deep_right k m x (List.all_eq_true.1 h5 x hx)
theorem deep_same : ∀ (k m m' : Nat) (v : JV), rightJ k v = true → k ≤ m → k ≤ m' → deepJ m v = deepJ m' v
  | k, m, m', v, h, h1, h2 => by
    rcases right_of h with h | ⟨h3, h4, h5⟩
    · have : ∀ m, deepJ m v = 0 := fun m => by
        cases m with
        | zero => rfl
        | succ m => rw [deepJ, if_neg (one_kind h)]
      rw [this, this]
    · obtain ⟨k, rfl⟩ : ∃ j, k = j + 1 := ⟨k - 1, by omega⟩
      obtain ⟨m, rfl⟩ : ∃ j, m = j + 1 := ⟨m - 1, by omega⟩
      obtain ⟨m', rfl⟩ : ∃ j, m' = j + 1 := ⟨m' - 1, by omega⟩
      rw [deepJ, deepJ]
      congr 3
      refine List.map_congr_left fun x hx => deep_same k m m' x (List.all_eq_true.1 h5 x hx) (by omega) (by omega)
  termination_by k => k
/-! Right objects -/
theorem right_obj {n : Nat} {v : JV} (h : rightJ n v = true) (hk : v.kind = 6) : 0 < n ∧ v.num = 0 ∧ v.text = [] ∧ v.names.length = v.items.length ∧ v.names.all Lib.validD = true ∧ srt v.names = true ∧ v.items.all (rightJ (n - 1)) = true := by
  rcases right_of h with h | ⟨h3, h4, h5⟩
  · exact absurd (.inr hk) (one_kind h)
  · unfold manyJ at h4
    rw [if_neg (by omega), if_pos hk] at h4
    simp only [bareJ, namedJ, Bool.and_eq_true, decide_eq_true_eq] at h4
    exact ⟨h3, h4.1.1, h4.1.2, h4.2.1.1, h4.2.1.2, h4.2.2, h5⟩
theorem obj_right {n : Nat} {l : Prs} (h1 : ∀ s ∈ l.map (·.1), Lib.validD s = true) (h2 : srt (l.map (·.1)) = true) (h3 : ∀ x ∈ l.map (·.2), rightJ n x = true) : rightJ (n + 1) (ofP objJ l) = true := by
  refine right_many ?_ (List.all_eq_true.2 h3)
  unfold manyJ
  rw [if_neg (by show ¬ ((6 : Int) = 5); decide), if_pos (by rfl)]
  simp only [bareJ, namedJ, Bool.and_eq_true, decide_eq_true_eq]
  exact ⟨⟨rfl, rfl⟩, ⟨by simp [ofP, JV.names, JV.items], List.all_eq_true.2 h1⟩, h2⟩
theorem obj_is {n : Nat} {v : JV} (h : rightJ n v = true) (hk : v.kind = 6) : v = ofP objJ (prs v) := by
  obtain ⟨_, h1, h2, h3, _⟩ := right_obj h hk
  have := ofP_prs h3
  rw [ofP, hk, h1, h2] at this
  exact this.symm
theorem prs_names {v : JV} (h : v.names.length = v.items.length) : (prs v).map (·.1) = v.names := by
  unfold prs; rw [List.map_fst_zip (by omega)]
theorem prs_items {v : JV} (h : v.names.length = v.items.length) : (prs v).map (·.2) = v.items := by
  unfold prs; rw [List.map_snd_zip (by omega)]
theorem right_put {n : Nat} {v x : JV} {s : bytes} (h : rightJ (n + 1) v = true) (hk : v.kind = 6) (hx : rightJ n x = true) (hs : Lib.validD s = true) : rightJ (n + 1) (jput v s x) = true := by
  obtain ⟨_, h1, h2, h3, h4, h5, h6⟩ := right_obj h hk
  have hv := obj_is h hk
  rw [hv, jput_ofP]
  have hn := prs_names h3
  have hi := prs_items h3
  refine obj_right (fun t ht => ?_) (srt_ins (by rw [hn]; exact h5)) (fun y hy => ?_)
  · rcases mem_ins.1 ht with rfl | ht
    · exact hs
    · rw [hn] at ht; exact List.all_eq_true.1 h4 t ht
  · rcases mem_ins2 hy with rfl | hy
    · exact hx
    · rw [hi] at hy; exact List.all_eq_true.1 h6 y hy
theorem put_get {n : Nat} {v x : JV} {s : bytes} (h : rightJ n v = true) (hk : v.kind = 6) : jget (jput v s x) s = some x := by
  rw [obj_is h hk, jput_ofP, jget_ofP rfl, getP_ins]
theorem put_get_ne {n : Nat} {v x : JV} {s t : bytes} (h : rightJ n v = true) (hk : v.kind = 6) (hst : t ≠ s) : jget (jput v s x) t = jget v t := by
  rw [jget_prs hk (right_obj h hk).2.2.2.1]
  conv => lhs; rw [obj_is h hk, jput_ofP, jget_ofP rfl, getP_ins_ne hst]
/-! Objects without items -/
def cutP (p : bytes → Bool) (l : Prs) : Prs := l.filter (fun q => !p q.1)
def jcut (p : bytes → Bool) (v : JV) : JV := if v.kind = 6 ∧ rightJ 12 v = true then ofP objJ (cutP p (prs v)) else v
theorem srt_filter {l : Prs} {p : bytes × JV → Bool} (h : srt (l.map (·.1)) = true) : srt ((l.filter p).map (·.1)) = true :=
  srt_of_pair ((srt_pair h).sublist (List.Sublist.map _ List.filter_sublist))
theorem right_cut {p : bytes → Bool} {v : JV} (h : rightJ 12 v = true) : rightJ 12 (jcut p v) = true := by
  unfold jcut
  split
  · rename_i hc
    obtain ⟨_, h1, h2, h3, h4, h5, h6⟩ := right_obj h hc.1
    refine obj_right (n := 11) (fun t ht => ?_) (srt_filter (by rw [prs_names h3]; exact h5)) (fun y hy => ?_)
    · obtain ⟨q, hq, rfl⟩ := List.mem_map.1 ht
      exact List.all_eq_true.1 h4 _ (by rw [← prs_names h3]; exact List.mem_map.2 ⟨q, (List.mem_filter.1 hq).1, rfl⟩)
    · obtain ⟨q, hq, rfl⟩ := List.mem_map.1 hy
      exact List.all_eq_true.1 h6 _ (by rw [← prs_items h3]; exact List.mem_map.2 ⟨q, (List.mem_filter.1 hq).1, rfl⟩)
  · exact h
theorem getP_cut {p : bytes → Bool} {s : bytes} (hp : p s = true) (l : Prs) : getP s (cutP p l) = none := by
  cases e : getP s (cutP p l) with
  | none => rfl
  | some x =>
    have h1 : s ∈ (cutP p l).map (·.1) := getP_some.1 (by rw [e]; rfl)
    obtain ⟨q, hq, rfl⟩ := List.mem_map.1 h1
    have := (List.mem_filter.1 hq).2
    rw [hp] at this
    cases this
theorem cut_get {p : bytes → Bool} {s : bytes} {v : JV} (hp : p s = true) (h : rightJ 12 v = true) (hk : v.kind = 6) : jget (jcut p v) s = none := by
  unfold jcut
  rw [if_pos ⟨hk, h⟩, jget_ofP rfl, getP_cut hp]
/-! Sizes -/
def sumP (l : Prs) : Nat := (l.map fun p => nameW p.1 + sizeJ p.2).sum
theorem size_ofP (v : JV) (l : Prs) : sizeJ (ofP v l) = 1 + v.text.length + sumP l := by
  rw [sizeJ_eq, sizesJ_eq]
  show 1 + v.text.length + ((l.map (·.1)).map nameW).sum + ((l.map (·.2)).map sizeJ).sum = _
  have : ((l.map (·.1)).map nameW).sum + ((l.map (·.2)).map sizeJ).sum = sumP l := by
    unfold sumP
    induction l with
    | nil => rfl
    | cons p r ih => simp only [List.map_cons, List.sum_cons]; omega
  omega
theorem sumP_cons (p : bytes × JV) (r : Prs) : sumP (p :: r) = nameW p.1 + sizeJ p.2 + sumP r := by unfold sumP; rw [List.map_cons, List.sum_cons]
theorem sumP_ins (s : bytes) (x : JV) : ∀ l : Prs, sumP (insP s x l) ≤ nameW s + sizeJ x + sumP l
  | [] => by rw [insP, sumP_cons]; exact Nat.le_refl _
  | p :: r => by
    rw [insP]
    have := sumP_ins s x r
    split
    · rw [sumP_cons, sumP_cons]; omega
    · split
      · rw [sumP_cons, sumP_cons]; simp only; omega
      · rw [sumP_cons]; exact Nat.le_refl _
theorem sumP_filter (p : bytes × JV → Bool) : ∀ l : Prs, sumP (l.filter p) ≤ sumP l
  | [] => Nat.le_refl _
  | q :: r => by
    have := sumP_filter p r
    rw [List.filter_cons]
    split
    · rw [sumP_cons, sumP_cons]; omega
    · rw [sumP_cons]; omega
theorem size_prs {v : JV} (h : v.names.length = v.items.length) : sizeJ v = 1 + v.text.length + sumP (prs v) := by
  rw [← size_ofP, ofP_prs h]
theorem size_put {v : JV} (h : v.names.length = v.items.length) (s : bytes) (x : JV) : sizeJ (jput v s x) ≤ sizeJ v + nameW s + sizeJ x := by
  rw [jput_prs h, size_ofP, size_prs h]
  have := sumP_ins s x (prs v)
  omega
theorem size_cut (p : bytes → Bool) (v : JV) : sizeJ (jcut p v) ≤ sizeJ v := by
  unfold jcut
  split
  · rename_i hc
    obtain ⟨_, h1, h2, h3, _⟩ := right_obj hc.2 hc.1
    rw [size_ofP, size_prs h3]
    have := sumP_filter (fun q => !p q.1) (prs v)
    unfold cutP
    show 1 + 0 + _ ≤ _
    omega
  · exact Nat.le_refl _
end Go.Proofs.YtplmbhjhihoneaaGreatDoor
end
