/- Objects as lists of pairs; how deep right trees are. No program in sight. -/
import Derived.Test.YtplmbhjhihoneaaGreatDoorW6
import Derived.Test.YtplmbhjhihoneaaGreatDoorW4
section
set_option linter.unusedSimpArgs false
set_option linter.unusedVariables false
namespace Go.Proofs.YtplmbhjhihoneaaGreatDoor
open Go V
set_option maxRecDepth 10000
abbrev Prs := List (bytes × JV)
def insP (s : bytes) (x : JV) : Prs → Prs
  | [] => [(s, x)]
  | p :: r => if lessB p.1 s = true then p :: insP s x r else if p.1 = s then (s, x) :: r else (s, x) :: p :: r
def ofP (v : JV) (l : Prs) : JV := .mk v.kind v.num v.text (l.map (·.1)) (l.map (·.2))
def prs (v : JV) : Prs := v.names.zip v.items
theorem ofP_prs {v : JV} (h : v.names.length = v.items.length) : ofP v (prs v) = v := by
  obtain ⟨k, n, t, ns, is⟩ := v
  simp only [JV.names, JV.items] at h
  simp only [ofP, prs, JV.kind, JV.num, JV.text, JV.names, JV.items]
  rw [List.map_fst_zip (by omega), List.map_snd_zip (by omega)]
theorem insP_map (s : bytes) (x : JV) : ∀ l : Prs, (if (l.map (·.1))[pos (l.map (·.1)) s]? = some s then (l.map (·.1), (l.map (·.2)).set (pos (l.map (·.1)) s) x) else ((l.map (·.1)).insertIdx (pos (l.map (·.1)) s) s, (l.map (·.2)).insertIdx (pos (l.map (·.1)) s) x)) = ((insP s x l).map (·.1), (insP s x l).map (·.2))
  | [] => by simp [insP, pos]
  | p :: r => by
    have ih := insP_map s x r
    rw [List.map_cons, List.map_cons, pos_cons, insP]
    by_cases h : lessB p.1 s = true
    · rw [if_pos h, if_pos h, List.getElem?_cons_succ, List.map_cons, List.map_cons, List.set_cons_succ, List.insertIdx_succ_cons, List.insertIdx_succ_cons]
      by_cases h2 : (r.map (·.1))[pos (r.map (·.1)) s]? = some s
      · rw [if_pos h2] at ih ⊢
        simp only [Prod.mk.injEq] at ih
        rw [← ih.1, ← ih.2]
      · rw [if_neg h2] at ih ⊢
        simp only [Prod.mk.injEq] at ih
        rw [← ih.1, ← ih.2]
    · rw [if_neg h, if_neg h, List.getElem?_cons_zero]
      by_cases h2 : p.1 = s
      · rw [if_pos (congrArg some h2), if_pos h2, List.map_cons, List.map_cons, List.set_cons_zero, h2]
      · rw [if_neg (fun e => h2 (Option.some.inj e)), if_neg h2, List.insertIdx_zero, List.insertIdx_zero]
        rfl
theorem jput_ofP (v : JV) (l : Prs) (s : bytes) (x : JV) : jput (ofP v l) s x = ofP v (insP s x l) := by
  have h := insP_map s x l
  by_cases h2 : (l.map (·.1))[pos (l.map (·.1)) s]? = some s
  · rw [if_pos h2] at h
    simp only [Prod.mk.injEq] at h
    rw [jput_old (v := ofP v l) h2]
    have : ofP v (insP s x l) = .mk v.kind v.num v.text ((insP s x l).map (·.1)) ((insP s x l).map (·.2)) := rfl
    rw [this, ← h.1, ← h.2]
    rfl
  · rw [if_neg h2] at h
    simp only [Prod.mk.injEq] at h
    rw [jput_new (v := ofP v l) h2]
    have : ofP v (insP s x l) = .mk v.kind v.num v.text ((insP s x l).map (·.1)) ((insP s x l).map (·.2)) := rfl
    rw [this, ← h.1, ← h.2]
    rfl
theorem jput_prs {v : JV} (h : v.names.length = v.items.length) (s : bytes) (x : JV) : jput v s x = ofP v (insP s x (prs v)) := by
  rw [← jput_ofP, ofP_prs h]
theorem less_ne {a b : bytes} (h : lessB a b = true) : ¬ a = b := lessB_ne h
theorem mem_ins {s : bytes} {x : JV} : ∀ {l : Prs} {t : bytes}, t ∈ (insP s x l).map (·.1) ↔ t = s ∨ t ∈ l.map (·.1)
  | [], t => by simp [insP]
  | p :: r, t => by
    rw [insP]
    split
    · rw [List.map_cons, List.mem_cons, mem_ins (l := r), List.map_cons, List.mem_cons]
      constructor
      · rintro (h | h | h)
        · exact .inr (.inl h)
        · exact .inl h
        · exact .inr (.inr h)
      · rintro (h | h | h)
        · exact .inr (.inl h)
        · exact .inl h
        · exact .inr (.inr h)
    · split
      · rename_i h
        rw [List.map_cons, List.mem_cons, List.map_cons, List.mem_cons, h]
        constructor
        · rintro (h | h)
          · exact .inl h
          · exact .inr (.inr h)
        · rintro (h | h | h)
          · exact .inl h
          · exact .inl h
          · exact .inr h
      · rw [List.map_cons, List.mem_cons]
theorem mem_ins2 {s : bytes} {x : JV} : ∀ {l : Prs} {y : JV}, y ∈ (insP s x l).map (·.2) → y = x ∨ y ∈ l.map (·.2)
  | [], y, h => by simp [insP] at h; exact .inl h
  | p :: r, y, h => by
    rw [insP] at h
    split at h
    · rw [List.map_cons, List.mem_cons] at h
      rcases h with h | h
      · exact .inr (by rw [List.map_cons, List.mem_cons]; exact .inl h)
      · rcases mem_ins2 h with h | h
        · exact .inl h
        · exact .inr (by rw [List.map_cons, List.mem_cons]; exact .inr h)
    · split at h
      · rw [List.map_cons, List.mem_cons] at h
        rcases h with h | h
        · exact .inl h
        · exact .inr (by rw [List.map_cons, List.mem_cons]; exact .inr h)
      · rw [List.map_cons, List.mem_cons] at h
        exact h
theorem srt_ins {s : bytes} {x : JV} : ∀ {l : Prs}, srt (l.map (·.1)) = true → srt ((insP s x l).map (·.1)) = true
  | [], _ => rfl
  | p :: r, h => by
    have h0 := h
    rw [List.map_cons] at h
    rw [insP]
    split
    · rename_i hl
      rw [List.map_cons]
      refine srt_cons (fun b hb => ?_) (srt_ins (srt_tail h))
      rcases mem_ins.1 hb with rfl | hb
      · exact hl
      · exact srt_head h b hb
    · rename_i hl
      split
      · rename_i he
        rw [List.map_cons]
        simp only
        rw [← he]
        exact h
      · rename_i he
        have h1 : lessB s p.1 = true := by
          cases e : lessB s p.1 with
          | true => rfl
          | false => exact absurd (lessB_tri (by simpa using hl) e) he
        rw [List.map_cons]
        refine srt_cons (fun b hb => ?_) h0
        rw [List.map_cons] at hb
        rcases List.mem_cons.1 hb with rfl | hb
        · exact h1
        · exact lessB_trans h1 (srt_head h b hb)
/-! How deep right trees are -/
theorem right_of {n : Nat} {v : JV} (h : rightJ n v = true) : oneJ v = true ∨ (0 < n ∧ manyJ v = true ∧ v.items.all (rightJ (n - 1)) = true) := by
  cases n with
  | zero => exact .inl h
  | succ n =>
    rw [rightJ, Bool.or_eq_true, Bool.and_eq_true] at h
    rcases h with h | h
    · exact .inl h
    · exact .inr ⟨Nat.succ_pos _, h.1, h.2⟩
theorem right_one {n : Nat} {v : JV} (h : oneJ v = true) : rightJ n v = true := by
  cases n with
  | zero => exact h
  | succ n => rw [rightJ, h]; rfl
theorem right_many {n : Nat} {v : JV} (h : manyJ v = true) (k : v.items.all (rightJ n) = true) : rightJ (n + 1) v = true := by
  rw [rightJ, h, k, Bool.and_self, Bool.or_true]
theorem many_kind {v : JV} (h : manyJ v = true) : v.kind = 5 ∨ v.kind = 6 := by
  unfold manyJ at h
  split at h
  · exact .inl (by assumption)
  · split at h
    · exact .inr (by assumption)
    · cases h
theorem one_kind {v : JV} (h : oneJ v = true) : ¬ (v.kind = 5 ∨ v.kind = 6) := by
  unfold oneJ at h
  intro hk
  split at h
  · omega
  · split at h
    · omega
    · split at h
      · omega
      · cases h
theorem right_up {n m : Nat} (hnm : n ≤ m) : ∀ v : JV, rightJ n v = true → rightJ m v = true := by
  induction n generalizing m with
  | zero => exact fun v h => right_one h
  | succ n ih =>
    intro v h
    rcases right_of h with h | ⟨_, h1, h2⟩
    · exact right_one h
    · obtain ⟨m, rfl⟩ : ∃ k, m = k + 1 := ⟨m - 1, by omega⟩
      refine right_many h1 (List.all_eq_true.2 fun x hx => ih (by omega) x (List.all_eq_true.1 h2 x hx))
theorem foldl_max_ge {m : Nat} : ∀ (l : List Nat) (a : Nat), m ≤ a ∨ m ∈ l → m ≤ l.foldl max a
  | [], a, h => by rcases h with h | h; exact h; cases h
  | b :: l, a, h => by
    refine foldl_max_ge l (max a b) ?_
    rcases h with h | h
    · exact .inl (by omega)
    · rcases List.mem_cons.1 h with rfl | h
      · exact .inl (by omega)
      · exact .inr h
theorem deep_item {m : Nat} {v x : JV} (hk : v.kind = 5 ∨ v.kind = 6) (hx : x ∈ v.items) : deepJ m x + 1 ≤ deepJ (m + 1) v := by
  rw [deepJ, if_pos hk]
  have := foldl_max_ge (m := deepJ m x) (v.items.map (deepJ m)) 0 (.inr (List.mem_map.2 ⟨x, hx, rfl⟩))
  omega
theorem deep_least {m k : Nat} {v : JV} (h : ∀ x ∈ v.items, deepJ m x ≤ k) : deepJ (m + 1) v ≤ k + 1 := by
  rw [deepJ]
  split
  · have := foldl_max_le (m := k) (v.items.map (deepJ m)) 0 (by omega) fun y hy => by
      obtain ⟨x, hx, rfl⟩ := List.mem_map.1 hy
      exact h x hx
    omega
  · omega
/-- A right tree that isn't deeper is right within more. -/
theorem right_deep : ∀ (m k : Nat) (n : Nat) (v : JV), rightJ n v = true → deepJ m v ≤ k → k < m → rightJ k v = true
  | 0, k, n, v, _, _, h3 => by omega
  | m + 1, k, n, v, h1, h2, h3 => by
    rcases right_of h1 with h | ⟨_, h4, h5⟩
    · exact right_one h
    · have hk := many_kind h4
      have hd : 1 ≤ deepJ (m + 1) v := by rw [deepJ, if_pos hk]; omega
      obtain ⟨k, rfl⟩ : ∃ j, k = j + 1 := ⟨k - 1, by omega⟩
      refine right_many h4 (List.all_eq_true.2 fun x hx => ?_)
      have := deep_item (m := m) hk hx
      exact right_deep m k (n - 1) x (List.all_eq_true.1 h5 x hx) (by omega) (by omega)
theorem deep_right : ∀ (k m : Nat) (v : JV), rightJ k v = true → deepJ m v ≤ k
  | k, 0, v, _ => Nat.zero_le _
  | k, m + 1, v, h => by
    rcases right_of h with h | ⟨h3, h4, h5⟩
    · rw [deepJ, if_neg (one_kind h)]; exact Nat.zero_le _
    · obtain ⟨k, rfl⟩ : ∃ j, k = j + 1 := ⟨k - 1, by omega⟩
      exact deep_least fun x hx => deep_right k m x (List.all_eq_true.1 h5 x hx)
/-! Right objects -/
theorem right_obj {n : Nat} {v : JV} (h : rightJ n v = true) (hk : v.kind = 6) : 0 < n ∧ v.num = 0 ∧ v.text = [] ∧ v.names.length = v.items.length ∧ v.names.all Lib.validD = true ∧ srt v.names = true ∧ v.items.all (rightJ (n - 1)) = true := by
  rcases right_of h with h | ⟨h3, h4, h5⟩
  · exact absurd (.inr hk) (one_kind h)
  · unfold manyJ at h4
    rw [if_neg (by omega), if_pos hk] at h4
    simp only [bareJ, namedJ, Bool.and_eq_true, decide_eq_true_eq] at h4
    exact ⟨h3, h4.1.1, h4.1.2, h4.2.1.1, h4.2.1.2, h4.2.2, h5⟩
theorem obj_right {n : Nat} {l : Prs} (h1 : ∀ s ∈ l.map (·.1), Lib.validD s = true) (h2 : srt (l.map (·.1)) = true) (h3 : ∀ x ∈ l.map (·.2), rightJ n x = true) : rightJ (n + 1) (ofP objJ l) = true := by
  refine right_many ?_ (List.all_eq_true.2 h3)
  unfold manyJ
  rw [if_neg (by show ¬ ((6 : Int) = 5); decide), if_pos (by rfl)]
  simp only [bareJ, namedJ, Bool.and_eq_true, decide_eq_true_eq]
  exact ⟨⟨rfl, rfl⟩, ⟨by simp [ofP, JV.names, JV.items], List.all_eq_true.2 h1⟩, h2⟩
theorem obj_is {n : Nat} {v : JV} (h : rightJ n v = true) (hk : v.kind = 6) : v = ofP objJ (prs v) := by
  obtain ⟨_, h1, h2, h3, _⟩ := right_obj h hk
  have := ofP_prs h3
  rw [ofP, hk, h1, h2] at this
  exact this.symm
theorem prs_names {v : JV} (h : v.names.length = v.items.length) : (prs v).map (·.1) = v.names := by
  unfold prs; rw [List.map_fst_zip (by omega)]
theorem prs_items {v : JV} (h : v.names.length = v.items.length) : (prs v).map (·.2) = v.items := by
  unfold prs; rw [List.map_snd_zip (by omega)]
theorem right_put {n : Nat} {v x : JV} {s : bytes} (h : rightJ (n + 1) v = true) (hk : v.kind = 6) (hx : rightJ n x = true) (hs : Lib.validD s = true) : rightJ (n + 1) (jput v s x) = true := by
  obtain ⟨_, h1, h2, h3, h4, h5, h6⟩ := right_obj h hk
  have hv := obj_is h hk
  rw [hv, jput_ofP]
  have hn := prs_names h3
  have hi := prs_items h3
  refine obj_right (fun t ht => ?_) (srt_ins (by rw [hn]; exact h5)) (fun y hy => ?_)
  · rcases mem_ins.1 ht with rfl | ht
    · exact hs
    · rw [hn] at ht; exact List.all_eq_true.1 h4 t ht
  · rcases mem_ins2 hy with rfl | hy
    · exact hx
    · rw [hi] at hy; exact List.all_eq_true.1 h6 y hy
/-! Sizes -/
def sumP (l : Prs) : Nat := (l.map fun p => nameW p.1 + sizeJ p.2).sum
theorem size_ofP (v : JV) (l : Prs) : sizeJ (ofP v l) = 1 + v.text.length + sumP l := by
  rw [sizeJ_eq, sizesJ_eq]
  show 1 + v.text.length + ((l.map (·.1)).map nameW).sum + ((l.map (·.2)).map sizeJ).sum = _
  have : ((l.map (·.1)).map nameW).sum + ((l.map (·.2)).map sizeJ).sum = sumP l := by
    unfold sumP
    induction l with
    | nil => rfl
    | cons p r ih => simp only [List.map_cons, List.sum_cons]; omega
  omega
theorem sumP_cons (p : bytes × JV) (r : Prs) : sumP (p :: r) = nameW p.1 + sizeJ p.2 + sumP r := by unfold sumP; rw [List.map_cons, List.sum_cons]
theorem sumP_ins (s : bytes) (x : JV) : ∀ l : Prs, sumP (insP s x l) ≤ nameW s + sizeJ x + sumP l
  | [] => by rw [insP, sumP_cons]; exact Nat.le_refl _
  | p :: r => by
    rw [insP]
    have := sumP_ins s x r
    split
    · rw [sumP_cons, sumP_cons]; omega
    · split
      · rw [sumP_cons, sumP_cons]; simp only; omega
      · rw [sumP_cons]; exact Nat.le_refl _
theorem size_prs {v : JV} (h : v.names.length = v.items.length) : sizeJ v = 1 + v.text.length + sumP (prs v) := by
  rw [← size_ofP, ofP_prs h]
theorem size_put {v : JV} (h : v.names.length = v.items.length) (s : bytes) (x : JV) : sizeJ (jput v s x) ≤ sizeJ v + nameW s + sizeJ x := by
  rw [jput_prs h, size_ofP, size_prs h]
  have := sumP_ins s x (prs v)
  omega
end Go.Proofs.YtplmbhjhihoneaaGreatDoor
end

section
set_option linter.unusedSimpArgs false
set_option linter.unusedVariables false
namespace Go.Proofs.YtplmbhjhihoneaaGreatDoor
open Go V
set_option maxRecDepth 10000
set_option maxHeartbeats 4000000
theorem enc1_hi {r : Int} (hr : isRune r = true) (h : 128 ≤ r) : ∀ b ∈ enc1 r, 128 ≤ b.toNat := by
  have hr' := of_decide_eq_true hr
  intro b hb
  rcases Int.lt_or_le r 2048 with h2 | h2
  · rw [one_c2 h h2] at hb
    simp only [List.mem_cons, List.not_mem_nil, or_false] at hb
    rcases hb with rfl | rfl <;> rw [byteOf_n (by omega)] <;> omega
  · rcases Int.lt_or_le r 65536 with h3 | h3
    · rw [one_c3 h2 h3] at hb
      simp only [List.mem_cons, List.not_mem_nil, or_false] at hb
      rcases hb with rfl | rfl | rfl <;> rw [byteOf_n (by omega)] <;> omega
    · rw [one_c4 h3] at hb
      simp only [List.mem_cons, List.not_mem_nil, or_false] at hb
      rcases hb with rfl | rfl | rfl | rfl <;> rw [byteOf_n (by omega)] <;> omega
theorem encL_app (a b : List Int) : encL (a ++ b) = encL a ++ encL b := List.flatMap_append
theorem valid_runes {b : bytes} (h : Lib.validD b = true) : ∃ rs, encOk rs = true ∧ encL rs = b := ⟨_, enc_dec b.length b (Nat.le_refl _) h⟩
theorem valid_cat {a b : bytes} (ha : Lib.validD a = true) (hb : Lib.validD b = true) : Lib.validD (a ++ b) = true := by
  obtain ⟨x, hx, rfl⟩ := valid_runes ha
  obtain ⟨y, hy, rfl⟩ := valid_runes hb
  rw [← encL_app]
  exact (dec_enc _ (by unfold encOk at *; rw [List.all_append, hx, hy]; rfl)).1
theorem valid_one {r : Int} (h : isRune r = true) : Lib.validD (enc1 r) = true := by
  have := (dec_enc [r] (by simp [encOk, h])).1
  simpa [encL] using this
theorem split_asc {c : UInt8} (hc : c.toNat < 128) : ∀ (rs : List Int) (a b : bytes), encOk rs = true → encL rs = a ++ c :: b → Lib.validD a = true ∧ Lib.validD b = true
  | [], a, b, _, h => by simp [encL] at h
  | r :: rs, a, b, hk, h => by
    simp only [encOk, List.all_cons, Bool.and_eq_true] at hk
    have hk2 : encOk rs = true := hk.2
    have h' : enc1 r ++ encL rs = a ++ c :: b := h
    rcases List.append_eq_append_iff.1 h' with ⟨m, h1, h2⟩ | ⟨m, h1, h2⟩
    · obtain ⟨i1, i2⟩ := split_asc hc rs m b hk2 h2
      rw [h1]
      exact ⟨valid_cat (valid_one hk.1) i1, i2⟩
    · cases m with
      | nil =>
        rw [List.append_nil] at h1
        obtain ⟨i1, i2⟩ := split_asc hc rs [] b hk2 h2.symm
        rw [← h1]
        exact ⟨valid_one hk.1, i2⟩
      | cons d m =>
        simp only [List.cons_append, List.cons.injEq] at h2
        obtain ⟨rfl, rfl⟩ := h2
        have hm : c ∈ enc1 r := by rw [h1]; simp
        rcases Int.lt_or_le r 128 with hlt | hge
        · rw [one_c1 hlt] at h1
          cases a with
          | nil =>
            simp only [List.nil_append, List.cons.injEq] at h1
            obtain ⟨_, rfl⟩ := h1
            exact ⟨rfl, (dec_enc rs hk2).1⟩
          | cons x a => simp at h1
        · have := enc1_hi hk.1 hge c hm
          omega
theorem valid_cut {c : UInt8} (hc : c.toNat < 128) {a b : bytes} (h : Lib.validD (a ++ c :: b) = true) : Lib.validD a = true ∧ Lib.validD b = true := by
  obtain ⟨rs, h1, h2⟩ := valid_runes h
  exact split_asc hc rs a b h1 h2
theorem skip_app {w r r2 : bytes} (h : skipW w r = some r2) : r = w ++ r2 := by
  unfold skipW at h
  split at h
  · rename_i hp
    cases h
    obtain ⟨t, rfl⟩ := List.isPrefixOf_iff_prefix.1 hp
    rw [List.drop_left]
  · cases h
theorem valid_wd {w r : bytes} (hw : ∀ b ∈ w, b.toNat < 128) : Lib.validD (w ++ r) = Lib.validD r := by
  have := Lib.validD_ascii w.length (w ++ r) (by rw [List.take_left]; exact hw)
  rwa [List.drop_left] at this
theorem valid_skipW {w r r2 : bytes} (hw : ∀ b ∈ w, b.toNat < 128) (h : skipW w r = some r2) (hr : Lib.validD r = true) : Lib.validD r2 = true := by
  rw [skip_app h, valid_wd hw] at hr
  exact hr
theorem valid_dropA {r : bytes} {n : Nat} (hw : ∀ b ∈ r.take n, b.toNat < 128) (hr : Lib.validD r = true) : Lib.validD (r.drop n) = true := by
  rw [Lib.validD_ascii n r hw] at hr
  exact hr
theorem hex_asc {c : UInt8} (h : isHex c = true) : c.toNat < 128 := by
  unfold isHex hexV at h
  split at h
  · omega
  · split at h
    · omega
    · split at h
      · omega
      · cases h
theorem valid_unit {r : bytes} (hr : Lib.validD r = true) : Lib.validD (unitP r).2.2 = true := by
  unfold unitP
  split
  · exact hr
  · split
    · rename_i h
      exact valid_dropA (fun b hb => hex_asc (List.all_eq_true.1 h b hb)) hr
    · exact hr
theorem valid_low {h : Int} {r : bytes} (hr : Lib.validD r = true) : Lib.validD (lowP h r).2.2 = true := by
  unfold lowP
  cases e : skipW [92, 117] r with
  | none => exact hr
  | some r2 => exact valid_unit (valid_skipW (by decide) e hr)
theorem valid_rune {r : bytes} (hr : Lib.validD r = true) : Lib.validD (runeP r).2.2 = true := by
  unfold runeP
  split
  · exact valid_low (valid_unit hr)
  · exact valid_unit hr
theorem sign_valid : ∀ i : Fin 8, Lib.validD [escBytes.getD i.val 0] = true := by decide +kernel
theorem sign_asc : ∀ c ∈ escSigns, c.toNat < 128 := by decide
theorem peek_cons {r : bytes} (h : peek r ≠ 0) : r = peek r :: r.drop 1 := by
  cases r with
  | nil => exact absurd rfl h
  | cons c r => rfl
theorem valid_peek {r : bytes} (h0 : peek r ≠ 0) (h : (peek r).toNat < 128) (hr : Lib.validD r = true) : Lib.validD (r.drop 1) = true := by
  rw [peek_cons h0, Lib.validD_cons _ _ h] at hr
  exact hr
theorem esc_good {r : bytes} (hr : Lib.validD r = true) (he : (escP r).2.1 = 0) : Lib.validD (escP r).1 = true ∧ Lib.validD (escP r).2.2 = true ∧ (escP r).1.length + (escP r).2.2.length ≤ r.length := by
  rw [escP_eq] at he ⊢
  by_cases hi : escSigns.idxOf (peek r) < 8
  · rw [if_pos hi]
    have hne := signs_ne hi
    have hm : peek r ∈ escSigns := List.idxOf_lt_length_iff.1 hi
    have h0 : peek r ≠ 0 := by intro e; rw [e] at hm; revert hm; decide
    refine ⟨sign_valid ⟨_, hi⟩, valid_peek h0 (sign_asc _ hm) hr, ?_⟩
    have := List.length_pos_iff.2 hne
    simp only [List.length_cons, List.length_nil, List.length_drop]
    omega
  · rw [if_neg hi] at he ⊢
    cases hw : skipW [117] r with
    | none => rw [hw] at he; simp at he
    | some r2 =>
      rw [hw] at he
      simp only at he ⊢
      have h1 := skip_len hw
      have hr2 := valid_skipW (by decide) hw hr
      unfold escU at he ⊢
      split at he
      · rename_i hu
        rw [if_pos hu]
        refine ⟨valid_one (rune_ok hu), valid_rune hr2, ?_⟩
        have h2 := enc1_len (runeP r2).1
        have h3 : (runeP r2).2.2.length + 4 ≤ r2.length := by
          have hun : ∀ s : bytes, (unitP s).2.1 = true → (unitP s).2.2.length + 4 ≤ s.length := fun s hs => by
            unfold unitP at hs ⊢
            split at hs
            · cases hs
            · rename_i hl
              rw [if_neg hl]
              split at hs
              · rename_i hx
                rw [if_pos hx]
                simp only [List.length_drop]
                omega
              · cases hs
          unfold runeP at hu ⊢
          split at hu
          · rename_i hh
            rw [if_pos hh]
            rw [Bool.and_eq_true] at hh
            have := hun r2 hh.1
            have := (suf_low (h := (unitP r2).1) (List.suffix_refl (unitP r2).2.2)).length_le
            omega
          · rename_i hh
            rw [if_neg hh]
            exact hun r2 hu
        simp only [List.length_cons, List.length_nil] at h1
        simp only
        omega
      · cases he
theorem quotedR_good (r o : bytes) : Lib.validD (o ++ r) = true → (quotedR r o).2.2 = 0 → Lib.validD (quotedR r o).1 = true ∧ Lib.validD (quotedR r o).2.1 = true ∧ (quotedR r o).1.length + (quotedR r o).2.1.length + 1 ≤ o.length + r.length := by
  refine quotedGo_ind (fun r o x => Lib.validD (o ++ r) = true → x.2.2 = 0 → Lib.validD x.1 = true ∧ Lib.validD x.2.1 = true ∧ x.1.length + x.2.1.length + 1 ≤ o.length + r.length) ?_ ?_ ?_ ?_ ?_ (r.length + 1) r o (Nat.lt_succ_self _)
  · intro r o _ _ h; cases h
  · intro r o h hv _
    have hc := peek_cons (r := r) (by rw [h]; decide)
    have hl := congrArg List.length hc
    rw [hc] at hv
    obtain ⟨h1, h2⟩ := valid_cut (by rw [h]; decide) hv
    simp only [List.length_cons] at hl
    exact ⟨h1, h2, by simp only; omega⟩
  · intro r o _ h _ h2
    exact absurd h2 h
  · intro r o x h he ih hv hx
    have hc := peek_cons (r := r) (by rw [h]; decide)
    have hl := congrArg List.length hc
    rw [hc] at hv
    obtain ⟨h1, h2⟩ := valid_cut (by rw [h]; decide) hv
    obtain ⟨h3, h4, h5⟩ := esc_good h2 he
    obtain ⟨h6, h7, h8⟩ := ih (valid_cat (valid_cat h1 h3) h4) hx
    refine ⟨h6, h7, ?_⟩
    simp only [List.length_cons] at hl
    rw [List.length_append] at h8
    omega
  · intro r o x h1 h2 h3 ih hv hx
    have hc := peek_cons (r := r) (by intro e; rw [e] at h1; revert h1; decide)
    have hl := congrArg List.length hc
    simp only [List.length_cons] at hl
    obtain ⟨h6, h7, h8⟩ := ih (by rw [List.append_assoc, List.singleton_append, ← hc]; exact hv) hx
    refine ⟨h6, h7, ?_⟩
    rw [List.length_append] at h8
    simp only [List.length_cons, List.length_nil] at h8
    omega
theorem quoted_good {r : bytes} (hr : Lib.validD r = true) (he : (quotedP r).2.2 = 0) : Lib.validD (quotedP r).1 = true ∧ Lib.validD (quotedP r).2.1 = true ∧ (quotedP r).1.length + (quotedP r).2.1.length + 2 ≤ r.length := by
  rw [quotedP_eq] at he ⊢
  by_cases h : peek r = 34
  · rw [if_pos h] at he ⊢
    have hc := peek_cons (r := r) (by rw [h]; decide)
    have hl := congrArg List.length hc
    simp only [List.length_cons] at hl
    obtain ⟨h1, h2, h3⟩ := quotedR_good (r.drop 1) [] (valid_peek (by rw [h]; decide) (by rw [h]; decide) hr) he
    exact ⟨h1, h2, by simp only [List.length_nil] at h3; omega⟩
  · rw [if_neg h] at he
    cases he
theorem blank_asc {c : UInt8} (h : isBlank c = true) : c.toNat < 128 := by
  unfold isBlank at h
  simp only [Bool.or_eq_true, beq_iff_eq] at h
  rcases h with ((rfl | rfl) | rfl) | rfl <;> decide
theorem valid_blanks : ∀ {r : bytes}, Lib.validD r = true → Lib.validD (blanks r) = true
  | [], h => h
  | c :: r, h => by
    unfold blanks
    rw [List.dropWhile_cons]
    split
    · rename_i hb
      rw [Lib.validD_cons _ _ (blank_asc hb)] at h
      exact valid_blanks h
    · exact h
theorem blanks_len (r : bytes) : (blanks r).length ≤ r.length := (List.dropWhile_suffix isBlank).length_le
theorem digit_asc {c : UInt8} (h : isDigit c = true) : c.toNat < 128 := by
  have := of_decide_eq_true h
  omega
theorem num_take {r : bytes} : ∀ b ∈ r.take (numLen r), b.toNat < 128 := fun b hb => by
  obtain ⟨j, hj, rfl⟩ := List.mem_iff_getElem.1 hb
  have hj2 := hj
  rw [List.length_take] at hj2
  have h := numLen_digit (r := r) (j := j) (by omega)
  have h2 := take_getD (r := r) (n := numLen r) (j := j) (by omega)
  rw [← h2, List.getD, List.getElem?_eq_getElem hj] at h
  exact digit_asc h
theorem numGo_good {b : Bool} {r : bytes} (hr : Lib.validD r = true) (he : (numGo b r).2.2 = 0) : -9007199254740991 ≤ (numGo b r).1 ∧ (numGo b r).1 ≤ 9007199254740991 ∧ Lib.validD (numGo b r).2.1 = true ∧ (numGo b r).2.1.length + 1 ≤ r.length := by
  unfold numGo at he ⊢
  have hl := numLen_le r
  split at he
  · cases he
  · rename_i h1
    rw [if_neg h1]
    split at he
    · cases he
    · rename_i h2
      rw [if_neg h2]
      refine ⟨?_, ?_, valid_dropA num_take hr, ?_⟩
      · cases b <;> simp <;> omega
      · cases b <;> simp <;> omega
      · simp only [List.length_drop]
        omega
theorem num_good {r : bytes} (hr : Lib.validD r = true) (he : (numP r).2.2 = 0) : -9007199254740991 ≤ (numP r).1 ∧ (numP r).1 ≤ 9007199254740991 ∧ Lib.validD (numP r).2.1 = true ∧ (numP r).2.1.length + 1 ≤ r.length := by
  unfold numP at he ⊢
  cases h : skipW [45] r with
  | none => rw [h] at he; exact numGo_good hr he
  | some r2 =>
    rw [h] at he
    have h1 := skip_len h
    obtain ⟨h2, h3, h4, h5⟩ := numGo_good (valid_skipW (by decide) h hr) he
    simp only [List.length_cons, List.length_nil] at h1
    exact ⟨h2, h3, h4, by simp only; omega⟩
/-- What is good about a tree that was read, and what is left. -/
def Good (n : Nat) (r : bytes) (x : JV × bytes × Int) : Prop := x.2.2 = 0 → rightJ n x.1 = true ∧ Lib.validD x.2.1 = true ∧ sizeJ x.1 + x.2.1.length ≤ r.length
theorem one_right (n : Nat) {k : Int} (h : k = 0 ∨ k = 1 ∨ k = 2) : rightJ n (.mk k 0 [] [] []) = true := right_one (by
  rcases h with rfl | rfl | rfl <;> rfl)
theorem leaf_good {n : Nat} {r : bytes} {x : JV × bytes × Int} (hr : Lib.validD r = true) (h : leafP r = some x) : Good n r x := by
  have hw : ∀ (w r2 : bytes) (k : Int), (∀ b ∈ w, b.toNat < 128) → 1 ≤ w.length → skipW w r = some r2 → (k = 0 ∨ k = 1 ∨ k = 2) → Good n r (.mk k 0 [] [] [], r2, 0) := fun w r2 k h1 h2 h3 h4 _ => by
    have h5 := skip_len h3
    refine ⟨one_right n h4, valid_skipW h1 h3 hr, ?_⟩
    show 1 + 0 + 0 + sizesJ [] + r2.length ≤ r.length
    rw [sizesJ]
    omega
  unfold leafP at h
  split at h
  · rename_i r2 hs
    cases h
    exact hw _ _ 0 (by decide) (by decide) hs (.inl rfl)
  · split at h
    · rename_i r2 hs
      cases h
      exact hw _ _ 1 (by decide) (by decide) hs (.inr (.inl rfl))
    · split at h
      · rename_i r2 hs
        cases h
        exact hw _ _ 2 (by decide) (by decide) hs (.inr (.inr rfl))
      · split at h
        · cases h
          intro he
          obtain ⟨h1, h2, h3⟩ := quoted_good hr he
          refine ⟨right_one ?_, h2, ?_⟩
          · unfold oneJ
            rw [if_neg (by show ¬ ((4 : Int) = 0 ∨ (4 : Int) = 1 ∨ (4 : Int) = 2); decide), if_neg (by show ¬ ((4 : Int) = 3); decide), if_pos (by rfl)]
            show (leafJ (.mk 4 0 _ [] []) && decide ((0 : Int) = 0) && Lib.validD (quotedP r).1) = true
            rw [h1]
            rfl
          · show 1 + (quotedP r).1.length + 0 + sizesJ [] + _ ≤ _
            rw [sizesJ]
            simp only
            omega
        · split at h
          · cases h
            intro he
            obtain ⟨h1, h2, h3, h4⟩ := num_good hr he
            refine ⟨right_one ?_, h3, ?_⟩
            · unfold oneJ
              rw [if_neg (by show ¬ ((3 : Int) = 0 ∨ (3 : Int) = 1 ∨ (3 : Int) = 2); decide), if_pos (by rfl)]
              show (leafJ (.mk 3 _ [] [] []) && decide (([] : bytes) = []) && decide (-9007199254740991 ≤ (numP r).1 ∧ (numP r).1 ≤ 9007199254740991)) = true
              simp [leafJ, JV.names, JV.items, h1, h2]
            · show 1 + 0 + 0 + sizesJ [] + _ ≤ _
              rw [sizesJ]
              simp only
              omega
          · split at h
            · cases h
              intro he
              cases he
            · cases h
theorem name_good {v : JV} {r : bytes} (hr : Lib.validD r = true) (he : (nameP v r).2.2 = 0) : Lib.validD (nameP v r).1 = true ∧ Lib.validD (nameP v r).2.1 = true ∧ (nameP v r).1.length + (nameP v r).2.1.length + 3 ≤ r.length := by
  rw [nameP_eq] at he ⊢
  have hb := valid_blanks hr
  have hbl := blanks_len r
  generalize hq : quotedP (blanks r) = q at *
  have hg := quoted_good (r := blanks r) hb
  rw [hq] at hg
  have h0 : q.2.2 = 0 := by
    refine Classical.byContradiction fun hq0 => ?_
    rw [if_neg (c := (jget v q.1).isSome = true ∧ q.2.2 = 0) (fun k => hq0 k.2)] at he
    rw [if_neg hq0] at he
    cases h2 : skipW [58] (blanks q.2.1) with
    | none => rw [h2] at he; exact hq0 he
    | some r4 => rw [h2] at he; exact hq0 he
  obtain ⟨h1, h2, h3⟩ := hg h0
  have hbl2 := blanks_len q.2.1
  cases h4 : skipW [58] (blanks q.2.1) with
  | none =>
    rw [h4] at he
    generalize (if (jget v q.1).isSome = true ∧ q.2.2 = 0 then (6 : Int) else q.2.2) = e at he
    simp only at he
    by_cases h3 : e = 0
    · rw [if_pos h3] at he; cases he
    · rw [if_neg h3] at he; exact absurd he h3
  | some r4 =>
    have h5 := skip_len h4
    simp only [List.length_cons, List.length_nil] at h5
    exact ⟨h1, valid_skipW (by decide) h4 (valid_blanks h2), by simp only; omega⟩
theorem size_add (v x : JV) : sizeJ (addJ v x) = sizeJ v + sizeJ x := by
  rw [sizeJ_eq, sizeJ_eq v, sizesJ_eq, sizesJ_eq]
  show 1 + v.text.length + (v.names.map nameW).sum + ((v.items ++ [x]).map sizeJ).sum = _
  rw [List.map_append, List.sum_append]
  simp
  omega
theorem right_add {n : Nat} {v x : JV} (hk : v.kind = 5) (h : rightJ (n + 1) v = true) (hx : rightJ n x = true) : rightJ (n + 1) (addJ v x) = true := by
  rcases right_of h with h | ⟨_, h1, h2⟩
  · exact absurd (.inl hk) (one_kind h)
  · refine right_many ?_ ?_
    · unfold manyJ at h1 ⊢
      rw [if_pos hk] at h1
      rw [if_pos (show (addJ v x).kind = 5 from hk)]
      exact h1
    · show (v.items ++ [x]).all (rightJ n) = true
      rw [List.all_append, Bool.and_eq_true]
      exact ⟨h2, by simp [hx]⟩
def GoodT (n : Nat) (v : JV) (r : bytes) (x : JV × bytes × Int) : Prop := x.2.2 = 0 → rightJ n x.1 = true ∧ Lib.validD x.2.1 = true ∧ sizeJ x.1 + x.2.1.length + 1 ≤ sizeJ v + r.length
theorem treeEnd_good {n : Nat} {k : JV → bytes → JV × bytes × Int} {e : UInt8} (he : e.toNat < 128) {v v0 : JV} {r r0 : bytes} {err : Int} (hk : ∀ r4, Lib.validD r4 = true → GoodT n v r4 (k v r4)) (hv : rightJ n v = true) (hr : Lib.validD r = true) (hl : sizeJ v + r.length ≤ sizeJ v0 + r0.length) : GoodT n v0 r0 (treeEnd k e v r err) := by
  intro h
  have hb := valid_blanks hr
  have hbl := blanks_len r
  unfold treeEnd at h ⊢
  split at h
  · rename_i h0
    exact absurd h h0
  · rename_i h0
    rw [if_neg h0]
    cases h1 : skipW [e] (blanks r) with
    | some r4 =>
      have h5 := skip_len h1
      simp only [List.length_cons, List.length_nil] at h5
      exact ⟨hv, valid_skipW (by simpa using he) h1 hb, by simp only; omega⟩
    | none =>
      rw [h1] at h
      simp only at h ⊢
      cases h2 : skipW [44] (blanks r) with
      | none => rw [h2] at h; cases h
      | some r4 =>
        rw [h2] at h
        have h5 := skip_len h2
        simp only [List.length_cons, List.length_nil] at h5
        obtain ⟨i1, i2, i3⟩ := hk r4 (valid_skipW (by decide) h2 hb) h
        exact ⟨i1, i2, by simp only; omega⟩
theorem treeGo_good {n : Nat} {f : bytes → JV × bytes × Int} {e : UInt8} (he : e.toNat < 128) (hf : ∀ r, Lib.validD r = true → Good n r (f r)) : ∀ (m : Nat) (v : JV) (r : bytes), rightJ (n + 1) v = true → (v.kind = 5 ∨ v.kind = 6) → Lib.validD r = true → GoodT (n + 1) v r (treeGo f e m v r)
  | 0, v, r, _, _, _ => fun h => by cases h
  | m + 1, v, r, hv, hk, hr => by
    unfold treeGo
    by_cases h6 : v.kind = 6
    · rw [if_pos h6]
      by_cases hn : (nameP v r).2.2 = 0
      · rw [if_neg (by simpa using hn)]
        obtain ⟨n1, n2, n3⟩ := name_good hr hn
        intro h
        by_cases hfe : (f (nameP v r).2.1).2.2 = 0
        · obtain ⟨f1, f2, f3⟩ := hf _ n2 hfe
          have hp := right_put (s := (nameP v r).1) hv h6 f1 n1
          have hs := size_put (right_obj hv h6).2.2.2.1 (nameP v r).1 (f (nameP v r).2.1).1
          refine treeEnd_good he (fun r4 h4 => treeGo_good he hf m _ r4 hp ?_ h4) hp f2 ?_ h
          · exact .inr (by rw [jput]; split <;> exact h6)
          · unfold nameW at hs
            omega
        · unfold treeEnd at h
          rw [if_pos hfe] at h
          exact absurd h hfe
      · rw [if_pos hn]
        exact fun h => absurd h hn
    · rw [if_neg h6]
      have h5 : v.kind = 5 := by omega
      intro h
      by_cases hfe : (f r).2.2 = 0
      · obtain ⟨f1, f2, f3⟩ := hf _ hr hfe
        have hp := right_add h5 hv f1
        have hs := size_add v (f r).1
        exact treeEnd_good he (fun r4 h4 => treeGo_good he hf m _ r4 hp (.inl h5) h4) hp f2 (by omega) h
      · unfold treeEnd at h
        rw [if_pos hfe] at h
        exact absurd h hfe
theorem treeP_good {n : Nat} {f : bytes → JV × bytes × Int} {e : UInt8} (he : e.toNat < 128) (hf : ∀ r, Lib.validD r = true → Good n r (f r)) {v : JV} {r : bytes} (hv : rightJ (n + 1) v = true) (hk : v.kind = 5 ∨ v.kind = 6) (hr : Lib.validD r = true) : GoodT (n + 1) v r (treeP f e v r) := by
  unfold treeP
  have hb := valid_blanks hr
  have hbl := blanks_len r
  cases h1 : skipW [e] (blanks r) with
  | some r2 =>
    have h5 := skip_len h1
    simp only [List.length_cons, List.length_nil] at h5
    exact fun _ => ⟨hv, valid_skipW (by simpa using he) h1 hb, by simp only; omega⟩
  | none =>
    intro h
    obtain ⟨i1, i2, i3⟩ := treeGo_good he hf _ v _ hv hk hb h
    exact ⟨i1, i2, by simp only at i3 ⊢; omega⟩
theorem leaf_none {r : bytes} (h : leafP r = none) : peek r = 91 ∨ peek r = 123 := by
  unfold leafP at h
  repeat' split at h
  all_goals first | cases h | skip
  rename_i h1
  by_cases h2 : peek r = 91
  · exact .inl h2
  · exact .inr (Classical.byContradiction fun h3 => h1 ⟨h2, h3⟩)
theorem value_good : ∀ (n : Nat) (r : bytes), Lib.validD r = true → Good n r (valueP n r)
  | 0, r, hr => by
    unfold valueP
    have hb := valid_blanks hr
    have hbl := blanks_len r
    cases e : leafP (blanks r) with
    | none => exact fun h => by cases h
    | some x =>
      intro h
      obtain ⟨h1, h2, h3⟩ := leaf_good (n := 0) hb e h
      exact ⟨h1, h2, by rw [Option.getD_some]; omega⟩
  | n + 1, r, hr => by
    unfold valueP
    have hb := valid_blanks hr
    have hbl := blanks_len r
    cases e : leafP (blanks r) with
    | some x =>
      intro h
      obtain ⟨h1, h2, h3⟩ := leaf_good (n := n + 1) hb e h
      exact ⟨h1, h2, by rw [Option.getD_some]; omega⟩
    | none =>
      rw [Option.getD_none]
      have hp := leaf_none e
      have hp0 : peek (blanks r) ≠ 0 := by rcases hp with h | h <;> rw [h] <;> decide
      have hd := valid_peek hp0 (by rcases hp with h | h <;> rw [h] <;> decide) hb
      have hc := congrArg List.length (peek_cons hp0)
      simp only [List.length_cons] at hc
      split
      · intro h
        obtain ⟨h1, h2, h3⟩ := treeP_good (n := n) (e := 93) (by decide) (value_good n) (v := listJ) (right_many rfl rfl) (.inl rfl) hd h
        have : sizeJ listJ = 1 := rfl
        exact ⟨h1, h2, by omega⟩
      · intro h
        obtain ⟨h1, h2, h3⟩ := treeP_good (n := n) (e := 125) (by decide) (value_good n) (v := objJ) (right_many rfl rfl) (.inr rfl) hd h
        have : sizeJ objJ = 1 := rfl
        exact ⟨h1, h2, by omega⟩
theorem parse_good (s : bytes) : sizeJ (parseP s).1 ≤ 10000 ∧ ((parseP s).2 = 0 → rightJ 12 (parseP s).1 = true) := by
  have hz : sizeJ zeroJ = 1 := rfl
  unfold parseP
  split
  · exact ⟨by simp only; omega, fun h => by cases h⟩
  · split
    · exact ⟨by simp only; omega, fun h => by cases h⟩
    · split
      · rename_i h
        exact ⟨by simp only; omega, fun e => absurd e h⟩
      · rename_i h1 h2 h3
        split
        · exact ⟨by simp only; omega, fun h => by cases h⟩
        · obtain ⟨i1, i2, i3⟩ := value_good 12 s (by simpa using h2) (by simpa using h3)
          exact ⟨by simp only; omega, fun _ => i1⟩
end Go.Proofs.YtplmbhjhihoneaaGreatDoor
end

section
set_option linter.unusedSimpArgs false
set_option linter.unusedVariables false
namespace Go.Proofs.YtplmbhjhihoneaaGreatDoor
open Go V
set_option maxRecDepth 10000
set_option maxHeartbeats 4000000
def isSign (c : UInt8) : Bool := c == 91 || c == 93 || c == 123 || c == 125 || c == 44 || c == 58
def nextW (w t : Bool) (c : UInt8) : Bool := if t then w else if w && c == 92 then w else if c == 34 then !w else w
def nextT (w t : Bool) (c : UInt8) : Bool := if t then false else w && c == 92
/-- A text, and the same one with blanks around its signs. -/
inductive Wide : Bool → Bool → bytes → bytes → Prop
  | nil (w t : Bool) : Wide w t [] []
  | cons (w t : Bool) (c : UInt8) (p q r m : bytes) (hp : ∀ b ∈ p, isBlank b = true) (hq : ∀ b ∈ q, isBlank b = true) (hs : (w = false ∧ isSign c = true) ∨ (p = [] ∧ q = [])) (h : Wide (nextW w t c) (nextT w t c) r m) : Wide w t (c :: r) (p ++ c :: (q ++ m))
inductive Tight : bytes → bytes → Prop
  | nil : Tight [] []
  | cons (c : UInt8) (q r m : bytes) (hc : isBlank c = false) (hq : ∀ b ∈ q, isBlank b = true) (hs : isSign c = true ∨ q = []) (h : Wide (nextW false false c) (nextT false false c) r m) : Tight (c :: r) (c :: (q ++ m))
theorem blanks_cons_no {c : UInt8} {r : bytes} (h : isBlank c = false) : blanks (c :: r) = c :: r := by
  unfold blanks
  rw [List.dropWhile_cons, h]
  rfl
theorem skipW_nil (r : bytes) : skipW [] r = some r := by unfold skipW; simp
theorem skipW_none (a : UInt8) (w : bytes) : skipW (a :: w) [] = none := by unfold skipW; simp
theorem skipW_cons (a c : UInt8) (w r : bytes) : skipW (a :: w) (c :: r) = if a = c then skipW w r else none := by
  unfold skipW
  rw [List.isPrefixOf_cons_cons]
  by_cases h : a = c
  · subst h; simp
  · simp [h]
theorem asc_valid {l : bytes} (h : ∀ b ∈ l, b.toNat < 128) : Lib.validD l = true := by
  have := valid_wd (w := l) (r := []) h
  rw [List.append_nil] at this
  rw [this]
  rfl
end Go.Proofs.YtplmbhjhihoneaaGreatDoor
end
