/- What is parsed is right, and no greater than its text. No program in sight. -/
import Derived.Test.YtplmbhjhihoneaaGreatDoorWPa
import Derived.Test.YtplmbhjhihoneaaGreatDoorW4
section
set_option linter.unusedSimpArgs false
set_option linter.unusedVariables false
namespace Go.Proofs.YtplmbhjhihoneaaGreatDoor
open Go V
set_option maxRecDepth 10000
set_option maxHeartbeats 4000000
theorem enc1_hi {r : Int} (hr : isRune r = true) (h : 128 ≤ r) : ∀ b ∈ enc1 r, 128 ≤ b.toNat := by
  have hr' := of_decide_eq_true hr
  intro b hb
  rcases Int.lt_or_le r 2048 with h2 | h2
  · rw [one_c2 h h2] at hb
    simp only [List.mem_cons, List.not_mem_nil, or_false] at hb
    rcases hb with rfl | rfl <;> rw [byteOf_n (by omega)] <;> omega
  · rcases Int.lt_or_le r 65536 with h3 | h3
    · rw [one_c3 h2 h3] at hb
      simp only [List.mem_cons, List.not_mem_nil, or_false] at hb
      rcases hb with rfl | rfl | rfl <;> rw [byteOf_n (by omega)] <;> omega
    · rw [one_c4 h3] at hb
      simp only [List.mem_cons, List.not_mem_nil, or_false] at hb
      rcases hb with rfl | rfl | rfl | rfl <;> rw [byteOf_n (by omega)] <;> omega
theorem encL_app (a b : List Int) : encL (a ++ b) = encL a ++ encL b := List.flatMap_append
theorem valid_runes {b : bytes} (h : Lib.validD b = true) : ∃ rs, encOk rs = true ∧ encL rs = b := ⟨_, enc_dec b.length b (Nat.le_refl _) h⟩
theorem valid_cat {a b : bytes} (ha : Lib.validD a = true) (hb : Lib.validD b = true) : Lib.validD (a ++ b) = true := by
  obtain ⟨x, hx, rfl⟩ := valid_runes ha
  obtain ⟨y, hy, rfl⟩ := valid_runes hb
  rw [← encL_app]
  exact (dec_enc _ (by unfold encOk at *; rw [List.all_append, hx, hy]; rfl)).1
theorem valid_one {r : Int} (h : isRune r = true) : Lib.validD (enc1 r) = true := by
  have := (dec_enc [r] (by simp [encOk, h])).1
  simpa [encL] using this
theorem split_asc {c : UInt8} (hc : c.toNat < 128) : ∀ (rs : List Int) (a b : bytes), encOk rs = true → encL rs = a ++ c :: b → Lib.validD a = true ∧ Lib.validD b = true
  | [], a, b, _, h => by simp [encL] at h
  | r :: rs, a, b, hk, h => by
    simp only [encOk, List.all_cons, Bool.and_eq_true] at hk
    have hk2 : encOk rs = true := hk.2
    have h' : enc1 r ++ encL rs = a ++ c :: b := h
    rcases List.append_eq_append_iff.1 h' with ⟨m, h1, h2⟩ | ⟨m, h1, h2⟩
    · obtain ⟨i1, i2⟩ := split_asc hc rs m b hk2 h2
      rw [h1]
      exact ⟨valid_cat (valid_one hk.1) i1, i2⟩
    · cases m with
      | nil =>
        rw [List.append_nil] at h1
        obtain ⟨i1, i2⟩ := split_asc hc rs [] b hk2 h2.symm
        rw [← h1]
        exact ⟨valid_one hk.1, i2⟩
      | cons d m =>
        simp only [List.cons_append, List.cons.injEq] at h2
        obtain ⟨rfl, rfl⟩ := h2
        have hm : c ∈ enc1 r := by rw [h1]; simp
        rcases Int.lt_or_le r 128 with hlt | hge
        · rw [one_c1 hlt] at h1
          cases a with
          | nil =>
            simp only [List.nil_append, List.cons.injEq] at h1
            obtain ⟨_, rfl⟩ := h1
            exact ⟨rfl, (dec_enc rs hk2).1⟩
          | cons x a => simp at h1
        · have := enc1_hi hk.1 hge c hm
          omega
theorem valid_cut {c : UInt8} (hc : c.toNat < 128) {a b : bytes} (h : Lib.validD (a ++ c :: b) = true) : Lib.validD a = true ∧ Lib.validD b = true := by
  obtain ⟨rs, h1, h2⟩ := valid_runes h
  exact split_asc hc rs a b h1 h2
theorem skip_app {w r r2 : bytes} (h : skipW w r = some r2) : r = w ++ r2 := by
  unfold skipW at h
  split at h
  · rename_i hp
    cases h
    obtain ⟨t, rfl⟩ := List.isPrefixOf_iff_prefix.1 hp
    rw [List.drop_left]
  · cases h
theorem valid_wd {w r : bytes} (hw : ∀ b ∈ w, b.toNat < 128) : Lib.validD (w ++ r) = Lib.validD r := by
  have := Lib.validD_ascii w.length (w ++ r) (by rw [List.take_left]; exact hw)
  rwa [List.drop_left] at this
theorem valid_skipW {w r r2 : bytes} (hw : ∀ b ∈ w, b.toNat < 128) (h : skipW w r = some r2) (hr : Lib.validD r = true) : Lib.validD r2 = true := by
  rw [skip_app h, valid_wd hw] at hr
  exact hr
theorem valid_dropA {r : bytes} {n : Nat} (hw : ∀ b ∈ r.take n, b.toNat < 128) (hr : Lib.validD r = true) : Lib.validD (r.drop n) = true := by
  rw [Lib.validD_ascii n r hw] at hr
  exact hr
theorem hex_asc {c : UInt8} (h : isHex c = true) : c.toNat < 128 := by
  unfold isHex hexV at h
  split at h
  · omega
  · split at h
    · omega
    · split at h
      · omega
      · cases h
theorem valid_unit {r : bytes} (hr : Lib.validD r = true) : Lib.validD (unitP r).2.2 = true := by
  unfold unitP
  split
  · exact hr
  · split
    · rename_i h
      exact valid_dropA (fun b hb => hex_asc (List.all_eq_true.1 h b hb)) hr
    · exact hr
theorem valid_low {h : Int} {r : bytes} (hr : Lib.validD r = true) : Lib.validD (lowP h r).2.2 = true := by
  unfold lowP
  cases e : skipW [92, 117] r with
  | none => exact hr
  | some r2 => exact valid_unit (valid_skipW (by decide) e hr)
theorem valid_rune {r : bytes} (hr : Lib.validD r = true) : Lib.validD (runeP r).2.2 = true := by
  unfold runeP
  split
  · exact valid_low (valid_unit hr)
  · exact valid_unit hr
theorem sign_valid : ∀ i : Fin 8, Lib.validD [escBytes.getD i.val 0] = true := by decide +kernel
theorem sign_asc : ∀ c ∈ escSigns, c.toNat < 128 := by decide
theorem peek_cons {r : bytes} (h : peek r ≠ 0) : r = peek r :: r.drop 1 := by
  cases r with
  | nil => exact absurd rfl h
  | cons c r => rfl
theorem valid_peek {r : bytes} (h0 : peek r ≠ 0) (h : (peek r).toNat < 128) (hr : Lib.validD r = true) : Lib.validD (r.drop 1) = true := by
  rw [peek_cons h0, Lib.validD_cons _ _ h] at hr
  exact hr
theorem esc_good {r : bytes} (hr : Lib.validD r = true) (he : (escP r).2.1 = 0) : Lib.validD (escP r).1 = true ∧ Lib.validD (escP r).2.2 = true ∧ (escP r).1.length + (escP r).2.2.length ≤ r.length := by
  rw [escP_eq] at he ⊢
  by_cases hi : escSigns.idxOf (peek r) < 8
  · rw [if_pos hi]
    have hne := signs_ne hi
    have hm : peek r ∈ escSigns := List.idxOf_lt_length_iff.1 hi
    have h0 : peek r ≠ 0 := by intro e; rw [e] at hm; revert hm; decide
    refine ⟨sign_valid ⟨_, hi⟩, valid_peek h0 (sign_asc _ hm) hr, ?_⟩
    have := List.length_pos_iff.2 hne
    simp only [List.length_cons, List.length_nil, List.length_drop]
    omega
  · rw [if_neg hi] at he ⊢
    cases hw : skipW [117] r with
    | none => rw [hw] at he; simp at he
    | some r2 =>
      rw [hw] at he
      simp only at he ⊢
      have h1 := skip_len hw
      have hr2 := valid_skipW (by decide) hw hr
      unfold escU at he ⊢
      split at he
      · rename_i hu
        rw [if_pos hu]
        refine ⟨valid_one (rune_ok hu), valid_rune hr2, ?_⟩
        have h2 := enc1_len (runeP r2).1
        have h3 : (runeP r2).2.2.length + 4 ≤ r2.length := by
          have hun : ∀ s : bytes, (unitP s).2.1 = true → (unitP s).2.2.length + 4 ≤ s.length := fun s hs => by
            unfold unitP at hs ⊢
            split at hs
            · cases hs
            · rename_i hl
              rw [if_neg hl]
              split at hs
              · rename_i hx
                rw [if_pos hx]
                simp only [List.length_drop]
                omega
              · cases hs
          unfold runeP at hu ⊢
          split at hu
          · rename_i hh
            rw [if_pos hh]
            rw [Bool.and_eq_true] at hh
            have := hun r2 hh.1
            have := (suf_low (h := (unitP r2).1) (List.suffix_refl (unitP r2).2.2)).length_le
            omega
          · rename_i hh
            rw [if_neg hh]
            exact hun r2 hu
        simp only [List.length_cons, List.length_nil] at h1
        simp only
        omega
      · cases he
theorem quotedR_good (r o : bytes) : Lib.validD (o ++ r) = true → (quotedR r o).2.2 = 0 → Lib.validD (quotedR r o).1 = true ∧ Lib.validD (quotedR r o).2.1 = true ∧ (quotedR r o).1.length + (quotedR r o).2.1.length + 1 ≤ o.length + r.length := by
  refine quotedGo_ind (fun r o x => Lib.validD (o ++ r) = true → x.2.2 = 0 → Lib.validD x.1 = true ∧ Lib.validD x.2.1 = true ∧ x.1.length + x.2.1.length + 1 ≤ o.length + r.length) ?_ ?_ ?_ ?_ ?_ (r.length + 1) r o (Nat.lt_succ_self _)
  · intro r o _ _ h; cases h
  · intro r o h hv _
    have hc := peek_cons (r := r) (by rw [h]; decide)
    have hl := congrArg List.length hc
    rw [hc] at hv
    obtain ⟨h1, h2⟩ := valid_cut (by rw [h]; decide) hv
    simp only [List.length_cons] at hl
    exact ⟨h1, h2, by simp only; omega⟩
  · intro r o _ h _ h2
    exact absurd h2 h
  · intro r o x h he ih hv hx
    have hc := peek_cons (r := r) (by rw [h]; decide)
    have hl := congrArg List.length hc
    rw [hc] at hv
    obtain ⟨h1, h2⟩ := valid_cut (by rw [h]; decide) hv
    obtain ⟨h3, h4, h5⟩ := esc_good h2 he
    obtain ⟨h6, h7, h8⟩ := ih (valid_cat (valid_cat h1 h3) h4) hx
    refine ⟨h6, h7, ?_⟩
    simp only [List.length_cons] at hl
    rw [List.length_append] at h8
    omega
  · intro r o x h1 h2 h3 ih hv hx
    have hc := peek_cons (r := r) (by intro e; rw [e] at h1; revert h1; decide)
    have hl := congrArg List.length hc
    simp only [List.length_cons] at hl
    obtain ⟨h6, h7, h8⟩ := ih (by rw [List.append_assoc, List.singleton_append, ← hc]; exact hv) hx
    refine ⟨h6, h7, ?_⟩
    rw [List.length_append] at h8
    simp only [List.length_cons, List.length_nil] at h8
    omega
theorem quoted_good {r : bytes} (hr : Lib.validD r = true) (he : (quotedP r).2.2 = 0) : Lib.validD (quotedP r).1 = true ∧ Lib.validD (quotedP r).2.1 = true ∧ (quotedP r).1.length + (quotedP r).2.1.length + 2 ≤ r.length := by
  rw [quotedP_eq] at he ⊢
  by_cases h : peek r = 34
  · rw [if_pos h] at he ⊢
    have hc := peek_cons (r := r) (by rw [h]; decide)
    have hl := congrArg List.length hc
    simp only [List.length_cons] at hl
    obtain ⟨h1, h2, h3⟩ := quotedR_good (r.drop 1) [] (valid_peek (by rw [h]; decide) (by rw [h]; decide) hr) he
    exact ⟨h1, h2, by simp only [List.length_nil] at h3; omega⟩
  · rw [if_neg h] at he
    cases he
theorem blank_asc {c : UInt8} (h : isBlank c = true) : c.toNat < 128 := by
  unfold isBlank at h
  simp only [Bool.or_eq_true, beq_iff_eq] at h
  rcases h with ((rfl | rfl) | rfl) | rfl <;> decide
theorem valid_blanks : ∀ {r : bytes}, Lib.validD r = true → Lib.validD (blanks r) = true
  | [], h => h
  | c :: r, h => by
    unfold blanks
    rw [List.dropWhile_cons]
    split
    · rename_i hb
      rw [Lib.validD_cons _ _ (blank_asc hb)] at h
      exact valid_blanks h
    · exact h
theorem blanks_len (r : bytes) : (blanks r).length ≤ r.length := (List.dropWhile_suffix isBlank).length_le
theorem digit_asc {c : UInt8} (h : isDigit c = true) : c.toNat < 128 := by
  have := of_decide_eq_true h
  omega
theorem num_take {r : bytes} : ∀ b ∈ r.take (numLen r), b.toNat < 128 := fun b hb => by
  obtain ⟨j, hj, rfl⟩ := List.mem_iff_getElem.1 hb
  have hj2 := hj
  rw [List.length_take] at hj2
  have h := numLen_digit (r := r) (j := j) (by omega)
  have h2 := take_getD (r := r) (n := numLen r) (j := j) (by omega)
  rw [← h2, List.getD, List.getElem?_eq_getElem hj] at h
  exact digit_asc h
theorem numGo_good {b : Bool} {r : bytes} (hr : Lib.validD r = true) (he : (numGo b r).2.2 = 0) : -9007199254740991 ≤ (numGo b r).1 ∧ (numGo b r).1 ≤ 9007199254740991 ∧ Lib.validD (numGo b r).2.1 = true ∧ (numGo b r).2.1.length + 1 ≤ r.length := by
  unfold numGo at he ⊢
  have hl := numLen_le r
  split at he
  · cases he
  · rename_i h1
    rw [if_neg h1]
    split at he
    · cases he
    · rename_i h2
      rw [if_neg h2]
      refine ⟨?_, ?_, valid_dropA num_take hr, ?_⟩
      · cases b <;> simp <;> omega
      · cases b <;> simp <;> omega
      · simp only [List.length_drop]
        omega
theorem num_good {r : bytes} (hr : Lib.validD r = true) (he : (numP r).2.2 = 0) : -9007199254740991 ≤ (numP r).1 ∧ (numP r).1 ≤ 9007199254740991 ∧ Lib.validD (numP r).2.1 = true ∧ (numP r).2.1.length + 1 ≤ r.length := by
  unfold numP at he ⊢
  cases h : skipW [45] r with
  | none => rw [h] at he; exact numGo_good hr he
  | some r2 =>
    rw [h] at he
    have h1 := skip_len h
    obtain ⟨h2, h3, h4, h5⟩ := numGo_good (valid_skipW (by decide) h hr) he
    simp only [List.length_cons, List.length_nil] at h1
    exact ⟨h2, h3, h4, by simp only; omega⟩
/-- What is good about a tree that was read, and what is left. -/
def Good (n : Nat) (r : bytes) (x : JV × bytes × Int) : Prop := x.2.2 = 0 → rightJ n x.1 = true ∧ Lib.validD x.2.1 = true ∧ sizeJ x.1 + x.2.1.length ≤ r.length
theorem one_right (n : Nat) {k : Int} (h : k = 0 ∨ k = 1 ∨ k = 2) : rightJ n (.mk k 0 [] [] []) = true := right_one (by
  rcases h with rfl | rfl | rfl <;> rfl)
theorem leaf_good {n : Nat} {r : bytes} {x : JV × bytes × Int} (hr : Lib.validD r = true) (h : leafP r = some x) : Good n r x := by
  have hw : ∀ (w r2 : bytes) (k : Int), (∀ b ∈ w, b.toNat < 128) → 1 ≤ w.length → skipW w r = some r2 → (k = 0 ∨ k = 1 ∨ k = 2) → Good n r (.mk k 0 [] [] [], r2, 0) := fun w r2 k h1 h2 h3 h4 _ => by
    have h5 := skip_len h3
    refine ⟨one_right n h4, valid_skipW h1 h3 hr, ?_⟩
    show 1 + 0 + 0 + sizesJ [] + r2.length ≤ r.length
    rw [sizesJ]
    omega
  unfold leafP at h
  split at h
  · rename_i r2 hs
    cases h
    exact hw _ _ 0 (by decide) (by decide) hs (.inl rfl)
  · split at h
    · rename_i r2 hs
      cases h
      exact hw _ _ 1 (by decide) (by decide) hs (.inr (.inl rfl))
    · split at h
      · rename_i r2 hs
        cases h
        exact hw _ _ 2 (by decide) (by decide) hs (.inr (.inr rfl))
      · split at h
        · cases h
          intro he
          obtain ⟨h1, h2, h3⟩ := quoted_good hr he
          refine ⟨right_one ?_, h2, ?_⟩
          · unfold oneJ
            rw [if_neg (by show ¬ ((4 : Int) = 0 ∨ (4 : Int) = 1 ∨ (4 : Int) = 2); decide), if_neg (by show ¬ ((4 : Int) = 3); decide), if_pos (by rfl)]
            show (leafJ (.mk 4 0 _ [] []) && decide ((0 : Int) = 0) && Lib.validD (quotedP r).1) = true
            rw [h1]
            rfl
          · show 1 + (quotedP r).1.length + 0 + sizesJ [] + _ ≤ _
            rw [sizesJ]
            simp only
            omega
        · split at h
          · cases h
            intro he
            obtain ⟨h1, h2, h3, h4⟩ := num_good hr he
            refine ⟨right_one ?_, h3, ?_⟩
            · unfold oneJ
              rw [if_neg (by show ¬ ((3 : Int) = 0 ∨ (3 : Int) = 1 ∨ (3 : Int) = 2); decide), if_pos (by rfl)]
              show (leafJ (.mk 3 _ [] [] []) && decide (([] : bytes) = []) && decide (-9007199254740991 ≤ (numP r).1 ∧ (numP r).1 ≤ 9007199254740991)) = true
              simp [leafJ, JV.names, JV.items, h1, h2]
            · show 1 + 0 + 0 + sizesJ [] + _ ≤ _
              rw [sizesJ]
              simp only
              omega
          · split at h
            · cases h
              intro he
              cases he
            · cases h
theorem name_good {v : JV} {r : bytes} (hr : Lib.validD r = true) (he : (nameP v r).2.2 = 0) : Lib.validD (nameP v r).1 = true ∧ Lib.validD (nameP v r).2.1 = true ∧ (nameP v r).1.length + (nameP v r).2.1.length + 3 ≤ r.length := by
  rw [nameP_eq] at he ⊢
  have hb := valid_blanks hr
  have hbl := blanks_len r
  generalize hq : quotedP (blanks r) = q at *
  have hg := quoted_good (r := blanks r) hb
  rw [hq] at hg
  have h0 : q.2.2 = 0 := by
    refine Classical.byContradiction fun hq0 => ?_
    rw [if_neg (c := (jget v q.1).isSome = true ∧ q.2.2 = 0) (fun k => hq0 k.2)] at he
    rw [if_neg hq0] at he
    cases h2 : skipW [58] (blanks q.2.1) with
    | none => rw [h2] at he; exact hq0 he
    | some r4 => rw [h2] at he; exact hq0 he
  obtain ⟨h1, h2, h3⟩ := hg h0
  have hbl2 := blanks_len q.2.1
  cases h4 : skipW [58] (blanks q.2.1) with
  | none =>
    rw [h4] at he
    generalize (if (jget v q.1).isSome = true ∧ q.2.2 = 0 then (6 : Int) else q.2.2) = e at he
    simp only at he
    by_cases h3 : e = 0
    · rw [if_pos h3] at he; cases he
    · rw [if_neg h3] at he; exact absurd he h3
  | some r4 =>
    have h5 := skip_len h4
    simp only [List.length_cons, List.length_nil] at h5
    exact ⟨h1, valid_skipW (by decide) h4 (valid_blanks h2), by simp only; omega⟩
theorem size_add (v x : JV) : sizeJ (addJ v x) = sizeJ v + sizeJ x := by
  rw [sizeJ_eq, sizeJ_eq v, sizesJ_eq, sizesJ_eq]
  show 1 + v.text.length + (v.names.map nameW).sum + ((v.items ++ [x]).map sizeJ).sum = _
  rw [List.map_append, List.sum_append]
  simp
  omega
theorem right_add {n : Nat} {v x : JV} (hk : v.kind = 5) (h : rightJ (n + 1) v = true) (hx : rightJ n x = true) : rightJ (n + 1) (addJ v x) = true := by
  rcases right_of h with h | ⟨_, h1, h2⟩
  · exact absurd (.inl hk) (one_kind h)
  · refine right_many ?_ ?_
    · unfold manyJ at h1 ⊢
      rw [if_pos hk] at h1
      rw [if_pos (show (addJ v x).kind = 5 from hk)]
      exact h1
    · show (v.items ++ [x]).all (rightJ n) = true
      rw [List.all_append, Bool.and_eq_true]
      exact ⟨h2, by simp [hx]⟩
def GoodT (n : Nat) (v : JV) (r : bytes) (x : JV × bytes × Int) : Prop := x.2.2 = 0 → rightJ n x.1 = true ∧ Lib.validD x.2.1 = true ∧ sizeJ x.1 + x.2.1.length + 1 ≤ sizeJ v + r.length
theorem treeEnd_good {n : Nat} {k : JV → bytes → JV × bytes × Int} {e : UInt8} (he : e.toNat < 128) {v v0 : JV} {r r0 : bytes} {err : Int} (hk : ∀ r4, Lib.validD r4 = true → GoodT n v r4 (k v r4)) (hv : rightJ n v = true) (hr : Lib.validD r = true) (hl : sizeJ v + r.length ≤ sizeJ v0 + r0.length) : GoodT n v0 r0 (treeEnd k e v r err) := by
  intro h
  have hb := valid_blanks hr
  have hbl := blanks_len r
  unfold treeEnd at h ⊢
  split at h
  · rename_i h0
    exact absurd h h0
  · rename_i h0
    rw [if_neg h0]
    cases h1 : skipW [e] (blanks r) with
    | some r4 =>
      have h5 := skip_len h1
      simp only [List.length_cons, List.length_nil] at h5
      exact ⟨hv, valid_skipW (by simpa using he) h1 hb, by simp only; omega⟩
    | none =>
      rw [h1] at h
      simp only at h ⊢
      cases h2 : skipW [44] (blanks r) with
      | none => rw [h2] at h; cases h
      | some r4 =>
        rw [h2] at h
        have h5 := skip_len h2
        simp only [List.length_cons, List.length_nil] at h5
        obtain ⟨i1, i2, i3⟩ := hk r4 (valid_skipW (by decide) h2 hb) h
        exact ⟨i1, i2, by simp only; omega⟩
theorem treeGo_good {n : Nat} {f : bytes → JV × bytes × Int} {e : UInt8} (he : e.toNat < 128) (hf : ∀ r, Lib.validD r = true → Good n r (f r)) : ∀ (m : Nat) (v : JV) (r : bytes), rightJ (n + 1) v = true → (v.kind = 5 ∨ v.kind = 6) → Lib.validD r = true → GoodT (n + 1) v r (treeGo f e m v r)
  | 0, v, r, _, _, _ => fun h => by cases h
  | m + 1, v, r, hv, hk, hr => by
    unfold treeGo
    by_cases h6 : v.kind = 6
    · rw [if_pos h6]
      by_cases hn : (nameP v r).2.2 = 0
      · rw [if_neg (by simpa using hn)]
        obtain ⟨n1, n2, n3⟩ := name_good hr hn
        intro h
        by_cases hfe : (f (nameP v r).2.1).2.2 = 0
        · obtain ⟨f1, f2, f3⟩ := hf _ n2 hfe
          have hp := right_put (s := (nameP v r).1) hv h6 f1 n1
          have hs := size_put (right_obj hv h6).2.2.2.1 (nameP v r).1 (f (nameP v r).2.1).1
          refine treeEnd_good he (fun r4 h4 => treeGo_good he hf m _ r4 hp ?_ h4) hp f2 ?_ h
          · exact .inr (by rw [jput]; split <;> exact h6)
          · unfold nameW at hs
            omega
        · unfold treeEnd at h
          rw [if_pos hfe] at h
          exact absurd h hfe
      · rw [if_pos hn]
        exact fun h => absurd h hn
    · rw [if_neg h6]
      have h5 : v.kind = 5 := by omega
      intro h
      by_cases hfe : (f r).2.2 = 0
      · obtain ⟨f1, f2, f3⟩ := hf _ hr hfe
        have hp := right_add h5 hv f1
        have hs := size_add v (f r).1
        exact treeEnd_good he (fun r4 h4 => treeGo_good he hf m _ r4 hp (.inl h5) h4) hp f2 (by omega) h
      · unfold treeEnd at h
        rw [if_pos hfe] at h
        exact absurd h hfe
theorem treeP_good {n : Nat} {f : bytes → JV × bytes × Int} {e : UInt8} (he : e.toNat < 128) (hf : ∀ r, Lib.validD r = true → Good n r (f r)) {v : JV} {r : bytes} (hv : rightJ (n + 1) v = true) (hk : v.kind = 5 ∨ v.kind = 6) (hr : Lib.validD r = true) : GoodT (n + 1) v r (treeP f e v r) := by
  unfold treeP
  have hb := valid_blanks hr
  have hbl := blanks_len r
  cases h1 : skipW [e] (blanks r) with
  | some r2 =>
    have h5 := skip_len h1
    simp only [List.length_cons, List.length_nil] at h5
    exact fun _ => ⟨hv, valid_skipW (by simpa using he) h1 hb, by simp only; omega⟩
  | none =>
    intro h
    obtain ⟨i1, i2, i3⟩ := treeGo_good he hf _ v _ hv hk hb h
    exact ⟨i1, i2, by simp only at i3 ⊢; omega⟩
theorem leaf_none {r : bytes} (h : leafP r = none) : peek r = 91 ∨ peek r = 123 := by
  unfold leafP at h
  repeat' split at h
  all_goals first | cases h | skip
  rename_i h1
  by_cases h2 : peek r = 91
  · exact .inl h2
  · exact .inr (Classical.byContradiction fun h3 => h1 ⟨h2, h3⟩)
theorem value_good : ∀ (n : Nat) (r : bytes), Lib.validD r = true → Good n r (valueP n r)
  | 0, r, hr => by
    unfold valueP
    have hb := valid_blanks hr
    have hbl := blanks_len r
    cases e : leafP (blanks r) with
    | none => exact fun h => by cases h
    | some x =>
      intro h
      obtain ⟨h1, h2, h3⟩ := leaf_good (n := 0) hb e h
      exact ⟨h1, h2, by rw [Option.getD_some]; omega⟩
  | n + 1, r, hr => by
    unfold valueP
    have hb := valid_blanks hr
    have hbl := blanks_len r
    cases e : leafP (blanks r) with
    | some x =>
      intro h
      obtain ⟨h1, h2, h3⟩ := leaf_good (n := n + 1) hb e h
      exact ⟨h1, h2, by rw [Option.getD_some]; omega⟩
    | none =>
      rw [Option.getD_none]
      have hp := leaf_none e
      have hp0 : peek (blanks r) ≠ 0 := by rcases hp with h | h <;> rw [h] <;> decide
      have hd := valid_peek hp0 (by rcases hp with h | h <;> rw [h] <;> decide) hb
      have hc := congrArg List.length (peek_cons hp0)
      simp only [List.length_cons] at hc
      split
      · intro h
        obtain ⟨h1, h2, h3⟩ := treeP_good (n := n) (e := 93) (by decide) (value_good n) (v := listJ) (right_many rfl rfl) (.inl rfl) hd h
        have : sizeJ listJ = 1 := rfl
        exact ⟨h1, h2, by omega⟩
      · intro h
        obtain ⟨h1, h2, h3⟩ := treeP_good (n := n) (e := 125) (by decide) (value_good n) (v := objJ) (right_many rfl rfl) (.inr rfl) hd h
        have : sizeJ objJ = 1 := rfl
        exact ⟨h1, h2, by omega⟩
theorem parse_good (s : bytes) : sizeJ (parseP s).1 ≤ 10000 ∧ ((parseP s).2 = 0 → rightJ 12 (parseP s).1 = true) := by
  have hz : sizeJ zeroJ = 1 := rfl
  unfold parseP
  split
  · exact ⟨by simp only; omega, fun h => by cases h⟩
  · split
    · exact ⟨by simp only; omega, fun h => by cases h⟩
    · split
      · rename_i h
        exact ⟨by simp only; omega, fun e => absurd e h⟩
      · rename_i h1 h2 h3
        split
        · exact ⟨by simp only; omega, fun h => by cases h⟩
        · obtain ⟨i1, i2, i3⟩ := value_good 12 s (by simpa using h2) (by simpa using h3)
          exact ⟨by simp only; omega, fun _ => i1⟩
end Go.Proofs.YtplmbhjhihoneaaGreatDoor
end
