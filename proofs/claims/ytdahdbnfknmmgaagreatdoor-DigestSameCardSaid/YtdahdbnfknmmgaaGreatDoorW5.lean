/- The parser: texts, numbers, names. -/
import Derived.Test.YtdahdbnfknmmgaaGreatDoorW4
import Derived.Lib.TrimUEq
section
set_option linter.unusedSimpArgs false
set_option linter.unusedVariables false
namespace Go.Proofs.YtdahdbnfknmmgaaGreatDoor
open Go V
set_option maxRecDepth 10000
set_option maxHeartbeats 4000000
theorem skip_peek {c : UInt8} {r : bytes} (h0 : c ≠ 0) : skipW [c] r = if peek r = c then some (r.drop 1) else none := by
  cases r with
  | nil =>
    rw [if_neg (by intro e; exact h0 e.symm)]
    rfl
  | cons a r =>
    show skipW [c] (a :: r) = if a = c then some r else none
    by_cases h : a = c
    · subst h; simp [skipW]
    · rw [if_neg h, skipW, if_neg]
      simp [Ne.symm h]
theorem escP_len (r : bytes) : (escP r).2.2.length ≤ r.length ∧ (escP r).1.length ≤ 4 := by
  rw [escP_eq]
  have hu : ∀ s : bytes, (unitP s).2.2.length ≤ s.length := fun s => (suf_unit (List.suffix_refl s)).length_le
  split
  · simp
  · cases hw : skipW [117] r with
    | none => simp
    | some r2 =>
      have h1 := skip_len hw
      have h2 := (suf_rune (List.suffix_refl r2)).length_le
      simp only [escU]
      split
      · have := enc1_len (runeP r2).1
        simp only
        omega
      · simp only [List.length_nil]
        omega
theorem suf_esc {r t : bytes} (h : r <:+ t) : (escP r).2.2 <:+ t := by
  rw [escP_eq]
  split
  · exact suf_drop_n h 1
  · cases hw : skipW [117] r with
    | none => exact h
    | some r2 =>
      have h1 := suf_rune (suf_skip h hw)
      simp only [escU]
      split
      · exact h1
      · exact h1
theorem quotedGo_ind (p : bytes → bytes → bytes × bytes × Int → Prop) (h1 : ∀ r o, (peek r).toNat < 32 → p r o ([], r, 2)) (h2 : ∀ r o, peek r = 34 → p r o (o, r.drop 1, 0))
    (h3 : ∀ r o, peek r = 92 → (escP (r.drop 1)).2.1 ≠ 0 → p r o ([], (escP (r.drop 1)).2.2, (escP (r.drop 1)).2.1)) (h4 : ∀ r o x, peek r = 92 → (escP (r.drop 1)).2.1 = 0 → p (escP (r.drop 1)).2.2 (o ++ (escP (r.drop 1)).1) x → p r o x)
    (h5 : ∀ r o x, 32 ≤ (peek r).toNat → peek r ≠ 34 → peek r ≠ 92 → p (r.drop 1) (o ++ [peek r]) x → p r o x) : ∀ n r o, r.length < n → p r o (quotedGo n r o)
  | 0, r, o, h => by omega
  | n + 1, r, o, h => by
    rw [quotedGo]
    have hpos : ¬ (peek r).toNat < 32 → 1 ≤ r.length := fun hp => by
      cases r with
      | nil => exact absurd (by decide) hp
      | cons c r => simp
    by_cases c1 : (peek r).toNat < 32
    · rw [if_pos c1]; exact h1 r o c1
    · rw [if_neg c1]
      have hr := hpos c1
      by_cases c2 : peek r = 34
      · rw [if_pos c2]; exact h2 r o c2
      · rw [if_neg c2]
        by_cases c3 : peek r = 92
        · rw [if_pos c3]
          by_cases c4 : (escP (r.drop 1)).2.1 ≠ 0
          · rw [if_pos c4]; exact h3 r o c3 c4
          · rw [if_neg c4]
            have := (escP_len (r.drop 1)).1
            rw [List.length_drop] at this
            exact h4 r o _ c3 (by simpa using c4) (quotedGo_ind p h1 h2 h3 h4 h5 n _ _ (by omega))
        · rw [if_neg c3]
          exact h5 r o _ (by omega) c2 c3 (quotedGo_ind p h1 h2 h3 h4 h5 n _ _ (by rw [List.length_drop]; omega))
/-- The error is none, or ErrForm. -/
theorem escP_err (r : bytes) : (escP r).2.1 = 0 ∨ (escP r).2.1 = 2 := by
  rw [escP_eq]
  split
  · exact .inl rfl
  · cases skipW [117] r with
    | none => exact .inr rfl
    | some r2 =>
      simp only [escU]
      split
      · exact .inl rfl
      · exact .inr rfl
theorem quotedGo_len (n : Nat) (r o : bytes) (h : r.length < n) : (quotedGo n r o).2.1 <:+ r ∧ ((quotedGo n r o).2.2 = 0 ∨ (quotedGo n r o).2.2 = 2 ∧ (quotedGo n r o).1 = []) := by
  refine quotedGo_ind (fun r _ x => x.2.1 <:+ r ∧ (x.2.2 = 0 ∨ x.2.2 = 2 ∧ x.1 = [])) ?_ ?_ ?_ ?_ ?_ n r o h
  · intro r o _; exact ⟨List.suffix_refl _, .inr ⟨rfl, rfl⟩⟩
  · intro r o _; exact ⟨List.drop_suffix 1 r, .inl rfl⟩
  · intro r o _ h; exact ⟨(suf_esc (List.suffix_refl _)).trans (List.drop_suffix 1 r), .inr ⟨(escP_err _).resolve_left h, rfl⟩⟩
  · intro r o x _ _ h; exact ⟨h.1.trans ((suf_esc (List.suffix_refl _)).trans (List.drop_suffix 1 r)), h.2⟩
  · intro r o x _ _ _ h; exact ⟨h.1.trans (List.drop_suffix 1 r), h.2⟩
theorem quotedGo_fuel (n m : Nat) (r o : bytes) (h : r.length < n) (k : r.length < m) : quotedGo n r o = quotedGo m r o := by
  have := quotedGo_ind (fun r o x => ∀ m, r.length < m → x = quotedGo m r o) ?_ ?_ ?_ ?_ ?_ n r o h
  · exact this m k
  · intro r o h1 m hm
    cases m with
    | zero => omega
    | succ m => rw [quotedGo, if_pos h1]
  · intro r o h1 m hm
    cases m with
    | zero => omega
    | succ m => rw [quotedGo, if_neg (by rw [h1]; decide), if_pos h1]
  · intro r o h1 h2 m hm
    cases m with
    | zero => omega
    | succ m => rw [quotedGo, if_neg (by rw [h1]; decide), if_neg (by rw [h1]; decide), if_pos h1, if_pos h2]
  · intro r o x h1 h2 h3 m hm
    cases m with
    | zero => omega
    | succ m =>
      have hr : 1 ≤ r.length := by cases r with | nil => exact absurd h1 (by decide) | cons c r => simp
      have := (escP_len (r.drop 1)).1
      rw [List.length_drop] at this
      rw [quotedGo, if_neg (by rw [h1]; decide), if_neg (by rw [h1]; decide), if_pos h1, if_neg (by rw [h2]; decide)]
      exact h3 m (by omega)
  · intro r o x h1 h2 h3 h4 m hm
    cases m with
    | zero => omega
    | succ m =>
      have hr : 1 ≤ r.length := by cases r with | nil => exact absurd h1 (by decide) | cons c r => simp
      rw [quotedGo, if_neg (by omega), if_neg h2, if_neg h3]
      exact h4 m (by rw [List.length_drop]; omega)
/-- The rest of a text, as far as is told. -/
def quotedR (r o : bytes) : bytes × bytes × Int := quotedGo (r.length + 1) r o
theorem quotedR_ctl {r o : bytes} (h : (peek r).toNat < 32) : quotedR r o = ([], r, 2) := by rw [quotedR, quotedGo, if_pos h]
theorem quotedR_end {r o : bytes} (h : peek r = 34) : quotedR r o = (o, r.drop 1, 0) := by rw [quotedR, quotedGo, if_neg (by rw [h]; decide), if_pos h]
theorem peek_pos {r : bytes} (h : peek r ≠ 0) : 1 ≤ r.length := by cases r with | nil => exact absurd rfl h | cons c r => simp
theorem quotedR_bad {r o : bytes} (h : peek r = 92) (e : (escP (r.drop 1)).2.1 ≠ 0) : quotedR r o = ([], (escP (r.drop 1)).2.2, (escP (r.drop 1)).2.1) := by
  rw [quotedR, quotedGo, if_neg (by rw [h]; decide), if_neg (by rw [h]; decide), if_pos h, if_pos e]
theorem quotedR_esc {r o : bytes} (h : peek r = 92) (e : (escP (r.drop 1)).2.1 = 0) : quotedR r o = quotedR (escP (r.drop 1)).2.2 (o ++ (escP (r.drop 1)).1) := by
  have hr := peek_pos (r := r) (by rw [h]; decide)
  have := (escP_len (r.drop 1)).1
  rw [List.length_drop] at this
  rw [quotedR, quotedGo, if_neg (by rw [h]; decide), if_neg (by rw [h]; decide), if_pos h, if_neg (by rw [e]; decide), quotedR]
  exact quotedGo_fuel _ _ _ _ (by omega) (by omega)
theorem quotedR_one {r o : bytes} (h1 : 32 ≤ (peek r).toNat) (h2 : peek r ≠ 34) (h3 : peek r ≠ 92) : quotedR r o = quotedR (r.drop 1) (o ++ [peek r]) := by
  have hr := peek_pos (r := r) (by intro e; rw [e] at h1; revert h1; decide)
  rw [quotedR, quotedGo, if_neg (by omega), if_neg h2, if_neg h3, quotedR]
  exact quotedGo_fuel _ _ _ _ (by rw [List.length_drop]; omega) (by omega)
theorem quotedP_eq (r : bytes) : quotedP r = if peek r = 34 then quotedR (r.drop 1) [] else ([], r, 2) := by
  rw [quotedP, skip_peek (by decide)]
  split <;> rename_i h
  · split at h
    · cases h
    · rename_i h2; rw [if_neg h2]
  · split at h
    · rename_i h2; cases h; rw [if_pos h2]; rfl
    · cases h
theorem quoted_len (r : bytes) : (quotedP r).2.1 <:+ r ∧ ((quotedP r).2.2 = 0 ∨ (quotedP r).2.2 = 2 ∧ (quotedP r).1 = []) := by
  rw [quotedP_eq]
  split
  · have := quotedGo_len ((r.drop 1).length + 1) (r.drop 1) [] (by omega)
    exact ⟨this.1.trans (List.drop_suffix 1 r), this.2⟩
  · exact ⟨List.suffix_refl _, .inr ⟨rfl, rfl⟩⟩
section
variable {H M : List AObj} {k : Nat} {o x : AObj}
theorem lk_k (h : k < H.length) : (H.set k o ++ M)[k]? = some o := by rw [List.getElem?_append_left (by rw [List.length_set]; exact h)]; exact hss h
theorem lk_b : (H.set k o ++ M)[H.length]? = M[0]? := by rw [List.getElem?_append_right (by rw [List.length_set]; exact Nat.le_refl _), List.length_set, Nat.sub_self]
theorem lk_m : (H.set k o ++ M)[H.length + 1]? = M[1]? := by rw [List.getElem?_append_right (by rw [List.length_set]; omega), List.length_set, Nat.add_sub_cancel_left]
theorem st_b : (H.set k o ++ M).set H.length x = H.set k o ++ M.set 0 x := by rw [List.set_append_right _ _ (by rw [List.length_set]; exact Nat.le_refl _), List.length_set, Nat.sub_self]
theorem st_m : (H.set k o ++ M).set (H.length + 1) x = H.set k o ++ M.set 1 x := by rw [List.set_append_right _ _ (by rw [List.length_set]; omega), List.length_set, Nat.add_sub_cancel_left]
theorem st_k (h : k < H.length) : (H.set k o ++ M).set k x = H.set k x ++ M := by rw [List.set_append_left _ _ (by rw [List.length_set]; exact h), List.set_set]
end
/-- The state of a text's loop. -/
structure QS where
  r : bytes
  o : bytes
  a : AV
  e : Int
def qObjs (t : bytes) (H : List AObj) (k : Nat) (y : QS) : List AObj := H.set k (pObj t y.r y.e) ++ [bObj 50 (H.length + 1) y.a y.o, gObj y.o.length]
theorem done_cut' {H₀ : List AObj} {k : Nat} {o : AObj} {M : List AObj} {R : AV → List AObj → Prop} {x : AV} (hx : Low H₀.length x) (hlow : o = o) (hcs : ∀ sh cs, o = .cells sh cs → ∀ y ∈ cs, Low H₀.length y) (hr : R x (H₀.set k o)) : Done H₀ R x (H₀.set k o ++ M) := by
  unfold Done
  refine ⟨x, (H₀.set k o ++ M).take H₀.length, ends_cut (Le.refl x) (Nat.le_refl _) hx fun i sh cs hi e => ?_, ?_⟩
  · rw [List.getElem?_append_left (by rw [List.length_set]; exact hi)] at e
    rcases get_set e with ⟨_, e'⟩ | ⟨_, e', _⟩
    · exact .inl e'
    · exact .inr (hcs sh cs e'.symm)
  · rw [List.take_append_of_le_length (by rw [List.length_set]; exact Nat.le_refl _), List.take_of_length_le (by rw [List.length_set]; exact Nat.le_refl _)]
    exact hr
theorem low_pObj {t r : bytes} {e : Int} {m : Nat} : ∀ sh cs, pObj t r e = .cells sh cs → ∀ y ∈ cs, Low m y := fun sh cs h y hy => by
  unfold pObj at h
  cases h
  simp only [List.mem_cons, List.not_mem_nil, or_false] at hy
  rcases hy with rfl | rfl | rfl
  · exact .str _
  · exact .lit _
  · exact .lit _
theorem quoted_c {k : Nat} {t r : bytes} {H : List AObj} (hk : H[k]? = some (pObj t r 0)) (hs : r <:+ t) (hl : t.length ≤ 10000) :
    ACalls Tryz.prog 55 [.mp k 0] H (fun x H' => x = .str (quotedP r).1 ∧ H' = H.set k (pObj t (quotedP r).2.1 (quotedP r).2.2)) := by
  have hkl := lt_of_get hk
  have hc := skip_c (w := [34]) (H := H ++ [bObj 50 (H.length + 1) (.lit (.pointer none)) [], gObj 0]) (by rw [h_left hkl]; exact hk) hs hl (by decide)
  rw [skip_peek (by decide)] at hc
  have hrl := suf_len hs
  by_cases h34 : peek r = 34
  · rw [if_pos h34] at hc
    have hq : quotedP r = quotedR (r.drop 1) [] := by rw [quotedP_eq, if_pos h34]
    rw [hq]
    generalize hqq : quotedR (r.drop 1) [] = q
    have hr1 := peek_pos (r := r) (by rw [h34]; decide)
    refine acalls_vc L_ok mixed [3000003005] (rs := [.tmp 2]) (n := 50) Tryz.func55 rfl rfl rfl rfl (Nat.le_of_ble_eq_true rfl) (by kernel_rfl) ?_
    repeat' (first | refine unhold ?_ | (simp -dsimp -implicitDefEqProofs (disch := (first | assumption | omega | (simp only [ll1, ll2, ll3, ll4, ll5, ll6, ll7, ll8]; omega))) only [go_sem]) | refine acalls_same (hc) ?_ | refine ⟨_, hc, ?_⟩ | refine ⟨_, _, hc, ?_⟩ | refine vcI (fun _ => ?_) (fun _ => ?_) | (refine vcA ?_ ?_; focus (repeat' (first | omega | assumption | refine vcA ?_ ?_); done)) | omega | refine imp_in (fun _ => ?_))
    refine vc_loopk L_ok mixed [3000003005] [0, 3] (fun y : QS => y.r <:+ t ∧ y.o.length + 4 * y.r.length ≤ 4 * t.length ∧ bAddr H.length y.a ∧ ((y.e = 0 ∧ quotedR y.r y.o = q) ∨ (y.e ≠ 0 ∧ q = ([], y.r, y.e)))) (fun _ => []) (qObjs t H k) (fun y => if y.e = 0 then y.r.length + 1 else 0) (by kernel_rfl) ?_ ⟨r.drop 1, [], .lit (.pointer none), 0⟩ ⟨suf_drop_n hs 1, by simp; omega, bAddr_n, .inl ⟨rfl, hqq⟩⟩ env_ok rfl
    rintro ⟨r', o, a, e⟩ ⟨hs', hol, ha, hst⟩
    dsimp only at hs' hol ha hst ⊢
    have hrl' := suf_len hs'
    unfold qObjs
    dsimp only
    rcases hst with ⟨rfl, hq'⟩ | ⟨he, rfl⟩
    · have hpk := peek_c (H := H.set k (pObj t r' 0) ++ [bObj 50 (H.length + 1) a o, gObj o.length]) (lk_k hkl) hs' hl
      have hc1 := skip_c (w := [34]) (H := H.set k (pObj t r' 0) ++ [bObj 50 (H.length + 1) a o, gObj o.length]) (lk_k hkl) hs' hl (by decide)
      have hc2 := skip_c (w := [92]) (H := H.set k (pObj t r' 0) ++ [bObj 50 (H.length + 1) a o, gObj o.length]) (lk_k hkl) hs' hl (by decide)
      rw [skip_peek (by decide)] at hc1 hc2
      by_cases c1 : (peek r').toNat < 32
      · rw [quotedR_ctl c1] at hq'
        subst hq'
        repeat' (first | refine unhold ?_ | (simp -dsimp -implicitDefEqProofs (disch := (first | assumption | omega | (simp only [ll1, ll2, ll3, ll4, ll5, ll6, ll7, ll8]; omega))) only [go_sem, lk_k hkl, st_k hkl, pObj]) | refine acalls_same (hpk) ?_ | refine ⟨_, hpk, ?_⟩ | refine ⟨_, _, hpk, ?_⟩ | refine acalls_same (fail_c (lk_k hkl)) ?_ | refine ⟨_, fail_c (lk_k hkl), ?_⟩ | refine ⟨_, _, fail_c (lk_k hkl), ?_⟩ | refine vcI (fun _ => ?_) (fun _ => ?_) | (refine vcA ?_ ?_; focus (repeat' (first | omega | assumption | refine vcA ?_ ?_); done)) | omega | refine imp_in (fun _ => ?_))
        refine again (⟨r', o, a, 2⟩) ?_ ?_ ?_ env_ok
        · simp
        · exact ⟨hs', hol, ha, .inr ⟨by simp, rfl⟩⟩
        · rfl
      · by_cases c2 : peek r' = 34
        · rw [quotedR_end c2] at hq'
          subst hq'
          rw [if_pos c2] at hc1
          repeat' (first | refine unhold ?_ | (simp -dsimp -implicitDefEqProofs (disch := (first | assumption | omega | (simp only [ll1, ll2, ll3, ll4, ll5, ll6, ll7, ll8]; omega))) only [go_sem, lk_k hkl, st_k hkl]) | refine acalls_same (hpk) ?_ | refine ⟨_, hpk, ?_⟩ | refine ⟨_, _, hpk, ?_⟩ | refine acalls_same (hc1) ?_ | refine ⟨_, hc1, ?_⟩ | refine ⟨_, _, hc1, ?_⟩ | refine acalls_same (String_c lk_b lk_m (by omega)) ?_ | refine ⟨_, String_c lk_b lk_m (by omega), ?_⟩ | refine ⟨_, _, String_c lk_b lk_m (by omega), ?_⟩ | refine vcI (fun _ => ?_) (fun _ => ?_) | (refine vcA ?_ ?_; focus (repeat' (first | omega | assumption | refine vcA ?_ ?_); done)) | omega | refine imp_in (fun _ => ?_))
          exact done_cut' (.str _) rfl low_pObj ⟨rfl, rfl⟩
        · have hr1 := peek_pos (r := r') (by intro e; rw [e] at c1; exact c1 (by decide))
          rw [if_neg c2] at hc1
          by_cases c3 : peek r' = 92
          · rw [if_pos c3] at hc2
            have hs3 : r'.drop 1 <:+ t := suf_drop_n hs' 1
            have hel := escP_len (r'.drop 1)
            rw [List.length_drop] at hel
            by_cases c4 : (escP (r'.drop 1)).2.1 = 0
            · rw [quotedR_esc c3 c4] at hq'
              have hs4 := suf_esc hs3
              obtain ⟨⟨o4, e4, r4⟩, he4⟩ : ∃ x, escP (r'.drop 1) = x := ⟨_, rfl⟩
              rw [he4] at c4 hq' hs4 hel
              dsimp only at c4 hq' hs4 hel
              subst c4
              repeat' (first | refine unhold ?_ | (simp -dsimp -implicitDefEqProofs (disch := (first | assumption | omega | (simp only [ll1, ll2, ll3, ll4, ll5, ll6, ll7, ll8]; omega))) only [go_sem, lk_k hkl, st_k hkl, lk_b, lk_m, st_b, st_m]) | refine acalls_same (hpk) ?_ | refine ⟨_, hpk, ?_⟩ | refine ⟨_, _, hpk, ?_⟩ | refine acalls_same (hc1) ?_ | refine ⟨_, hc1, ?_⟩ | refine ⟨_, _, hc1, ?_⟩ | refine acalls_same (hc2) ?_ | refine ⟨_, hc2, ?_⟩ | refine ⟨_, _, hc2, ?_⟩ | refine acalls_same (escape_ok (a := a) (bs := o) he4 (lk_k hkl) lk_b ha lk_m hs3 hl (by omega)) ?_ | refine ⟨_, escape_ok (a := a) (bs := o) he4 (lk_k hkl) lk_b ha lk_m hs3 hl (by omega), ?_⟩ | refine ⟨_, _, escape_ok (a := a) (bs := o) he4 (lk_k hkl) lk_b ha lk_m hs3 hl (by omega), ?_⟩ | refine vcI (fun _ => ?_) (fun _ => ?_) | (refine vcA ?_ ?_; focus (repeat' (first | omega | assumption | refine vcA ?_ ?_); done)) | omega | refine imp_in (fun _ => ?_))
              refine again (⟨r4, o ++ o4, .mp H.length 0, 0⟩) ?_ ?_ ?_ env_ok
              · simp; omega
              · refine ⟨hs4, ?_, bAddr_k, .inl ⟨rfl, hq'⟩⟩
                simp only [List.length_append]
                omega
              · simp
            · rw [quotedR_bad c3 c4] at hq'
              subst hq'
              have hs4 := suf_esc hs3
              obtain ⟨⟨o4, e4, r4⟩, he4⟩ : ∃ x, escP (r'.drop 1) = x := ⟨_, rfl⟩
              rw [he4] at c4 hs4 hel
              simp only [he4]
              dsimp only at c4 hs4 hel
              repeat' (first | refine unhold ?_ | (simp -dsimp -implicitDefEqProofs (disch := (first | assumption | omega | (simp only [ll1, ll2, ll3, ll4, ll5, ll6, ll7, ll8]; omega))) only [go_sem, lk_k hkl, st_k hkl, lk_b, lk_m, st_b, st_m]) | refine acalls_same (hpk) ?_ | refine ⟨_, hpk, ?_⟩ | refine ⟨_, _, hpk, ?_⟩ | refine acalls_same (hc1) ?_ | refine ⟨_, hc1, ?_⟩ | refine ⟨_, _, hc1, ?_⟩ | refine acalls_same (hc2) ?_ | refine ⟨_, hc2, ?_⟩ | refine ⟨_, _, hc2, ?_⟩ | refine acalls_same (escape_no (b := H.length) he4 c4 (lk_k hkl) hs3 hl) ?_ | refine ⟨_, escape_no (b := H.length) he4 c4 (lk_k hkl) hs3 hl, ?_⟩ | refine ⟨_, _, escape_no (b := H.length) he4 c4 (lk_k hkl) hs3 hl, ?_⟩ | refine vcI (fun _ => ?_) (fun _ => ?_) | (refine vcA ?_ ?_; focus (repeat' (first | omega | assumption | refine vcA ?_ ?_); done)) | omega | refine imp_in (fun _ => ?_))
              refine again (⟨r4, o, a, e4⟩) ?_ ?_ ?_ env_ok
              · simp [c4]
              · refine ⟨hs4, ?_, ha, .inr ⟨c4, by rw [he4]⟩⟩
                dsimp only
                omega
              · rfl
          · rw [quotedR_one (by omega) c2 c3] at hq'
            rw [if_neg c3] at hc2
            repeat' (first | refine unhold ?_ | (simp -dsimp -implicitDefEqProofs (disch := (first | assumption | omega | (simp only [ll1, ll2, ll3, ll4, ll5, ll6, ll7, ll8]; omega))) only [go_sem, lk_k hkl, st_k hkl, lk_b, lk_m, st_b, st_m, pObj]) | refine acalls_same (hpk) ?_ | refine ⟨_, hpk, ?_⟩ | refine ⟨_, _, hpk, ?_⟩ | refine acalls_same (hc1) ?_ | refine ⟨_, hc1, ?_⟩ | refine ⟨_, _, hc1, ?_⟩ | refine acalls_same (hc2) ?_ | refine ⟨_, hc2, ?_⟩ | refine ⟨_, _, hc2, ?_⟩ | refine acalls_same (WriteByte_c bT_self lk_b ha lk_m (by omega)) ?_ | refine ⟨_, WriteByte_c bT_self lk_b ha lk_m (by omega), ?_⟩ | refine ⟨_, _, WriteByte_c bT_self lk_b ha lk_m (by omega), ?_⟩ | refine vcI (fun _ => ?_) (fun _ => ?_) | (refine vcA ?_ ?_; focus (repeat' (first | omega | assumption | refine vcA ?_ ?_); done)) | omega | refine imp_in (fun _ => ?_))
            refine again (⟨r'.drop 1, o ++ [peek r'], .mp H.length 0, 0⟩) ?_ ?_ ?_ env_ok
            · simp; omega
            · refine ⟨suf_drop_n hs' 1, ?_, bAddr_k, .inl ⟨rfl, hq'⟩⟩
              simp only [List.length_append, List.length_drop, List.length_cons, List.length_nil]
              omega
            · show _ = H.set k (pObj t (r'.drop 1) 0) ++ [bObj 50 (H.length + 1) (.mp H.length 0) (o ++ [peek r']), gObj (o ++ [peek r']).length]
              rw [show pObj t (r'.drop 1) 0 = _ from (pc (t := t) (e := 0) (a := ((t.length - r'.length : Nat) : Int) + 1) (by rw [List.length_drop]; omega)).symm]
              simp
    · repeat' (first | refine unhold ?_ | (simp -dsimp -implicitDefEqProofs (disch := (first | assumption | omega | (simp only [ll1, ll2, ll3, ll4, ll5, ll6, ll7, ll8]; omega))) only [go_sem, lk_k hkl, st_k hkl, pObj]) | refine vcI (fun _ => ?_) (fun _ => ?_) | (refine vcA ?_ ?_; focus (repeat' (first | omega | assumption | refine vcA ?_ ?_); done)) | omega | refine imp_in (fun _ => ?_))
      exact done_cut' (.str _) rfl low_pObj ⟨rfl, rfl⟩
  · rw [if_neg h34] at hc
    have hq : quotedP r = ([], r, 2) := by rw [quotedP_eq, if_neg h34]
    rw [hq]
    refine acalls_vc L_ok mixed [3000003005] (rs := [.tmp 2]) (n := 50) Tryz.func55 rfl rfl rfl rfl (Nat.le_of_ble_eq_true rfl) (by kernel_rfl) ?_
    repeat' (first | refine unhold ?_ | (simp -dsimp -implicitDefEqProofs (disch := (first | assumption | omega | (simp only [ll1, ll2, ll3, ll4, ll5, ll6, ll7, ll8]; omega))) only [go_sem, lk_k hkl, st_k hkl]) | refine acalls_same (hc) ?_ | refine ⟨_, hc, ?_⟩ | refine ⟨_, _, hc, ?_⟩ | refine acalls_same (fail_c (lk_k hkl)) ?_ | refine ⟨_, fail_c (lk_k hkl), ?_⟩ | refine ⟨_, _, fail_c (lk_k hkl), ?_⟩ | refine vcI (fun _ => ?_) (fun _ => ?_) | (refine vcA ?_ ?_; focus (repeat' (first | omega | assumption | refine vcA ?_ ?_); done)) | omega | refine imp_in (fun _ => ?_))
    refine vc_loopk L_ok mixed [3000003005] [0, 3] (fun _ : Unit => True) (fun _ => []) (fun _ => qObjs t H k ⟨r, [], .lit (.pointer none), 2⟩) (fun _ => 0) (by kernel_rfl) ?_ () trivial env_ok rfl
    rintro _ _
    unfold qObjs
    dsimp only
    repeat' (first | refine unhold ?_ | (simp -dsimp -implicitDefEqProofs (disch := (first | assumption | omega | (simp only [ll1, ll2, ll3, ll4, ll5, ll6, ll7, ll8]; omega))) only [go_sem, lk_k hkl, st_k hkl, pObj]) | refine vcI (fun _ => ?_) (fun _ => ?_) | (refine vcA ?_ ?_; focus (repeat' (first | omega | assumption | refine vcA ?_ ?_); done)) | omega | refine imp_in (fun _ => ?_))
    exact done_cut' (.str _) rfl low_pObj ⟨rfl, rfl⟩
end Go.Proofs.YtdahdbnfknmmgaaGreatDoor
end

section
set_option linter.unusedSimpArgs false
set_option linter.unusedVariables false
namespace Go.Proofs.YtdahdbnfknmmgaaGreatDoor
open Go V
set_option maxRecDepth 10000
set_option maxHeartbeats 4000000
theorem aset_mid {A B C B' : List AV} {n : Nat} (hn : n = A.length) (h : B.length = B'.length) : aset (A ++ B ++ C) n B' = A ++ B' ++ C := by
  subst hn
  refine List.ext_getElem? fun k => ?_
  rw [aset_get]
  simp only [List.length_append]
  by_cases h1 : k < A.length
  · rw [if_neg (by omega), List.append_assoc, List.append_assoc, List.getElem?_append_left h1, List.getElem?_append_left h1]
  · by_cases h2 : k < A.length + B'.length
    · rw [if_pos (by omega), List.getElem?_append_left (by simp; omega), List.getElem?_append_right (by omega)]
    · rw [if_neg (by omega), List.getElem?_append_right (by simp; omega), List.getElem?_append_right (by simp; omega)]
      congr 1
      simp
      omega
theorem flats_insert {xs : List AV} {x : AV} {i : Nat} (hi : i ≤ xs.length) : flats (xs.insertIdx i x) = flats (xs.take i) ++ x.flat ++ flats (xs.drop i) := by
  induction xs generalizing i with
  | nil => obtain rfl : i = 0 := by simpa using hi
           simp [flats]
  | cons a xs ih =>
    cases i with
    | zero => simp [flats]
    | succ i =>
      rw [List.insertIdx_succ_cons, flats_cons, ih (by simpa using hi), List.take_succ_cons, List.drop_succ_cons, flats_cons]
      simp
theorem mul_sub1 {n i s : Nat} : (n - i) * s = n * s - i * s := Nat.sub_mul n i s
/-- In place. -/
theorem ins_here {xs : List AV} {x : AV} {P : List AV} {s n i : Nat} (hu : ∀ y ∈ xs, y.flat.length = s) (hx : x.flat.length = s) (hn : xs.length = n) (hi : i ≤ n) (hP : s ≤ P.length) :
    (aset (aset (flats xs ++ P) ((i + 1) * s) (((flats xs ++ P).drop (i * s)).take ((n - i) * s))) (i * s) x.flat).take ((n + 1) * s) = flats (xs.insertIdx i x) := by
  have hA : (flats (xs.take i)).length = i * s := by rw [flats_len (s := s) fun y hy => hu y (List.mem_of_mem_take hy), List.length_take, Nat.min_eq_left (by omega)]
  have hB : (flats (xs.drop i)).length = (n - i) * s := by rw [flats_len (s := s) fun y hy => hu y (List.mem_of_mem_drop hy), List.length_drop, hn]
  have hsp : flats xs = flats (xs.take i) ++ flats (xs.drop i) := by rw [← flats_append, List.take_append_drop]
  rw [flats_insert (by omega), hsp]
  generalize flats (xs.take i) = A at *
  generalize flats (xs.drop i) = B at *
  have hz : ((A ++ B ++ P).drop (i * s)).take ((n - i) * s) = B := by
    rw [List.append_assoc, ← hA, List.drop_left, ← hB, List.take_left]
  rw [hz]
  have hW : ∃ U V, B ++ P.take s = U ++ V ∧ U.length = s ∧ V.length = B.length := ⟨(B ++ P.take s).take s, (B ++ P.take s).drop s, (List.take_append_drop ..).symm, by rw [List.length_take, List.length_append, List.length_take]; omega, by rw [List.length_drop, List.length_append, List.length_take]; omega⟩
  obtain ⟨U, V, hUV, hU, hV⟩ := hW
  have e1 : A ++ B ++ P = (A ++ U) ++ V ++ P.drop s := by
    rw [List.append_assoc A U V, ← hUV]
    simp
  rw [e1, aset_mid (by rw [List.length_append, hA, hU, Nat.add_mul, Nat.one_mul]) hV]
  have e2 : (A ++ U) ++ B ++ P.drop s = A ++ U ++ (B ++ P.drop s) := by simp
  rw [e2, aset_mid hA.symm (by rw [hU, hx])]
  have e3 : A ++ x.flat ++ (B ++ P.drop s) = (A ++ x.flat ++ B) ++ P.drop s := by simp
  rw [e3]
  have hl : (A ++ x.flat ++ B).length = (n + 1) * s := by
    rw [List.length_append, List.length_append, hA, hx, hB, mul_sub1, Nat.add_mul, Nat.one_mul]
    have := Nat.mul_le_mul_right s hi
    omega
  rw [← hl, List.take_left]
/-- In a new block. -/
theorem ins_new {xs : List AV} {x : AV} {s n i m : Nat} (hu : ∀ y ∈ xs, y.flat.length = s) (hx : x.flat.length = s) (hn : xs.length = n) (hi : i ≤ n) (hm : (n + 1 - i) * s ≤ m) :
    (aset (aset ((flats xs).take (i * s) ++ List.replicate m .any) (i * s) x.flat) ((i + 1) * s) ((flats xs).drop (i * s))).take ((n + 1) * s) = flats (xs.insertIdx i x) := by
  have hA : (flats (xs.take i)).length = i * s := by rw [flats_len (s := s) fun y hy => hu y (List.mem_of_mem_take hy), List.length_take, Nat.min_eq_left (by omega)]
  have hB : (flats (xs.drop i)).length = (n - i) * s := by rw [flats_len (s := s) fun y hy => hu y (List.mem_of_mem_drop hy), List.length_drop, hn]
  have hsp : flats xs = flats (xs.take i) ++ flats (xs.drop i) := by rw [← flats_append, List.take_append_drop]
  have hm2 : (n + 1 - i) * s = s + (n - i) * s := by rw [show n + 1 - i = (n - i) + 1 by omega, Nat.add_mul, Nat.one_mul, Nat.add_comm]
  rw [flats_insert (by omega), hsp]
  generalize flats (xs.take i) = A at *
  generalize flats (xs.drop i) = B at *
  have hz : (A ++ B).drop (i * s) = B := by rw [← hA, List.drop_left]
  have hy : (A ++ B).take (i * s) = A := by rw [← hA, List.take_left]
  rw [hz, hy]
  obtain ⟨r, hr⟩ : ∃ r, m = s + ((n - i) * s + r) := ⟨m - s - (n - i) * s, by omega⟩
  have e1 : A ++ List.replicate m AV.any = A ++ List.replicate s .any ++ (List.replicate ((n - i) * s) .any ++ List.replicate r .any) := by
    rw [hr, List.append_assoc, List.replicate_append_replicate, List.replicate_append_replicate]
  rw [e1, aset_mid hA.symm (by rw [List.length_replicate, hx])]
  have e2 : A ++ x.flat ++ (List.replicate ((n - i) * s) AV.any ++ List.replicate r .any) = (A ++ x.flat) ++ List.replicate ((n - i) * s) .any ++ List.replicate r .any := by simp
  rw [e2, aset_mid (by rw [List.length_append, hA, hx, Nat.add_mul, Nat.one_mul]) (by rw [List.length_replicate, hB])]
  have hl : (A ++ x.flat ++ B).length = (n + 1) * s := by
    rw [List.length_append, List.length_append, hA, hx, hB, mul_sub1, Nat.add_mul, Nat.one_mul]
    have := Nat.mul_le_mul_right s hi
    omega
  rw [← hl, List.take_left]
theorem okv_all {x : AV} (h : x.okv = true) : x.flat.all AV.scalar = true := by
  cases x <;> simp_all [AV.okv, AV.flat, AV.scalar]
theorem flats_all {xs : List AV} (h : ∀ y ∈ xs, y.okv = true) : (flats xs).all AV.scalar = true := by
  rw [List.all_eq_true]
  intro c hc
  unfold flats at hc
  obtain ⟨y, hy, hcy⟩ := List.mem_flatMap.1 hc
  exact List.all_eq_true.1 (okv_all (h y hy)) c hcy
theorem ins_uni {xs : List AV} {x : AV} {s i : Nat} (hu : ∀ y ∈ xs, y.flat.length = s ∧ y.okv = true) (hx : x.flat.length = s ∧ x.okv = true) (hi : i ≤ xs.length) : ∀ y ∈ xs.insertIdx i x, y.flat.length = s ∧ y.okv = true := fun y hy => by
  rcases (List.mem_insertIdx hi).1 hy with rfl | hy
  · exact hx
  · exact hu y hy
/-- Cells that are told in full may be told as a slice's elements. -/
theorem frz_msl {H : List AObj} {k s n cap : Nat} {sh : Shape} {cs xs : List AV} (ho : H[k]? = some (.cells sh cs)) (hx : xs.length = n) (hu : ∀ x ∈ xs, x.flat.length = s ∧ x.okv = true) (h : cs.take (n * s) = flats xs) : Frz1 H k (.msl k 0 n cap) (.sl .sh s xs) := by
  have hl : (flats xs).length ≤ cs.length := by rw [← h, List.length_take]; omega
  refine .msl 0 n cap s sh cs xs ho hx hu (by omega) fun j c y e1 e2 => ?_
  rw [Nat.zero_add] at e1
  have hj := lt_of_get e2
  rw [← h, List.getElem?_take] at e2
  split at e2
  · rw [e1] at e2
    cases e2
    exact .keep _
  · cases e2
theorem frz_row {H : List AObj} {sh : Shape} {k s n : Nat} {cs xs : List AV} (ho : H[k]? = some (.cells sh cs)) (hx : xs.length = n) (hu : ∀ x ∈ xs, x.flat.length = s ∧ x.okv = true) (h : cs = flats xs) : Frz1 H k (.mrow k n) (.sl .sh s xs) := by
  subst h
  refine .row n s sh _ xs ho hx hu (Nat.le_refl _) fun j c y e1 e2 => ?_
  rw [e1] at e2
  cases e2
  exact .keep _
theorem done_cut1 {H₀ M : List AObj} {R : AV → List AObj → Prop} {x : AV} {a : Nat} (hx : Low H₀.length x) (hr : R x (H₀.set a .gone)) : Done H₀ R x (H₀.set a .gone ++ M) := by
  unfold Done
  have hl : (H₀.set a AObj.gone).length = H₀.length := by simp
  refine ⟨x, (H₀.set a .gone ++ M).take H₀.length, ends_cut (Le.refl x) (Nat.le_refl _) hx fun i sh cs hi e => .inl ?_, ?_⟩
  · rw [List.getElem?_append_left (by rw [hl]; exact hi)] at e
    rcases get_set e with ⟨_, e'⟩ | ⟨_, e', _⟩
    · exact e'
    · cases e'
  · rw [List.take_append_of_le_length (by rw [hl]; exact Nat.le_refl _), List.take_of_length_le (by rw [hl]; exact Nat.le_refl _)]
    exact hr
theorem run_overlaps_b {P : Program} (w : World) (tS tR e : TypeId) (ht : P.underlying tS = some (.slice e)) (size : Nat) (hz : ∀ w, (Go.sizeOf e).run P w = .ok size w)
    (a b : Addr) (la ca lb cb : Nat) (hne : a.block ≠ b.block) (tA tB : TypeId) (kA kB : Nat)
    (hsa : w.shape? a.block = some (tA, kA)) (hsb : w.shape? b.block = some (tB, kB)) (hkA : kA ≠ 0) (hkB : kB ≠ 0)
    (hfb : w.frozen? b = false) (hfe : w.frozen? { block := b.block, off := kB } = false) :
    (Extern.SlicesOverlaps.overlaps #[tS, tS] #[tR] #[.slice (some a) la ca, .slice (some b) lb cb]).run P w = .ok (.bool false) w := by
  have hnb : (a.block != b.block) = true := by simpa using hne
  have hnb' : (a.block == b.block) = false := by simpa using hne
  change Sem.run P (α := Value) (do
    let some t := (#[tS, tS] : Array TypeId)[0]? | stuck "slices.overlaps: no parameter types"
    let .slice elem ← underlying t | stuck "slices.overlaps: slice type expected"
    let size ← sizeOf elem
    match (some a : Option Addr), (some b : Option Addr) with
    | some a, some b =>
      if la = 0 ∨ lb = 0 ∨ size = 0 then pure (Value.bool false)
      else if a.block != b.block && (← frozen a) && (← frozen b) then unsupported .addressObserved
      else do
        if a.block != b.block then do
          noView a; noView b
          if ← mayBeOne a b then return Value.bool ((← choose (.extern "sameAddr.stringBytes" 2)) == 1)
        pure (Value.bool (a.block == b.block && a.off < b.off + lb * size && b.off < a.off + la * size))
    | _, _ => pure (Value.bool false)) w = _
  by_cases h0 : la = 0 ∨ lb = 0 ∨ size = 0
  · simp [run_underlying ht, hz, h0]
  · obtain ⟨kA, rfl⟩ : ∃ n, kA = n + 1 := ⟨kA - 1, by omega⟩
    cases kB with
    | zero => exact absurd rfl hkB
    | succ kB =>
      cases hfa : w.frozen? a <;> cases hfx : w.frozen? ⟨a.block, kA + 1, none⟩ <;>
        simp [run_underlying ht, hz, h0, hnb, hnb', frozen, noView, viewAt, mayBeOne, stringish, shape, Sem.run, hsa, hsb, hfb, hfe, hfa, hfx]
/-- A slice that is empty gets a token. -/
theorem done_mint0 {H₀ H : List AObj} {R : AV → List AObj → Prop} {z s : Nat} (hs : 0 < s) (hr : Done H₀ R (.sl (.tok H.length) s []) (H ++ [.grow s 0 none])) : Done H₀ R (.sl .full z []) H := by
  unfold Done at hr ⊢
  obtain ⟨y, H'', he, hR⟩ := hr
  refine ⟨y, H'', ends_trans (fun G₀ w₀ G w v h0 hi hst r => ?_) he, hR⟩
  cases r with
  | sl _ _ _ ad len cap val hl hcap hs' hc hr' hf ha ho =>
    have r0 : Rel G H w (.sl .full z []) (.slice ad len cap) := .sl .full z [] ad len cap val hl hcap hs' hc hr' hf ha ho
    obtain ⟨hi', st', hr''⟩ := mint none hi r0 hs (fun h => absurd rfl h) (fun h => absurd rfl h)
    exact ⟨_, hi', hst.trans st', hr''⟩
theorem overlaps_s {o : Own} {s k off n cap : Nat} {T : TypeId} {cs xs : List AV} {H : List AObj} (hx : flats xs ≠ []) (hk : H[k]? = some (.cells (.one T) cs)) (hcs : cs ≠ []) : ACalls Tryz.prog 97 [.sl o s xs, .msl k off n cap] H (fun y H' => y = .bool false ∧ H' = H) :=
  acalls_extern (e := Extern.SlicesOverlaps.overlaps #[26, 26] #[4]) Tryz.func97 (by kernel_rfl) (by kernel_rfl) (by kernel_rfl) (by kernel_rfl) fun G w vs hi ha => by
    obtain ⟨v, u, rfl, hv, hu⟩ := relAll_2 ha
    obtain ⟨arr, T1, fr, hb, hs, hr, hf, hg, hh⟩ := hi.cells k _ cs hk
    obtain ⟨rfl, h2, h3⟩ := hh
    have hp1 : 0 < (flats xs).length := List.length_pos_iff.2 hx
    have hp2 : 0 < cs.length := List.length_pos_iff.2 hcs
    cases hv with
    | sl _ _ _ ad len cap' val hl hcap hs' hc hr' hf' ha' ho =>
    cases hu with
    | msl _ _ _ _ o2 g4 g5 g6 =>
    obtain ⟨b1, off1, rfl, himm, hcell⟩ := hc 0 _ (List.getElem?_eq_getElem hp1)
    have hne : b1 ≠ G.blk k := fun e => hf _ (e ▸ himm)
    obtain ⟨a1, e1, f1, hb1⟩ : ∃ a1 e1 f1, w.heap[b1]? = some (.cells a1 e1 f1) := by
      unfold World.cell? at hcell
      simp only at hcell
      split at hcell
      · rename_i h; exact ⟨_, _, _, h⟩
      · cases hcell
    have hka : a1.size ≠ 0 := by
      rw [cell_row hb1] at hcell
      intro e
      rw [Array.getElem?_eq_none (by omega)] at hcell
      cases hcell
    refine ⟨_, w, _, G, H, run_overlaps_b w 26 4 9 Tryz.underlying26 1 (fun w => by simp) ⟨b1, off1, none⟩ ⟨G.blk k, off, none⟩ _ _ n cap hne e1 T1 a1.size arr.size (by simp [World.shape?, hb1]) (by simp [World.shape?, hb]) hka (by omega) ?_ ?_, hi, .refl _ _ _, .lit _, rfl, rfl⟩
    all_goals simp [World.frozen?, hb, h3]
theorem Insert_s {k n i : Nat} {xs : List AV} {x : AV} {H : List AObj} (hk : H[k]? = some (.cells (.prow 1) (flats xs))) (hn : xs.length = n) (hu : ∀ y ∈ xs, y.flat.length = 1 ∧ y.okv = true) (hx : x.flat.length = 1 ∧ x.okv = true) (hi : i ≤ n) (hl : n ≤ 100000)
    (hlow : ∀ m, Low m (.sl .sh 1 (xs.insertIdx i x))) : ACalls Tryz.prog 67 [.mrow k n, .lit (.int .i64 i), .sl .full 1 [x]] H (fun y H' => y = .sl .sh 1 (xs.insertIdx i x) ∧ H' = H.set k .gone) := by
  have hkl := lt_of_get hk
  have hfl : (flats xs).length = n * 1 := by rw [flats_len (s := 1) fun y hy => (hu y hy).1, hn]
  by_cases hin : i = n
  · subst hin
    have hins : xs.insertIdx i x = xs ++ [x] := by rw [← hn]; exact List.insertIdx_length_self
    · have hll : (H.set k AObj.gone).length = H.length := by simp
      refine acalls_vc L_ok mixed [1000011, 1000015] (rs := [.tmp 6]) (n := 95) Tryz.func67 rfl rfl rfl rfl (Nat.le_of_ble_eq_true rfl) (by kernel_rfl) ?_
      repeat' (first | refine unhold ?_ | (simp -dsimp -implicitDefEqProofs (disch := (first | assumption | omega | (simp only [ll1, ll2, ll3, ll4, ll5, ll6, ll7, ll8]; omega))) only [go_sem, hk, hfl, hx.1, hx.2]) | refine vcI (fun _ => ?_) (fun _ => ?_) | (refine vcA ?_ ?_; focus (repeat' (first | omega | assumption | refine vcA ?_ ?_); done)) | omega | refine imp_in (fun _ => ?_))
      have hnew : (H.set k AObj.gone ++ [AObj.cells (.prow 1) (flats xs ++ flats [x])])[H.length]? = some (.cells (.prow 1) (flats xs ++ flats [x])) := by rw [← hll]; exact h_at0
      refine done_fr1 (H' := []) hnew (frz_row (xs := xs ++ [x]) hnew (by simp [hn]) (by rw [← hins]; exact ins_uni hu hx (by omega)) (by rw [flats_append])) ?_
      rw [hs0 hll.symm, List.set_cons_zero]
      have := hlow H.length
      rw [hins] at this ⊢
      exact done_cut' (o := .gone) this rfl (fun sh cs e => by cases e) ⟨rfl, rfl⟩
  · refine acalls_open (xs1 := []) hk (by rw [hfl]) fun T cap hcap => ?_
    rw [List.nil_append]
    generalize hP : List.replicate ((cap - n) * 1) AV.any = P
    have hPl : P.length = (cap - n) * 1 := by rw [← hP, List.length_replicate]
    have hall := flats_all fun y hy => (hu y hy).2
    have hsc : (((flats xs ++ P).drop (i * 1)).take ((n - i) * 1)).all AV.scalar = true := by
      have hle := Nat.mul_le_mul_right 1 hi
      rw [List.drop_append_of_le_length (by omega), List.take_append_of_le_length (by rw [List.length_drop]; omega), List.all_eq_true]
      intro c hc
      exact List.all_eq_true.1 hall c (List.mem_of_mem_drop (List.mem_of_mem_take hc))
    have hsd : ((flats xs).drop (i * 1)).all AV.scalar = true := by
      rw [List.all_eq_true]
      intro c hc
      exact List.all_eq_true.1 hall c (List.mem_of_mem_drop hc)
    try simp only [Nat.mul_one] at hsc hsd
    have hmin : min (n + 1 - i) (n + 1 - (i + 1)) = n - i := by omega
    have hxs := okv_all hx.2
    have hfx : flats [x] = x.flat := by simp [flats]
    have hx0 : x.flat ≠ [] := fun e => by have := hx.1; rw [e] at this; cases this
    have hf0 : flats xs ++ P ≠ [] := fun e => by have := congrArg List.length e; rw [List.length_append, hfl] at this; simp only [List.length_nil] at this; omega
    have hov := fun off m c => overlaps_s (o := .full) (s := 1) (xs := [x]) (off := off) (n := m) (cap := c) (H := H.set k (.cells (.one T) (flats xs ++ P))) (by simp [flats, hx0]) (hss hkl) hf0
    have hI : ((i : Int) + 1).toNat = i + 1 := by omega
    have hN1 : ((n : Int) + 1).toNat = n + 1 := by omega
    have hNI : ((n : Int) + 1 - (i : Int)).toNat = n + 1 - i := by omega
    have hsum : i + (n + 1 - i) = n + 1 := by omega
    have hci : ((cap : Int) = (i : Int)) = False := eq_false (by omega)
    have hin' : ((i : Int) = (n : Int)) = False := eq_false (by omega)
    by_cases hc : n + 1 ≤ cap
    · have hcI : ((cap : Int) = (i : Int) + 1) = False := eq_false (by omega)
      have hcc : (((cap : Nat) : Int) < (n : Int) + 1) = False := eq_false (by omega)
      refine acalls_vc L_ok mixed [1000011, 1000015] (rs := [.tmp 6]) (n := 95) Tryz.func67 rfl rfl rfl rfl (Nat.le_of_ble_eq_true rfl) (by kernel_rfl) ?_
      repeat' (first | refine unhold ?_ | (simp -dsimp -implicitDefEqProofs (disch := (first | assumption | omega | (simp only [ll1, ll2, ll3, ll4, ll5, ll6, ll7, ll8]; omega))) only [go_sem, hsn, hss, hPl, hfl, hsc, hxs, hx.1, hx.2, hI, hN1, hNI, hsum, hci, hin', hcI, hcc, Nat.sub_zero, aset_len, hmin]) | refine acalls_same (hov _ _ _) ?_ | refine ⟨_, hov _ _ _, ?_⟩ | refine ⟨_, _, hov _ _ _, ?_⟩ | refine vcI (fun _ => ?_) (fun _ => ?_) | (refine vcA ?_ ?_; focus (repeat' (first | omega | assumption | refine vcA ?_ ?_); done)) | omega | refine imp_in (fun _ => ?_))
      have hres := ins_here (s := 1) (P := P) (fun y hy => (hu y hy).1) hx.1 hn hi (by omega)
      try simp only [Nat.mul_one] at hres
      refine done_fr1 (H' := []) (k := k) (hss hkl) (frz_msl (s := 1) (xs := xs.insertIdx i x) (hss hkl) (by rw [List.length_insertIdx_of_le_length (by omega)]; omega) (ins_uni hu hx (by omega)) (by rw [hfx]; first | exact hres | (rw [Nat.mul_one]; exact hres))) ?_
      rw [List.set_set]
      exact done_keep _ (Le.refl _) (by simp) ⟨rfl, rfl⟩
    · have hcc : (((cap : Nat) : Int) < (n : Int) + 1) = True := eq_true (by omega)
      obtain rfl : cap = n := by omega
      have hP0 : P = [] := by rw [← hP, Nat.sub_self, Nat.zero_mul]; rfl
      rw [hP0, List.append_nil]
      clear hov hsc hf0
      refine acalls_vc L_ok mixed [1000011, 1000015] (rs := [.tmp 6]) (n := 95) Tryz.func67 rfl rfl rfl rfl (Nat.le_of_ble_eq_true rfl) (by kernel_rfl) ?_
      repeat' (first | refine unhold ?_ | (simp -dsimp -implicitDefEqProofs (disch := (first | assumption | omega | (simp only [ll1, ll2, ll3, ll4, ll5, ll6, ll7, ll8]; omega))) only [go_sem, hsn, hss, hfl, hsd, hxs, hx.1, hx.2, hI, hN1, hNI, hsum, hci, hin', hcc, Nat.sub_zero, aset_len]) | refine vcI (fun _ => ?_) (fun _ => ?_) | (refine vcA ?_ ?_; focus (repeat' (first | omega | assumption | refine vcA ?_ ?_); done)) | omega | refine imp_in (fun _ => ?_))
      intro z
      have hz1 : (((cap + 1 + z : Nat) : Int) = (i : Int)) = False := eq_false (by omega)
      have hz2 : (((cap + 1 + z : Nat) : Int) = (i : Int) + 1) = False := eq_false (by omega)
      repeat' (first | refine unhold ?_ | (simp -dsimp -implicitDefEqProofs (disch := (first | assumption | omega | (simp only [ll1, ll2, ll3, ll4, ll5, ll6, ll7, ll8]; omega))) only [go_sem, hsn, hss, hfl, hsd, hxs, hx.1, hx.2, hI, hN1, hNI, hsum, hci, hin', hcc, Nat.sub_zero, lk_b, st_b, hz1, hz2, aset_len]) | refine vcI (fun _ => ?_) (fun _ => ?_) | (refine vcA ?_ ?_; focus (repeat' (first | omega | assumption | refine vcA ?_ ?_); done)) | omega | refine imp_in (fun _ => ?_))
      have hres := ins_new (s := 1) (m := (cap + 1 - i + z) * 1) (fun y hy => (hu y hy).1) hx.1 hn hi (Nat.mul_le_mul_right _ (by omega))
      try simp only [Nat.mul_one] at hres
      refine done_fr1 (H' := []) (k := H.length) lk_b (frz_msl (s := 1) (xs := xs.insertIdx i x) lk_b (by rw [List.length_insertIdx_of_le_length (by omega)]; omega) (ins_uni hu hx (by omega)) (by rw [hfx]; first | exact hres | (rw [Nat.mul_one]; exact hres))) ?_
      rw [st_b, List.set_cons_zero]
      refine done_fr1 (H' := []) (k := k) (lk_k hkl) (.keep _) ?_
      rw [st_k hkl]
      rw [show (H.set k AObj.gone) = (H.set k (AObj.cells (.one T) (flats xs))).set k .gone from (List.set_set ..).symm]
      exact done_cut1 (hlow _) ⟨rfl, rfl⟩
theorem overlaps_j {o : Own} {s k off n cap : Nat} {T : TypeId} {cs xs : List AV} {H : List AObj} (hx : flats xs ≠ []) (hk : H[k]? = some (.cells (.one T) cs)) (hcs : cs ≠ []) : ACalls Tryz.prog 99 [.sl o s xs, .msl k off n cap] H (fun y H' => y = .bool false ∧ H' = H) :=
  acalls_extern (e := Extern.SlicesOverlaps.overlaps #[27, 27] #[4]) Tryz.func99 (by kernel_rfl) (by kernel_rfl) (by kernel_rfl) (by kernel_rfl) fun G w vs hi ha => by
    obtain ⟨v, u, rfl, hv, hu⟩ := relAll_2 ha
    obtain ⟨arr, T1, fr, hb, hs, hr, hf, hg, hh⟩ := hi.cells k _ cs hk
    obtain ⟨rfl, h2, h3⟩ := hh
    have hp1 : 0 < (flats xs).length := List.length_pos_iff.2 hx
    have hp2 : 0 < cs.length := List.length_pos_iff.2 hcs
    cases hv with
    | sl _ _ _ ad len cap' val hl hcap hs' hc hr' hf' ha' ho =>
    cases hu with
    | msl _ _ _ _ o2 g4 g5 g6 =>
    obtain ⟨b1, off1, rfl, himm, hcell⟩ := hc 0 _ (List.getElem?_eq_getElem hp1)
    have hne : b1 ≠ G.blk k := fun e => hf _ (e ▸ himm)
    obtain ⟨a1, e1, f1, hb1⟩ : ∃ a1 e1 f1, w.heap[b1]? = some (.cells a1 e1 f1) := by
      unfold World.cell? at hcell
      simp only at hcell
      split at hcell
      · rename_i h; exact ⟨_, _, _, h⟩
      · cases hcell
    have hka : a1.size ≠ 0 := by
      rw [cell_row hb1] at hcell
      intro e
      rw [Array.getElem?_eq_none (by omega)] at hcell
      cases hcell
    refine ⟨_, w, _, G, H, run_overlaps_b w 27 4 29 Tryz.underlying27 5 (fun w => by simp) ⟨b1, off1, none⟩ ⟨G.blk k, off, none⟩ _ _ n cap hne e1 T1 a1.size arr.size (by simp [World.shape?, hb1]) (by simp [World.shape?, hb]) hka (by omega) ?_ ?_, hi, .refl _ _ _, .lit _, rfl, rfl⟩
    all_goals simp [World.frozen?, hb, h3]
theorem Insert_j {k n i : Nat} {xs : List AV} {x : AV} {H : List AObj} (hk : H[k]? = some (.cells (.prow 5) (flats xs))) (hn : xs.length = n) (hu : ∀ y ∈ xs, y.flat.length = 5 ∧ y.okv = true) (hx : x.flat.length = 5 ∧ x.okv = true) (hi : i ≤ n) (hl : n ≤ 100000)
    (hlow : ∀ m, Low m (.sl .sh 5 (xs.insertIdx i x))) : ACalls Tryz.prog 68 [.mrow k n, .lit (.int .i64 i), .sl .full 5 [x]] H (fun y H' => y = .sl .sh 5 (xs.insertIdx i x) ∧ H' = H.set k .gone) := by
  have hkl := lt_of_get hk
  have hfl : (flats xs).length = n * 5 := by rw [flats_len (s := 5) fun y hy => (hu y hy).1, hn]
  by_cases hin : i = n
  · subst hin
    have hins : xs.insertIdx i x = xs ++ [x] := by rw [← hn]; exact List.insertIdx_length_self
    · have hll : (H.set k AObj.gone).length = H.length := by simp
      refine acalls_vc L_ok mixed [1000011, 1000015] (rs := [.tmp 6]) (n := 95) Tryz.func68 rfl rfl rfl rfl (Nat.le_of_ble_eq_true rfl) (by kernel_rfl) ?_
      repeat' (first | refine unhold ?_ | (simp -dsimp -implicitDefEqProofs (disch := (first | assumption | omega | (simp only [ll1, ll2, ll3, ll4, ll5, ll6, ll7, ll8]; omega))) only [go_sem, hk, hfl, hx.1, hx.2]) | refine vcI (fun _ => ?_) (fun _ => ?_) | (refine vcA ?_ ?_; focus (repeat' (first | omega | assumption | refine vcA ?_ ?_); done)) | omega | refine imp_in (fun _ => ?_))
      have hnew : (H.set k AObj.gone ++ [AObj.cells (.prow 5) (flats xs ++ flats [x])])[H.length]? = some (.cells (.prow 5) (flats xs ++ flats [x])) := by rw [← hll]; exact h_at0
      refine done_fr1 (H' := []) hnew (frz_row (xs := xs ++ [x]) hnew (by simp [hn]) (by rw [← hins]; exact ins_uni hu hx (by omega)) (by rw [flats_append])) ?_
      rw [hs0 hll.symm, List.set_cons_zero]
      have := hlow H.length
      rw [hins] at this ⊢
      exact done_cut' (o := .gone) this rfl (fun sh cs e => by cases e) ⟨rfl, rfl⟩
  · refine acalls_open (xs1 := []) hk (by rw [hfl]) fun T cap hcap => ?_
    rw [List.nil_append]
    generalize hP : List.replicate ((cap - n) * 5) AV.any = P
    have hPl : P.length = (cap - n) * 5 := by rw [← hP, List.length_replicate]
    have hall := flats_all fun y hy => (hu y hy).2
    have hsc : (((flats xs ++ P).drop (i * 5)).take ((n - i) * 5)).all AV.scalar = true := by
      have hle := Nat.mul_le_mul_right 5 hi
      rw [List.drop_append_of_le_length (by omega), List.take_append_of_le_length (by rw [List.length_drop]; omega), List.all_eq_true]
      intro c hc
      exact List.all_eq_true.1 hall c (List.mem_of_mem_drop (List.mem_of_mem_take hc))
    have hsd : ((flats xs).drop (i * 5)).all AV.scalar = true := by
      rw [List.all_eq_true]
      intro c hc
      exact List.all_eq_true.1 hall c (List.mem_of_mem_drop hc)
    try simp only [Nat.mul_one] at hsc hsd
    have hmin : min (n + 1 - i) (n + 1 - (i + 1)) = n - i := by omega
    have hxs := okv_all hx.2
    have hfx : flats [x] = x.flat := by simp [flats]
    have hx0 : x.flat ≠ [] := fun e => by have := hx.1; rw [e] at this; cases this
    have hf0 : flats xs ++ P ≠ [] := fun e => by have := congrArg List.length e; rw [List.length_append, hfl] at this; simp only [List.length_nil] at this; omega
    have hov := fun off m c => overlaps_j (o := .full) (s := 5) (xs := [x]) (off := off) (n := m) (cap := c) (H := H.set k (.cells (.one T) (flats xs ++ P))) (by simp [flats, hx0]) (hss hkl) hf0
    have hI : ((i : Int) + 1).toNat = i + 1 := by omega
    have hN1 : ((n : Int) + 1).toNat = n + 1 := by omega
    have hNI : ((n : Int) + 1 - (i : Int)).toNat = n + 1 - i := by omega
    have hsum : i + (n + 1 - i) = n + 1 := by omega
    have hci : ((cap : Int) = (i : Int)) = False := eq_false (by omega)
    have hin' : ((i : Int) = (n : Int)) = False := eq_false (by omega)
    by_cases hc : n + 1 ≤ cap
    · have hcI : ((cap : Int) = (i : Int) + 1) = False := eq_false (by omega)
      have hcc : (((cap : Nat) : Int) < (n : Int) + 1) = False := eq_false (by omega)
      refine acalls_vc L_ok mixed [1000011, 1000015] (rs := [.tmp 6]) (n := 95) Tryz.func68 rfl rfl rfl rfl (Nat.le_of_ble_eq_true rfl) (by kernel_rfl) ?_
      repeat' (first | refine unhold ?_ | (simp -dsimp -implicitDefEqProofs (disch := (first | assumption | omega | (simp only [ll1, ll2, ll3, ll4, ll5, ll6, ll7, ll8]; omega))) only [go_sem, hsn, hss, hPl, hfl, hsc, hxs, hx.1, hx.2, hI, hN1, hNI, hsum, hci, hin', hcI, hcc, Nat.sub_zero, aset_len, hmin]) | refine acalls_same (hov _ _ _) ?_ | refine ⟨_, hov _ _ _, ?_⟩ | refine ⟨_, _, hov _ _ _, ?_⟩ | refine vcI (fun _ => ?_) (fun _ => ?_) | (refine vcA ?_ ?_; focus (repeat' (first | omega | assumption | refine vcA ?_ ?_); done)) | omega | refine imp_in (fun _ => ?_))
      have hres := ins_here (s := 5) (P := P) (fun y hy => (hu y hy).1) hx.1 hn hi (by omega)
      try simp only [Nat.mul_one] at hres
      refine done_fr1 (H' := []) (k := k) (hss hkl) (frz_msl (s := 5) (xs := xs.insertIdx i x) (hss hkl) (by rw [List.length_insertIdx_of_le_length (by omega)]; omega) (ins_uni hu hx (by omega)) (by rw [hfx]; first | exact hres | (rw [Nat.mul_one]; exact hres))) ?_
      rw [List.set_set]
      exact done_keep _ (Le.refl _) (by simp) ⟨rfl, rfl⟩
    · have hcc : (((cap : Nat) : Int) < (n : Int) + 1) = True := eq_true (by omega)
      obtain rfl : cap = n := by omega
      have hP0 : P = [] := by rw [← hP, Nat.sub_self, Nat.zero_mul]; rfl
      rw [hP0, List.append_nil]
      clear hov hsc hf0
      refine acalls_vc L_ok mixed [1000011, 1000015] (rs := [.tmp 6]) (n := 95) Tryz.func68 rfl rfl rfl rfl (Nat.le_of_ble_eq_true rfl) (by kernel_rfl) ?_
      repeat' (first | refine unhold ?_ | (simp -dsimp -implicitDefEqProofs (disch := (first | assumption | omega | (simp only [ll1, ll2, ll3, ll4, ll5, ll6, ll7, ll8]; omega))) only [go_sem, hsn, hss, hfl, hsd, hxs, hx.1, hx.2, hI, hN1, hNI, hsum, hci, hin', hcc, Nat.sub_zero, aset_len]) | refine vcI (fun _ => ?_) (fun _ => ?_) | (refine vcA ?_ ?_; focus (repeat' (first | omega | assumption | refine vcA ?_ ?_); done)) | omega | refine imp_in (fun _ => ?_))
      intro z
      have hz1 : (((cap + 1 + z : Nat) : Int) = (i : Int)) = False := eq_false (by omega)
      have hz2 : (((cap + 1 + z : Nat) : Int) = (i : Int) + 1) = False := eq_false (by omega)
      repeat' (first | refine unhold ?_ | (simp -dsimp -implicitDefEqProofs (disch := (first | assumption | omega | (simp only [ll1, ll2, ll3, ll4, ll5, ll6, ll7, ll8]; omega))) only [go_sem, hsn, hss, hfl, hsd, hxs, hx.1, hx.2, hI, hN1, hNI, hsum, hci, hin', hcc, Nat.sub_zero, lk_b, st_b, hz1, hz2, aset_len]) | refine vcI (fun _ => ?_) (fun _ => ?_) | (refine vcA ?_ ?_; focus (repeat' (first | omega | assumption | refine vcA ?_ ?_); done)) | omega | refine imp_in (fun _ => ?_))
      have hres := ins_new (s := 5) (m := (cap + 1 - i + z) * 5) (fun y hy => (hu y hy).1) hx.1 hn hi (Nat.mul_le_mul_right _ (by omega))
      try simp only [Nat.mul_one] at hres
      refine done_fr1 (H' := []) (k := H.length) lk_b (frz_msl (s := 5) (xs := xs.insertIdx i x) lk_b (by rw [List.length_insertIdx_of_le_length (by omega)]; omega) (ins_uni hu hx (by omega)) (by rw [hfx]; first | exact hres | (rw [Nat.mul_one]; exact hres))) ?_
      rw [st_b, List.set_cons_zero]
      refine done_fr1 (H' := []) (k := k) (lk_k hkl) (.keep _) ?_
      rw [st_k hkl]
      rw [show (H.set k AObj.gone) = (H.set k (AObj.cells (.one T) (flats xs))).set k .gone from (List.set_set ..).symm]
      exact done_cut1 (hlow _) ⟨rfl, rfl⟩
end Go.Proofs.YtdahdbnfknmmgaaGreatDoor
end

section
set_option linter.unusedSimpArgs false
set_option linter.unusedVariables false
namespace Go.Proofs.YtdahdbnfknmmgaaGreatDoor
open Go V
set_option maxRecDepth 10000
set_option maxHeartbeats 4000000
theorem tw_len {p : UInt8 → Bool} : ∀ {r : bytes} {n : Nat}, n ≤ r.length → (∀ j, j < n → p (r.getD j 0) = true) → (n < r.length → p (r.getD n 0) = false) → (r.takeWhile p).length = n
  | [], n, h, _, _ => by simp at h; simp [h]
  | a :: r, n, h, h1, h2 => by
    rw [List.takeWhile_cons]
    cases n with
    | zero =>
      have := h2 (by simp)
      simp at this
      simp [this]
    | succ n =>
      have := h1 0 (by omega)
      simp at this
      rw [this]
      simp only [if_true, List.length_cons]
      rw [tw_len (r := r) (n := n) (by simpa using h) (fun j hj => by simpa using h1 (j + 1) (by omega)) (fun hn => by simpa using h2 (by simpa using hn))]
theorem suf_get {r t : bytes} (h : r <:+ t) (n : Nat) : t.getD (t.length - r.length + n) 0 = r.getD n 0 := by
  obtain ⟨p, rfl⟩ := h
  have : (p ++ r).length - r.length = p.length := by simp
  rw [this, List.getD, List.getElem?_append_right (by omega), Nat.add_sub_cancel_left, List.getD]
theorem digit_iff (c : UInt8) : isDigit c = decide (48 ≤ (c.toNat : Int) ∧ (c.toNat : Int) ≤ 57) := by
  unfold isDigit
  rw [decide_eq_decide]
  omega
theorem digits_c {k : Nat} {t r : bytes} {e : Int} {H : List AObj} (hk : H[k]? = some (pObj t r e)) (hs : r <:+ t) (hl : t.length ≤ 10000) :
    ACalls Tryz.prog 76 [.mp k 0] H (fun x H' => x = .int .i64 ((r.takeWhile isDigit).length : Nat) ∧ H' = H) := by
  have h1 := suf_len hs
  unfold pObj at *
  refine acalls_vc L_ok mixed [1000002] (rs := [.tmp 2]) (n := 53) Tryz.func76 rfl rfl rfl rfl (Nat.le_of_ble_eq_true rfl) (by kernel_rfl) ?_
  repeat' (first | refine unhold ?_ | (simp -dsimp -implicitDefEqProofs (disch := (first | assumption | omega | (simp only [ll1, ll2, ll3, ll4, ll5, ll6, ll7, ll8]; omega))) only [go_sem]) | refine vcI (fun _ => ?_) (fun _ => ?_) | (refine vcA ?_ ?_; focus (repeat' (first | omega | assumption | refine vcA ?_ ?_); done)) | omega | refine imp_in (fun _ => ?_))
  refine vc_loopk L_ok mixed [1000002] [0, 2] (fun n : Nat => n ≤ r.length ∧ ∀ j, j < n → isDigit (r.getD j 0) = true) (fun n => [(3, .int .i64 n)]) (fun _ => H) (fun n => r.length - n) (by kernel_rfl) ?_ 0 ⟨by omega, fun j hj => by omega⟩ env_ok rfl
  rintro n ⟨hn, hp⟩
  have hg : t.getD (((t.length - r.length : Nat) : Int) + (n : Int)).toNat 0 = r.getD n 0 := by rw [← suf_get hs n]; congr 1
  have hd := digit_iff (r.getD n 0)
  repeat' (first | refine unhold ?_ | (simp -dsimp -implicitDefEqProofs (disch := (first | assumption | omega | (simp only [ll1, ll2, ll3, ll4, ll5, ll6, ll7, ll8]; omega))) only [go_sem, hk, hg]) | refine vcI (fun _ => ?_) (fun _ => ?_) | (refine vcA ?_ ?_; focus (repeat' (first | omega | assumption | refine vcA ?_ ?_); done)) | omega | refine imp_in (fun _ => ?_))
  · rename_i e1 e2 e3
    refine again (n + 1) ?_ ?_ rfl env_ok
    · omega
    · exact ⟨by omega, upto_succ hp (by rw [hd]; exact decide_eq_true ⟨by omega, by omega⟩)⟩
  all_goals
    refine done_same ⟨int_eq ?_, rfl⟩
    rw [tw_len hn hp fun h => by rw [hd]; exact decide_eq_false fun h2 => by omega]
theorem tw_le (p : UInt8 → Bool) (r : bytes) : (r.takeWhile p).length ≤ r.length := (List.takeWhile_sublist p).length_le
theorem tw_get {p : UInt8 → Bool} : ∀ {r : bytes} {j : Nat}, j < (r.takeWhile p).length → p (r.getD j 0) = true
  | [], j, h => by simp at h
  | a :: r, j, h => by
    rw [List.takeWhile_cons] at h
    split at h
    · rename_i ha
      cases j with
      | zero => simpa using ha
      | succ j => simpa using tw_get (r := r) (j := j) (by simpa using h)
    · simp at h
theorem numLen_le (r : bytes) : numLen r ≤ r.length := by
  unfold numLen
  split
  · rename_i h
    exact peek_pos (by rw [h]; decide)
  · exact tw_le _ _
theorem numLen_digit {r : bytes} {j : Nat} (h : j < numLen r) : isDigit (r.getD j 0) = true := by
  unfold numLen at h
  split at h
  · rename_i h0
    obtain rfl : j = 0 := by omega
    have := peek_pos (r := r) (by rw [h0]; decide)
    cases r with
    | nil => simp at this
    | cons a r => simp only [peek, List.headD_cons] at h0; subst h0; rfl
  · exact tw_get h
theorem take_getD {r : bytes} {n j : Nat} (h : j < n) : (r.take n).getD j 0 = r.getD j 0 := by
  rw [List.getD, List.getElem?_take, if_pos h, List.getD]
theorem num_digits {r : bytes} {n : Nat} (hn : n = numLen r) : ∀ i, i < (r.take n).length → 48 ≤ ((r.take n).getD i 0).toNat ∧ ((r.take n).getD i 0).toNat ≤ 57 := fun i hi => by
  rw [List.length_take] at hi
  have := numLen_digit (r := r) (j := i) (by omega)
  rw [take_getD (by omega)]
  exact of_decide_eq_true this
theorem intE_val {n : Nat} (h : n < 9223372036854775808) : intE n = .tup [.lit (.int .i64 n), .lit .nilIface] := if_pos h
theorem intE_big {n : Nat} (h : ¬ n < 9223372036854775808) : intE n = .tup [.lit (.int .i64 9223372036854775807), .ifc 162 .any] := if_neg h
theorem suf_numGo {b : Bool} {r t : bytes} (h : r <:+ t) : (numGo b r).2.1 <:+ t := by
  unfold numGo
  split
  · exact h
  · split
    · exact suf_drop_n h _
    · exact suf_drop_n h _
theorem suf_num {r t : bytes} (h : r <:+ t) : (numP r).2.1 <:+ t := by
  unfold numP
  cases e : skipW [45] r with
  | none => exact suf_numGo h
  | some r2 => exact suf_numGo (suf_skip h e)
theorem number_c {k : Nat} {t r : bytes} {H : List AObj} (hk : H[k]? = some (pObj t r 0)) (hs : r <:+ t) (hl : t.length ≤ 10000) :
    ACalls Tryz.prog 56 [.mp k 0] H (fun x H' => x = .int .i64 (numP r).1 ∧ H' = H.set k (pObj t (numP r).2.1 (numP r).2.2)) := by
  have hkl := lt_of_get hk
  have hc := skip_c (w := [45]) hk hs hl (by decide)
  obtain ⟨b, r1, hb, hnp, hs1⟩ : ∃ b r1, ((skipW [45] r).isSome = b ∧ (skipW [45] r).getD r = r1) ∧ numP r = numGo b r1 ∧ r1 <:+ t := by
    cases e : skipW [45] r with
    | none => exact ⟨false, r, ⟨rfl, rfl⟩, by rw [numP, e], hs⟩
    | some r2 => exact ⟨true, r2, ⟨rfl, rfl⟩, by rw [numP, e], suf_skip hs e⟩
  rw [hb.1, hb.2] at hc
  rw [hnp]
  clear hb hnp
  have hrl := suf_len hs1
  have hnl := numLen_le r1
  have hdg := digits_c (e := 0) (hss (H := H) hkl) hs1 hl
  have hpk := peek_c (e := 0) (hss (H := H) hkl) hs1 hl
  have htw := tw_le isDigit r1
  have hnum : numLen r1 = if peek r1 = 48 then 1 else (r1.takeWhile isDigit).length := rfl
  have hdd := num_digits (r := r1) rfl
  have hdrop : t.drop (t.length - r1.length) = r1 := suf_drop hs1
  by_cases c48 : peek r1 = 48
  · have h48 : ((peek r1).toNat : Int) = 48 := by rw [c48]; rfl
    rw [if_pos c48] at hnum
    cases b with
    | true =>
      have hgo : numGo true r1 = (0, r1, 2) := by rw [numGo, if_pos (by exact .inr ⟨rfl, c48⟩)]
      rw [hgo]
      refine acalls_vc L_ok mixed [1000008] (rs := [.tmp 2]) (n := 76) Tryz.func56 rfl rfl rfl rfl (Nat.le_of_ble_eq_true rfl) (by kernel_rfl) ?_
      repeat' (first | refine unhold ?_ | (simp -dsimp -implicitDefEqProofs (disch := (first | assumption | omega | (simp only [ll1, ll2, ll3, ll4, ll5, ll6, ll7, ll8]; omega))) only [go_sem, h48]) | refine acalls_same (hc) ?_ | refine ⟨_, hc, ?_⟩ | refine ⟨_, _, hc, ?_⟩ | refine acalls_same (hdg) ?_ | refine ⟨_, hdg, ?_⟩ | refine ⟨_, _, hdg, ?_⟩ | refine acalls_same (hpk) ?_ | refine ⟨_, hpk, ?_⟩ | refine ⟨_, _, hpk, ?_⟩ | refine acalls_same (fail_c (hss hkl)) ?_ | refine ⟨_, fail_c (hss hkl), ?_⟩ | refine ⟨_, _, fail_c (hss hkl), ?_⟩ | refine vcI (fun _ => ?_) (fun _ => ?_) | (refine vcA ?_ ?_; focus (repeat' (first | omega | assumption | refine vcA ?_ ?_); done)) | omega | refine imp_in (fun _ => ?_))
      all_goals exact done_keep _ (Le.refl _) len_set ⟨rfl, rfl⟩
    | false =>
      have hn : numLen r1 = 1 := by exact hnum
      have hcond : ¬ (numLen r1 = 0 ∨ (false = true ∧ peek r1 = 48)) := by rw [hnum]; simp
      rw [hn] at hnl hdd hcond
      have hgo1 : (((t.length - r1.length : Nat) : Int) + 1).toNat - (t.length - r1.length) = 1 := by omega
      have hcl : AObj.cells (.one 59) [.str t, .lit (.int .i64 (((t.length - r1.length : Nat) : Int) + 1)), .lit (.int .i64 0)] = pObj t (r1.drop 1) 0 := pc (by rw [List.length_drop]; omega)
      have hfl : ACalls Tryz.prog 30 [.mp k 0, .lit (.int .i64 5)] (H.set k (AObj.cells (.one 59) [.str t, .lit (.int .i64 (((t.length - r1.length : Nat) : Int) + 1)), .lit (.int .i64 0)])) (fun x H' => x = .tup [] ∧ H' = H.set k (pObj t (r1.drop 1) 5)) := by
        rw [hcl]
        exact (fail_c (hss hkl)).mono fun x H' h => ⟨h.1, by rw [h.2, List.set_set, if_pos rfl]⟩
      have hne : r1.take 1 ≠ [] := by
        intro e
        have := congrArg List.length e
        rw [List.length_take, List.length_nil] at this
        omega
      have hpi := fun H => ParseInt10_c (r1.take 1) H hne (by rw [List.length_take]; omega) hdd
      have hgo : numGo false r1 = if 9007199254740991 < decVal (r1.take 1) then (0, r1.drop 1, 5) else ((decVal (r1.take 1) : Int), r1.drop 1, 0) := by rw [numGo, hn, if_neg hcond]; rfl
      rw [hgo]
      by_cases v1 : decVal (r1.take 1) < 9223372036854775808
      · rw [intE_val v1] at hpi
        by_cases v2 : 9007199254740991 < decVal (r1.take 1)
        · rw [if_pos v2]
          refine acalls_vc L_ok mixed [1000008] (rs := [.tmp 2]) (n := 76) Tryz.func56 rfl rfl rfl rfl (Nat.le_of_ble_eq_true rfl) (by kernel_rfl) ?_
          repeat' (first | refine unhold ?_ | (simp -dsimp -implicitDefEqProofs (disch := (first | assumption | omega | (simp only [ll1, ll2, ll3, ll4, ll5, ll6, ll7, ll8]; omega))) only [go_sem, h48, hdrop, hgo1, pObj]) | refine acalls_same (hc) ?_ | refine ⟨_, hc, ?_⟩ | refine ⟨_, _, hc, ?_⟩ | refine acalls_same (hdg) ?_ | refine ⟨_, hdg, ?_⟩ | refine ⟨_, _, hdg, ?_⟩ | refine acalls_same (hpk) ?_ | refine ⟨_, hpk, ?_⟩ | refine ⟨_, _, hpk, ?_⟩ | refine acalls_same (hpi _) ?_ | refine ⟨_, hpi _, ?_⟩ | refine ⟨_, _, hpi _, ?_⟩ | refine acalls_same (hfl) ?_ | refine ⟨_, hfl, ?_⟩ | refine ⟨_, _, hfl, ?_⟩ | refine vcI (fun _ => ?_) (fun _ => ?_) | (refine vcA ?_ ?_; focus (repeat' (first | omega | assumption | refine vcA ?_ ?_); done)) | omega | refine imp_in (fun _ => ?_))
          all_goals first | exact done_keep _ (Le.refl _) len_set ⟨rfl, congrArg _ (pc (by omega))⟩ | exact done_keep _ (Le.refl _) len_set ⟨int_eq (by omega), congrArg _ (pc (by omega))⟩
        · rw [if_neg v2]
          refine acalls_vc L_ok mixed [1000008] (rs := [.tmp 2]) (n := 76) Tryz.func56 rfl rfl rfl rfl (Nat.le_of_ble_eq_true rfl) (by kernel_rfl) ?_
          repeat' (first | refine unhold ?_ | (simp -dsimp -implicitDefEqProofs (disch := (first | assumption | omega | (simp only [ll1, ll2, ll3, ll4, ll5, ll6, ll7, ll8]; omega))) only [go_sem, h48, hdrop, hgo1, pObj]) | refine acalls_same (hc) ?_ | refine ⟨_, hc, ?_⟩ | refine ⟨_, _, hc, ?_⟩ | refine acalls_same (hdg) ?_ | refine ⟨_, hdg, ?_⟩ | refine ⟨_, _, hdg, ?_⟩ | refine acalls_same (hpk) ?_ | refine ⟨_, hpk, ?_⟩ | refine ⟨_, _, hpk, ?_⟩ | refine acalls_same (hpi _) ?_ | refine ⟨_, hpi _, ?_⟩ | refine ⟨_, _, hpi _, ?_⟩ | refine acalls_same (hfl) ?_ | refine ⟨_, hfl, ?_⟩ | refine ⟨_, _, hfl, ?_⟩ | refine vcI (fun _ => ?_) (fun _ => ?_) | (refine vcA ?_ ?_; focus (repeat' (first | omega | assumption | refine vcA ?_ ?_); done)) | omega | refine imp_in (fun _ => ?_))
          all_goals first | exact done_keep _ (Le.refl _) len_set ⟨rfl, congrArg _ (pc (by omega))⟩ | exact done_keep _ (Le.refl _) len_set ⟨int_eq (by omega), congrArg _ (pc (by omega))⟩
      · rw [intE_big v1] at hpi
        rw [if_pos (by omega)]
        refine acalls_vc L_ok mixed [1000008] (rs := [.tmp 2]) (n := 76) Tryz.func56 rfl rfl rfl rfl (Nat.le_of_ble_eq_true rfl) (by kernel_rfl) ?_
        repeat' (first | refine unhold ?_ | (simp -dsimp -implicitDefEqProofs (disch := (first | assumption | omega | (simp only [ll1, ll2, ll3, ll4, ll5, ll6, ll7, ll8]; omega))) only [go_sem, h48, hdrop, hgo1, pObj]) | refine acalls_same (hc) ?_ | refine ⟨_, hc, ?_⟩ | refine ⟨_, _, hc, ?_⟩ | refine acalls_same (hdg) ?_ | refine ⟨_, hdg, ?_⟩ | refine ⟨_, _, hdg, ?_⟩ | refine acalls_same (hpk) ?_ | refine ⟨_, hpk, ?_⟩ | refine ⟨_, _, hpk, ?_⟩ | refine acalls_same (hpi _) ?_ | refine ⟨_, hpi _, ?_⟩ | refine ⟨_, _, hpi _, ?_⟩ | refine acalls_same (hfl) ?_ | refine ⟨_, hfl, ?_⟩ | refine ⟨_, _, hfl, ?_⟩ | refine vcI (fun _ => ?_) (fun _ => ?_) | (refine vcA ?_ ?_; focus (repeat' (first | omega | assumption | refine vcA ?_ ?_); done)) | omega | refine imp_in (fun _ => ?_))
        all_goals first | exact done_keep _ (Le.refl _) len_set ⟨rfl, congrArg _ (pc (by omega))⟩ | exact done_keep _ (Le.refl _) len_set ⟨int_eq (by omega), congrArg _ (pc (by omega))⟩
  · have h48 : ¬ ((peek r1).toNat : Int) = 48 := fun h => c48 (UInt8.toNat_inj.1 (by simpa using (by omega : (peek r1).toNat = 48)))
    rw [if_neg c48] at hnum
    generalize hd : (r1.takeWhile isDigit).length = d at *
    by_cases d0 : d = 0
    · subst d0
      cases b with
      | true =>
        have hgo : numGo true r1 = (0, r1, 2) := by rw [numGo, if_pos (by exact .inl hnum)]
        rw [hgo]
        refine acalls_vc L_ok mixed [1000008] (rs := [.tmp 2]) (n := 76) Tryz.func56 rfl rfl rfl rfl (Nat.le_of_ble_eq_true rfl) (by kernel_rfl) ?_
        repeat' (first | refine unhold ?_ | (simp -dsimp -implicitDefEqProofs (disch := (first | assumption | omega | (simp only [ll1, ll2, ll3, ll4, ll5, ll6, ll7, ll8]; omega))) only [go_sem, h48]) | refine acalls_same (hc) ?_ | refine ⟨_, hc, ?_⟩ | refine ⟨_, _, hc, ?_⟩ | refine acalls_same (hdg) ?_ | refine ⟨_, hdg, ?_⟩ | refine ⟨_, _, hdg, ?_⟩ | refine acalls_same (hpk) ?_ | refine ⟨_, hpk, ?_⟩ | refine ⟨_, _, hpk, ?_⟩ | refine acalls_same (fail_c (hss hkl)) ?_ | refine ⟨_, fail_c (hss hkl), ?_⟩ | refine ⟨_, _, fail_c (hss hkl), ?_⟩ | refine vcI (fun _ => ?_) (fun _ => ?_) | (refine vcA ?_ ?_; focus (repeat' (first | omega | assumption | refine vcA ?_ ?_); done)) | omega | refine imp_in (fun _ => ?_))
        all_goals exact done_keep _ (Le.refl _) len_set ⟨rfl, rfl⟩
      | false =>
        have hgo : numGo false r1 = (0, r1, 2) := by rw [numGo, if_pos (by exact .inl hnum)]
        rw [hgo]
        refine acalls_vc L_ok mixed [1000008] (rs := [.tmp 2]) (n := 76) Tryz.func56 rfl rfl rfl rfl (Nat.le_of_ble_eq_true rfl) (by kernel_rfl) ?_
        repeat' (first | refine unhold ?_ | (simp -dsimp -implicitDefEqProofs (disch := (first | assumption | omega | (simp only [ll1, ll2, ll3, ll4, ll5, ll6, ll7, ll8]; omega))) only [go_sem, h48]) | refine acalls_same (hc) ?_ | refine ⟨_, hc, ?_⟩ | refine ⟨_, _, hc, ?_⟩ | refine acalls_same (hdg) ?_ | refine ⟨_, hdg, ?_⟩ | refine ⟨_, _, hdg, ?_⟩ | refine acalls_same (hpk) ?_ | refine ⟨_, hpk, ?_⟩ | refine ⟨_, _, hpk, ?_⟩ | refine acalls_same (fail_c (hss hkl)) ?_ | refine ⟨_, fail_c (hss hkl), ?_⟩ | refine ⟨_, _, fail_c (hss hkl), ?_⟩ | refine vcI (fun _ => ?_) (fun _ => ?_) | (refine vcA ?_ ?_; focus (repeat' (first | omega | assumption | refine vcA ?_ ?_); done)) | omega | refine imp_in (fun _ => ?_))
        all_goals exact done_keep _ (Le.refl _) len_set ⟨rfl, rfl⟩
    · cases b with
      | true =>
        have hn : numLen r1 = d := by exact hnum
        have hcond : ¬ (numLen r1 = 0 ∨ (true = true ∧ peek r1 = 48)) := by rw [hnum]; rintro (h | ⟨_, h⟩); exact d0 h; exact c48 h
        rw [hn] at hnl hdd hcond
        have hgo1 : (((t.length - r1.length : Nat) : Int) + (d : Int)).toNat - (t.length - r1.length) = d := by omega
        have hcl : AObj.cells (.one 59) [.str t, .lit (.int .i64 (((t.length - r1.length : Nat) : Int) + (d : Int))), .lit (.int .i64 0)] = pObj t (r1.drop d) 0 := pc (by rw [List.length_drop]; omega)
        have hfl : ACalls Tryz.prog 30 [.mp k 0, .lit (.int .i64 5)] (H.set k (AObj.cells (.one 59) [.str t, .lit (.int .i64 (((t.length - r1.length : Nat) : Int) + (d : Int))), .lit (.int .i64 0)])) (fun x H' => x = .tup [] ∧ H' = H.set k (pObj t (r1.drop d) 5)) := by
          rw [hcl]
          exact (fail_c (hss hkl)).mono fun x H' h => ⟨h.1, by rw [h.2, List.set_set, if_pos rfl]⟩
        have hne : r1.take d ≠ [] := by
          intro e
          have := congrArg List.length e
          rw [List.length_take, List.length_nil] at this
          omega
        have hpi := fun H => ParseInt10_c (r1.take d) H hne (by rw [List.length_take]; omega) hdd
        have hgo : numGo true r1 = if 9007199254740991 < decVal (r1.take d) then (0, r1.drop d, 5) else (-(decVal (r1.take d) : Int), r1.drop d, 0) := by rw [numGo, hn, if_neg hcond]; rfl
        rw [hgo]
        by_cases v1 : decVal (r1.take d) < 9223372036854775808
        · rw [intE_val v1] at hpi
          by_cases v2 : 9007199254740991 < decVal (r1.take d)
          · rw [if_pos v2]
            refine acalls_vc L_ok mixed [1000008] (rs := [.tmp 2]) (n := 76) Tryz.func56 rfl rfl rfl rfl (Nat.le_of_ble_eq_true rfl) (by kernel_rfl) ?_
            repeat' (first | refine unhold ?_ | (simp -dsimp -implicitDefEqProofs (disch := (first | assumption | omega | (simp only [ll1, ll2, ll3, ll4, ll5, ll6, ll7, ll8]; omega))) only [go_sem, h48, hdrop, hgo1, pObj]) | refine acalls_same (hc) ?_ | refine ⟨_, hc, ?_⟩ | refine ⟨_, _, hc, ?_⟩ | refine acalls_same (hdg) ?_ | refine ⟨_, hdg, ?_⟩ | refine ⟨_, _, hdg, ?_⟩ | refine acalls_same (hpk) ?_ | refine ⟨_, hpk, ?_⟩ | refine ⟨_, _, hpk, ?_⟩ | refine acalls_same (hpi _) ?_ | refine ⟨_, hpi _, ?_⟩ | refine ⟨_, _, hpi _, ?_⟩ | refine acalls_same (hfl) ?_ | refine ⟨_, hfl, ?_⟩ | refine ⟨_, _, hfl, ?_⟩ | refine vcI (fun _ => ?_) (fun _ => ?_) | (refine vcA ?_ ?_; focus (repeat' (first | omega | assumption | refine vcA ?_ ?_); done)) | omega | refine imp_in (fun _ => ?_))
            all_goals first | exact done_keep _ (Le.refl _) len_set ⟨rfl, congrArg _ (pc (by omega))⟩ | exact done_keep _ (Le.refl _) len_set ⟨int_eq (by omega), congrArg _ (pc (by omega))⟩
          · rw [if_neg v2]
            refine acalls_vc L_ok mixed [1000008] (rs := [.tmp 2]) (n := 76) Tryz.func56 rfl rfl rfl rfl (Nat.le_of_ble_eq_true rfl) (by kernel_rfl) ?_
            repeat' (first | refine unhold ?_ | (simp -dsimp -implicitDefEqProofs (disch := (first | assumption | omega | (simp only [ll1, ll2, ll3, ll4, ll5, ll6, ll7, ll8]; omega))) only [go_sem, h48, hdrop, hgo1, pObj]) | refine acalls_same (hc) ?_ | refine ⟨_, hc, ?_⟩ | refine ⟨_, _, hc, ?_⟩ | refine acalls_same (hdg) ?_ | refine ⟨_, hdg, ?_⟩ | refine ⟨_, _, hdg, ?_⟩ | refine acalls_same (hpk) ?_ | refine ⟨_, hpk, ?_⟩ | refine ⟨_, _, hpk, ?_⟩ | refine acalls_same (hpi _) ?_ | refine ⟨_, hpi _, ?_⟩ | refine ⟨_, _, hpi _, ?_⟩ | refine acalls_same (hfl) ?_ | refine ⟨_, hfl, ?_⟩ | refine ⟨_, _, hfl, ?_⟩ | refine vcI (fun _ => ?_) (fun _ => ?_) | (refine vcA ?_ ?_; focus (repeat' (first | omega | assumption | refine vcA ?_ ?_); done)) | omega | refine imp_in (fun _ => ?_))
            all_goals first | exact done_keep _ (Le.refl _) len_set ⟨rfl, congrArg _ (pc (by omega))⟩ | exact done_keep _ (Le.refl _) len_set ⟨int_eq (by omega), congrArg _ (pc (by omega))⟩
        · rw [intE_big v1] at hpi
          rw [if_pos (by omega)]
          refine acalls_vc L_ok mixed [1000008] (rs := [.tmp 2]) (n := 76) Tryz.func56 rfl rfl rfl rfl (Nat.le_of_ble_eq_true rfl) (by kernel_rfl) ?_
          repeat' (first | refine unhold ?_ | (simp -dsimp -implicitDefEqProofs (disch := (first | assumption | omega | (simp only [ll1, ll2, ll3, ll4, ll5, ll6, ll7, ll8]; omega))) only [go_sem, h48, hdrop, hgo1, pObj]) | refine acalls_same (hc) ?_ | refine ⟨_, hc, ?_⟩ | refine ⟨_, _, hc, ?_⟩ | refine acalls_same (hdg) ?_ | refine ⟨_, hdg, ?_⟩ | refine ⟨_, _, hdg, ?_⟩ | refine acalls_same (hpk) ?_ | refine ⟨_, hpk, ?_⟩ | refine ⟨_, _, hpk, ?_⟩ | refine acalls_same (hpi _) ?_ | refine ⟨_, hpi _, ?_⟩ | refine ⟨_, _, hpi _, ?_⟩ | refine acalls_same (hfl) ?_ | refine ⟨_, hfl, ?_⟩ | refine ⟨_, _, hfl, ?_⟩ | refine vcI (fun _ => ?_) (fun _ => ?_) | (refine vcA ?_ ?_; focus (repeat' (first | omega | assumption | refine vcA ?_ ?_); done)) | omega | refine imp_in (fun _ => ?_))
          all_goals first | exact done_keep _ (Le.refl _) len_set ⟨rfl, congrArg _ (pc (by omega))⟩ | exact done_keep _ (Le.refl _) len_set ⟨int_eq (by omega), congrArg _ (pc (by omega))⟩
      | false =>
        have hn : numLen r1 = d := by exact hnum
        have hcond : ¬ (numLen r1 = 0 ∨ (false = true ∧ peek r1 = 48)) := by rw [hnum]; rintro (h | ⟨_, h⟩); exact d0 h; exact c48 h
        rw [hn] at hnl hdd hcond
        have hgo1 : (((t.length - r1.length : Nat) : Int) + (d : Int)).toNat - (t.length - r1.length) = d := by omega
        have hcl : AObj.cells (.one 59) [.str t, .lit (.int .i64 (((t.length - r1.length : Nat) : Int) + (d : Int))), .lit (.int .i64 0)] = pObj t (r1.drop d) 0 := pc (by rw [List.length_drop]; omega)
        have hfl : ACalls Tryz.prog 30 [.mp k 0, .lit (.int .i64 5)] (H.set k (AObj.cells (.one 59) [.str t, .lit (.int .i64 (((t.length - r1.length : Nat) : Int) + (d : Int))), .lit (.int .i64 0)])) (fun x H' => x = .tup [] ∧ H' = H.set k (pObj t (r1.drop d) 5)) := by
          rw [hcl]
          exact (fail_c (hss hkl)).mono fun x H' h => ⟨h.1, by rw [h.2, List.set_set, if_pos rfl]⟩
        have hne : r1.take d ≠ [] := by
          intro e
          have := congrArg List.length e
          rw [List.length_take, List.length_nil] at this
          omega
        have hpi := fun H => ParseInt10_c (r1.take d) H hne (by rw [List.length_take]; omega) hdd
        have hgo : numGo false r1 = if 9007199254740991 < decVal (r1.take d) then (0, r1.drop d, 5) else ((decVal (r1.take d) : Int), r1.drop d, 0) := by rw [numGo, hn, if_neg hcond]; rfl
        rw [hgo]
        by_cases v1 : decVal (r1.take d) < 9223372036854775808
        · rw [intE_val v1] at hpi
          by_cases v2 : 9007199254740991 < decVal (r1.take d)
          · rw [if_pos v2]
            refine acalls_vc L_ok mixed [1000008] (rs := [.tmp 2]) (n := 76) Tryz.func56 rfl rfl rfl rfl (Nat.le_of_ble_eq_true rfl) (by kernel_rfl) ?_
            repeat' (first | refine unhold ?_ | (simp -dsimp -implicitDefEqProofs (disch := (first | assumption | omega | (simp only [ll1, ll2, ll3, ll4, ll5, ll6, ll7, ll8]; omega))) only [go_sem, h48, hdrop, hgo1, pObj]) | refine acalls_same (hc) ?_ | refine ⟨_, hc, ?_⟩ | refine ⟨_, _, hc, ?_⟩ | refine acalls_same (hdg) ?_ | refine ⟨_, hdg, ?_⟩ | refine ⟨_, _, hdg, ?_⟩ | refine acalls_same (hpk) ?_ | refine ⟨_, hpk, ?_⟩ | refine ⟨_, _, hpk, ?_⟩ | refine acalls_same (hpi _) ?_ | refine ⟨_, hpi _, ?_⟩ | refine ⟨_, _, hpi _, ?_⟩ | refine acalls_same (hfl) ?_ | refine ⟨_, hfl, ?_⟩ | refine ⟨_, _, hfl, ?_⟩ | refine vcI (fun _ => ?_) (fun _ => ?_) | (refine vcA ?_ ?_; focus (repeat' (first | omega | assumption | refine vcA ?_ ?_); done)) | omega | refine imp_in (fun _ => ?_))
            all_goals first | exact done_keep _ (Le.refl _) len_set ⟨rfl, congrArg _ (pc (by omega))⟩ | exact done_keep _ (Le.refl _) len_set ⟨int_eq (by omega), congrArg _ (pc (by omega))⟩
          · rw [if_neg v2]
            refine acalls_vc L_ok mixed [1000008] (rs := [.tmp 2]) (n := 76) Tryz.func56 rfl rfl rfl rfl (Nat.le_of_ble_eq_true rfl) (by kernel_rfl) ?_
            repeat' (first | refine unhold ?_ | (simp -dsimp -implicitDefEqProofs (disch := (first | assumption | omega | (simp only [ll1, ll2, ll3, ll4, ll5, ll6, ll7, ll8]; omega))) only [go_sem, h48, hdrop, hgo1, pObj]) | refine acalls_same (hc) ?_ | refine ⟨_, hc, ?_⟩ | refine ⟨_, _, hc, ?_⟩ | refine acalls_same (hdg) ?_ | refine ⟨_, hdg, ?_⟩ | refine ⟨_, _, hdg, ?_⟩ | refine acalls_same (hpk) ?_ | refine ⟨_, hpk, ?_⟩ | refine ⟨_, _, hpk, ?_⟩ | refine acalls_same (hpi _) ?_ | refine ⟨_, hpi _, ?_⟩ | refine ⟨_, _, hpi _, ?_⟩ | refine acalls_same (hfl) ?_ | refine ⟨_, hfl, ?_⟩ | refine ⟨_, _, hfl, ?_⟩ | refine vcI (fun _ => ?_) (fun _ => ?_) | (refine vcA ?_ ?_; focus (repeat' (first | omega | assumption | refine vcA ?_ ?_); done)) | omega | refine imp_in (fun _ => ?_))
            all_goals first | exact done_keep _ (Le.refl _) len_set ⟨rfl, congrArg _ (pc (by omega))⟩ | exact done_keep _ (Le.refl _) len_set ⟨int_eq (by omega), congrArg _ (pc (by omega))⟩
        · rw [intE_big v1] at hpi
          rw [if_pos (by omega)]
          refine acalls_vc L_ok mixed [1000008] (rs := [.tmp 2]) (n := 76) Tryz.func56 rfl rfl rfl rfl (Nat.le_of_ble_eq_true rfl) (by kernel_rfl) ?_
          repeat' (first | refine unhold ?_ | (simp -dsimp -implicitDefEqProofs (disch := (first | assumption | omega | (simp only [ll1, ll2, ll3, ll4, ll5, ll6, ll7, ll8]; omega))) only [go_sem, h48, hdrop, hgo1, pObj]) | refine acalls_same (hc) ?_ | refine ⟨_, hc, ?_⟩ | refine ⟨_, _, hc, ?_⟩ | refine acalls_same (hdg) ?_ | refine ⟨_, hdg, ?_⟩ | refine ⟨_, _, hdg, ?_⟩ | refine acalls_same (hpk) ?_ | refine ⟨_, hpk, ?_⟩ | refine ⟨_, _, hpk, ?_⟩ | refine acalls_same (hpi _) ?_ | refine ⟨_, hpi _, ?_⟩ | refine ⟨_, _, hpi _, ?_⟩ | refine acalls_same (hfl) ?_ | refine ⟨_, hfl, ?_⟩ | refine ⟨_, _, hfl, ?_⟩ | refine vcI (fun _ => ?_) (fun _ => ?_) | (refine vcA ?_ ?_; focus (repeat' (first | omega | assumption | refine vcA ?_ ?_); done)) | omega | refine imp_in (fun _ => ?_))
          all_goals first | exact done_keep _ (Le.refl _) len_set ⟨rfl, congrArg _ (pc (by omega))⟩ | exact done_keep _ (Le.refl _) len_set ⟨int_eq (by omega), congrArg _ (pc (by omega))⟩
end Go.Proofs.YtdahdbnfknmmgaaGreatDoor
end

section
set_option linter.unusedSimpArgs false
set_option linter.unusedVariables false
namespace Go.Proofs.YtdahdbnfknmmgaaGreatDoor
open Go V
set_option maxRecDepth 10000
set_option maxHeartbeats 4000000
theorem suf_quoted {r t : bytes} (h : r <:+ t) : (quotedP r).2.1 <:+ t := (quoted_len r).1.trans h
theorem nameP_eq (v : JV) (r : bytes) : nameP v r = (match skipW [58] (blanks (quotedP (blanks r)).2.1) with
    | none => ((quotedP (blanks r)).1, blanks (quotedP (blanks r)).2.1, if (if (jget v (quotedP (blanks r)).1).isSome ∧ (quotedP (blanks r)).2.2 = 0 then 6 else (quotedP (blanks r)).2.2) = 0 then 2 else (if (jget v (quotedP (blanks r)).1).isSome ∧ (quotedP (blanks r)).2.2 = 0 then 6 else (quotedP (blanks r)).2.2))
    | some r4 => ((quotedP (blanks r)).1, r4, if (jget v (quotedP (blanks r)).1).isSome ∧ (quotedP (blanks r)).2.2 = 0 then 6 else (quotedP (blanks r)).2.2)) := rfl
theorem suf_name {v : JV} {r t : bytes} (h : r <:+ t) : (nameP v r).2.1 <:+ t := by
  have h1 := suf_blanks (suf_quoted (suf_blanks h))
  rw [nameP_eq]
  cases e : skipW [58] (blanks (quotedP (blanks r)).2.1) with
  | none => exact h1
  | some r4 => exact suf_skip h1 e
theorem name_c {k : Nat} {t r : bytes} {H : List AObj} (v : JV) (hv1 : v.names.length ≤ 100000) (hv2 : v.items.length ≤ 100000) (hk : H[k]? = some (pObj t r 0)) (hs : r <:+ t) (hl : t.length ≤ 10000) :
    ACalls Tryz.prog 78 [.mp k 0, jAV v] H (fun x H' => x = .str (nameP v r).1 ∧ H' = H.set k (pObj t (nameP v r).2.1 (nameP v r).2.2)) := by
  have hkl := lt_of_get hk
  have hs1 := suf_blanks hs
  have hs2 := suf_quoted hs1
  have hs3 := suf_blanks hs2
  have hb1 := blanks_c hk hs hl
  have hq := quoted_c (r := blanks r) (t := t) (H := H.set k (pObj t (blanks r) 0)) (hss hkl) hs1 hl
  rw [nameP_eq]
  generalize quotedP (blanks r) = q at *
  obtain ⟨s, r2, e⟩ := q
  dsimp only at hs2 hs3 hq ⊢
  cases hj : jget v s with
  | none =>
    have hg : getAV v s = .tup [jAV zeroJ, .bool false] := by rw [getAV, hj]; rfl
    cases hsk : skipW [58] (blanks r2) with
    | none =>
      refine acalls_vc L_ok mixed [] (rs := [.tmp 4]) (n := 42) Tryz.func78 rfl rfl rfl rfl (Nat.le_of_ble_eq_true rfl) (by kernel_rfl) ?_
      repeat' (first | refine unhold ?_ | (simp -dsimp -implicitDefEqProofs (disch := (first | assumption | omega | (simp only [ll1, ll2, ll3, ll4, ll5, ll6, ll7, ll8]; omega))) only [go_sem, lk_k hkl, st_k hkl, lk_b, st_b, hg, hsk]) | refine acalls_same (hb1) ?_ | refine ⟨_, hb1, ?_⟩ | refine ⟨_, _, hb1, ?_⟩ | refine acalls_same (hq) ?_ | refine ⟨_, hq, ?_⟩ | refine ⟨_, _, hq, ?_⟩ | refine acalls_same (Get_c v s _ hv1 hv2) ?_ | refine ⟨_, Get_c v s _ hv1 hv2, ?_⟩ | refine ⟨_, _, Get_c v s _ hv1 hv2, ?_⟩ | refine acalls_same (blanks_c (lk_k hkl) hs2 hl) ?_ | refine ⟨_, blanks_c (lk_k hkl) hs2 hl, ?_⟩ | refine ⟨_, _, blanks_c (lk_k hkl) hs2 hl, ?_⟩ | refine acalls_same (skip_c (w := [58]) (lk_k hkl) hs3 hl (by decide)) ?_ | refine ⟨_, skip_c (w := [58]) (lk_k hkl) hs3 hl (by decide), ?_⟩ | refine ⟨_, _, skip_c (w := [58]) (lk_k hkl) hs3 hl (by decide), ?_⟩ | refine acalls_same (fail_c (lk_k hkl)) ?_ | refine ⟨_, fail_c (lk_k hkl), ?_⟩ | refine ⟨_, _, fail_c (lk_k hkl), ?_⟩ | refine vcI (fun _ => ?_) (fun _ => ?_) | (refine vcA ?_ ?_; focus (repeat' (first | omega | assumption | refine vcA ?_ ?_); done)) | omega | refine imp_in (fun _ => ?_))
      all_goals first | exact done_cut' (.str _) rfl low_pObj ⟨rfl, by simp [hj]⟩
    | some r4 =>
      refine acalls_vc L_ok mixed [] (rs := [.tmp 4]) (n := 42) Tryz.func78 rfl rfl rfl rfl (Nat.le_of_ble_eq_true rfl) (by kernel_rfl) ?_
      repeat' (first | refine unhold ?_ | (simp -dsimp -implicitDefEqProofs (disch := (first | assumption | omega | (simp only [ll1, ll2, ll3, ll4, ll5, ll6, ll7, ll8]; omega))) only [go_sem, lk_k hkl, st_k hkl, lk_b, st_b, hg, hsk]) | refine acalls_same (hb1) ?_ | refine ⟨_, hb1, ?_⟩ | refine ⟨_, _, hb1, ?_⟩ | refine acalls_same (hq) ?_ | refine ⟨_, hq, ?_⟩ | refine ⟨_, _, hq, ?_⟩ | refine acalls_same (Get_c v s _ hv1 hv2) ?_ | refine ⟨_, Get_c v s _ hv1 hv2, ?_⟩ | refine ⟨_, _, Get_c v s _ hv1 hv2, ?_⟩ | refine acalls_same (blanks_c (lk_k hkl) hs2 hl) ?_ | refine ⟨_, blanks_c (lk_k hkl) hs2 hl, ?_⟩ | refine ⟨_, _, blanks_c (lk_k hkl) hs2 hl, ?_⟩ | refine acalls_same (skip_c (w := [58]) (lk_k hkl) hs3 hl (by decide)) ?_ | refine ⟨_, skip_c (w := [58]) (lk_k hkl) hs3 hl (by decide), ?_⟩ | refine ⟨_, _, skip_c (w := [58]) (lk_k hkl) hs3 hl (by decide), ?_⟩ | refine acalls_same (fail_c (lk_k hkl)) ?_ | refine ⟨_, fail_c (lk_k hkl), ?_⟩ | refine ⟨_, _, fail_c (lk_k hkl), ?_⟩ | refine vcI (fun _ => ?_) (fun _ => ?_) | (refine vcA ?_ ?_; focus (repeat' (first | omega | assumption | refine vcA ?_ ?_); done)) | omega | refine imp_in (fun _ => ?_))
      all_goals first | exact done_cut' (.str _) rfl low_pObj ⟨rfl, by simp [hj]⟩
  | some y =>
    have hg : getAV v s = .tup [jAV y, .bool true] := by rw [getAV, hj]; rfl
    by_cases he : e = 0
    · subst he
      cases hsk : skipW [58] (blanks r2) with
      | none =>
        refine acalls_vc L_ok mixed [] (rs := [.tmp 4]) (n := 42) Tryz.func78 rfl rfl rfl rfl (Nat.le_of_ble_eq_true rfl) (by kernel_rfl) ?_
        repeat' (first | refine unhold ?_ | (simp -dsimp -implicitDefEqProofs (disch := (first | assumption | omega | (simp only [ll1, ll2, ll3, ll4, ll5, ll6, ll7, ll8]; omega))) only [go_sem, lk_k hkl, st_k hkl, lk_b, st_b, hg, hsk]) | refine acalls_same (hb1) ?_ | refine ⟨_, hb1, ?_⟩ | refine ⟨_, _, hb1, ?_⟩ | refine acalls_same (hq) ?_ | refine ⟨_, hq, ?_⟩ | refine ⟨_, _, hq, ?_⟩ | refine acalls_same (Get_c v s _ hv1 hv2) ?_ | refine ⟨_, Get_c v s _ hv1 hv2, ?_⟩ | refine ⟨_, _, Get_c v s _ hv1 hv2, ?_⟩ | refine acalls_same (blanks_c (lk_k hkl) hs2 hl) ?_ | refine ⟨_, blanks_c (lk_k hkl) hs2 hl, ?_⟩ | refine ⟨_, _, blanks_c (lk_k hkl) hs2 hl, ?_⟩ | refine acalls_same (skip_c (w := [58]) (lk_k hkl) hs3 hl (by decide)) ?_ | refine ⟨_, skip_c (w := [58]) (lk_k hkl) hs3 hl (by decide), ?_⟩ | refine ⟨_, _, skip_c (w := [58]) (lk_k hkl) hs3 hl (by decide), ?_⟩ | refine acalls_same (fail_c (lk_k hkl)) ?_ | refine ⟨_, fail_c (lk_k hkl), ?_⟩ | refine ⟨_, _, fail_c (lk_k hkl), ?_⟩ | refine vcI (fun _ => ?_) (fun _ => ?_) | (refine vcA ?_ ?_; focus (repeat' (first | omega | assumption | refine vcA ?_ ?_); done)) | omega | refine imp_in (fun _ => ?_))
        all_goals first | exact done_cut' (.str _) rfl low_pObj ⟨rfl, by simp [hj]⟩
      | some r4 =>
        refine acalls_vc L_ok mixed [] (rs := [.tmp 4]) (n := 42) Tryz.func78 rfl rfl rfl rfl (Nat.le_of_ble_eq_true rfl) (by kernel_rfl) ?_
        repeat' (first | refine unhold ?_ | (simp -dsimp -implicitDefEqProofs (disch := (first | assumption | omega | (simp only [ll1, ll2, ll3, ll4, ll5, ll6, ll7, ll8]; omega))) only [go_sem, lk_k hkl, st_k hkl, lk_b, st_b, hg, hsk]) | refine acalls_same (hb1) ?_ | refine ⟨_, hb1, ?_⟩ | refine ⟨_, _, hb1, ?_⟩ | refine acalls_same (hq) ?_ | refine ⟨_, hq, ?_⟩ | refine ⟨_, _, hq, ?_⟩ | refine acalls_same (Get_c v s _ hv1 hv2) ?_ | refine ⟨_, Get_c v s _ hv1 hv2, ?_⟩ | refine ⟨_, _, Get_c v s _ hv1 hv2, ?_⟩ | refine acalls_same (blanks_c (lk_k hkl) hs2 hl) ?_ | refine ⟨_, blanks_c (lk_k hkl) hs2 hl, ?_⟩ | refine ⟨_, _, blanks_c (lk_k hkl) hs2 hl, ?_⟩ | refine acalls_same (skip_c (w := [58]) (lk_k hkl) hs3 hl (by decide)) ?_ | refine ⟨_, skip_c (w := [58]) (lk_k hkl) hs3 hl (by decide), ?_⟩ | refine ⟨_, _, skip_c (w := [58]) (lk_k hkl) hs3 hl (by decide), ?_⟩ | refine acalls_same (fail_c (lk_k hkl)) ?_ | refine ⟨_, fail_c (lk_k hkl), ?_⟩ | refine ⟨_, _, fail_c (lk_k hkl), ?_⟩ | refine vcI (fun _ => ?_) (fun _ => ?_) | (refine vcA ?_ ?_; focus (repeat' (first | omega | assumption | refine vcA ?_ ?_); done)) | omega | refine imp_in (fun _ => ?_))
        all_goals first | exact done_cut' (.str _) rfl low_pObj ⟨rfl, by simp [hj]⟩
    · skip
      cases hsk : skipW [58] (blanks r2) with
      | none =>
        refine acalls_vc L_ok mixed [] (rs := [.tmp 4]) (n := 42) Tryz.func78 rfl rfl rfl rfl (Nat.le_of_ble_eq_true rfl) (by kernel_rfl) ?_
        repeat' (first | refine unhold ?_ | (simp -dsimp -implicitDefEqProofs (disch := (first | assumption | omega | (simp only [ll1, ll2, ll3, ll4, ll5, ll6, ll7, ll8]; omega))) only [go_sem, lk_k hkl, st_k hkl, lk_b, st_b, hg, hsk, he]) | refine acalls_same (hb1) ?_ | refine ⟨_, hb1, ?_⟩ | refine ⟨_, _, hb1, ?_⟩ | refine acalls_same (hq) ?_ | refine ⟨_, hq, ?_⟩ | refine ⟨_, _, hq, ?_⟩ | refine acalls_same (Get_c v s _ hv1 hv2) ?_ | refine ⟨_, Get_c v s _ hv1 hv2, ?_⟩ | refine ⟨_, _, Get_c v s _ hv1 hv2, ?_⟩ | refine acalls_same (blanks_c (lk_k hkl) hs2 hl) ?_ | refine ⟨_, blanks_c (lk_k hkl) hs2 hl, ?_⟩ | refine ⟨_, _, blanks_c (lk_k hkl) hs2 hl, ?_⟩ | refine acalls_same (skip_c (w := [58]) (lk_k hkl) hs3 hl (by decide)) ?_ | refine ⟨_, skip_c (w := [58]) (lk_k hkl) hs3 hl (by decide), ?_⟩ | refine ⟨_, _, skip_c (w := [58]) (lk_k hkl) hs3 hl (by decide), ?_⟩ | refine acalls_same (fail_c (lk_k hkl)) ?_ | refine ⟨_, fail_c (lk_k hkl), ?_⟩ | refine ⟨_, _, fail_c (lk_k hkl), ?_⟩ | refine vcI (fun _ => ?_) (fun _ => ?_) | (refine vcA ?_ ?_; focus (repeat' (first | omega | assumption | refine vcA ?_ ?_); done)) | omega | refine imp_in (fun _ => ?_))
        all_goals first | exact done_cut' (.str _) rfl low_pObj ⟨rfl, by simp [hj, he]⟩
      | some r4 =>
        refine acalls_vc L_ok mixed [] (rs := [.tmp 4]) (n := 42) Tryz.func78 rfl rfl rfl rfl (Nat.le_of_ble_eq_true rfl) (by kernel_rfl) ?_
        repeat' (first | refine unhold ?_ | (simp -dsimp -implicitDefEqProofs (disch := (first | assumption | omega | (simp only [ll1, ll2, ll3, ll4, ll5, ll6, ll7, ll8]; omega))) only [go_sem, lk_k hkl, st_k hkl, lk_b, st_b, hg, hsk, he]) | refine acalls_same (hb1) ?_ | refine ⟨_, hb1, ?_⟩ | refine ⟨_, _, hb1, ?_⟩ | refine acalls_same (hq) ?_ | refine ⟨_, hq, ?_⟩ | refine ⟨_, _, hq, ?_⟩ | refine acalls_same (Get_c v s _ hv1 hv2) ?_ | refine ⟨_, Get_c v s _ hv1 hv2, ?_⟩ | refine ⟨_, _, Get_c v s _ hv1 hv2, ?_⟩ | refine acalls_same (blanks_c (lk_k hkl) hs2 hl) ?_ | refine ⟨_, blanks_c (lk_k hkl) hs2 hl, ?_⟩ | refine ⟨_, _, blanks_c (lk_k hkl) hs2 hl, ?_⟩ | refine acalls_same (skip_c (w := [58]) (lk_k hkl) hs3 hl (by decide)) ?_ | refine ⟨_, skip_c (w := [58]) (lk_k hkl) hs3 hl (by decide), ?_⟩ | refine ⟨_, _, skip_c (w := [58]) (lk_k hkl) hs3 hl (by decide), ?_⟩ | refine acalls_same (fail_c (lk_k hkl)) ?_ | refine ⟨_, fail_c (lk_k hkl), ?_⟩ | refine ⟨_, _, fail_c (lk_k hkl), ?_⟩ | refine vcI (fun _ => ?_) (fun _ => ?_) | (refine vcA ?_ ?_; focus (repeat' (first | omega | assumption | refine vcA ?_ ?_); done)) | omega | refine imp_in (fun _ => ?_))
        all_goals first | exact done_cut' (.str _) rfl low_pObj ⟨rfl, by simp [hj, he]⟩
end Go.Proofs.YtdahdbnfknmmgaaGreatDoor
end

section
set_option linter.unusedSimpArgs false
set_option linter.unusedVariables false
namespace Go.Proofs.YtdahdbnfknmmgaaGreatDoor
open Go V
set_option maxRecDepth 10000
set_option maxHeartbeats 4000000
theorem Clone_s {xs : List AV} {H : List AObj} (hu : ∀ y ∈ xs, y.flat.length = 1 ∧ y.okv = true) (hne : xs ≠ []) (hl : xs.length ≤ 100000) : ACalls Tryz.prog 65 [.sl .sh 1 xs] H (fun y H' => y = .mrow H.length xs.length ∧ H' = H ++ [.cells (.prow 1) (flats xs)]) := by
  have hpos := List.length_pos_iff.2 hne
  refine acalls_vc L_ok mixed [7] (rs := [.tmp 2]) (n := 8) Tryz.func65 rfl rfl rfl rfl (Nat.le_of_ble_eq_true rfl) (by kernel_rfl) ?_
  repeat' (first | refine unhold ?_ | (simp -dsimp -implicitDefEqProofs (disch := (first | assumption | omega | (simp only [ll1, ll2, ll3, ll4, ll5, ll6, ll7, ll8]; omega))) only [go_sem, hne]) | refine vcI (fun _ => ?_) (fun _ => ?_) | (refine vcA ?_ ?_; focus (repeat' (first | omega | assumption | refine vcA ?_ ?_); done)) | omega | refine imp_in (fun _ => ?_))
  exact done_grow ⟨rfl, rfl⟩
theorem Clone0_s {H : List AObj} : ACalls Tryz.prog 65 [.sl .sh 1 []] H (fun y H' => y = .sl (.tok H.length) 1 [] ∧ H' = H ++ [.grow 1 0 none]) := by
  refine acalls_vc L_ok mixed [] (rs := [.tmp 2]) (n := 8) Tryz.func65 rfl rfl rfl rfl (Nat.le_of_ble_eq_true rfl) (by kernel_rfl) ?_
  repeat' (first | refine unhold ?_ | (simp -dsimp -implicitDefEqProofs (disch := (first | assumption | omega | (simp only [ll1, ll2, ll3, ll4, ll5, ll6, ll7, ll8]; omega))) only [go_sem]) | refine vcI (fun _ => ?_) (fun _ => ?_) | (refine vcA ?_ ?_; focus (repeat' (first | omega | assumption | refine vcA ?_ ?_); done)) | omega | refine imp_in (fun _ => ?_))
  intro b
  cases b
  all_goals
    repeat' (first | refine unhold ?_ | (simp -dsimp -implicitDefEqProofs (disch := (first | assumption | omega | (simp only [ll1, ll2, ll3, ll4, ll5, ll6, ll7, ll8]; omega))) only [go_sem]) | refine vcI (fun _ => ?_) (fun _ => ?_) | (refine vcA ?_ ?_; focus (repeat' (first | omega | assumption | refine vcA ?_ ?_); done)) | omega | refine imp_in (fun _ => ?_))
    first
      | exact done_grow ⟨rfl, rfl⟩
      | exact done_mint0 (by decide) (done_grow ⟨rfl, rfl⟩)
theorem Insert0_s {k : Nat} {x : AV} {H : List AObj} (hk : H[k]? = some (.grow 1 0 none)) (hx : x.flat.length = 1 ∧ x.okv = true) : ACalls Tryz.prog 67 [.sl (.tok k) 1 [], .lit (.int .i64 0), .sl .full 1 [x]] H (fun y H' => y = .sl (.tok k) 1 [x] ∧ H' = H.set k (.grow 1 1 none)) := by
  refine acalls_vc L_ok mixed [1000011, 1000015] (rs := [.tmp 6]) (n := 95) Tryz.func67 rfl rfl rfl rfl (Nat.le_of_ble_eq_true rfl) (by kernel_rfl) ?_
  repeat' (first | refine unhold ?_ | (simp -dsimp -implicitDefEqProofs (disch := (first | assumption | omega | (simp only [ll1, ll2, ll3, ll4, ll5, ll6, ll7, ll8]; omega))) only [go_sem, hk]) | refine vcI (fun _ => ?_) (fun _ => ?_) | (refine vcA ?_ ?_; focus (repeat' (first | omega | assumption | refine vcA ?_ ?_); done)) | omega | refine imp_in (fun _ => ?_))
  exact done_keep _ (Le.refl _) (by simp) ⟨rfl, rfl⟩
theorem Clone_j {xs : List AV} {H : List AObj} (hu : ∀ y ∈ xs, y.flat.length = 5 ∧ y.okv = true) (hne : xs ≠ []) (hl : xs.length ≤ 100000) : ACalls Tryz.prog 66 [.sl .sh 5 xs] H (fun y H' => y = .mrow H.length xs.length ∧ H' = H ++ [.cells (.prow 5) (flats xs)]) := by
  have hpos := List.length_pos_iff.2 hne
  refine acalls_vc L_ok mixed [7] (rs := [.tmp 2]) (n := 8) Tryz.func66 rfl rfl rfl rfl (Nat.le_of_ble_eq_true rfl) (by kernel_rfl) ?_
  repeat' (first | refine unhold ?_ | (simp -dsimp -implicitDefEqProofs (disch := (first | assumption | omega | (simp only [ll1, ll2, ll3, ll4, ll5, ll6, ll7, ll8]; omega))) only [go_sem, hne]) | refine vcI (fun _ => ?_) (fun _ => ?_) | (refine vcA ?_ ?_; focus (repeat' (first | omega | assumption | refine vcA ?_ ?_); done)) | omega | refine imp_in (fun _ => ?_))
  exact done_grow ⟨rfl, rfl⟩
theorem Clone0_j {H : List AObj} : ACalls Tryz.prog 66 [.sl .sh 5 []] H (fun y H' => y = .sl (.tok H.length) 5 [] ∧ H' = H ++ [.grow 5 0 none]) := by
  refine acalls_vc L_ok mixed [] (rs := [.tmp 2]) (n := 8) Tryz.func66 rfl rfl rfl rfl (Nat.le_of_ble_eq_true rfl) (by kernel_rfl) ?_
  repeat' (first | refine unhold ?_ | (simp -dsimp -implicitDefEqProofs (disch := (first | assumption | omega | (simp only [ll1, ll2, ll3, ll4, ll5, ll6, ll7, ll8]; omega))) only [go_sem]) | refine vcI (fun _ => ?_) (fun _ => ?_) | (refine vcA ?_ ?_; focus (repeat' (first | omega | assumption | refine vcA ?_ ?_); done)) | omega | refine imp_in (fun _ => ?_))
  intro b
  cases b
  all_goals
    repeat' (first | refine unhold ?_ | (simp -dsimp -implicitDefEqProofs (disch := (first | assumption | omega | (simp only [ll1, ll2, ll3, ll4, ll5, ll6, ll7, ll8]; omega))) only [go_sem]) | refine vcI (fun _ => ?_) (fun _ => ?_) | (refine vcA ?_ ?_; focus (repeat' (first | omega | assumption | refine vcA ?_ ?_); done)) | omega | refine imp_in (fun _ => ?_))
    first
      | exact done_grow ⟨rfl, rfl⟩
      | exact done_mint0 (by decide) (done_grow ⟨rfl, rfl⟩)
theorem Insert0_j {k : Nat} {x : AV} {H : List AObj} (hk : H[k]? = some (.grow 5 0 none)) (hx : x.flat.length = 5 ∧ x.okv = true) : ACalls Tryz.prog 68 [.sl (.tok k) 5 [], .lit (.int .i64 0), .sl .full 5 [x]] H (fun y H' => y = .sl (.tok k) 5 [x] ∧ H' = H.set k (.grow 5 1 none)) := by
  refine acalls_vc L_ok mixed [1000011, 1000015] (rs := [.tmp 6]) (n := 95) Tryz.func68 rfl rfl rfl rfl (Nat.le_of_ble_eq_true rfl) (by kernel_rfl) ?_
  repeat' (first | refine unhold ?_ | (simp -dsimp -implicitDefEqProofs (disch := (first | assumption | omega | (simp only [ll1, ll2, ll3, ll4, ll5, ll6, ll7, ll8]; omega))) only [go_sem, hk]) | refine vcI (fun _ => ?_) (fun _ => ?_) | (refine vcA ?_ ?_; focus (repeat' (first | omega | assumption | refine vcA ?_ ?_); done)) | omega | refine imp_in (fun _ => ?_))
  exact done_keep _ (Le.refl _) (by simp) ⟨rfl, rfl⟩
theorem s_uni {ns : List bytes} : ∀ y ∈ ns.map AV.str, y.flat.length = 1 ∧ y.okv = true := fun y hy => by
  obtain ⟨s, _, rfl⟩ := List.mem_map.1 hy
  exact ⟨rfl, rfl⟩
theorem j_len {v : JV} : (jAV v).flat.length = 5 := by rw [flat_j]; rfl
theorem j_uni {is : List JV} : ∀ y ∈ is.map jAV, y.flat.length = 5 ∧ y.okv = true := fun y hy => by
  obtain ⟨s, _, rfl⟩ := List.mem_map.1 hy
  exact ⟨j_len, okv_j⟩
theorem frz_row' {H : List AObj} {sh : Shape} {m k s n : Nat} {cs xs : List AV} (hk : m ≤ k) (ho : H[k]? = some (.cells sh cs)) (hx : xs.length = n) (hu : ∀ x ∈ xs, x.flat.length = s ∧ x.okv = true) (hlow : ∀ y ∈ flats xs, Low m y) (h : cs = flats xs) : Frz m H (.mrow k n) (.sl .sh s xs) := by
  subst h
  refine .row k n s sh _ xs hk ho hx hu (Nat.le_refl _) fun j c y e1 e2 => ?_
  rw [e1] at e2
  cases e2
  exact .low _ (hlow _ (List.mem_iff_getElem?.2 ⟨j, e1⟩))
theorem low_flats_s {m : Nat} {ns : List bytes} : ∀ y ∈ flats (ns.map AV.str), Low m y := fun y hy => by
  rw [flats_strs] at hy
  obtain ⟨s, _, rfl⟩ := List.mem_map.1 hy
  exact .str _
theorem low_flats_j {m : Nat} {is : List JV} : ∀ y ∈ flats (is.map jAV), Low m y := fun y hy => by
  have := low_jsl (m := m) (l := is)
  cases this with
  | sl _ _ _ _ h => exact h y hy
theorem flats_set {xs : List AV} {x : AV} {s i : Nat} (hu : ∀ y ∈ xs, y.flat.length = s) (hx : x.flat.length = s) (hi : i < xs.length) : aset (flats xs) (i * s) x.flat = flats (xs.set i x) := by
  have hA : (flats (xs.take i)).length = i * s := by rw [flats_len (s := s) fun y hy => hu y (List.mem_of_mem_take hy), List.length_take, Nat.min_eq_left (by omega)]
  have hxi : xs[i].flat.length = s := hu _ (List.getElem_mem hi)
  have e1 : flats xs = flats (xs.take i) ++ xs[i].flat ++ flats (xs.drop (i + 1)) := by
    conv => lhs; rw [← List.take_append_drop i xs, List.drop_eq_getElem_cons hi]
    rw [flats_append, flats_cons, List.append_assoc]
  have e2 : flats (xs.set i x) = flats (xs.take i) ++ x.flat ++ flats (xs.drop (i + 1)) := by
    rw [List.set_eq_take_append_cons_drop, if_pos hi, flats_append, flats_cons, List.append_assoc]
  rw [e1, e2, aset_mid hA.symm (by rw [hxi, hx])]
/-- Objects: as many items as names, that rise. -/
def objOk (v : JV) : Prop := v.names.length = v.items.length ∧ srt v.names = true ∧ v.names.length ≤ 20000
theorem jput_new {v x : JV} {s : bytes} (h : v.names[pos v.names s]? ≠ some s) : jput v s x = .mk v.kind v.num v.text (v.names.insertIdx (pos v.names s) s) (v.items.insertIdx (pos v.names s) x) := if_neg h
theorem jput_old {v x : JV} {s : bytes} (h : v.names[pos v.names s]? = some s) : jput v s x = .mk v.kind v.num v.text v.names (v.items.set (pos v.names s) x) := if_pos h
theorem map_insert {α β : Type} {f : α → β} : ∀ {l : List α} {i : Nat} {x : α}, (l.map f).insertIdx i (f x) = (l.insertIdx i x).map f
  | [], 0, x => rfl
  | [], i + 1, x => rfl
  | a :: l, 0, x => rfl
  | a :: l, i + 1, x => by
    rw [List.map_cons, List.insertIdx_succ_cons, List.insertIdx_succ_cons, List.map_cons, map_insert]
theorem put_c (v : JV) (s : bytes) (x : JV) (H : List AObj) (hv : objOk v) : ACalls Tryz.prog 45 [jAV v, .str s, jAV x] H (fun y H' => y = jAV (jput v s x) ∧ H' = H) := by
  obtain ⟨hv1, hv2, hv3⟩ := hv
  have hpl := pos_le v.names s
  by_cases hnil : v.names = []
  · have hit : v.items = [] := List.eq_nil_of_length_eq_zero (by rw [← hv1, hnil]; rfl)
    rw [jput_new (by rw [hnil]; simp), hnil, hit]
    refine acalls_vc L_ok mixed [3, 1000002, 1000002004002, 1000006, 1000006007005, 1000006009005, 1000006010005] (rs := [.cell 6 29]) (n := 46) Tryz.func45 rfl rfl rfl rfl (Nat.le_of_ble_eq_true rfl) (by kernel_rfl) ?_
    repeat' (first | refine unhold ?_ | (simp -dsimp -implicitDefEqProofs (disch := (first | assumption | omega | (simp only [ll1, ll2, ll3, ll4, ll5, ll6, ll7, ll8]; omega))) only [go_sem, hnil, hit, lk_k, hg0, hg1, hg2]) | refine acalls_same (Search_c [] s _ (by simp) rfl) ?_ | refine ⟨_, Search_c [] s _ (by simp) rfl, ?_⟩ | refine ⟨_, _, Search_c [] s _ (by simp) rfl, ?_⟩ | refine acalls_same (Clone0_s) ?_ | refine ⟨_, Clone0_s, ?_⟩ | refine ⟨_, _, Clone0_s, ?_⟩ | refine acalls_same (Clone0_j) ?_ | refine ⟨_, Clone0_j, ?_⟩ | refine ⟨_, _, Clone0_j, ?_⟩ | refine acalls_same (Insert0_s (x := .str s) (by simp; done) ⟨rfl, rfl⟩) ?_ | refine ⟨_, Insert0_s (x := .str s) (by simp; done) ⟨rfl, rfl⟩, ?_⟩ | refine ⟨_, _, Insert0_s (x := .str s) (by simp; done) ⟨rfl, rfl⟩, ?_⟩ | refine acalls_same (Insert0_j (x := jAV x) (by simp; done) ⟨j_len, okv_j⟩) ?_ | refine ⟨_, Insert0_j (x := jAV x) (by simp; done) ⟨j_len, okv_j⟩, ?_⟩ | refine ⟨_, _, Insert0_j (x := jAV x) (by simp; done) ⟨j_len, okv_j⟩, ?_⟩ | refine vcI (fun _ => ?_) (fun _ => ?_) | (refine vcA ?_ ?_; focus (repeat' (first | omega | assumption | refine vcA ?_ ?_); done)) | omega | refine imp_in (fun _ => ?_))
    · rename_i h
      simp at h
    · refine done_cut (jAV (.mk v.kind v.num v.text [s] [x])) (le_j le_sh le_sh) (low_jAV _) ⟨?_, rfl⟩
      have : pos [] s = 0 := rfl
      rw [this]
      rfl
  · have hit : v.items ≠ [] := fun e => hnil (List.eq_nil_of_length_eq_zero (by rw [hv1, e]; rfl))
    have hns : v.names.map AV.str ≠ [] := by simpa using hnil
    have hns2 : v.items.map jAV ≠ [] := by simpa using hit
    by_cases hf : v.names[pos v.names s]? = some s
    · have hlt := lt_of_get hf
      rw [jput_old hf]
      have hsr := fun H => Search_c (o := .sh) v.names s H (by omega) hv2
      rw [decide_eq_true hf] at hsr
      have hps : pos v.names s * 5 + 5 ≤ (flats (v.items.map jAV)).length := by
        rw [flats_len (s := 5) fun y hy => (j_uni y hy).1, List.length_map]
        omega
      refine acalls_vc L_ok mixed [3, 1000002, 1000002004002, 1000006, 1000006007005, 1000006009005, 1000006010005] (rs := [.cell 6 29]) (n := 46) Tryz.func45 rfl rfl rfl rfl (Nat.le_of_ble_eq_true rfl) (by kernel_rfl) ?_
      repeat' (first | refine unhold ?_ | (simp -dsimp -implicitDefEqProofs (disch := (first | assumption | omega | (simp only [ll1, ll2, ll3, ll4, ll5, ll6, ll7, ll8]; omega))) only [go_sem, lk_k, hg0, hg1, hg2, hps]) | refine acalls_same (hsr _) ?_ | refine ⟨_, hsr _, ?_⟩ | refine ⟨_, _, hsr _, ?_⟩ | refine acalls_same (Clone_s s_uni hns (by simp; omega)) ?_ | refine ⟨_, Clone_s s_uni hns (by simp; omega), ?_⟩ | refine ⟨_, _, Clone_s s_uni hns (by simp; omega), ?_⟩ | refine acalls_same (Clone_j j_uni hns2 (by simp; omega)) ?_ | refine ⟨_, Clone_j j_uni hns2 (by simp; omega), ?_⟩ | refine ⟨_, _, Clone_j j_uni hns2 (by simp; omega), ?_⟩ | refine vcI (fun _ => ?_) (fun _ => ?_) | (refine vcA ?_ ?_; focus (repeat' (first | omega | assumption | refine vcA ?_ ?_); done)) | omega | refine imp_in (fun _ => ?_))
      have hset : aset (flats (v.items.map jAV)) (pos v.names s * 5) (jAV x).flat = flats ((v.items.set (pos v.names s) x).map jAV) := by
        rw [flats_set (fun y hy => (j_uni y hy).1) j_len (by rw [List.length_map]; omega), List.map_set]
      rw [flat_j] at hset
      simp only [aset] at hset
      rw [jAV_eq]
      refine done_frz _ (Frz.agg _ [.lit (.int .i64 v.kind), .lit (.int .i64 v.num), .str v.text, .sl .sh 1 (v.names.map .str), .sl .sh 5 ((v.items.set (pos v.names s) x).map jAV)] rfl fun j c d e1 e2 => ?_) ⟨rfl, rfl⟩
      · match j, e1, e2 with
        | 0, e1, e2 => simp at e1 e2; subst e1; subst e2; exact .low _ (.lit _)
        | 1, e1, e2 => simp at e1 e2; subst e1; subst e2; exact .low _ (.lit _)
        | 2, e1, e2 => simp at e1 e2; subst e1; subst e2; exact .low _ (.str _)
        | 3, e1, e2 =>
          simp at e1 e2; subst e1; subst e2
          exact frz_row' (cs := v.names.map AV.str) (by omega) (by simp; rfl) (by simp) s_uni low_flats_s (flats_strs ..).symm
        | 4, e1, e2 =>
          simp only [List.getElem?_cons_succ, List.getElem?_cons_zero, Option.some.injEq] at e1 e2; subst e1; subst e2
          exact frz_row' (sh := .prow 5) (by omega) (by rw [List.getElem?_append_right (by omega), Nat.add_sub_cancel_left]; rfl) (by simp) j_uni low_flats_j hset
    · rw [jput_new hf]
      have hsr := fun H => Search_c (o := .sh) v.names s H (by omega) hv2
      rw [decide_eq_false hf] at hsr
      refine acalls_vc L_ok mixed [3, 1000002, 1000002004002, 1000006, 1000006007005, 1000006009005, 1000006010005] (rs := [.cell 6 29]) (n := 46) Tryz.func45 rfl rfl rfl rfl (Nat.le_of_ble_eq_true rfl) (by kernel_rfl) ?_
      have hlowS : ∀ m, Low m (.sl .sh 1 ((v.names.map AV.str).insertIdx (pos v.names s) (.str s))) := fun m => by rw [map_insert]; exact low_ssl
      have hlowJ : ∀ m, Low m (.sl .sh 5 ((v.items.map jAV).insertIdx (pos v.names s) (jAV x))) := fun m => by rw [map_insert]; exact low_jsl
      have cS := fun k H hk => Insert_s (k := k) (n := v.names.length) (i := pos v.names s) (x := .str s) (xs := v.names.map .str) (H := H) hk (by simp) s_uni ⟨rfl, rfl⟩ hpl (by omega) hlowS
      have cJ := fun k H hk => Insert_j (k := k) (n := v.items.length) (i := pos v.names s) (x := jAV x) (xs := v.items.map jAV) (H := H) hk (by simp) j_uni ⟨j_len, okv_j⟩ (by omega) (by omega) hlowJ
      rw [flats_strs] at cS
      repeat' (first | refine unhold ?_ | (simp -dsimp -implicitDefEqProofs (disch := (first | assumption | omega | (simp only [ll1, ll2, ll3, ll4, ll5, ll6, ll7, ll8]; omega))) only [go_sem, lk_k, hg0, hg1, hg2]) | refine acalls_same (hsr _) ?_ | refine ⟨_, hsr _, ?_⟩ | refine ⟨_, _, hsr _, ?_⟩ | refine acalls_same (Clone_s s_uni hns (by simp; omega)) ?_ | refine ⟨_, Clone_s s_uni hns (by simp; omega), ?_⟩ | refine ⟨_, _, Clone_s s_uni hns (by simp; omega), ?_⟩ | refine acalls_same (Clone_j j_uni hns2 (by simp; omega)) ?_ | refine ⟨_, Clone_j j_uni hns2 (by simp; omega), ?_⟩ | refine ⟨_, _, Clone_j j_uni hns2 (by simp; omega), ?_⟩ | refine acalls_same (cS _ _ (by simp; done)) ?_ | refine ⟨_, cS _ _ (by simp; done), ?_⟩ | refine ⟨_, _, cS _ _ (by simp; done), ?_⟩ | refine acalls_same (cJ _ _ (by simp; done)) ?_ | refine ⟨_, cJ _ _ (by simp; done), ?_⟩ | refine ⟨_, _, cJ _ _ (by simp; done), ?_⟩ | refine vcI (fun _ => ?_) (fun _ => ?_) | (refine vcA ?_ ?_; focus (repeat' (first | omega | assumption | refine vcA ?_ ?_); done)) | omega | refine imp_in (fun _ => ?_))
      rw [map_insert, map_insert]
      exact done_cut (jAV (.mk v.kind v.num v.text _ _)) (le_j (Le.refl _) (Le.refl _)) (low_jAV _) ⟨rfl, rfl⟩
end Go.Proofs.YtdahdbnfknmmgaaGreatDoor
end

section
set_option linter.unusedSimpArgs false
set_option linter.unusedVariables false
namespace Go.Proofs.YtdahdbnfknmmgaaGreatDoor
open Go V
set_option maxRecDepth 10000
set_option maxHeartbeats 4000000
theorem treeEnd_congr {k k' : JV → bytes → JV × bytes × Int} {e : UInt8} {v : JV} {r : bytes} {err : Int} (h : ∀ r4, r4.length < r.length → k v r4 = k' v r4) : treeEnd k e v r err = treeEnd k' e v r err := by
  unfold treeEnd
  split
  · rfl
  · cases skipW [e] (blanks r) with
    | some r4 => rfl
    | none =>
      cases hs : skipW [44] (blanks r) with
      | none => rfl
      | some r4 =>
        have h1 := skip_len hs
        have h2 := (suf_blanks (List.suffix_refl r)).length_le
        simp only [List.length_cons, List.length_nil] at h1
        exact h r4 (by omega)
theorem treeGo_fuel {f : bytes → JV × bytes × Int} {e : UInt8} (hf : ∀ r, (f r).2.1 <:+ r) : ∀ (n m : Nat) (v : JV) (r : bytes), r.length < n → r.length < m → treeGo f e n v r = treeGo f e m v r
  | 0, _, _, _, h, _ => by omega
  | _ + 1, 0, _, _, _, h => by omega
  | n + 1, m + 1, v, r, h1, h2 => by
    unfold treeGo
    have hn := (suf_name (v := v) (List.suffix_refl r)).length_le
    have hg := (hf (nameP v r).2.1).length_le
    have hg2 := (hf r).length_le
    split
    · split
      · rfl
      · exact treeEnd_congr fun r4 h => treeGo_fuel hf n m _ _ (by omega) (by omega)
    · exact treeEnd_congr fun r4 h => treeGo_fuel hf n m _ _ (by omega) (by omega)
def treeR (f : bytes → JV × bytes × Int) (e : UInt8) (v : JV) (r : bytes) : JV × bytes × Int := treeGo f e (r.length + 1) v r
theorem treeR_eq {f : bytes → JV × bytes × Int} {e : UInt8} (hf : ∀ r, (f r).2.1 <:+ r) (v : JV) (r : bytes) : treeR f e v r =
    if v.kind = 6 then
      if (nameP v r).2.2 ≠ 0 then (zeroJ, (nameP v r).2.1, (nameP v r).2.2)
      else treeEnd (treeR f e) e (jput v (nameP v r).1 (f (nameP v r).2.1).1) (f (nameP v r).2.1).2.1 (f (nameP v r).2.1).2.2
    else treeEnd (treeR f e) e (addJ v (f r).1) (f r).2.1 (f r).2.2 := by
  have hn := (suf_name (v := v) (List.suffix_refl r)).length_le
  have hg := (hf (nameP v r).2.1).length_le
  have hg2 := (hf r).length_le
  rw [treeR, treeGo]
  split
  · split
    · rfl
    · exact treeEnd_congr fun r4 h => treeGo_fuel hf _ _ _ _ (by omega) (by omega)
  · exact treeEnd_congr fun r4 h => treeGo_fuel hf _ _ _ _ (by omega) (by omega)
theorem suf_treeGo {f : bytes → JV × bytes × Int} {e : UInt8} (hf : ∀ r, (f r).2.1 <:+ r) : ∀ (n : Nat) (v : JV) (r : bytes), (treeGo f e n v r).2.1 <:+ r
  | 0, _, r => List.suffix_refl r
  | n + 1, v, r => by
    have hE : ∀ (v' : JV) (r2 : bytes) (err : Int), r2 <:+ r → (treeEnd (treeGo f e n) e v' r2 err).2.1 <:+ r := fun v' r2 err h => by
      unfold treeEnd
      split
      · exact suf_blanks h
      · cases hs : skipW [e] (blanks r2) with
        | some r4 => exact suf_skip (suf_blanks h) hs
        | none =>
          cases hs2 : skipW [44] (blanks r2) with
          | none => exact suf_blanks h
          | some r4 => exact (suf_treeGo hf n v' r4).trans (suf_skip (suf_blanks h) hs2)
    unfold treeGo
    split
    · split
      · exact suf_name (List.suffix_refl r)
      · exact hE _ _ _ ((hf _).trans (suf_name (List.suffix_refl r)))
    · exact hE _ _ _ (hf r)
theorem suf_treeP {f : bytes → JV × bytes × Int} {e : UInt8} (hf : ∀ r, (f r).2.1 <:+ r) {v : JV} {r t : bytes} (h : r <:+ t) : (treeP f e v r).2.1 <:+ t := by
  unfold treeP
  cases hs : skipW [e] (blanks r) with
  | some r2 => exact suf_skip (suf_blanks h) hs
  | none => exact (suf_treeGo hf _ _ _).trans (suf_blanks h)
theorem suf_leaf {r t : bytes} {x : JV × bytes × Int} (h : r <:+ t) (e : leafP r = some x) : x.2.1 <:+ t := by
  unfold leafP at e
  split at e
  · rename_i hs; cases e; exact suf_skip h hs
  · split at e
    · rename_i hs; cases e; exact suf_skip h hs
    · split at e
      · rename_i hs; cases e; exact suf_skip h hs
      · split at e
        · cases e; exact suf_quoted h
        · split at e
          · cases e; exact suf_num h
          · split at e
            · cases e; exact h
            · cases e
theorem suf_value : ∀ (n : Nat) (r : bytes), (valueP n r).2.1 <:+ r
  | 0, r => by
    unfold valueP
    have h := suf_blanks (List.suffix_refl r)
    cases e : leafP (blanks r) with
    | none => exact h
    | some x => exact suf_leaf h e
  | n + 1, r => by
    unfold valueP
    have h := suf_blanks (List.suffix_refl r)
    cases e : leafP (blanks r) with
    | some x => exact suf_leaf h e
    | none =>
      rw [Option.getD_none]
      split
      · exact suf_treeP (suf_value n) (suf_drop_n h 1)
      · exact suf_treeP (suf_value n) (suf_drop_n h 1)
theorem done_weak {H₀ H : List AObj} {R : AV → List AObj → Prop} {x y : AV} (h : Le x y) (hr : Done H₀ R y H) : Done H₀ R x H := by
  unfold Done at hr ⊢
  obtain ⟨z, H', he, hR⟩ := hr
  exact ⟨z, H', fun G₀ w₀ G w v h0 hi hs r => he G₀ w₀ G w v h0 hi hs (h _ _ _ _ r), hR⟩
/-- The state of a tree's loop. -/
structure TS where
  r : bytes
  v : JV
  e : Int
abbrev jCells (v : JV) : List AV := [.lit (.int .i64 v.kind), .lit (.int .i64 v.num), .str v.text, .sl .sh 1 (v.names.map .str), .sl .sh 5 (v.items.map jAV)]
abbrev zCells : List AV := [.lit (.int .i64 0), .lit (.int .i64 0), .str [], .sl .full 0 [], .sl .full 0 []]
theorem le_zero : Le (.agg zCells) (jAV zeroJ) := le_j (ns := []) (is := []) le_nil le_nil
theorem put_ok {v x : JV} {s : bytes} (h : objOk v) (hn : v.names.length < 20000) : objOk (jput v s x) ∧ (jput v s x).names.length ≤ v.names.length + 1 ∧ (jput v s x).kind = v.kind := by
  obtain ⟨h1, h2, h3⟩ := h
  have hp := pos_le v.names s
  by_cases hf : v.names[pos v.names s]? = some s
  · rw [jput_old hf]
    exact ⟨⟨by simp [JV.names, JV.items] at h1 ⊢; exact h1, h2, h3⟩, by show v.names.length ≤ _; omega, rfl⟩
  · rw [jput_new hf]
    have hl : (v.names.insertIdx (pos v.names s) s).length = v.names.length + 1 := List.length_insertIdx_of_le_length hp _
    have hl2 : (v.items.insertIdx (pos v.names s) x).length = v.items.length + 1 := List.length_insertIdx_of_le_length (by omega) _
    exact ⟨⟨by show (v.names.insertIdx _ _).length = (v.items.insertIdx _ _).length; omega, srt_insert h2 hf, by show (v.names.insertIdx _ _).length ≤ _; omega⟩, by show (v.names.insertIdx _ _).length ≤ _; omega, rfl⟩
/-- What a value's contract says. -/
def ValC (f : bytes → JV × bytes × Int) (t : bytes) (w : Int) : Prop := ∀ (k : Nat) (r : bytes) (H : List AObj), H[k]? = some (pObj t r 0) → r <:+ t →
  ACalls Tryz.prog 28 [.mp k 0, .lit (.int .i64 w)] H (fun x H' => x = jAV (f r).1 ∧ H' = H.set k (pObj t (f r).2.1 (f r).2.2))
def tObjs (t : bytes) (H : List AObj) (k : Nat) (y : TS) : List AObj := H.set k (pObj t y.r y.e) ++ [.cells (.one 29) (jCells y.v), .cells (.one 29) zCells]
theorem tree_o {f : bytes → JV × bytes × Int} {k : Nat} {t r : bytes} {H : List AObj} {w : Int} (hw : 0 ≤ w ∧ w ≤ 100) (hk : H[k]? = some (pObj t r 0)) (hs : r <:+ t) (hl : t.length ≤ 10000) (hf : ∀ r, (f r).2.1 <:+ r) (hval : ValC f t (w + 1)) :
    ACalls Tryz.prog 57 [.mp k 0, jAV objJ, .str [125], .lit (.int .i64 w)] H (fun x H' => x = jAV (treeP f 125 objJ r).1 ∧ H' = H.set k (pObj t (treeP f 125 objJ r).2.1 (treeP f 125 objJ r).2.2)) := by
  have hkl := lt_of_get hk
  have hs1 := suf_blanks hs
  have hrl := suf_len hs1
  cases hsk : skipW [125] (blanks r) with
  | some r2 =>
    have htp : treeP f 125 objJ r = (objJ, r2, 0) := by rw [treeP, hsk]
    rw [htp]
    refine acalls_vc L_ok mixed [5, 1000008, 1000008000005, 1000009, 1000009001005] (rs := [.cell 8 29]) (n := 78) Tryz.func57 rfl rfl rfl rfl (Nat.le_of_ble_eq_true rfl) (by kernel_rfl) ?_
    repeat' (first | refine unhold ?_ | (simp -dsimp -implicitDefEqProofs (disch := (first | assumption | omega | (simp only [ll1, ll2, ll3, ll4, ll5, ll6, ll7, ll8]; omega))) only [go_sem, lk_k hkl, st_k hkl, lk_b, st_b, lk_m, st_m, h_left hkl, h_setl hkl, hsk]) | refine acalls_same (blanks_c (by rw [h_left hkl]; exact hk) hs hl) ?_ | refine ⟨_, blanks_c (by rw [h_left hkl]; exact hk) hs hl, ?_⟩ | refine ⟨_, _, blanks_c (by rw [h_left hkl]; exact hk) hs hl, ?_⟩ | refine acalls_same (skip_c (w := [125]) (lk_k hkl) hs1 hl (by decide)) ?_ | refine ⟨_, skip_c (w := [125]) (lk_k hkl) hs1 hl (by decide), ?_⟩ | refine ⟨_, _, skip_c (w := [125]) (lk_k hkl) hs1 hl (by decide), ?_⟩ | refine vcI (fun _ => ?_) (fun _ => ?_) | (refine vcA ?_ ?_; focus (repeat' (first | omega | assumption | refine vcA ?_ ?_); done)) | omega | refine imp_in (fun _ => ?_))
    exact done_cut' (low_jAV _) rfl low_pObj ⟨rfl, rfl⟩
  | none =>
    have htp : treeP f 125 objJ r = treeR f 125 objJ (blanks r) := by rw [treeP, hsk]; rfl
    rw [htp]
    generalize hq : treeR f 125 objJ (blanks r) = q
    have hb1 : 0 + (blanks r).length ≤ t.length + 1 := by omega
    have hb2 : 0 + (blanks r).length ≤ t.length := by omega
    refine acalls_vc L_ok mixed [5, 1000008, 1000008000005, 1000009, 1000009001005] (rs := [.cell 8 29]) (n := 78) Tryz.func57 rfl rfl rfl rfl (Nat.le_of_ble_eq_true rfl) (by kernel_rfl) ?_
    repeat' (first | refine unhold ?_ | (simp -dsimp -implicitDefEqProofs (disch := (first | assumption | omega | (simp only [ll1, ll2, ll3, ll4, ll5, ll6, ll7, ll8]; omega))) only [go_sem, lk_k hkl, st_k hkl, lk_b, st_b, lk_m, st_m, h_left hkl, h_setl hkl, hsk]) | refine acalls_same (blanks_c (by rw [h_left hkl]; exact hk) hs hl) ?_ | refine ⟨_, blanks_c (by rw [h_left hkl]; exact hk) hs hl, ?_⟩ | refine ⟨_, _, blanks_c (by rw [h_left hkl]; exact hk) hs hl, ?_⟩ | refine acalls_same (skip_c (w := [125]) (lk_k hkl) hs1 hl (by decide)) ?_ | refine ⟨_, skip_c (w := [125]) (lk_k hkl) hs1 hl (by decide), ?_⟩ | refine ⟨_, _, skip_c (w := [125]) (lk_k hkl) hs1 hl (by decide), ?_⟩ | refine vcI (fun _ => ?_) (fun _ => ?_) | (refine vcA ?_ ?_; focus (repeat' (first | omega | assumption | refine vcA ?_ ?_); done)) | omega | refine imp_in (fun _ => ?_))
    refine vc_loopk L_ok mixed [5, 1000008, 1000008000005, 1000009, 1000009001005] [0, 2, 3, 5, 8] (fun y : TS => y.r <:+ t ∧ y.v.kind = 6 ∧ objOk y.v ∧ y.v.names.length + y.r.length ≤ t.length + 1 ∧ ((y.e = 0 ∧ y.v.names.length + y.r.length ≤ t.length ∧ treeR f 125 y.v y.r = q) ∨ (y.e ≠ 0 ∧ q = (zeroJ, y.r, y.e)))) (fun _ => []) (tObjs t H k) (fun y => if y.e = 0 then y.r.length + 1 else 0) (by kernel_rfl) ?_ ⟨blanks r, objJ, 0⟩ ⟨hs1, rfl, ⟨rfl, rfl, Nat.zero_le _⟩, hb1, .inl ⟨rfl, hb2, hq⟩⟩ env_ok rfl
    rintro ⟨r', v, e⟩ ⟨hs', hk6, hok, hnl, hst⟩
    dsimp only at hs' hk6 hok hnl hst ⊢
    have hrl' := suf_len hs'
    have hkc : (v.kind = 6) = True := eq_true hk6
    unfold tObjs
    dsimp only [jCells, zCells]
    rcases hst with ⟨rfl, hnl2, hq'⟩ | ⟨he, rfl⟩
    · rw [treeR_eq hf, if_pos hk6] at hq'
      have hn := name_c (t := t) (r := r') (H := H.set k (pObj t r' 0) ++ [.cells (.one 29) (jCells v), .cells (.one 29) zCells]) v (by have := hok.2.2; omega) (by have := hok.2.2; have := hok.1; omega) (lk_k hkl) hs' hl
      have hs2 := suf_name (v := v) hs'
      have hs2' := (suf_name (v := v) (List.suffix_refl r')).length_le
      generalize nameP v r' = nm at *
      obtain ⟨s, r2, e2⟩ := nm
      dsimp only at hn hs2 hs2' hq'
      by_cases he2 : e2 = 0
      · subst he2
        rw [if_neg (by simp)] at hq'
        have hv2 := fun H h => hval k r2 H h hs2
        have hs3 := (hf r2).trans hs2
        have hs3' := (hf r2).length_le
        generalize f r2 = vp at *
        obtain ⟨x, r3, e3⟩ := vp
        dsimp only at hv2 hs3 hs3' hq'
        have hs4 := suf_blanks hs3
        have hs4' := (suf_blanks (List.suffix_refl r3)).length_le
        obtain ⟨hok2, hnl3, hk62⟩ := put_ok (x := x) (s := s) hok (by omega)
        have hput := fun H => put_c v s x H hok
        generalize jput v s x = v2 at *
        by_cases he3 : e3 = 0
        · subst he3
          cases hk1 : skipW [125] (blanks r3) with
          | some r4 =>
            have hqq : q = (v2, r4, 0) := by rw [← hq', treeEnd, if_neg (by simp), hk1]
            subst hqq
            repeat' (first | refine unhold ?_ | (simp -dsimp -implicitDefEqProofs (disch := (first | assumption | omega | (simp only [ll1, ll2, ll3, ll4, ll5, ll6, ll7, ll8]; omega))) only [go_sem, lk_k hkl, st_k hkl, lk_b, st_b, lk_m, st_m, hkc, hk1]) | refine acalls_same (hn) ?_ | refine ⟨_, hn, ?_⟩ | refine ⟨_, _, hn, ?_⟩ | refine acalls_same (hv2 _ (lk_k hkl)) ?_ | refine ⟨_, hv2 _ (lk_k hkl), ?_⟩ | refine ⟨_, _, hv2 _ (lk_k hkl), ?_⟩ | refine acalls_same (hput _) ?_ | refine ⟨_, hput _, ?_⟩ | refine ⟨_, _, hput _, ?_⟩ | refine acalls_same (blanks_c (lk_k hkl) hs3 hl) ?_ | refine ⟨_, blanks_c (lk_k hkl) hs3 hl, ?_⟩ | refine ⟨_, _, blanks_c (lk_k hkl) hs3 hl, ?_⟩ | refine acalls_same (skip_c (w := [125]) (lk_k hkl) hs4 hl (by decide)) ?_ | refine ⟨_, skip_c (w := [125]) (lk_k hkl) hs4 hl (by decide), ?_⟩ | refine ⟨_, _, skip_c (w := [125]) (lk_k hkl) hs4 hl (by decide), ?_⟩ | refine vcI (fun _ => ?_) (fun _ => ?_) | (refine vcA ?_ ?_; focus (repeat' (first | omega | assumption | refine vcA ?_ ?_); done)) | omega | refine imp_in (fun _ => ?_))
            exact done_cut' (low_jAV _) rfl low_pObj ⟨rfl, rfl⟩
          | none =>
            cases hk2 : skipW [44] (blanks r3) with
            | some r4 =>
              have hqq : treeR f 125 v2 r4 = q := by rw [← hq', treeEnd, if_neg (by simp), hk1, hk2]
              have hl4 := skip_len hk2
              have hs5 := suf_skip hs4 hk2
              simp only [List.length_cons, List.length_nil] at hl4
              repeat' (first | refine unhold ?_ | (simp -dsimp -implicitDefEqProofs (disch := (first | assumption | omega | (simp only [ll1, ll2, ll3, ll4, ll5, ll6, ll7, ll8]; omega))) only [go_sem, lk_k hkl, st_k hkl, lk_b, st_b, lk_m, st_m, hkc, hk1, hk2]) | refine acalls_same (hn) ?_ | refine ⟨_, hn, ?_⟩ | refine ⟨_, _, hn, ?_⟩ | refine acalls_same (hv2 _ (lk_k hkl)) ?_ | refine ⟨_, hv2 _ (lk_k hkl), ?_⟩ | refine ⟨_, _, hv2 _ (lk_k hkl), ?_⟩ | refine acalls_same (hput _) ?_ | refine ⟨_, hput _, ?_⟩ | refine ⟨_, _, hput _, ?_⟩ | refine acalls_same (blanks_c (lk_k hkl) hs3 hl) ?_ | refine ⟨_, blanks_c (lk_k hkl) hs3 hl, ?_⟩ | refine ⟨_, _, blanks_c (lk_k hkl) hs3 hl, ?_⟩ | refine acalls_same (skip_c (w := [125]) (lk_k hkl) hs4 hl (by decide)) ?_ | refine ⟨_, skip_c (w := [125]) (lk_k hkl) hs4 hl (by decide), ?_⟩ | refine ⟨_, _, skip_c (w := [125]) (lk_k hkl) hs4 hl (by decide), ?_⟩ | refine acalls_same (skip_c (w := [44]) (lk_k hkl) hs4 hl (by decide)) ?_ | refine ⟨_, skip_c (w := [44]) (lk_k hkl) hs4 hl (by decide), ?_⟩ | refine ⟨_, _, skip_c (w := [44]) (lk_k hkl) hs4 hl (by decide), ?_⟩ | refine vcI (fun _ => ?_) (fun _ => ?_) | (refine vcA ?_ ?_; focus (repeat' (first | omega | assumption | refine vcA ?_ ?_); done)) | omega | refine imp_in (fun _ => ?_))
              refine again (⟨r4, v2, 0⟩) ?_ ?_ ?_ env_ok
              · simp
                omega
              · exact ⟨hs5, hk62.trans hk6, hok2, by dsimp only; omega, .inl ⟨rfl, by dsimp only; omega, hqq⟩⟩
              · rfl
            | none =>
              have hqq : q = (zeroJ, blanks r3, 2) := by rw [← hq', treeEnd, if_neg (by simp), hk1, hk2]
              subst hqq
              repeat' (first | refine unhold ?_ | (simp -dsimp -implicitDefEqProofs (disch := (first | assumption | omega | (simp only [ll1, ll2, ll3, ll4, ll5, ll6, ll7, ll8]; omega))) only [go_sem, lk_k hkl, st_k hkl, lk_b, st_b, lk_m, st_m, hkc, hk1, hk2]) | refine acalls_same (hn) ?_ | refine ⟨_, hn, ?_⟩ | refine ⟨_, _, hn, ?_⟩ | refine acalls_same (hv2 _ (lk_k hkl)) ?_ | refine ⟨_, hv2 _ (lk_k hkl), ?_⟩ | refine ⟨_, _, hv2 _ (lk_k hkl), ?_⟩ | refine acalls_same (hput _) ?_ | refine ⟨_, hput _, ?_⟩ | refine ⟨_, _, hput _, ?_⟩ | refine acalls_same (blanks_c (lk_k hkl) hs3 hl) ?_ | refine ⟨_, blanks_c (lk_k hkl) hs3 hl, ?_⟩ | refine ⟨_, _, blanks_c (lk_k hkl) hs3 hl, ?_⟩ | refine acalls_same (skip_c (w := [125]) (lk_k hkl) hs4 hl (by decide)) ?_ | refine ⟨_, skip_c (w := [125]) (lk_k hkl) hs4 hl (by decide), ?_⟩ | refine ⟨_, _, skip_c (w := [125]) (lk_k hkl) hs4 hl (by decide), ?_⟩ | refine acalls_same (skip_c (w := [44]) (lk_k hkl) hs4 hl (by decide)) ?_ | refine ⟨_, skip_c (w := [44]) (lk_k hkl) hs4 hl (by decide), ?_⟩ | refine ⟨_, _, skip_c (w := [44]) (lk_k hkl) hs4 hl (by decide), ?_⟩ | refine acalls_same (fail_c (lk_k hkl)) ?_ | refine ⟨_, fail_c (lk_k hkl), ?_⟩ | refine ⟨_, _, fail_c (lk_k hkl), ?_⟩ | refine vcI (fun _ => ?_) (fun _ => ?_) | (refine vcA ?_ ?_; focus (repeat' (first | omega | assumption | refine vcA ?_ ?_); done)) | omega | refine imp_in (fun _ => ?_))
              refine again (⟨blanks r3, v2, 2⟩) ?_ ?_ ?_ env_ok
              · simp
              · exact ⟨hs4, hk62.trans hk6, hok2, by dsimp only; omega, .inr ⟨by simp, rfl⟩⟩
              · rfl
        · have hqq : q = (zeroJ, blanks r3, e3) := by rw [← hq', treeEnd, if_pos he3]
          subst hqq
          repeat' (first | refine unhold ?_ | (simp -dsimp -implicitDefEqProofs (disch := (first | assumption | omega | (simp only [ll1, ll2, ll3, ll4, ll5, ll6, ll7, ll8]; omega))) only [go_sem, lk_k hkl, st_k hkl, lk_b, st_b, lk_m, st_m, hkc, he3]) | refine acalls_same (hn) ?_ | refine ⟨_, hn, ?_⟩ | refine ⟨_, _, hn, ?_⟩ | refine acalls_same (hv2 _ (lk_k hkl)) ?_ | refine ⟨_, hv2 _ (lk_k hkl), ?_⟩ | refine ⟨_, _, hv2 _ (lk_k hkl), ?_⟩ | refine acalls_same (hput _) ?_ | refine ⟨_, hput _, ?_⟩ | refine ⟨_, _, hput _, ?_⟩ | refine acalls_same (blanks_c (lk_k hkl) hs3 hl) ?_ | refine ⟨_, blanks_c (lk_k hkl) hs3 hl, ?_⟩ | refine ⟨_, _, blanks_c (lk_k hkl) hs3 hl, ?_⟩ | refine vcI (fun _ => ?_) (fun _ => ?_) | (refine vcA ?_ ?_; focus (repeat' (first | omega | assumption | refine vcA ?_ ?_); done)) | omega | refine imp_in (fun _ => ?_))
          refine again (⟨blanks r3, v2, e3⟩) ?_ ?_ ?_ env_ok
          · simp [he3]
          · exact ⟨hs4, hk62.trans hk6, hok2, by dsimp only; omega, .inr ⟨he3, rfl⟩⟩
          · rfl
      · have hqq : q = (zeroJ, r2, e2) := by rw [← hq', if_pos he2]
        subst hqq
        repeat' (first | refine unhold ?_ | (simp -dsimp -implicitDefEqProofs (disch := (first | assumption | omega | (simp only [ll1, ll2, ll3, ll4, ll5, ll6, ll7, ll8]; omega))) only [go_sem, lk_k hkl, st_k hkl, lk_b, st_b, lk_m, st_m, hkc, he2]) | refine acalls_same (hn) ?_ | refine ⟨_, hn, ?_⟩ | refine ⟨_, _, hn, ?_⟩ | refine vcI (fun _ => ?_) (fun _ => ?_) | (refine vcA ?_ ?_; focus (repeat' (first | omega | assumption | refine vcA ?_ ?_); done)) | omega | refine imp_in (fun _ => ?_))
        exact done_weak le_zero (done_cut' (low_jAV _) rfl low_pObj ⟨rfl, rfl⟩)
    · repeat' (first | refine unhold ?_ | (simp -dsimp -implicitDefEqProofs (disch := (first | assumption | omega | (simp only [ll1, ll2, ll3, ll4, ll5, ll6, ll7, ll8]; omega))) only [go_sem, lk_k hkl, st_k hkl, lk_b, st_b, lk_m, st_m, he]) | refine vcI (fun _ => ?_) (fun _ => ?_) | (refine vcA ?_ ?_; focus (repeat' (first | omega | assumption | refine vcA ?_ ?_); done)) | omega | refine imp_in (fun _ => ?_))
      exact done_weak le_zero (done_cut' (low_jAV _) rfl low_pObj ⟨rfl, rfl⟩)
end Go.Proofs.YtdahdbnfknmmgaaGreatDoor
end

section
set_option linter.unusedSimpArgs false
set_option linter.unusedVariables false
namespace Go.Proofs.YtdahdbnfknmmgaaGreatDoor
open Go V
set_option maxRecDepth 10000
set_option maxHeartbeats 4000000
def lJ (is : List JV) : JV := .mk 5 0 [] [] is
theorem treeR_l {f : bytes → JV × bytes × Int} {e : UInt8} (hf : ∀ r, (f r).2.1 <:+ r) (is : List JV) (r : bytes) : treeR f e (lJ is) r = treeEnd (treeR f e) e (lJ (is ++ [(f r).1])) (f r).2.1 (f r).2.2 := by
  rw [treeR_eq hf, if_neg (by show ¬ ((5 : Int) = 6); decide)]
  rfl
section
variable {H M : List AObj} {k : Nat} {o x : AObj}
theorem lk_2 : (H.set k o ++ M)[H.length + 2]? = M[2]? := by rw [List.getElem?_append_right (by rw [List.length_set]; omega), List.length_set, Nat.add_sub_cancel_left]
theorem st_2 : (H.set k o ++ M).set (H.length + 2) x = H.set k o ++ M.set 2 x := by rw [List.set_append_right _ _ (by rw [List.length_set]; omega), List.length_set, Nat.add_sub_cancel_left]
end
theorem done_cutm {H₀ : List AObj} {k : Nat} {o g g' : AObj} {M : List AObj} {R : AV → List AObj → Prop} {x : AV} (hk : k < H₀.length) (hg : ∀ sh cs, g' ≠ .cells sh cs) (hx : Low (H₀ ++ [g]).length x) (hcs : ∀ sh cs, o = .cells sh cs → ∀ m, ∀ y ∈ cs, Low m y) (hr : R x (H₀.set k o ++ [g'])) : Done (H₀ ++ [g]) R x (H₀.set k o ++ (g' :: M)) := by
  unfold Done
  have hl : (H₀.set k o ++ [g']).length = (H₀ ++ [g]).length := by simp
  refine ⟨x, (H₀.set k o ++ (g' :: M)).take (H₀ ++ [g]).length, ends_cut (Le.refl x) (Nat.le_refl _) hx fun i sh cs hi e => ?_, ?_⟩
  · rw [show H₀.set k o ++ (g' :: M) = (H₀.set k o ++ [g']) ++ M by simp, List.getElem?_append_left (by rw [hl]; exact hi)] at e
    by_cases hik : i < H₀.length
    · rw [List.getElem?_append_left (by simpa using hik)] at e
      rcases get_set e with ⟨_, e'⟩ | ⟨_, e', _⟩
      · exact .inl (by rw [List.getElem?_append_left hik]; exact e')
      · exact .inr (hcs sh cs e'.symm _)
    · rw [List.getElem?_append_right (by simpa using hik)] at e
      have h1 := lt_of_get e
      simp only [List.length_cons, List.length_nil] at h1
      rw [show i - (H₀.set k o).length = 0 by omega] at e
      simp at e
      exact absurd e (hg _ _)
  · rw [show H₀.set k o ++ (g' :: M) = (H₀.set k o ++ [g']) ++ M by simp, ← hl, List.take_left]
    exact hr
/-- A call that gets a fresh tree: a token for its items. -/
theorem acalls_mintJ {P : Program} {f : FuncId} {H : List AObj} {a b d c0 c1 c2 c3 y : AV} {k : Nat} {o : AObj} (hk : k < H.length) (hcs : ∀ sh cs, o = .cells sh cs → ∀ m, ∀ y ∈ cs, Low m y) (hy : ∀ m, Low m y)
    (h : ACalls P f [a, .agg [c0, c1, c2, c3, .sl (.tok H.length) 5 []], b, d] (H ++ [.grow 5 0 none]) (fun x H' => x = y ∧ ∃ n, H' = H.set k o ++ [.grow 5 n none])) :
    ACalls P f [a, .agg [c0, c1, c2, c3, .sl .full 0 []], b, d] H (fun x H' => x = y ∧ H' = H.set k o) := fun G w vs hi ha => by
  obtain ⟨hsz, hrel⟩ := ha
  obtain ⟨v1, hv1⟩ : ∃ v, vs[1]? = some v := ⟨_, Array.getElem?_eq_getElem (by rw [hsz]; simp)⟩
  have r1 := hrel 1 _ v1 rfl hv1
  cases r1 with
  | agg _ arr hl hr =>
  obtain ⟨v4, hv4⟩ : ∃ v, arr[4]? = some v := ⟨_, Array.getElem?_eq_getElem (by rw [hl]; simp)⟩
  have r4 := hr 4 _ v4 rfl hv4
  have r4' := r4
  cases r4 with
  | sl _ _ _ ad len cap val hl4 hcap hs' hc hr' hf' ha' ho =>
  obtain ⟨hi', st, r5⟩ := mint none hi r4' (s := 5) (by decide) (fun h => absurd rfl h) (fun h => absurd rfl h)
  refine (h _ w vs hi' ⟨hsz, fun j x v ex ev => ?_⟩).mono ?_
  · match j, ex with
    | 0, ex => cases ex; exact (hrel 0 _ v rfl ev).mono st
    | 1, ex =>
      cases ex
      rw [hv1] at ev
      cases ev
      refine .agg _ arr (by rw [hl]; rfl) fun i z u ez eu => ?_
      match i, ez with
      | 0, ez => cases ez; exact (hr 0 _ u rfl eu).mono st
      | 1, ez => cases ez; exact (hr 1 _ u rfl eu).mono st
      | 2, ez => cases ez; exact (hr 2 _ u rfl eu).mono st
      | 3, ez => cases ez; exact (hr 3 _ u rfl eu).mono st
      | 4, ez =>
        cases ez
        rw [hv4] at eu
        cases eu
        exact r5
    | 2, ex => cases ex; exact (hrel 2 _ v rfl ev).mono st
    | 3, ex => cases ex; exact (hrel 3 _ v rfl ev).mono st
  · rintro v w' ⟨x, G', H', h1, h2, h3, rfl, n, rfl⟩
    have hl : (H.set k o).length = H.length := by simp
    obtain ⟨G2, g1, g2, g3⟩ := ends_cut (H₀ := H) (H := H.set k o ++ [.grow 5 n none]) (m := H.length) (Le.refl x) (Nat.le_refl _) (hy _) (fun i sh cs hi e => by
      rw [List.getElem?_append_left (by rw [hl]; exact hi)] at e
      rcases get_set e with ⟨_, e'⟩ | ⟨_, e', _⟩
      · exact .inl e'
      · exact .inr (hcs sh cs e'.symm _)) G w G' w' v hi h1 (st.trans h2) h3
    exact ⟨x, G2, _, g1, g2, g3, rfl, by rw [← hl, List.take_left]⟩
theorem low_pObj' {t r : bytes} {e : Int} : ∀ sh cs, pObj t r e = .cells sh cs → ∀ m, ∀ y ∈ cs, Low m y := fun sh cs h _ => low_pObj sh cs h
/-- The state of a list's loop. -/
structure LS where
  r : bytes
  is : List JV
  e : Int
abbrev lCells (m : Nat) (is : List JV) : List AV := [.lit (.int .i64 5), .lit (.int .i64 0), .str [], .sl .full 0 [], .sl (.tok m) 5 (is.map jAV)]
theorem le_list {o : Own} {m : Nat} {is : List JV} : Le (.agg [.lit (.int .i64 5), .lit (.int .i64 0), .str [], .sl o 0 [], .sl (.tok m) 5 (is.map jAV)]) (jAV (lJ is)) := le_j (ns := []) le_nil le_sh
def lObjs (t : bytes) (H : List AObj) (k : Nat) (y : LS) : List AObj := H.set k (pObj t y.r y.e) ++ [.grow 5 y.is.length none, .cells (.one 29) (lCells H.length y.is), .cells (.one 29) zCells]
theorem tree_l {f : bytes → JV × bytes × Int} {k : Nat} {t r : bytes} {H : List AObj} {w : Int} (hw : 0 ≤ w ∧ w ≤ 100) (hk : H[k]? = some (pObj t r 0)) (hs : r <:+ t) (hl : t.length ≤ 10000) (hf : ∀ r, (f r).2.1 <:+ r) (hval : ValC f t (w + 1)) :
    ACalls Tryz.prog 57 [.mp k 0, .agg (lCells H.length []), .str [93], .lit (.int .i64 w)] (H ++ [.grow 5 0 none]) (fun x H' => x = jAV (treeP f 93 listJ r).1 ∧ ∃ n, H' = H.set k (pObj t (treeP f 93 listJ r).2.1 (treeP f 93 listJ r).2.2) ++ [.grow 5 n none]) := by
  have hkl := lt_of_get hk
  have hs1 := suf_blanks hs
  have hrl := suf_len hs1
  cases hsk : skipW [93] (blanks r) with
  | some r2 =>
    have htp : treeP f 93 listJ r = (listJ, r2, 0) := by rw [treeP, hsk]
    rw [htp]
    refine acalls_vc L_ok mixed [5, 1000008, 1000008000005, 1000009, 1000009001005] (rs := [.cell 8 29]) (n := 78) Tryz.func57 rfl rfl rfl rfl (Nat.le_of_ble_eq_true rfl) (by kernel_rfl) ?_
    repeat' (first | refine unhold ?_ | (simp -dsimp -implicitDefEqProofs (disch := (first | assumption | omega | (simp only [ll1, ll2, ll3, ll4, ll5, ll6, ll7, ll8]; omega))) only [go_sem, lk_k hkl, st_k hkl, lk_b, st_b, lk_m, st_m, lk_2, st_2, h_left hkl, h_setl hkl, hsk, List.append_assoc]) | refine acalls_same (blanks_c (by rw [h_left hkl]; exact hk) hs hl) ?_ | refine ⟨_, blanks_c (by rw [h_left hkl]; exact hk) hs hl, ?_⟩ | refine ⟨_, _, blanks_c (by rw [h_left hkl]; exact hk) hs hl, ?_⟩ | refine acalls_same (skip_c (w := [93]) (lk_k hkl) hs1 hl (by decide)) ?_ | refine ⟨_, skip_c (w := [93]) (lk_k hkl) hs1 hl (by decide), ?_⟩ | refine ⟨_, _, skip_c (w := [93]) (lk_k hkl) hs1 hl (by decide), ?_⟩ | refine vcI (fun _ => ?_) (fun _ => ?_) | (refine vcA ?_ ?_; focus (repeat' (first | omega | assumption | refine vcA ?_ ?_); done)) | omega | refine imp_in (fun _ => ?_))
    exact done_weak (y := jAV listJ) (le_list (is := [])) (done_cutm hkl nofun (low_jAV _) low_pObj' ⟨rfl, _, rfl⟩)
  | none =>
    have htp : treeP f 93 listJ r = treeR f 93 (lJ []) (blanks r) := by rw [treeP, hsk]; rfl
    rw [htp]
    generalize hq : treeR f 93 (lJ []) (blanks r) = q
    have hb1 : 0 + (blanks r).length ≤ t.length + 1 := by omega
    have hb2 : 0 + (blanks r).length ≤ t.length := by omega
    refine acalls_vc L_ok mixed [5, 1000008, 1000008000005, 1000009, 1000009001005] (rs := [.cell 8 29]) (n := 78) Tryz.func57 rfl rfl rfl rfl (Nat.le_of_ble_eq_true rfl) (by kernel_rfl) ?_
    repeat' (first | refine unhold ?_ | (simp -dsimp -implicitDefEqProofs (disch := (first | assumption | omega | (simp only [ll1, ll2, ll3, ll4, ll5, ll6, ll7, ll8]; omega))) only [go_sem, lk_k hkl, st_k hkl, lk_b, st_b, lk_m, st_m, lk_2, st_2, h_left hkl, h_setl hkl, hsk, List.append_assoc]) | refine acalls_same (blanks_c (by rw [h_left hkl]; exact hk) hs hl) ?_ | refine ⟨_, blanks_c (by rw [h_left hkl]; exact hk) hs hl, ?_⟩ | refine ⟨_, _, blanks_c (by rw [h_left hkl]; exact hk) hs hl, ?_⟩ | refine acalls_same (skip_c (w := [93]) (lk_k hkl) hs1 hl (by decide)) ?_ | refine ⟨_, skip_c (w := [93]) (lk_k hkl) hs1 hl (by decide), ?_⟩ | refine ⟨_, _, skip_c (w := [93]) (lk_k hkl) hs1 hl (by decide), ?_⟩ | refine vcI (fun _ => ?_) (fun _ => ?_) | (refine vcA ?_ ?_; focus (repeat' (first | omega | assumption | refine vcA ?_ ?_); done)) | omega | refine imp_in (fun _ => ?_))
    refine vc_loopk L_ok mixed [5, 1000008, 1000008000005, 1000009, 1000009001005] [0, 2, 3, 5, 8] (fun y : LS => y.r <:+ t ∧ y.is.length + y.r.length ≤ t.length + 1 ∧ ((y.e = 0 ∧ y.is.length + y.r.length ≤ t.length ∧ treeR f 93 (lJ y.is) y.r = q) ∨ (y.e ≠ 0 ∧ q = (zeroJ, y.r, y.e)))) (fun _ => []) (lObjs t H k) (fun y => if y.e = 0 then y.r.length + 1 else 0) (by kernel_rfl) ?_ ⟨blanks r, [], 0⟩ ⟨hs1, hb1, .inl ⟨rfl, hb2, hq⟩⟩ env_ok rfl
    rintro ⟨r', is, e⟩ ⟨hs', hnl, hst⟩
    dsimp only at hs' hnl hst ⊢
    have hrl' := suf_len hs'
    unfold lObjs
    dsimp only [lCells, zCells]
    rcases hst with ⟨rfl, hnl2, hq'⟩ | ⟨he, rfl⟩
    · rw [treeR_l hf] at hq'
      have hv2 := fun H h => hval k r' H h hs'
      have hs3 := (hf r').trans hs'
      have hs3' := (hf r').length_le
      generalize f r' = vp at *
      obtain ⟨x, r3, e3⟩ := vp
      dsimp only at hv2 hs3 hs3' hq'
      have hs4 := suf_blanks hs3
      have hs4' := (suf_blanks (List.suffix_refl r3)).length_le
      have hm : is.map jAV ++ [jAV x] = (is ++ [x]).map jAV := by simp
      by_cases he3 : e3 = 0
      · subst he3
        cases hk1 : skipW [93] (blanks r3) with
        | some r4 =>
          have hqq : q = (lJ (is ++ [x]), r4, 0) := by rw [← hq', treeEnd, if_neg (by simp), hk1]
          subst hqq
          repeat' (first | refine unhold ?_ | (simp -dsimp -implicitDefEqProofs (disch := (first | assumption | omega | (simp only [ll1, ll2, ll3, ll4, ll5, ll6, ll7, ll8]; omega))) only [go_sem, lk_k hkl, st_k hkl, lk_b, st_b, lk_m, st_m, lk_2, st_2, hk1, hm]) | refine acalls_same (hv2 _ (lk_k hkl)) ?_ | refine ⟨_, hv2 _ (lk_k hkl), ?_⟩ | refine ⟨_, _, hv2 _ (lk_k hkl), ?_⟩ | refine acalls_same (blanks_c (lk_k hkl) hs3 hl) ?_ | refine ⟨_, blanks_c (lk_k hkl) hs3 hl, ?_⟩ | refine ⟨_, _, blanks_c (lk_k hkl) hs3 hl, ?_⟩ | refine acalls_same (skip_c (w := [93]) (lk_k hkl) hs4 hl (by decide)) ?_ | refine ⟨_, skip_c (w := [93]) (lk_k hkl) hs4 hl (by decide), ?_⟩ | refine ⟨_, _, skip_c (w := [93]) (lk_k hkl) hs4 hl (by decide), ?_⟩ | refine vcI (fun _ => ?_) (fun _ => ?_) | (refine vcA ?_ ?_; focus (repeat' (first | omega | assumption | refine vcA ?_ ?_); done)) | omega | refine imp_in (fun _ => ?_))
          exact done_weak le_list (done_cutm hkl nofun (low_jAV _) low_pObj' ⟨rfl, _, rfl⟩)
        | none =>
          cases hk2 : skipW [44] (blanks r3) with
          | some r4 =>
            have hqq : treeR f 93 (lJ (is ++ [x])) r4 = q := by rw [← hq', treeEnd, if_neg (by simp), hk1, hk2]
            have hl4 := skip_len hk2
            have hs5 := suf_skip hs4 hk2
            simp only [List.length_cons, List.length_nil] at hl4
            repeat' (first | refine unhold ?_ | (simp -dsimp -implicitDefEqProofs (disch := (first | assumption | omega | (simp only [ll1, ll2, ll3, ll4, ll5, ll6, ll7, ll8]; omega))) only [go_sem, lk_k hkl, st_k hkl, lk_b, st_b, lk_m, st_m, lk_2, st_2, hk1, hk2, hm]) | refine acalls_same (hv2 _ (lk_k hkl)) ?_ | refine ⟨_, hv2 _ (lk_k hkl), ?_⟩ | refine ⟨_, _, hv2 _ (lk_k hkl), ?_⟩ | refine acalls_same (blanks_c (lk_k hkl) hs3 hl) ?_ | refine ⟨_, blanks_c (lk_k hkl) hs3 hl, ?_⟩ | refine ⟨_, _, blanks_c (lk_k hkl) hs3 hl, ?_⟩ | refine acalls_same (skip_c (w := [93]) (lk_k hkl) hs4 hl (by decide)) ?_ | refine ⟨_, skip_c (w := [93]) (lk_k hkl) hs4 hl (by decide), ?_⟩ | refine ⟨_, _, skip_c (w := [93]) (lk_k hkl) hs4 hl (by decide), ?_⟩ | refine acalls_same (skip_c (w := [44]) (lk_k hkl) hs4 hl (by decide)) ?_ | refine ⟨_, skip_c (w := [44]) (lk_k hkl) hs4 hl (by decide), ?_⟩ | refine ⟨_, _, skip_c (w := [44]) (lk_k hkl) hs4 hl (by decide), ?_⟩ | refine vcI (fun _ => ?_) (fun _ => ?_) | (refine vcA ?_ ?_; focus (repeat' (first | omega | assumption | refine vcA ?_ ?_); done)) | omega | refine imp_in (fun _ => ?_))
            refine again (⟨r4, is ++ [x], 0⟩) ?_ ?_ ?_ env_ok
            · simp
              omega
            · exact ⟨hs5, by simp; omega, .inl ⟨rfl, by simp; omega, hqq⟩⟩
            · simp
          | none =>
            have hqq : q = (zeroJ, blanks r3, 2) := by rw [← hq', treeEnd, if_neg (by simp), hk1, hk2]
            subst hqq
            repeat' (first | refine unhold ?_ | (simp -dsimp -implicitDefEqProofs (disch := (first | assumption | omega | (simp only [ll1, ll2, ll3, ll4, ll5, ll6, ll7, ll8]; omega))) only [go_sem, lk_k hkl, st_k hkl, lk_b, st_b, lk_m, st_m, lk_2, st_2, hk1, hk2, hm]) | refine acalls_same (hv2 _ (lk_k hkl)) ?_ | refine ⟨_, hv2 _ (lk_k hkl), ?_⟩ | refine ⟨_, _, hv2 _ (lk_k hkl), ?_⟩ | refine acalls_same (blanks_c (lk_k hkl) hs3 hl) ?_ | refine ⟨_, blanks_c (lk_k hkl) hs3 hl, ?_⟩ | refine ⟨_, _, blanks_c (lk_k hkl) hs3 hl, ?_⟩ | refine acalls_same (skip_c (w := [93]) (lk_k hkl) hs4 hl (by decide)) ?_ | refine ⟨_, skip_c (w := [93]) (lk_k hkl) hs4 hl (by decide), ?_⟩ | refine ⟨_, _, skip_c (w := [93]) (lk_k hkl) hs4 hl (by decide), ?_⟩ | refine acalls_same (skip_c (w := [44]) (lk_k hkl) hs4 hl (by decide)) ?_ | refine ⟨_, skip_c (w := [44]) (lk_k hkl) hs4 hl (by decide), ?_⟩ | refine ⟨_, _, skip_c (w := [44]) (lk_k hkl) hs4 hl (by decide), ?_⟩ | refine acalls_same (fail_c (lk_k hkl)) ?_ | refine ⟨_, fail_c (lk_k hkl), ?_⟩ | refine ⟨_, _, fail_c (lk_k hkl), ?_⟩ | refine vcI (fun _ => ?_) (fun _ => ?_) | (refine vcA ?_ ?_; focus (repeat' (first | omega | assumption | refine vcA ?_ ?_); done)) | omega | refine imp_in (fun _ => ?_))
            refine again (⟨blanks r3, is ++ [x], 2⟩) ?_ ?_ ?_ env_ok
            · simp
            · exact ⟨hs4, by simp; omega, .inr ⟨by simp, rfl⟩⟩
            · simp
      · have hqq : q = (zeroJ, blanks r3, e3) := by rw [← hq', treeEnd, if_pos he3]
        subst hqq
        repeat' (first | refine unhold ?_ | (simp -dsimp -implicitDefEqProofs (disch := (first | assumption | omega | (simp only [ll1, ll2, ll3, ll4, ll5, ll6, ll7, ll8]; omega))) only [go_sem, lk_k hkl, st_k hkl, lk_b, st_b, lk_m, st_m, lk_2, st_2, he3, hm]) | refine acalls_same (hv2 _ (lk_k hkl)) ?_ | refine ⟨_, hv2 _ (lk_k hkl), ?_⟩ | refine ⟨_, _, hv2 _ (lk_k hkl), ?_⟩ | refine acalls_same (blanks_c (lk_k hkl) hs3 hl) ?_ | refine ⟨_, blanks_c (lk_k hkl) hs3 hl, ?_⟩ | refine ⟨_, _, blanks_c (lk_k hkl) hs3 hl, ?_⟩ | refine vcI (fun _ => ?_) (fun _ => ?_) | (refine vcA ?_ ?_; focus (repeat' (first | omega | assumption | refine vcA ?_ ?_); done)) | omega | refine imp_in (fun _ => ?_))
        refine again (⟨blanks r3, is ++ [x], e3⟩) ?_ ?_ ?_ env_ok
        · simp [he3]
        · exact ⟨hs4, by simp; omega, .inr ⟨he3, rfl⟩⟩
        · simp
    · repeat' (first | refine unhold ?_ | (simp -dsimp -implicitDefEqProofs (disch := (first | assumption | omega | (simp only [ll1, ll2, ll3, ll4, ll5, ll6, ll7, ll8]; omega))) only [go_sem, lk_k hkl, st_k hkl, lk_b, st_b, lk_m, st_m, lk_2, st_2, he]) | refine vcI (fun _ => ?_) (fun _ => ?_) | (refine vcA ?_ ?_; focus (repeat' (first | omega | assumption | refine vcA ?_ ?_); done)) | omega | refine imp_in (fun _ => ?_))
      exact done_weak le_zero (done_cutm hkl nofun (low_jAV _) low_pObj' ⟨rfl, _, rfl⟩)
theorem tree_l0 {f : bytes → JV × bytes × Int} {k : Nat} {t r : bytes} {H : List AObj} {w : Int} (hw : 0 ≤ w ∧ w ≤ 100) (hk : H[k]? = some (pObj t r 0)) (hs : r <:+ t) (hl : t.length ≤ 10000) (hf : ∀ r, (f r).2.1 <:+ r) (hval : ValC f t (w + 1)) :
    ACalls Tryz.prog 57 [.mp k 0, .agg [.lit (.int .i64 5), .lit (.int .i64 0), .str [], .sl .full 0 [], .sl .full 0 []], .str [93], .lit (.int .i64 w)] H (fun x H' => x = jAV (treeP f 93 listJ r).1 ∧ H' = H.set k (pObj t (treeP f 93 listJ r).2.1 (treeP f 93 listJ r).2.2)) :=
  acalls_mintJ (lt_of_get hk) low_pObj' (fun _ => low_jAV _) (tree_l hw hk hs hl hf hval)
theorem tree_o0 {f : bytes → JV × bytes × Int} {k : Nat} {t r : bytes} {H : List AObj} {w : Int} (hw : 0 ≤ w ∧ w ≤ 100) (hk : H[k]? = some (pObj t r 0)) (hs : r <:+ t) (hl : t.length ≤ 10000) (hf : ∀ r, (f r).2.1 <:+ r) (hval : ValC f t (w + 1)) :
    ACalls Tryz.prog 57 [.mp k 0, .agg [.lit (.int .i64 6), .lit (.int .i64 0), .str [], .sl .full 0 [], .sl .full 0 []], .str [125], .lit (.int .i64 w)] H (fun x H' => x = jAV (treeP f 125 objJ r).1 ∧ H' = H.set k (pObj t (treeP f 125 objJ r).2.1 (treeP f 125 objJ r).2.2)) :=
  (tree_o hw hk hs hl hf hval).weak rfl fun j x y e1 e2 => by
    match j, e1, e2 with
    | 0, e1, e2 => cases e1; cases e2; exact Le.refl _
    | 1, e1, e2 => cases e1; cases e2; exact le_j (ns := []) (is := []) le_nil le_nil
    | 2, e1, e2 => cases e1; cases e2; exact Le.refl _
    | 3, e1, e2 => cases e1; cases e2; exact Le.refl _
end Go.Proofs.YtdahdbnfknmmgaaGreatDoor
end

section
set_option linter.unusedSimpArgs false
set_option linter.unusedVariables false
namespace Go.Proofs.YtdahdbnfknmmgaaGreatDoor
open Go V
set_option maxRecDepth 10000
set_option maxHeartbeats 4000000
theorem Right_c {o : Own} (l : List UInt8) (H : List AObj) (hl : l.length ≤ 100000) : ACalls Tryz.prog 25 [.sl o 1 (l.map byteAV)] H (fun x H' => x = .bool (Lib.validD l) ∧ H' = H) := by
  refine acalls_vc L_ok mixed [] (rs := [.tmp 2]) (n := 5) Tryz.func25 rfl rfl rfl rfl (Nat.le_of_ble_eq_true rfl) (by kernel_rfl) ?_
  repeat' (first | refine unhold ?_ | (simp -dsimp -implicitDefEqProofs (disch := (first | assumption | omega | (simp only [ll1, ll2, ll3, ll4, ll5, ll6, ll7, ll8]; omega))) only [go_sem]) | refine acalls_same (Valid_c _ _ ?_) ?_ | refine ⟨_, Valid_c _ _ ?_, ?_⟩ | refine ⟨_, _, Valid_c _ _ ?_, ?_⟩ | refine vcI (fun _ => ?_) (fun _ => ?_) | (refine vcA ?_ ?_; focus (repeat' (first | omega | assumption | refine vcA ?_ ?_); done)) | omega | refine imp_in (fun _ => ?_))
  exact done_same ⟨rfl, rfl⟩
end Go.Proofs.YtdahdbnfknmmgaaGreatDoor
end

section
set_option linter.unusedSimpArgs false
set_option linter.unusedVariables false
namespace Go.Proofs.YtdahdbnfknmmgaaGreatDoor
open Go V
set_option maxRecDepth 10000
set_option maxHeartbeats 4000000
theorem drop1_len {r : bytes} (h : peek r ≠ 0) : (r.drop 1).length + 1 = r.length := by
  have := peek_pos h
  rw [List.length_drop]; omega
theorem u8_eq {c d : UInt8} : ((c.toNat : Int) = (d.toNat : Int)) = (c = d) := by
  have : (c.toNat = d.toNat) = (c = d) := propext ⟨UInt8.toNat_inj.1, fun h => by rw [h]⟩
  rw [← this]
  exact propext ⟨Int.ofNat.inj, fun h => by rw [h]⟩
theorem value_leaf {n : Nat} {r : bytes} {x : JV × bytes × Int} (h : leafP (blanks r) = some x) : valueP n r = x := by
  cases n <;> rw [valueP, h] <;> rfl
theorem value_deep {r : bytes} (h : leafP (blanks r) = none) : valueP 0 r = (zeroJ, blanks r, 4) := by rw [valueP, h]; rfl
theorem value_tree {n : Nat} {r : bytes} (h : leafP (blanks r) = none) : valueP (n + 1) r = if peek (blanks r) = 91 then treeP (valueP n) 93 listJ ((blanks r).drop 1) else treeP (valueP n) 125 objJ ((blanks r).drop 1) := by rw [valueP, h]; rfl
theorem le_kind {k : Int} : Le (.agg [.lit (.int .i64 k), .lit (.int .i64 0), .str [], .sl .full 0 [], .sl .full 0 []]) (jAV (.mk k 0 [] [] [])) := le_j (ns := []) (is := []) le_nil le_nil
theorem le_text {t : bytes} : Le (.agg [.lit (.int .i64 4), .lit (.int .i64 0), .str t, .sl .full 0 [], .sl .full 0 []]) (jAV (.mk 4 0 t [] [])) := le_j (ns := []) (is := []) le_nil le_nil
theorem le_num {n : Int} : Le (.agg [.lit (.int .i64 3), .lit (.int .i64 n), .str [], .sl .full 0 [], .sl .full 0 []]) (jAV (.mk 3 n [] [] [])) := le_j (ns := []) (is := []) le_nil le_nil
theorem value_one {t : bytes} (hl : t.length ≤ 10000) (n : Nat) (w : Int) (hn : n ≤ 12) (hw : w = 12 - (n : Int)) (ih : ∀ m, n = m + 1 → ValC (valueP m) t (w + 1)) : ValC (valueP n) t w := by
  intro k r H hk hs
  have hkl := lt_of_get hk
  have hs1 := suf_blanks hs
  have hrl := suf_len hs1
  cases h0 : skipW [110, 117, 108, 108] (blanks r) with
  | some r2 =>
    have hv : valueP n r = (zeroJ, r2, 0) := value_leaf (by unfold leafP wNull wTrue wFalse; simp [h0])
    rw [hv]
    refine acalls_vc L_ok mixed [] (rs := [.cell 4 29]) (n := 87) Tryz.func28 rfl rfl rfl rfl (Nat.le_of_ble_eq_true rfl) (by kernel_rfl) ?_
    repeat' (first | refine unhold ?_ | (simp -dsimp -implicitDefEqProofs (disch := (first | assumption | omega | (simp only [ll1, ll2, ll3, ll4, ll5, ll6, ll7, ll8]; omega))) only [go_sem, lk_k hkl, st_k hkl, lk_b, st_b, h_left hkl, h_setl hkl, h0]) | refine acalls_same (blanks_c (by rw [h_left hkl]; exact hk) hs hl) ?_ | refine ⟨_, blanks_c (by rw [h_left hkl]; exact hk) hs hl, ?_⟩ | refine ⟨_, _, blanks_c (by rw [h_left hkl]; exact hk) hs hl, ?_⟩ | refine acalls_same (peek_c (lk_k hkl) hs1 hl) ?_ | refine ⟨_, peek_c (lk_k hkl) hs1 hl, ?_⟩ | refine ⟨_, _, peek_c (lk_k hkl) hs1 hl, ?_⟩ | refine acalls_same (skip_c (w := [110, 117, 108, 108]) (lk_k hkl) hs1 hl (by decide)) ?_ | refine ⟨_, skip_c (w := [110, 117, 108, 108]) (lk_k hkl) hs1 hl (by decide), ?_⟩ | refine ⟨_, _, skip_c (w := [110, 117, 108, 108]) (lk_k hkl) hs1 hl (by decide), ?_⟩ | refine vcI (fun _ => ?_) (fun _ => ?_) | (refine vcA ?_ ?_; focus (repeat' (first | omega | assumption | refine vcA ?_ ?_); done)) | omega | refine imp_in (fun _ => ?_))
    exact done_weak le_zero (done_cut' (low_jAV _) rfl low_pObj ⟨rfl, rfl⟩)
  | none =>
    cases h1 : skipW [116, 114, 117, 101] (blanks r) with
    | some r2 =>
      have hv : valueP n r = ((.mk 1 0 [] [] []), r2, 0) := value_leaf (by unfold leafP wNull wTrue wFalse; simp [h0, h1])
      rw [hv]
      refine acalls_vc L_ok mixed [] (rs := [.cell 4 29]) (n := 87) Tryz.func28 rfl rfl rfl rfl (Nat.le_of_ble_eq_true rfl) (by kernel_rfl) ?_
      repeat' (first | refine unhold ?_ | (simp -dsimp -implicitDefEqProofs (disch := (first | assumption | omega | (simp only [ll1, ll2, ll3, ll4, ll5, ll6, ll7, ll8]; omega))) only [go_sem, lk_k hkl, st_k hkl, lk_b, st_b, h_left hkl, h_setl hkl, h0, h1]) | refine acalls_same (blanks_c (by rw [h_left hkl]; exact hk) hs hl) ?_ | refine ⟨_, blanks_c (by rw [h_left hkl]; exact hk) hs hl, ?_⟩ | refine ⟨_, _, blanks_c (by rw [h_left hkl]; exact hk) hs hl, ?_⟩ | refine acalls_same (peek_c (lk_k hkl) hs1 hl) ?_ | refine ⟨_, peek_c (lk_k hkl) hs1 hl, ?_⟩ | refine ⟨_, _, peek_c (lk_k hkl) hs1 hl, ?_⟩ | refine acalls_same (skip_c (w := [110, 117, 108, 108]) (lk_k hkl) hs1 hl (by decide)) ?_ | refine ⟨_, skip_c (w := [110, 117, 108, 108]) (lk_k hkl) hs1 hl (by decide), ?_⟩ | refine ⟨_, _, skip_c (w := [110, 117, 108, 108]) (lk_k hkl) hs1 hl (by decide), ?_⟩ | refine acalls_same (skip_c (w := [116, 114, 117, 101]) (lk_k hkl) hs1 hl (by decide)) ?_ | refine ⟨_, skip_c (w := [116, 114, 117, 101]) (lk_k hkl) hs1 hl (by decide), ?_⟩ | refine ⟨_, _, skip_c (w := [116, 114, 117, 101]) (lk_k hkl) hs1 hl (by decide), ?_⟩ | refine vcI (fun _ => ?_) (fun _ => ?_) | (refine vcA ?_ ?_; focus (repeat' (first | omega | assumption | refine vcA ?_ ?_); done)) | omega | refine imp_in (fun _ => ?_))
      exact done_weak le_kind (done_cut' (low_jAV _) rfl low_pObj ⟨rfl, rfl⟩)
    | none =>
      cases h2 : skipW [102, 97, 108, 115, 101] (blanks r) with
      | some r2 =>
        have hv : valueP n r = ((.mk 2 0 [] [] []), r2, 0) := value_leaf (by unfold leafP wNull wTrue wFalse; simp [h0, h1, h2])
        rw [hv]
        refine acalls_vc L_ok mixed [] (rs := [.cell 4 29]) (n := 87) Tryz.func28 rfl rfl rfl rfl (Nat.le_of_ble_eq_true rfl) (by kernel_rfl) ?_
        repeat' (first | refine unhold ?_ | (simp -dsimp -implicitDefEqProofs (disch := (first | assumption | omega | (simp only [ll1, ll2, ll3, ll4, ll5, ll6, ll7, ll8]; omega))) only [go_sem, lk_k hkl, st_k hkl, lk_b, st_b, h_left hkl, h_setl hkl, h0, h1, h2]) | refine acalls_same (blanks_c (by rw [h_left hkl]; exact hk) hs hl) ?_ | refine ⟨_, blanks_c (by rw [h_left hkl]; exact hk) hs hl, ?_⟩ | refine ⟨_, _, blanks_c (by rw [h_left hkl]; exact hk) hs hl, ?_⟩ | refine acalls_same (peek_c (lk_k hkl) hs1 hl) ?_ | refine ⟨_, peek_c (lk_k hkl) hs1 hl, ?_⟩ | refine ⟨_, _, peek_c (lk_k hkl) hs1 hl, ?_⟩ | refine acalls_same (skip_c (w := [110, 117, 108, 108]) (lk_k hkl) hs1 hl (by decide)) ?_ | refine ⟨_, skip_c (w := [110, 117, 108, 108]) (lk_k hkl) hs1 hl (by decide), ?_⟩ | refine ⟨_, _, skip_c (w := [110, 117, 108, 108]) (lk_k hkl) hs1 hl (by decide), ?_⟩ | refine acalls_same (skip_c (w := [116, 114, 117, 101]) (lk_k hkl) hs1 hl (by decide)) ?_ | refine ⟨_, skip_c (w := [116, 114, 117, 101]) (lk_k hkl) hs1 hl (by decide), ?_⟩ | refine ⟨_, _, skip_c (w := [116, 114, 117, 101]) (lk_k hkl) hs1 hl (by decide), ?_⟩ | refine acalls_same (skip_c (w := [102, 97, 108, 115, 101]) (lk_k hkl) hs1 hl (by decide)) ?_ | refine ⟨_, skip_c (w := [102, 97, 108, 115, 101]) (lk_k hkl) hs1 hl (by decide), ?_⟩ | refine ⟨_, _, skip_c (w := [102, 97, 108, 115, 101]) (lk_k hkl) hs1 hl (by decide), ?_⟩ | refine vcI (fun _ => ?_) (fun _ => ?_) | (refine vcA ?_ ?_; focus (repeat' (first | omega | assumption | refine vcA ?_ ?_); done)) | omega | refine imp_in (fun _ => ?_))
        exact done_weak le_kind (done_cut' (low_jAV _) rfl low_pObj ⟨rfl, rfl⟩)
      | none =>
        have hcl := (peek (blanks r)).toNat_lt
        have e34 : (((peek (blanks r)).toNat : Int) = 34) = (peek (blanks r) = 34) := u8_eq (d := 34)
        have e45 : (((peek (blanks r)).toNat : Int) = 45) = (peek (blanks r) = 45) := u8_eq (d := 45)
        have e91 : (((peek (blanks r)).toNat : Int) = 91) = (peek (blanks r) = 91) := u8_eq (d := 91)
        have e123 : (((peek (blanks r)).toNat : Int) = 123) = (peek (blanks r) = 123) := u8_eq (d := 123)
        have edg : isDigit (peek (blanks r)) = decide (48 ≤ (peek (blanks r)).toNat ∧ (peek (blanks r)).toNat ≤ 57) := rfl
        by_cases c34 : peek (blanks r) = 34
        · have hv : valueP n r = (.mk 4 0 (quotedP (blanks r)).1 [] [], (quotedP (blanks r)).2.1, (quotedP (blanks r)).2.2) := value_leaf (by unfold leafP wNull wTrue wFalse; simp [h0, h1, h2, c34])
          rw [hv]
          have hq := quoted_c (H := H.set k (pObj t (blanks r) 0) ++ [.cells (.one 29) zCells]) (lk_k hkl) hs1 hl
          have f34 := e34.trans (eq_true c34)
          generalize quotedP (blanks r) = q at *
          refine acalls_vc L_ok mixed [] (rs := [.cell 4 29]) (n := 87) Tryz.func28 rfl rfl rfl rfl (Nat.le_of_ble_eq_true rfl) (by kernel_rfl) ?_
          repeat' (first | refine unhold ?_ | (simp -dsimp -implicitDefEqProofs (disch := (first | assumption | omega | (simp only [ll1, ll2, ll3, ll4, ll5, ll6, ll7, ll8]; omega))) only [go_sem, lk_k hkl, st_k hkl, lk_b, st_b, h_left hkl, h_setl hkl, h0, h1, h2, f34]) | refine acalls_same (blanks_c (by rw [h_left hkl]; exact hk) hs hl) ?_ | refine ⟨_, blanks_c (by rw [h_left hkl]; exact hk) hs hl, ?_⟩ | refine ⟨_, _, blanks_c (by rw [h_left hkl]; exact hk) hs hl, ?_⟩ | refine acalls_same (peek_c (lk_k hkl) hs1 hl) ?_ | refine ⟨_, peek_c (lk_k hkl) hs1 hl, ?_⟩ | refine ⟨_, _, peek_c (lk_k hkl) hs1 hl, ?_⟩ | refine acalls_same (skip_c (w := [110, 117, 108, 108]) (lk_k hkl) hs1 hl (by decide)) ?_ | refine ⟨_, skip_c (w := [110, 117, 108, 108]) (lk_k hkl) hs1 hl (by decide), ?_⟩ | refine ⟨_, _, skip_c (w := [110, 117, 108, 108]) (lk_k hkl) hs1 hl (by decide), ?_⟩ | refine acalls_same (skip_c (w := [116, 114, 117, 101]) (lk_k hkl) hs1 hl (by decide)) ?_ | refine ⟨_, skip_c (w := [116, 114, 117, 101]) (lk_k hkl) hs1 hl (by decide), ?_⟩ | refine ⟨_, _, skip_c (w := [116, 114, 117, 101]) (lk_k hkl) hs1 hl (by decide), ?_⟩ | refine acalls_same (skip_c (w := [102, 97, 108, 115, 101]) (lk_k hkl) hs1 hl (by decide)) ?_ | refine ⟨_, skip_c (w := [102, 97, 108, 115, 101]) (lk_k hkl) hs1 hl (by decide), ?_⟩ | refine ⟨_, _, skip_c (w := [102, 97, 108, 115, 101]) (lk_k hkl) hs1 hl (by decide), ?_⟩ | refine acalls_same (hq) ?_ | refine ⟨_, hq, ?_⟩ | refine ⟨_, _, hq, ?_⟩ | refine vcI (fun _ => ?_) (fun _ => ?_) | (refine vcA ?_ ?_; focus (repeat' (first | omega | assumption | refine vcA ?_ ?_); done)) | omega | refine imp_in (fun _ => ?_))
          exact done_weak le_text (done_cut' (low_jAV _) rfl low_pObj ⟨rfl, rfl⟩)
        have f34 := e34.trans (eq_false c34)
        by_cases cn : peek (blanks r) = 45 ∨ isDigit (peek (blanks r)) = true
        · have hv : valueP n r = (.mk 3 (numP (blanks r)).1 [] [] [], (numP (blanks r)).2.1, (numP (blanks r)).2.2) := value_leaf (by unfold leafP wNull wTrue wFalse; simp only [h0, h1, h2]; rw [if_neg c34, if_pos cn])
          rw [hv]
          have hq := number_c (H := H.set k (pObj t (blanks r) 0) ++ [.cells (.one 29) zCells]) (lk_k hkl) hs1 hl
          generalize numP (blanks r) = q at *
          by_cases c45 : peek (blanks r) = 45
          · have f45 := e45.trans (eq_true c45)
            refine acalls_vc L_ok mixed [] (rs := [.cell 4 29]) (n := 87) Tryz.func28 rfl rfl rfl rfl (Nat.le_of_ble_eq_true rfl) (by kernel_rfl) ?_
            repeat' (first | refine unhold ?_ | (simp -dsimp -implicitDefEqProofs (disch := (first | assumption | omega | (simp only [ll1, ll2, ll3, ll4, ll5, ll6, ll7, ll8]; omega))) only [go_sem, lk_k hkl, st_k hkl, lk_b, st_b, h_left hkl, h_setl hkl, h0, h1, h2, f34, f45]) | refine acalls_same (blanks_c (by rw [h_left hkl]; exact hk) hs hl) ?_ | refine ⟨_, blanks_c (by rw [h_left hkl]; exact hk) hs hl, ?_⟩ | refine ⟨_, _, blanks_c (by rw [h_left hkl]; exact hk) hs hl, ?_⟩ | refine acalls_same (peek_c (lk_k hkl) hs1 hl) ?_ | refine ⟨_, peek_c (lk_k hkl) hs1 hl, ?_⟩ | refine ⟨_, _, peek_c (lk_k hkl) hs1 hl, ?_⟩ | refine acalls_same (skip_c (w := [110, 117, 108, 108]) (lk_k hkl) hs1 hl (by decide)) ?_ | refine ⟨_, skip_c (w := [110, 117, 108, 108]) (lk_k hkl) hs1 hl (by decide), ?_⟩ | refine ⟨_, _, skip_c (w := [110, 117, 108, 108]) (lk_k hkl) hs1 hl (by decide), ?_⟩ | refine acalls_same (skip_c (w := [116, 114, 117, 101]) (lk_k hkl) hs1 hl (by decide)) ?_ | refine ⟨_, skip_c (w := [116, 114, 117, 101]) (lk_k hkl) hs1 hl (by decide), ?_⟩ | refine ⟨_, _, skip_c (w := [116, 114, 117, 101]) (lk_k hkl) hs1 hl (by decide), ?_⟩ | refine acalls_same (skip_c (w := [102, 97, 108, 115, 101]) (lk_k hkl) hs1 hl (by decide)) ?_ | refine ⟨_, skip_c (w := [102, 97, 108, 115, 101]) (lk_k hkl) hs1 hl (by decide), ?_⟩ | refine ⟨_, _, skip_c (w := [102, 97, 108, 115, 101]) (lk_k hkl) hs1 hl (by decide), ?_⟩ | refine acalls_same (hq) ?_ | refine ⟨_, hq, ?_⟩ | refine ⟨_, _, hq, ?_⟩ | refine vcI (fun _ => ?_) (fun _ => ?_) | (refine vcA ?_ ?_; focus (repeat' (first | omega | assumption | refine vcA ?_ ?_); done)) | omega | refine imp_in (fun _ => ?_))
            exact done_weak le_num (done_cut' (low_jAV _) rfl low_pObj ⟨rfl, rfl⟩)
          · have f45 := e45.trans (eq_false c45)
            have cd := cn.resolve_left c45
            rw [edg, decide_eq_true_eq] at cd
            have f48 : ((48 : Int) ≤ ((peek (blanks r)).toNat : Int)) = True := eq_true (by omega)
            have f57 : (((peek (blanks r)).toNat : Int) ≤ 57) = True := eq_true (by omega)
            refine acalls_vc L_ok mixed [] (rs := [.cell 4 29]) (n := 87) Tryz.func28 rfl rfl rfl rfl (Nat.le_of_ble_eq_true rfl) (by kernel_rfl) ?_
            repeat' (first | refine unhold ?_ | (simp -dsimp -implicitDefEqProofs (disch := (first | assumption | omega | (simp only [ll1, ll2, ll3, ll4, ll5, ll6, ll7, ll8]; omega))) only [go_sem, lk_k hkl, st_k hkl, lk_b, st_b, h_left hkl, h_setl hkl, h0, h1, h2, f34, f45, f48, f57]) | refine acalls_same (blanks_c (by rw [h_left hkl]; exact hk) hs hl) ?_ | refine ⟨_, blanks_c (by rw [h_left hkl]; exact hk) hs hl, ?_⟩ | refine ⟨_, _, blanks_c (by rw [h_left hkl]; exact hk) hs hl, ?_⟩ | refine acalls_same (peek_c (lk_k hkl) hs1 hl) ?_ | refine ⟨_, peek_c (lk_k hkl) hs1 hl, ?_⟩ | refine ⟨_, _, peek_c (lk_k hkl) hs1 hl, ?_⟩ | refine acalls_same (skip_c (w := [110, 117, 108, 108]) (lk_k hkl) hs1 hl (by decide)) ?_ | refine ⟨_, skip_c (w := [110, 117, 108, 108]) (lk_k hkl) hs1 hl (by decide), ?_⟩ | refine ⟨_, _, skip_c (w := [110, 117, 108, 108]) (lk_k hkl) hs1 hl (by decide), ?_⟩ | refine acalls_same (skip_c (w := [116, 114, 117, 101]) (lk_k hkl) hs1 hl (by decide)) ?_ | refine ⟨_, skip_c (w := [116, 114, 117, 101]) (lk_k hkl) hs1 hl (by decide), ?_⟩ | refine ⟨_, _, skip_c (w := [116, 114, 117, 101]) (lk_k hkl) hs1 hl (by decide), ?_⟩ | refine acalls_same (skip_c (w := [102, 97, 108, 115, 101]) (lk_k hkl) hs1 hl (by decide)) ?_ | refine ⟨_, skip_c (w := [102, 97, 108, 115, 101]) (lk_k hkl) hs1 hl (by decide), ?_⟩ | refine ⟨_, _, skip_c (w := [102, 97, 108, 115, 101]) (lk_k hkl) hs1 hl (by decide), ?_⟩ | refine acalls_same (hq) ?_ | refine ⟨_, hq, ?_⟩ | refine ⟨_, _, hq, ?_⟩ | refine vcI (fun _ => ?_) (fun _ => ?_) | (refine vcA ?_ ?_; focus (repeat' (first | omega | assumption | refine vcA ?_ ?_); done)) | omega | refine imp_in (fun _ => ?_))
            exact done_weak le_num (done_cut' (low_jAV _) rfl low_pObj ⟨rfl, rfl⟩)
        have f45 := e45.trans (eq_false fun h => cn (.inl h))
        have cd : ¬ isDigit (peek (blanks r)) = true := fun h => cn (.inr h)
        rw [edg, decide_eq_true_eq] at cd
        have hdd : (((48 : Int) ≤ ((peek (blanks r)).toNat : Int)) = False) ∨ (((48 : Int) ≤ ((peek (blanks r)).toNat : Int)) = True ∧ ((((peek (blanks r)).toNat : Int) ≤ 57)) = False) := by
          by_cases h : (48 : Int) ≤ ((peek (blanks r)).toNat : Int)
          · exact .inr ⟨eq_true h, eq_false (by omega)⟩
          · exact .inl (eq_false h)
        by_cases cb : peek (blanks r) ≠ 91 ∧ peek (blanks r) ≠ 123
        · have hv : valueP n r = (zeroJ, blanks r, 2) := value_leaf (by unfold leafP wNull wTrue wFalse; simp only [h0, h1, h2]; rw [if_neg c34, if_neg cn, if_pos cb])
          rw [hv]
          have f91 := e91.trans (eq_false cb.1)
          have f123 := e123.trans (eq_false cb.2)
          rcases hdd with f48 | ⟨f48, f57⟩
          · skip
            refine acalls_vc L_ok mixed [] (rs := [.cell 4 29]) (n := 87) Tryz.func28 rfl rfl rfl rfl (Nat.le_of_ble_eq_true rfl) (by kernel_rfl) ?_
            repeat' (first | refine unhold ?_ | (simp -dsimp -implicitDefEqProofs (disch := (first | assumption | omega | (simp only [ll1, ll2, ll3, ll4, ll5, ll6, ll7, ll8]; omega))) only [go_sem, lk_k hkl, st_k hkl, lk_b, st_b, h_left hkl, h_setl hkl, h0, h1, h2, f34, f45, f91, f123, f48]) | refine acalls_same (blanks_c (by rw [h_left hkl]; exact hk) hs hl) ?_ | refine ⟨_, blanks_c (by rw [h_left hkl]; exact hk) hs hl, ?_⟩ | refine ⟨_, _, blanks_c (by rw [h_left hkl]; exact hk) hs hl, ?_⟩ | refine acalls_same (peek_c (lk_k hkl) hs1 hl) ?_ | refine ⟨_, peek_c (lk_k hkl) hs1 hl, ?_⟩ | refine ⟨_, _, peek_c (lk_k hkl) hs1 hl, ?_⟩ | refine acalls_same (skip_c (w := [110, 117, 108, 108]) (lk_k hkl) hs1 hl (by decide)) ?_ | refine ⟨_, skip_c (w := [110, 117, 108, 108]) (lk_k hkl) hs1 hl (by decide), ?_⟩ | refine ⟨_, _, skip_c (w := [110, 117, 108, 108]) (lk_k hkl) hs1 hl (by decide), ?_⟩ | refine acalls_same (skip_c (w := [116, 114, 117, 101]) (lk_k hkl) hs1 hl (by decide)) ?_ | refine ⟨_, skip_c (w := [116, 114, 117, 101]) (lk_k hkl) hs1 hl (by decide), ?_⟩ | refine ⟨_, _, skip_c (w := [116, 114, 117, 101]) (lk_k hkl) hs1 hl (by decide), ?_⟩ | refine acalls_same (skip_c (w := [102, 97, 108, 115, 101]) (lk_k hkl) hs1 hl (by decide)) ?_ | refine ⟨_, skip_c (w := [102, 97, 108, 115, 101]) (lk_k hkl) hs1 hl (by decide), ?_⟩ | refine ⟨_, _, skip_c (w := [102, 97, 108, 115, 101]) (lk_k hkl) hs1 hl (by decide), ?_⟩ | refine acalls_same (fail_c (lk_k hkl)) ?_ | refine ⟨_, fail_c (lk_k hkl), ?_⟩ | refine ⟨_, _, fail_c (lk_k hkl), ?_⟩ | refine vcI (fun _ => ?_) (fun _ => ?_) | (refine vcA ?_ ?_; focus (repeat' (first | omega | assumption | refine vcA ?_ ?_); done)) | omega | refine imp_in (fun _ => ?_))
            exact done_weak le_zero (done_cut' (low_jAV _) rfl low_pObj ⟨rfl, rfl⟩)
          · skip
            refine acalls_vc L_ok mixed [] (rs := [.cell 4 29]) (n := 87) Tryz.func28 rfl rfl rfl rfl (Nat.le_of_ble_eq_true rfl) (by kernel_rfl) ?_
            repeat' (first | refine unhold ?_ | (simp -dsimp -implicitDefEqProofs (disch := (first | assumption | omega | (simp only [ll1, ll2, ll3, ll4, ll5, ll6, ll7, ll8]; omega))) only [go_sem, lk_k hkl, st_k hkl, lk_b, st_b, h_left hkl, h_setl hkl, h0, h1, h2, f34, f45, f91, f123, f48, f57]) | refine acalls_same (blanks_c (by rw [h_left hkl]; exact hk) hs hl) ?_ | refine ⟨_, blanks_c (by rw [h_left hkl]; exact hk) hs hl, ?_⟩ | refine ⟨_, _, blanks_c (by rw [h_left hkl]; exact hk) hs hl, ?_⟩ | refine acalls_same (peek_c (lk_k hkl) hs1 hl) ?_ | refine ⟨_, peek_c (lk_k hkl) hs1 hl, ?_⟩ | refine ⟨_, _, peek_c (lk_k hkl) hs1 hl, ?_⟩ | refine acalls_same (skip_c (w := [110, 117, 108, 108]) (lk_k hkl) hs1 hl (by decide)) ?_ | refine ⟨_, skip_c (w := [110, 117, 108, 108]) (lk_k hkl) hs1 hl (by decide), ?_⟩ | refine ⟨_, _, skip_c (w := [110, 117, 108, 108]) (lk_k hkl) hs1 hl (by decide), ?_⟩ | refine acalls_same (skip_c (w := [116, 114, 117, 101]) (lk_k hkl) hs1 hl (by decide)) ?_ | refine ⟨_, skip_c (w := [116, 114, 117, 101]) (lk_k hkl) hs1 hl (by decide), ?_⟩ | refine ⟨_, _, skip_c (w := [116, 114, 117, 101]) (lk_k hkl) hs1 hl (by decide), ?_⟩ | refine acalls_same (skip_c (w := [102, 97, 108, 115, 101]) (lk_k hkl) hs1 hl (by decide)) ?_ | refine ⟨_, skip_c (w := [102, 97, 108, 115, 101]) (lk_k hkl) hs1 hl (by decide), ?_⟩ | refine ⟨_, _, skip_c (w := [102, 97, 108, 115, 101]) (lk_k hkl) hs1 hl (by decide), ?_⟩ | refine acalls_same (fail_c (lk_k hkl)) ?_ | refine ⟨_, fail_c (lk_k hkl), ?_⟩ | refine ⟨_, _, fail_c (lk_k hkl), ?_⟩ | refine vcI (fun _ => ?_) (fun _ => ?_) | (refine vcA ?_ ?_; focus (repeat' (first | omega | assumption | refine vcA ?_ ?_); done)) | omega | refine imp_in (fun _ => ?_))
            exact done_weak le_zero (done_cut' (low_jAV _) rfl low_pObj ⟨rfl, rfl⟩)
        have hlf : leafP (blanks r) = none := by unfold leafP wNull wTrue wFalse; simp only [h0, h1, h2]; rw [if_neg c34, if_neg cn, if_neg cb]
        have hp0 : peek (blanks r) ≠ 0 := fun h => cb (by rw [h]; decide)
        have hdl := drop1_len hp0
        have hs5 := suf_drop_n hs1 1
        have hpo : AObj.cells (.one 59) [.str t, .lit (.int .i64 (((t.length - (blanks r).length : Nat) : Int) + 1)), .lit (.int .i64 0)] = pObj t ((blanks r).drop 1) 0 := pc (by omega)
        cases n with
        | zero =>
          rw [value_deep hlf]
          have fw : ((12 : Int) ≤ w) = True := eq_true (by omega)
          rcases hdd with f48 | ⟨f48, f57⟩
          · skip
            by_cases c91 : peek (blanks r) = 91
            · have f91 := e91.trans (eq_true c91)
              refine acalls_vc L_ok mixed [] (rs := [.cell 4 29]) (n := 87) Tryz.func28 rfl rfl rfl rfl (Nat.le_of_ble_eq_true rfl) (by kernel_rfl) ?_
              repeat' (first | refine unhold ?_ | (simp -dsimp -implicitDefEqProofs (disch := (first | assumption | omega | (simp only [ll1, ll2, ll3, ll4, ll5, ll6, ll7, ll8]; omega))) only [go_sem, lk_k hkl, st_k hkl, lk_b, st_b, h_left hkl, h_setl hkl, h0, h1, h2, f34, f45, f91, fw, f48]) | refine acalls_same (blanks_c (by rw [h_left hkl]; exact hk) hs hl) ?_ | refine ⟨_, blanks_c (by rw [h_left hkl]; exact hk) hs hl, ?_⟩ | refine ⟨_, _, blanks_c (by rw [h_left hkl]; exact hk) hs hl, ?_⟩ | refine acalls_same (peek_c (lk_k hkl) hs1 hl) ?_ | refine ⟨_, peek_c (lk_k hkl) hs1 hl, ?_⟩ | refine ⟨_, _, peek_c (lk_k hkl) hs1 hl, ?_⟩ | refine acalls_same (skip_c (w := [110, 117, 108, 108]) (lk_k hkl) hs1 hl (by decide)) ?_ | refine ⟨_, skip_c (w := [110, 117, 108, 108]) (lk_k hkl) hs1 hl (by decide), ?_⟩ | refine ⟨_, _, skip_c (w := [110, 117, 108, 108]) (lk_k hkl) hs1 hl (by decide), ?_⟩ | refine acalls_same (skip_c (w := [116, 114, 117, 101]) (lk_k hkl) hs1 hl (by decide)) ?_ | refine ⟨_, skip_c (w := [116, 114, 117, 101]) (lk_k hkl) hs1 hl (by decide), ?_⟩ | refine ⟨_, _, skip_c (w := [116, 114, 117, 101]) (lk_k hkl) hs1 hl (by decide), ?_⟩ | refine acalls_same (skip_c (w := [102, 97, 108, 115, 101]) (lk_k hkl) hs1 hl (by decide)) ?_ | refine ⟨_, skip_c (w := [102, 97, 108, 115, 101]) (lk_k hkl) hs1 hl (by decide), ?_⟩ | refine ⟨_, _, skip_c (w := [102, 97, 108, 115, 101]) (lk_k hkl) hs1 hl (by decide), ?_⟩ | refine acalls_same (fail_c (lk_k hkl)) ?_ | refine ⟨_, fail_c (lk_k hkl), ?_⟩ | refine ⟨_, _, fail_c (lk_k hkl), ?_⟩ | refine vcI (fun _ => ?_) (fun _ => ?_) | (refine vcA ?_ ?_; focus (repeat' (first | omega | assumption | refine vcA ?_ ?_); done)) | omega | refine imp_in (fun _ => ?_))
              exact done_weak le_zero (done_cut' (low_jAV _) rfl low_pObj ⟨rfl, rfl⟩)
            · have f91 := e91.trans (eq_false c91)
              have f123 := e123.trans (eq_true (Classical.byContradiction fun h => cb ⟨c91, h⟩))
              refine acalls_vc L_ok mixed [] (rs := [.cell 4 29]) (n := 87) Tryz.func28 rfl rfl rfl rfl (Nat.le_of_ble_eq_true rfl) (by kernel_rfl) ?_
              repeat' (first | refine unhold ?_ | (simp -dsimp -implicitDefEqProofs (disch := (first | assumption | omega | (simp only [ll1, ll2, ll3, ll4, ll5, ll6, ll7, ll8]; omega))) only [go_sem, lk_k hkl, st_k hkl, lk_b, st_b, h_left hkl, h_setl hkl, h0, h1, h2, f34, f45, f91, f123, fw, f48]) | refine acalls_same (blanks_c (by rw [h_left hkl]; exact hk) hs hl) ?_ | refine ⟨_, blanks_c (by rw [h_left hkl]; exact hk) hs hl, ?_⟩ | refine ⟨_, _, blanks_c (by rw [h_left hkl]; exact hk) hs hl, ?_⟩ | refine acalls_same (peek_c (lk_k hkl) hs1 hl) ?_ | refine ⟨_, peek_c (lk_k hkl) hs1 hl, ?_⟩ | refine ⟨_, _, peek_c (lk_k hkl) hs1 hl, ?_⟩ | refine acalls_same (skip_c (w := [110, 117, 108, 108]) (lk_k hkl) hs1 hl (by decide)) ?_ | refine ⟨_, skip_c (w := [110, 117, 108, 108]) (lk_k hkl) hs1 hl (by decide), ?_⟩ | refine ⟨_, _, skip_c (w := [110, 117, 108, 108]) (lk_k hkl) hs1 hl (by decide), ?_⟩ | refine acalls_same (skip_c (w := [116, 114, 117, 101]) (lk_k hkl) hs1 hl (by decide)) ?_ | refine ⟨_, skip_c (w := [116, 114, 117, 101]) (lk_k hkl) hs1 hl (by decide), ?_⟩ | refine ⟨_, _, skip_c (w := [116, 114, 117, 101]) (lk_k hkl) hs1 hl (by decide), ?_⟩ | refine acalls_same (skip_c (w := [102, 97, 108, 115, 101]) (lk_k hkl) hs1 hl (by decide)) ?_ | refine ⟨_, skip_c (w := [102, 97, 108, 115, 101]) (lk_k hkl) hs1 hl (by decide), ?_⟩ | refine ⟨_, _, skip_c (w := [102, 97, 108, 115, 101]) (lk_k hkl) hs1 hl (by decide), ?_⟩ | refine acalls_same (fail_c (lk_k hkl)) ?_ | refine ⟨_, fail_c (lk_k hkl), ?_⟩ | refine ⟨_, _, fail_c (lk_k hkl), ?_⟩ | refine vcI (fun _ => ?_) (fun _ => ?_) | (refine vcA ?_ ?_; focus (repeat' (first | omega | assumption | refine vcA ?_ ?_); done)) | omega | refine imp_in (fun _ => ?_))
              exact done_weak le_zero (done_cut' (low_jAV _) rfl low_pObj ⟨rfl, rfl⟩)
          · skip
            by_cases c91 : peek (blanks r) = 91
            · have f91 := e91.trans (eq_true c91)
              refine acalls_vc L_ok mixed [] (rs := [.cell 4 29]) (n := 87) Tryz.func28 rfl rfl rfl rfl (Nat.le_of_ble_eq_true rfl) (by kernel_rfl) ?_
              repeat' (first | refine unhold ?_ | (simp -dsimp -implicitDefEqProofs (disch := (first | assumption | omega | (simp only [ll1, ll2, ll3, ll4, ll5, ll6, ll7, ll8]; omega))) only [go_sem, lk_k hkl, st_k hkl, lk_b, st_b, h_left hkl, h_setl hkl, h0, h1, h2, f34, f45, f91, fw, f48, f57]) | refine acalls_same (blanks_c (by rw [h_left hkl]; exact hk) hs hl) ?_ | refine ⟨_, blanks_c (by rw [h_left hkl]; exact hk) hs hl, ?_⟩ | refine ⟨_, _, blanks_c (by rw [h_left hkl]; exact hk) hs hl, ?_⟩ | refine acalls_same (peek_c (lk_k hkl) hs1 hl) ?_ | refine ⟨_, peek_c (lk_k hkl) hs1 hl, ?_⟩ | refine ⟨_, _, peek_c (lk_k hkl) hs1 hl, ?_⟩ | refine acalls_same (skip_c (w := [110, 117, 108, 108]) (lk_k hkl) hs1 hl (by decide)) ?_ | refine ⟨_, skip_c (w := [110, 117, 108, 108]) (lk_k hkl) hs1 hl (by decide), ?_⟩ | refine ⟨_, _, skip_c (w := [110, 117, 108, 108]) (lk_k hkl) hs1 hl (by decide), ?_⟩ | refine acalls_same (skip_c (w := [116, 114, 117, 101]) (lk_k hkl) hs1 hl (by decide)) ?_ | refine ⟨_, skip_c (w := [116, 114, 117, 101]) (lk_k hkl) hs1 hl (by decide), ?_⟩ | refine ⟨_, _, skip_c (w := [116, 114, 117, 101]) (lk_k hkl) hs1 hl (by decide), ?_⟩ | refine acalls_same (skip_c (w := [102, 97, 108, 115, 101]) (lk_k hkl) hs1 hl (by decide)) ?_ | refine ⟨_, skip_c (w := [102, 97, 108, 115, 101]) (lk_k hkl) hs1 hl (by decide), ?_⟩ | refine ⟨_, _, skip_c (w := [102, 97, 108, 115, 101]) (lk_k hkl) hs1 hl (by decide), ?_⟩ | refine acalls_same (fail_c (lk_k hkl)) ?_ | refine ⟨_, fail_c (lk_k hkl), ?_⟩ | refine ⟨_, _, fail_c (lk_k hkl), ?_⟩ | refine vcI (fun _ => ?_) (fun _ => ?_) | (refine vcA ?_ ?_; focus (repeat' (first | omega | assumption | refine vcA ?_ ?_); done)) | omega | refine imp_in (fun _ => ?_))
              exact done_weak le_zero (done_cut' (low_jAV _) rfl low_pObj ⟨rfl, rfl⟩)
            · have f91 := e91.trans (eq_false c91)
              have f123 := e123.trans (eq_true (Classical.byContradiction fun h => cb ⟨c91, h⟩))
              refine acalls_vc L_ok mixed [] (rs := [.cell 4 29]) (n := 87) Tryz.func28 rfl rfl rfl rfl (Nat.le_of_ble_eq_true rfl) (by kernel_rfl) ?_
              repeat' (first | refine unhold ?_ | (simp -dsimp -implicitDefEqProofs (disch := (first | assumption | omega | (simp only [ll1, ll2, ll3, ll4, ll5, ll6, ll7, ll8]; omega))) only [go_sem, lk_k hkl, st_k hkl, lk_b, st_b, h_left hkl, h_setl hkl, h0, h1, h2, f34, f45, f91, f123, fw, f48, f57]) | refine acalls_same (blanks_c (by rw [h_left hkl]; exact hk) hs hl) ?_ | refine ⟨_, blanks_c (by rw [h_left hkl]; exact hk) hs hl, ?_⟩ | refine ⟨_, _, blanks_c (by rw [h_left hkl]; exact hk) hs hl, ?_⟩ | refine acalls_same (peek_c (lk_k hkl) hs1 hl) ?_ | refine ⟨_, peek_c (lk_k hkl) hs1 hl, ?_⟩ | refine ⟨_, _, peek_c (lk_k hkl) hs1 hl, ?_⟩ | refine acalls_same (skip_c (w := [110, 117, 108, 108]) (lk_k hkl) hs1 hl (by decide)) ?_ | refine ⟨_, skip_c (w := [110, 117, 108, 108]) (lk_k hkl) hs1 hl (by decide), ?_⟩ | refine ⟨_, _, skip_c (w := [110, 117, 108, 108]) (lk_k hkl) hs1 hl (by decide), ?_⟩ | refine acalls_same (skip_c (w := [116, 114, 117, 101]) (lk_k hkl) hs1 hl (by decide)) ?_ | refine ⟨_, skip_c (w := [116, 114, 117, 101]) (lk_k hkl) hs1 hl (by decide), ?_⟩ | refine ⟨_, _, skip_c (w := [116, 114, 117, 101]) (lk_k hkl) hs1 hl (by decide), ?_⟩ | refine acalls_same (skip_c (w := [102, 97, 108, 115, 101]) (lk_k hkl) hs1 hl (by decide)) ?_ | refine ⟨_, skip_c (w := [102, 97, 108, 115, 101]) (lk_k hkl) hs1 hl (by decide), ?_⟩ | refine ⟨_, _, skip_c (w := [102, 97, 108, 115, 101]) (lk_k hkl) hs1 hl (by decide), ?_⟩ | refine acalls_same (fail_c (lk_k hkl)) ?_ | refine ⟨_, fail_c (lk_k hkl), ?_⟩ | refine ⟨_, _, fail_c (lk_k hkl), ?_⟩ | refine vcI (fun _ => ?_) (fun _ => ?_) | (refine vcA ?_ ?_; focus (repeat' (first | omega | assumption | refine vcA ?_ ?_); done)) | omega | refine imp_in (fun _ => ?_))
              exact done_weak le_zero (done_cut' (low_jAV _) rfl low_pObj ⟨rfl, rfl⟩)
        | succ m =>
          rw [value_tree hlf]
          have hih := ih m rfl
          have hsv := suf_value m
          have fw : ((12 : Int) ≤ w) = False := eq_false (by omega)
          have hw1 : 0 ≤ w ∧ w ≤ 100 := by omega
          generalize valueP m = f at *
          rcases hdd with f48 | ⟨f48, f57⟩
          · skip
            by_cases c91 : peek (blanks r) = 91
            · have f91 := e91.trans (eq_true c91)
              rw [if_pos c91]
              have ht := fun H h => tree_l0 (k := k) (H := H) hw1 h hs5 hl hsv hih
              generalize treeP f 93 listJ ((blanks r).drop 1) = q at *
              refine acalls_vc L_ok mixed [] (rs := [.cell 4 29]) (n := 87) Tryz.func28 rfl rfl rfl rfl (Nat.le_of_ble_eq_true rfl) (by kernel_rfl) ?_
              repeat' (first | refine unhold ?_ | (simp -dsimp -implicitDefEqProofs (disch := (first | assumption | omega | (simp only [ll1, ll2, ll3, ll4, ll5, ll6, ll7, ll8]; omega))) only [go_sem, lk_k hkl, st_k hkl, lk_b, st_b, h_left hkl, h_setl hkl, h0, h1, h2, f34, f45, f91, fw, pObj, f48]) | refine acalls_same (blanks_c (by rw [h_left hkl]; exact hk) hs hl) ?_ | refine ⟨_, blanks_c (by rw [h_left hkl]; exact hk) hs hl, ?_⟩ | refine ⟨_, _, blanks_c (by rw [h_left hkl]; exact hk) hs hl, ?_⟩ | refine acalls_same (peek_c (lk_k hkl) hs1 hl) ?_ | refine ⟨_, peek_c (lk_k hkl) hs1 hl, ?_⟩ | refine ⟨_, _, peek_c (lk_k hkl) hs1 hl, ?_⟩ | refine acalls_same (skip_c (w := [110, 117, 108, 108]) (lk_k hkl) hs1 hl (by decide)) ?_ | refine ⟨_, skip_c (w := [110, 117, 108, 108]) (lk_k hkl) hs1 hl (by decide), ?_⟩ | refine ⟨_, _, skip_c (w := [110, 117, 108, 108]) (lk_k hkl) hs1 hl (by decide), ?_⟩ | refine acalls_same (skip_c (w := [116, 114, 117, 101]) (lk_k hkl) hs1 hl (by decide)) ?_ | refine ⟨_, skip_c (w := [116, 114, 117, 101]) (lk_k hkl) hs1 hl (by decide), ?_⟩ | refine ⟨_, _, skip_c (w := [116, 114, 117, 101]) (lk_k hkl) hs1 hl (by decide), ?_⟩ | refine acalls_same (skip_c (w := [102, 97, 108, 115, 101]) (lk_k hkl) hs1 hl (by decide)) ?_ | refine ⟨_, skip_c (w := [102, 97, 108, 115, 101]) (lk_k hkl) hs1 hl (by decide), ?_⟩ | refine ⟨_, _, skip_c (w := [102, 97, 108, 115, 101]) (lk_k hkl) hs1 hl (by decide), ?_⟩ | refine acalls_same (ht _ ((lk_k hkl).trans (congrArg some hpo))) ?_ | refine ⟨_, ht _ ((lk_k hkl).trans (congrArg some hpo)), ?_⟩ | refine ⟨_, _, ht _ ((lk_k hkl).trans (congrArg some hpo)), ?_⟩ | refine vcI (fun _ => ?_) (fun _ => ?_) | (refine vcA ?_ ?_; focus (repeat' (first | omega | assumption | refine vcA ?_ ?_); done)) | omega | refine imp_in (fun _ => ?_))
              exact done_cut' (low_jAV _) rfl (low_pObj (t := t) (r := q.2.1) (e := q.2.2)) ⟨rfl, rfl⟩
            · have f91 := e91.trans (eq_false c91)
              rw [if_neg c91]
              have f123 := e123.trans (eq_true (Classical.byContradiction fun h => cb ⟨c91, h⟩))
              have ht := fun H h => tree_o0 (k := k) (H := H) hw1 h hs5 hl hsv hih
              generalize treeP f 125 objJ ((blanks r).drop 1) = q at *
              refine acalls_vc L_ok mixed [] (rs := [.cell 4 29]) (n := 87) Tryz.func28 rfl rfl rfl rfl (Nat.le_of_ble_eq_true rfl) (by kernel_rfl) ?_
              repeat' (first | refine unhold ?_ | (simp -dsimp -implicitDefEqProofs (disch := (first | assumption | omega | (simp only [ll1, ll2, ll3, ll4, ll5, ll6, ll7, ll8]; omega))) only [go_sem, lk_k hkl, st_k hkl, lk_b, st_b, h_left hkl, h_setl hkl, h0, h1, h2, f34, f45, f91, f123, fw, pObj, f48]) | refine acalls_same (blanks_c (by rw [h_left hkl]; exact hk) hs hl) ?_ | refine ⟨_, blanks_c (by rw [h_left hkl]; exact hk) hs hl, ?_⟩ | refine ⟨_, _, blanks_c (by rw [h_left hkl]; exact hk) hs hl, ?_⟩ | refine acalls_same (peek_c (lk_k hkl) hs1 hl) ?_ | refine ⟨_, peek_c (lk_k hkl) hs1 hl, ?_⟩ | refine ⟨_, _, peek_c (lk_k hkl) hs1 hl, ?_⟩ | refine acalls_same (skip_c (w := [110, 117, 108, 108]) (lk_k hkl) hs1 hl (by decide)) ?_ | refine ⟨_, skip_c (w := [110, 117, 108, 108]) (lk_k hkl) hs1 hl (by decide), ?_⟩ | refine ⟨_, _, skip_c (w := [110, 117, 108, 108]) (lk_k hkl) hs1 hl (by decide), ?_⟩ | refine acalls_same (skip_c (w := [116, 114, 117, 101]) (lk_k hkl) hs1 hl (by decide)) ?_ | refine ⟨_, skip_c (w := [116, 114, 117, 101]) (lk_k hkl) hs1 hl (by decide), ?_⟩ | refine ⟨_, _, skip_c (w := [116, 114, 117, 101]) (lk_k hkl) hs1 hl (by decide), ?_⟩ | refine acalls_same (skip_c (w := [102, 97, 108, 115, 101]) (lk_k hkl) hs1 hl (by decide)) ?_ | refine ⟨_, skip_c (w := [102, 97, 108, 115, 101]) (lk_k hkl) hs1 hl (by decide), ?_⟩ | refine ⟨_, _, skip_c (w := [102, 97, 108, 115, 101]) (lk_k hkl) hs1 hl (by decide), ?_⟩ | refine acalls_same (ht _ ((lk_k hkl).trans (congrArg some hpo))) ?_ | refine ⟨_, ht _ ((lk_k hkl).trans (congrArg some hpo)), ?_⟩ | refine ⟨_, _, ht _ ((lk_k hkl).trans (congrArg some hpo)), ?_⟩ | refine vcI (fun _ => ?_) (fun _ => ?_) | (refine vcA ?_ ?_; focus (repeat' (first | omega | assumption | refine vcA ?_ ?_); done)) | omega | refine imp_in (fun _ => ?_))
              exact done_cut' (low_jAV _) rfl (low_pObj (t := t) (r := q.2.1) (e := q.2.2)) ⟨rfl, rfl⟩
          · skip
            by_cases c91 : peek (blanks r) = 91
            · have f91 := e91.trans (eq_true c91)
              rw [if_pos c91]
              have ht := fun H h => tree_l0 (k := k) (H := H) hw1 h hs5 hl hsv hih
              generalize treeP f 93 listJ ((blanks r).drop 1) = q at *
              refine acalls_vc L_ok mixed [] (rs := [.cell 4 29]) (n := 87) Tryz.func28 rfl rfl rfl rfl (Nat.le_of_ble_eq_true rfl) (by kernel_rfl) ?_
              repeat' (first | refine unhold ?_ | (simp -dsimp -implicitDefEqProofs (disch := (first | assumption | omega | (simp only [ll1, ll2, ll3, ll4, ll5, ll6, ll7, ll8]; omega))) only [go_sem, lk_k hkl, st_k hkl, lk_b, st_b, h_left hkl, h_setl hkl, h0, h1, h2, f34, f45, f91, fw, pObj, f48, f57]) | refine acalls_same (blanks_c (by rw [h_left hkl]; exact hk) hs hl) ?_ | refine ⟨_, blanks_c (by rw [h_left hkl]; exact hk) hs hl, ?_⟩ | refine ⟨_, _, blanks_c (by rw [h_left hkl]; exact hk) hs hl, ?_⟩ | refine acalls_same (peek_c (lk_k hkl) hs1 hl) ?_ | refine ⟨_, peek_c (lk_k hkl) hs1 hl, ?_⟩ | refine ⟨_, _, peek_c (lk_k hkl) hs1 hl, ?_⟩ | refine acalls_same (skip_c (w := [110, 117, 108, 108]) (lk_k hkl) hs1 hl (by decide)) ?_ | refine ⟨_, skip_c (w := [110, 117, 108, 108]) (lk_k hkl) hs1 hl (by decide), ?_⟩ | refine ⟨_, _, skip_c (w := [110, 117, 108, 108]) (lk_k hkl) hs1 hl (by decide), ?_⟩ | refine acalls_same (skip_c (w := [116, 114, 117, 101]) (lk_k hkl) hs1 hl (by decide)) ?_ | refine ⟨_, skip_c (w := [116, 114, 117, 101]) (lk_k hkl) hs1 hl (by decide), ?_⟩ | refine ⟨_, _, skip_c (w := [116, 114, 117, 101]) (lk_k hkl) hs1 hl (by decide), ?_⟩ | refine acalls_same (skip_c (w := [102, 97, 108, 115, 101]) (lk_k hkl) hs1 hl (by decide)) ?_ | refine ⟨_, skip_c (w := [102, 97, 108, 115, 101]) (lk_k hkl) hs1 hl (by decide), ?_⟩ | refine ⟨_, _, skip_c (w := [102, 97, 108, 115, 101]) (lk_k hkl) hs1 hl (by decide), ?_⟩ | refine acalls_same (ht _ ((lk_k hkl).trans (congrArg some hpo))) ?_ | refine ⟨_, ht _ ((lk_k hkl).trans (congrArg some hpo)), ?_⟩ | refine ⟨_, _, ht _ ((lk_k hkl).trans (congrArg some hpo)), ?_⟩ | refine vcI (fun _ => ?_) (fun _ => ?_) | (refine vcA ?_ ?_; focus (repeat' (first | omega | assumption | refine vcA ?_ ?_); done)) | omega | refine imp_in (fun _ => ?_))
              exact done_cut' (low_jAV _) rfl (low_pObj (t := t) (r := q.2.1) (e := q.2.2)) ⟨rfl, rfl⟩
            · have f91 := e91.trans (eq_false c91)
              rw [if_neg c91]
              have f123 := e123.trans (eq_true (Classical.byContradiction fun h => cb ⟨c91, h⟩))
              have ht := fun H h => tree_o0 (k := k) (H := H) hw1 h hs5 hl hsv hih
              generalize treeP f 125 objJ ((blanks r).drop 1) = q at *
              refine acalls_vc L_ok mixed [] (rs := [.cell 4 29]) (n := 87) Tryz.func28 rfl rfl rfl rfl (Nat.le_of_ble_eq_true rfl) (by kernel_rfl) ?_
              repeat' (first | refine unhold ?_ | (simp -dsimp -implicitDefEqProofs (disch := (first | assumption | omega | (simp only [ll1, ll2, ll3, ll4, ll5, ll6, ll7, ll8]; omega))) only [go_sem, lk_k hkl, st_k hkl, lk_b, st_b, h_left hkl, h_setl hkl, h0, h1, h2, f34, f45, f91, f123, fw, pObj, f48, f57]) | refine acalls_same (blanks_c (by rw [h_left hkl]; exact hk) hs hl) ?_ | refine ⟨_, blanks_c (by rw [h_left hkl]; exact hk) hs hl, ?_⟩ | refine ⟨_, _, blanks_c (by rw [h_left hkl]; exact hk) hs hl, ?_⟩ | refine acalls_same (peek_c (lk_k hkl) hs1 hl) ?_ | refine ⟨_, peek_c (lk_k hkl) hs1 hl, ?_⟩ | refine ⟨_, _, peek_c (lk_k hkl) hs1 hl, ?_⟩ | refine acalls_same (skip_c (w := [110, 117, 108, 108]) (lk_k hkl) hs1 hl (by decide)) ?_ | refine ⟨_, skip_c (w := [110, 117, 108, 108]) (lk_k hkl) hs1 hl (by decide), ?_⟩ | refine ⟨_, _, skip_c (w := [110, 117, 108, 108]) (lk_k hkl) hs1 hl (by decide), ?_⟩ | refine acalls_same (skip_c (w := [116, 114, 117, 101]) (lk_k hkl) hs1 hl (by decide)) ?_ | refine ⟨_, skip_c (w := [116, 114, 117, 101]) (lk_k hkl) hs1 hl (by decide), ?_⟩ | refine ⟨_, _, skip_c (w := [116, 114, 117, 101]) (lk_k hkl) hs1 hl (by decide), ?_⟩ | refine acalls_same (skip_c (w := [102, 97, 108, 115, 101]) (lk_k hkl) hs1 hl (by decide)) ?_ | refine ⟨_, skip_c (w := [102, 97, 108, 115, 101]) (lk_k hkl) hs1 hl (by decide), ?_⟩ | refine ⟨_, _, skip_c (w := [102, 97, 108, 115, 101]) (lk_k hkl) hs1 hl (by decide), ?_⟩ | refine acalls_same (ht _ ((lk_k hkl).trans (congrArg some hpo))) ?_ | refine ⟨_, ht _ ((lk_k hkl).trans (congrArg some hpo)), ?_⟩ | refine ⟨_, _, ht _ ((lk_k hkl).trans (congrArg some hpo)), ?_⟩ | refine vcI (fun _ => ?_) (fun _ => ?_) | (refine vcA ?_ ?_; focus (repeat' (first | omega | assumption | refine vcA ?_ ?_); done)) | omega | refine imp_in (fun _ => ?_))
              exact done_cut' (low_jAV _) rfl (low_pObj (t := t) (r := q.2.1) (e := q.2.2)) ⟨rfl, rfl⟩
theorem value_c {t : bytes} (hl : t.length ≤ 10000) : ∀ (n : Nat) (w : Int), n ≤ 12 → w = 12 - (n : Int) → ValC (valueP n) t w := by
  intro n
  induction n with
  | zero => exact fun w _ hw => value_one hl 0 w (by omega) hw fun m hm => by omega
  | succ n ih =>
    intro w hn hw
    refine value_one hl (n + 1) w hn hw ?_
    intro m hm
    cases hm
    exact ih (w + 1) (by omega) (by omega)
theorem le_pair {x y z : AV} (h : Le x y) : Le (.tup [x, z]) (.tup [y, z]) := le_tup (LeAll.cons h (LeAll.cons (Le.refl _) LeAll.nil))
def parseAV (p : JV × Int) : AV := .tup [jAV p.1, .int .i64 p.2]
theorem low_parse {m : Nat} {p : JV × Int} : Low m (parseAV p) := low_tup (lowAll_cons (low_jAV _) (lowAll_cons (.lit _) lowAll_nil))
theorem at1 {H M : List AObj} {a b : AObj} : (H ++ (a :: b :: M))[H.length + 1]? = some b := by rw [List.getElem?_append_right (by omega), Nat.add_sub_cancel_left]; rfl
theorem Parse_c (s : bytes) (H : List AObj) (hl : s.length ≤ 10000) : ACalls Tryz.prog 9 [.str s] H (fun x H' => x = parseAV (parseP s) ∧ H' = H) := by
  unfold parseP
  by_cases c1 : 8192 < s.length
  · rw [if_pos c1]
    refine acalls_vc L_ok mixed [3, 1000011, 1000011004005] (rs := [.cell 2 29, .tmp 3]) (n := 48) Tryz.func9 rfl rfl rfl rfl (Nat.le_of_ble_eq_true rfl) (by kernel_rfl) ?_
    repeat' (first | refine unhold ?_ | (simp -dsimp -implicitDefEqProofs (disch := (first | assumption | omega | (simp only [ll1, ll2, ll3, ll4, ll5, ll6, ll7, ll8]; omega))) only [go_sem]) | refine vcI (fun _ => ?_) (fun _ => ?_) | (refine vcA ?_ ?_; focus (repeat' (first | omega | assumption | refine vcA ?_ ?_); done)) | omega | refine imp_in (fun _ => ?_))
    exact done_weak (le_pair le_zero) (done_cut (parseAV (zeroJ, 3)) (Le.refl _) low_parse ⟨rfl, rfl⟩)
  · rw [if_neg c1]
    cases c2 : Lib.validD s with
    | false =>
      rw [if_pos rfl]
      refine acalls_vc L_ok mixed [3, 1000011, 1000011004005] (rs := [.cell 2 29, .tmp 3]) (n := 48) Tryz.func9 rfl rfl rfl rfl (Nat.le_of_ble_eq_true rfl) (by kernel_rfl) ?_
      repeat' (first | refine unhold ?_ | (simp -dsimp -implicitDefEqProofs (disch := (first | assumption | omega | (simp only [ll1, ll2, ll3, ll4, ll5, ll6, ll7, ll8]; omega))) only [go_sem, c2]) | refine acalls_same (Right_c s _ (Nat.le_trans hl (by decide))) ?_ | refine ⟨_, Right_c s _ (Nat.le_trans hl (by decide)), ?_⟩ | refine ⟨_, _, Right_c s _ (Nat.le_trans hl (by decide)), ?_⟩ | refine vcI (fun _ => ?_) (fun _ => ?_) | (refine vcA ?_ ?_; focus (repeat' (first | omega | assumption | refine vcA ?_ ?_); done)) | omega | refine imp_in (fun _ => ?_))
      exact done_weak (le_pair le_zero) (done_cut (parseAV (zeroJ, 2)) (Le.refl _) low_parse ⟨rfl, rfl⟩)
    | true =>
      rw [if_neg (by simp)]
      have hv := fun k H h => value_c hl 12 0 (by omega) (by omega) k s H h (List.suffix_refl s)
      have hs1 := suf_value 12 s
      generalize valueP 12 s = q at *
      obtain ⟨v, r, e⟩ := q
      dsimp only at hv hs1 ⊢
      have hs2 := suf_blanks hs1
      have p0 : AObj.cells (.one 59) [.str s, .lit (.int .i64 0), .lit (.int .i64 0)] = pObj s s 0 := by rw [pObj, Nat.sub_self]; rfl
      have hbl := hs2.length_le
      by_cases hb : blanks r = []
      · have hlt : (((s.length - (blanks r).length : Nat) : Int) < (s.length : Int)) = False := eq_false (by rw [hb]; simp)
        by_cases he : e = 0
        · subst he
          rw [if_neg (by simp), if_neg (by simp [hb])]
          refine acalls_vc L_ok mixed [20, 1000011, 1000011004005] (rs := [.cell 2 29, .tmp 3]) (n := 48) Tryz.func9 rfl rfl rfl rfl (Nat.le_of_ble_eq_true rfl) (by kernel_rfl) ?_
          repeat' (first | refine unhold ?_ | (simp -dsimp -implicitDefEqProofs (disch := (first | assumption | omega | (simp only [ll1, ll2, ll3, ll4, ll5, ll6, ll7, ll8]; omega))) only [go_sem, c2, hlt]) | refine acalls_same (Right_c s _ (Nat.le_trans hl (by decide))) ?_ | refine ⟨_, Right_c s _ (Nat.le_trans hl (by decide)), ?_⟩ | refine ⟨_, _, Right_c s _ (Nat.le_trans hl (by decide)), ?_⟩ | refine acalls_same (hv _ _ (at1.trans (congrArg some p0))) ?_ | refine ⟨_, hv _ _ (at1.trans (congrArg some p0)), ?_⟩ | refine ⟨_, _, hv _ _ (at1.trans (congrArg some p0)), ?_⟩ | refine acalls_same (blanks_c at1 hs1 hl) ?_ | refine ⟨_, blanks_c at1 hs1 hl, ?_⟩ | refine ⟨_, _, blanks_c at1 hs1 hl, ?_⟩ | refine vcI (fun _ => ?_) (fun _ => ?_) | (refine vcA ?_ ?_; focus (repeat' (first | omega | assumption | refine vcA ?_ ?_); done)) | omega | refine imp_in (fun _ => ?_))
          exact done_cut (parseAV (v, 0)) (Le.refl _) low_parse ⟨rfl, rfl⟩
        · rw [if_pos he]
          refine acalls_vc L_ok mixed [20, 1000011, 1000011004005] (rs := [.cell 2 29, .tmp 3]) (n := 48) Tryz.func9 rfl rfl rfl rfl (Nat.le_of_ble_eq_true rfl) (by kernel_rfl) ?_
          repeat' (first | refine unhold ?_ | (simp -dsimp -implicitDefEqProofs (disch := (first | assumption | omega | (simp only [ll1, ll2, ll3, ll4, ll5, ll6, ll7, ll8]; omega))) only [go_sem, c2, hlt, he]) | refine acalls_same (Right_c s _ (Nat.le_trans hl (by decide))) ?_ | refine ⟨_, Right_c s _ (Nat.le_trans hl (by decide)), ?_⟩ | refine ⟨_, _, Right_c s _ (Nat.le_trans hl (by decide)), ?_⟩ | refine acalls_same (hv _ _ (at1.trans (congrArg some p0))) ?_ | refine ⟨_, hv _ _ (at1.trans (congrArg some p0)), ?_⟩ | refine ⟨_, _, hv _ _ (at1.trans (congrArg some p0)), ?_⟩ | refine acalls_same (blanks_c at1 hs1 hl) ?_ | refine ⟨_, blanks_c at1 hs1 hl, ?_⟩ | refine ⟨_, _, blanks_c at1 hs1 hl, ?_⟩ | refine vcI (fun _ => ?_) (fun _ => ?_) | (refine vcA ?_ ?_; focus (repeat' (first | omega | assumption | refine vcA ?_ ?_); done)) | omega | refine imp_in (fun _ => ?_))
          exact done_weak (le_pair le_zero) (done_cut (parseAV (zeroJ, e)) (Le.refl _) low_parse ⟨rfl, rfl⟩)
      · have hlp := List.length_pos_iff.2 hb
        have hlt : (((s.length - (blanks r).length : Nat) : Int) < (s.length : Int)) = True := eq_true (by omega)
        by_cases he : e = 0
        · subst he
          rw [if_neg (by simp), if_pos hb]
          refine acalls_vc L_ok mixed [20, 1000011, 1000011004005] (rs := [.cell 2 29, .tmp 3]) (n := 48) Tryz.func9 rfl rfl rfl rfl (Nat.le_of_ble_eq_true rfl) (by kernel_rfl) ?_
          repeat' (first | refine unhold ?_ | (simp -dsimp -implicitDefEqProofs (disch := (first | assumption | omega | (simp only [ll1, ll2, ll3, ll4, ll5, ll6, ll7, ll8]; omega))) only [go_sem, c2, hlt]) | refine acalls_same (Right_c s _ (Nat.le_trans hl (by decide))) ?_ | refine ⟨_, Right_c s _ (Nat.le_trans hl (by decide)), ?_⟩ | refine ⟨_, _, Right_c s _ (Nat.le_trans hl (by decide)), ?_⟩ | refine acalls_same (hv _ _ (at1.trans (congrArg some p0))) ?_ | refine ⟨_, hv _ _ (at1.trans (congrArg some p0)), ?_⟩ | refine ⟨_, _, hv _ _ (at1.trans (congrArg some p0)), ?_⟩ | refine acalls_same (blanks_c at1 hs1 hl) ?_ | refine ⟨_, blanks_c at1 hs1 hl, ?_⟩ | refine ⟨_, _, blanks_c at1 hs1 hl, ?_⟩ | refine acalls_same (fail_c at1) ?_ | refine ⟨_, fail_c at1, ?_⟩ | refine ⟨_, _, fail_c at1, ?_⟩ | refine vcI (fun _ => ?_) (fun _ => ?_) | (refine vcA ?_ ?_; focus (repeat' (first | omega | assumption | refine vcA ?_ ?_); done)) | omega | refine imp_in (fun _ => ?_))
          exact done_weak (le_pair le_zero) (done_cut (parseAV (zeroJ, 2)) (Le.refl _) low_parse ⟨rfl, rfl⟩)
        · rw [if_pos he]
          refine acalls_vc L_ok mixed [20, 1000011, 1000011004005] (rs := [.cell 2 29, .tmp 3]) (n := 48) Tryz.func9 rfl rfl rfl rfl (Nat.le_of_ble_eq_true rfl) (by kernel_rfl) ?_
          repeat' (first | refine unhold ?_ | (simp -dsimp -implicitDefEqProofs (disch := (first | assumption | omega | (simp only [ll1, ll2, ll3, ll4, ll5, ll6, ll7, ll8]; omega))) only [go_sem, c2, hlt, he]) | refine acalls_same (Right_c s _ (Nat.le_trans hl (by decide))) ?_ | refine ⟨_, Right_c s _ (Nat.le_trans hl (by decide)), ?_⟩ | refine ⟨_, _, Right_c s _ (Nat.le_trans hl (by decide)), ?_⟩ | refine acalls_same (hv _ _ (at1.trans (congrArg some p0))) ?_ | refine ⟨_, hv _ _ (at1.trans (congrArg some p0)), ?_⟩ | refine ⟨_, _, hv _ _ (at1.trans (congrArg some p0)), ?_⟩ | refine acalls_same (blanks_c at1 hs1 hl) ?_ | refine ⟨_, blanks_c at1 hs1 hl, ?_⟩ | refine ⟨_, _, blanks_c at1 hs1 hl, ?_⟩ | refine acalls_same (fail_c at1) ?_ | refine ⟨_, fail_c at1, ?_⟩ | refine ⟨_, _, fail_c at1, ?_⟩ | refine vcI (fun _ => ?_) (fun _ => ?_) | (refine vcA ?_ ?_; focus (repeat' (first | omega | assumption | refine vcA ?_ ?_); done)) | omega | refine imp_in (fun _ => ?_))
          exact done_weak (le_pair le_zero) (done_cut (parseAV (zeroJ, e)) (Le.refl _) low_parse ⟨rfl, rfl⟩)
end Go.Proofs.YtdahdbnfknmmgaaGreatDoor
end
