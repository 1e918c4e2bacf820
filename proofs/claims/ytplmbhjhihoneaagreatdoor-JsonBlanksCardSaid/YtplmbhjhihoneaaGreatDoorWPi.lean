/- Blanks around signs change nothing of what is parsed. No program in sight. -/
import Derived.Test.YtplmbhjhihoneaaGreatDoorWPb
section
set_option linter.unusedSimpArgs false
set_option linter.unusedVariables false
namespace Go.Proofs.YtplmbhjhihoneaaGreatDoor
open Go V
set_option maxRecDepth 10000
set_option maxHeartbeats 4000000
def isSign (c : UInt8) : Bool := c == 91 || c == 93 || c == 123 || c == 125 || c == 44 || c == 58
def nextW (w t : Bool) (c : UInt8) : Bool := if t then w else if w && c == 92 then w else if c == 34 then !w else w
def nextT (w t : Bool) (c : UInt8) : Bool := if t then false else w && c == 92
/-- A text, and the same one with blanks around its signs. -/
inductive Wide : Bool → Bool → bytes → bytes → Prop
  | nil (w t : Bool) : Wide w t [] []
  | cons (w t : Bool) (c : UInt8) (p q r m : bytes) (hp : ∀ b ∈ p, isBlank b = true) (hq : ∀ b ∈ q, isBlank b = true) (hs : (w = false ∧ isSign c = true) ∨ (p = [] ∧ q = [])) (h : Wide (nextW w t c) (nextT w t c) r m) : Wide w t (c :: r) (p ++ c :: (q ++ m))
theorem wide_inv {w t : Bool} {c : UInt8} {r m : bytes} (h : Wide w t (c :: r) m) : ∃ p q m', m = p ++ c :: (q ++ m') ∧ (∀ b ∈ p, isBlank b = true) ∧ (∀ b ∈ q, isBlank b = true) ∧ ((w = false ∧ isSign c = true) ∨ (p = [] ∧ q = [])) ∧ Wide (nextW w t c) (nextT w t c) r m' := by
  cases h with
  | cons _ _ _ p q _ m hp hq hs h => exact ⟨p, q, m, rfl, hp, hq, hs, h⟩
theorem wide_nil {w t : Bool} {m : bytes} (h : Wide w t [] m) : m = [] := by cases h; rfl
theorem wide_in {t : Bool} {c : UInt8} {r m : bytes} (h : Wide true t (c :: r) m) : ∃ m', m = c :: m' ∧ Wide (nextW true t c) (nextT true t c) r m' := by
  obtain ⟨p, q, m', rfl, _, _, hs, h'⟩ := wide_inv h
  rcases hs with ⟨h1, _⟩ | ⟨rfl, rfl⟩
  · cases h1
  · exact ⟨m', rfl, h'⟩
theorem wide_plain {w t : Bool} {c : UInt8} {r m : bytes} (h : Wide w t (c :: r) m) (hc : isSign c = false) : ∃ m', m = c :: m' ∧ Wide (nextW w t c) (nextT w t c) r m' := by
  obtain ⟨p, q, m', rfl, _, _, hs, h'⟩ := wide_inv h
  rcases hs with ⟨_, h1⟩ | ⟨rfl, rfl⟩
  · rw [hc] at h1; cases h1
  · exact ⟨m', rfl, h'⟩
theorem blanks_pre {m : bytes} : ∀ {p : bytes}, (∀ b ∈ p, isBlank b = true) → blanks (p ++ m) = blanks m
  | [], _ => rfl
  | b :: p, h => by
    have := blanks_pre (m := m) (p := p) fun x hx => h x (List.mem_cons_of_mem _ hx)
    unfold blanks at *
    rw [List.cons_append, List.dropWhile_cons, if_pos (h b (List.mem_cons_self ..)), this]
theorem sign_blank {c : UInt8} (h : isSign c = true) : isBlank c = false := by
  unfold isSign at h
  simp only [Bool.or_eq_true, beq_iff_eq] at h
  rcases h with ((((rfl | rfl) | rfl) | rfl) | rfl) | rfl <;> rfl
theorem sign_ne {c d : UInt8} (h : isSign c = true) (k : isSign d = false) : c ≠ d := fun e => by rw [e, k] at h; cases h
theorem next_out {c : UInt8} (h : c ≠ 34) : nextW false false c = false ∧ nextT false false c = false := by
  unfold nextW nextT
  simp [h]
def Out (r r' : bytes) : Prop := ∃ p m, r' = p ++ m ∧ (∀ b ∈ p, isBlank b = true) ∧ Wide false false r m
inductive Tight : bytes → bytes → Prop
  | nil : Tight [] []
  | cons (c : UInt8) (q r m : bytes) (hc : isBlank c = false) (hq : ∀ b ∈ q, isBlank b = true) (hs : isSign c = true ∨ q = []) (h : Wide (nextW false false c) (nextT false false c) r m) : Tight (c :: r) (c :: (q ++ m))
theorem blanks_cons_no {c : UInt8} {r : bytes} (h : isBlank c = false) : blanks (c :: r) = c :: r := by
  unfold blanks
  rw [List.dropWhile_cons, h]
  rfl
theorem blanks_cons_yes {c : UInt8} {r : bytes} (h : isBlank c = true) : blanks (c :: r) = blanks r := by
  unfold blanks
  rw [List.dropWhile_cons, if_pos h]
theorem tight_wide : ∀ {r m : bytes}, Wide false false r m → Tight (blanks r) (blanks m)
  | [], m, h => by rw [wide_nil h]; exact .nil
  | c :: r, m, h => by
    by_cases hb : isBlank c = true
    · have hc : isSign c = false := by
        cases e : isSign c with
        | false => rfl
        | true => rw [sign_blank e] at hb; cases hb
      obtain ⟨m', rfl, h'⟩ := wide_plain h hc
      have h34 : c ≠ 34 := by intro e; subst e; revert hb; decide
      rw [(next_out h34).1, (next_out h34).2] at h'
      rw [blanks_cons_yes hb, blanks_cons_yes hb]
      exact tight_wide h'
    · have hb' : isBlank c = false := by simpa using hb
      obtain ⟨p, q, m', rfl, hp, hq, hs, h'⟩ := wide_inv h
      rw [blanks_pre hp, blanks_cons_no hb', blanks_cons_no hb']
      exact .cons c q r m' hb' hq (hs.imp (·.2) (·.2)) h'
theorem tight_out {r r' : bytes} (h : Out r r') : Tight (blanks r) (blanks r') := by
  obtain ⟨p, m, rfl, hp, h⟩ := h
  rw [blanks_pre hp]
  exact tight_wide h
theorem tight_w {r r' : bytes} (h : Tight r r') : Wide false false r r' := by
  cases h with
  | nil => exact .nil _ _
  | cons c q r m hc hq hs h =>
    have := Wide.cons false false c [] q r m (fun b hb => by cases hb) hq (hs.imp (fun h => ⟨rfl, h⟩) (fun h => ⟨rfl, h⟩)) h
    exact this
theorem out_w {r r' : bytes} (h : Wide false false r r') : Out r r' := ⟨[], r', rfl, fun b hb => (by cases hb), h⟩
theorem out_t {r r' : bytes} (h : Tight r r') : Out r r' := out_w (tight_w h)
theorem peek_t {r r' : bytes} (h : Tight r r') : peek r' = peek r := by cases h <;> rfl
theorem skip_sign {c : UInt8} {r r' : bytes} (hc : isSign c = true) (h : Tight r r') : (skipW [c] r = none ∧ skipW [c] r' = none) ∨ ∃ r2 r2', skipW [c] r = some r2 ∧ skipW [c] r' = some r2' ∧ Out r2 r2' := by
  have h0 : c ≠ 0 := sign_ne hc (by decide)
  rw [skip_peek h0, skip_peek h0, peek_t h]
  by_cases hp : peek r = c
  · rw [if_pos hp, if_pos hp]
    cases h with
    | nil => exact absurd hp.symm h0
    | cons d q r m hd hq hs h =>
      have hp : d = c := hp
      subst hp
      rw [(next_out (sign_ne hc (by decide))).1, (next_out (sign_ne hc (by decide))).2] at h
      exact .inr ⟨r, q ++ m, rfl, rfl, q, m, rfl, hq, h⟩
  · rw [if_neg hp, if_neg hp]
    exact .inl ⟨rfl, rfl⟩
theorem skipW_nil (r : bytes) : skipW [] r = some r := by unfold skipW; simp
theorem skipW_none (a : UInt8) (w : bytes) : skipW (a :: w) [] = none := by unfold skipW; simp
theorem skipW_cons (a c : UInt8) (w r : bytes) : skipW (a :: w) (c :: r) = if a = c then skipW w r else none := by
  unfold skipW
  rw [List.isPrefixOf_cons_cons]
  by_cases h : a = c
  · subst h; simp
  · simp [h]
theorem wide_skip : ∀ {w : bytes}, (∀ a ∈ w, isSign a = false ∧ a ≠ 34 ∧ isBlank a = false) → ∀ {r m : bytes}, Wide false false r m → (skipW w r = none ∧ skipW w m = none) ∨ ∃ r2 m2, skipW w r = some r2 ∧ skipW w m = some m2 ∧ Wide false false r2 m2
  | [], _, r, m, h => .inr ⟨r, m, skipW_nil r, skipW_nil m, h⟩
  | a :: w, hw, [], m, h => by rw [wide_nil h]; exact .inl ⟨skipW_none a w, skipW_none a w⟩
  | a :: w, hw, c :: r, m, h => by
    obtain ⟨h1, h2, h3⟩ := hw a (List.mem_cons_self ..)
    by_cases hac : a = c
    · subst hac
      obtain ⟨m', rfl, h'⟩ := wide_plain h h1
      rw [(next_out h2).1, (next_out h2).2] at h'
      rw [skipW_cons, skipW_cons, if_pos rfl, if_pos rfl]
      exact wide_skip (fun b hb => hw b (List.mem_cons_of_mem _ hb)) h'
    · obtain ⟨p, q, m', rfl, hp, hq, hs, h'⟩ := wide_inv h
      rw [skipW_cons, if_neg hac]
      refine .inl ⟨rfl, ?_⟩
      cases p with
      | nil => rw [List.nil_append, skipW_cons, if_neg hac]
      | cons b p =>
        rw [List.cons_append, skipW_cons, if_neg]
        intro e
        rw [e, hp b (List.mem_cons_self ..)] at h3
        cases h3
theorem wide_peek {c : UInt8} {r m : bytes} (hc : isSign c = false ∧ isBlank c = false ∧ c ≠ 0) (h : Wide false false r m) : peek m = c ↔ peek r = c := by
  cases r with
  | nil => rw [wide_nil h]
  | cons d r =>
    by_cases hd : isSign d = true
    · obtain ⟨p, q, m', rfl, hp, hq, hs, h'⟩ := wide_inv h
      constructor
      · intro e
        cases p with
        | nil => exact e
        | cons b p =>
          have e : b = c := e
          have := hp b (List.mem_cons_self ..)
          rw [e, hc.2.1] at this
          cases this
      · intro e
        have e : d = c := e
        rw [e, hc.1] at hd
        cases hd
    · obtain ⟨m', rfl, _⟩ := wide_plain h (by simpa using hd)
      exact Iff.rfl
theorem digit_plain {c : UInt8} (h : isDigit c = true) : isSign c = false ∧ c ≠ 34 ∧ isBlank c = false := by
  have h1 := of_decide_eq_true h
  refine ⟨?_, ?_, ?_⟩
  · cases e : isSign c with
    | false => rfl
    | true =>
      unfold isSign at e
      simp only [Bool.or_eq_true, beq_iff_eq] at e
      rcases e with ((((rfl | rfl) | rfl) | rfl) | rfl) | rfl <;> revert h <;> decide
  · rintro rfl; revert h; decide
  · cases e : isBlank c with
    | false => rfl
    | true =>
      unfold isBlank at e
      simp only [Bool.or_eq_true, beq_iff_eq] at e
      rcases e with ((rfl | rfl) | rfl) | rfl <;> revert h <;> decide
theorem wide_digits : ∀ {r m : bytes}, Wide false false r m → m.takeWhile isDigit = r.takeWhile isDigit ∧ ∀ n, n ≤ (r.takeWhile isDigit).length → Wide false false (r.drop n) (m.drop n) ∧ m.take n = r.take n
  | [], m, h => by
    rw [wide_nil h]
    exact ⟨rfl, fun n hn => by simp at hn; subst hn; exact ⟨.nil _ _, rfl⟩⟩
  | c :: r, m, h => by
    by_cases hd : isDigit c = true
    · obtain ⟨h1, h2, h3⟩ := digit_plain hd
      obtain ⟨m', rfl, h'⟩ := wide_plain h h1
      rw [(next_out h2).1, (next_out h2).2] at h'
      obtain ⟨i1, i2⟩ := wide_digits h'
      rw [List.takeWhile_cons, if_pos hd, List.takeWhile_cons, if_pos hd, i1]
      refine ⟨rfl, fun n hn => ?_⟩
      cases n with
      | zero => exact ⟨h, rfl⟩
      | succ n =>
        rw [List.length_cons] at hn
        obtain ⟨j1, j2⟩ := i2 n (by omega)
        rw [List.drop_succ_cons, List.drop_succ_cons, List.take_succ_cons, List.take_succ_cons, j2]
        exact ⟨j1, rfl⟩
    · have hd' : isDigit c = false := by simpa using hd
      rw [List.takeWhile_cons, hd']
      obtain ⟨p, q, m', rfl, hp, hq, hs, h'⟩ := wide_inv h
      refine ⟨?_, fun n hn => ?_⟩
      · cases p with
        | nil => rw [List.nil_append, List.takeWhile_cons, hd']; rfl
        | cons b p =>
          have hb : isDigit b = false := by
            cases e : isDigit b with
            | false => rfl
            | true =>
              have h5 := hp b (List.mem_cons_self ..)
              rw [(digit_plain e).2.2] at h5
              cases h5
          rw [List.cons_append, List.takeWhile_cons, hb]
          rfl
      · simp at hn
        subst hn
        exact ⟨h, rfl⟩
theorem numLen_tw (r : bytes) : numLen r ≤ (r.takeWhile isDigit).length := by
  unfold numLen
  split
  · rename_i h
    cases r with
    | nil => revert h; decide
    | cons c r =>
      have h : c = 48 := h
      subst h
      rw [List.takeWhile_cons, if_pos (by decide)]
      simp
  · exact Nat.le_refl _
theorem numGo_sim {b : Bool} {r m : bytes} (h : Wide false false r m) : (numGo b m).1 = (numGo b r).1 ∧ (numGo b m).2.2 = (numGo b r).2.2 ∧ Out (numGo b r).2.1 (numGo b m).2.1 := by
  obtain ⟨h1, h2⟩ := wide_digits h
  have hp := wide_peek (c := 48) (by decide) h
  have hn : numLen m = numLen r := by
    unfold numLen
    rw [h1]
    by_cases e : peek r = 48
    · rw [if_pos e, if_pos (hp.2 e)]
    · rw [if_neg e, if_neg (fun k => e (hp.1 k))]
  obtain ⟨h3, h4⟩ := h2 (numLen r) (numLen_tw r)
  unfold numGo
  rw [hn, h4]
  by_cases c1 : numLen r = 0 ∨ (b = true ∧ peek r = 48)
  · rw [if_pos c1, if_pos (c1.imp id fun k => ⟨k.1, hp.2 k.2⟩)]
    exact ⟨rfl, rfl, out_w h⟩
  · rw [if_neg c1, if_neg (fun k => c1 (k.imp id fun k => ⟨k.1, hp.1 k.2⟩))]
    split
    · exact ⟨rfl, rfl, out_w h3⟩
    · exact ⟨rfl, rfl, out_w h3⟩
theorem num_sim {r m : bytes} (h : Wide false false r m) : (numP m).1 = (numP r).1 ∧ (numP m).2.2 = (numP r).2.2 ∧ Out (numP r).2.1 (numP m).2.1 := by
  unfold numP
  rcases wide_skip (w := [45]) (by decide) h with ⟨h1, h2⟩ | ⟨r2, m2, h1, h2, h3⟩
  · rw [h1, h2]; exact numGo_sim h
  · rw [h1, h2]; exact numGo_sim h3
theorem next_in {c : UInt8} (h : c ≠ 34) (h2 : c ≠ 92) : nextW true false c = true ∧ nextT true false c = false := by
  unfold nextW nextT
  simp [h, h2]
theorem next_esc (c : UInt8) : nextW true true c = true ∧ nextT true true c = false := ⟨rfl, rfl⟩
theorem hex_plain {c : UInt8} (h : isHex c = true) : c ≠ 34 ∧ c ≠ 92 := by
  constructor <;> rintro rfl <;> revert h <;> decide
theorem hex_run : ∀ (n : Nat) {r m : bytes}, Wide true false r m → (n ≤ r.length ∧ (r.take n).all isHex = true → m.take n = r.take n ∧ n ≤ m.length ∧ Wide true false (r.drop n) (m.drop n)) ∧ (n ≤ m.length ∧ (m.take n).all isHex = true → n ≤ r.length ∧ (r.take n).all isHex = true)
  | 0, r, m, h => ⟨fun _ => ⟨rfl, Nat.zero_le _, h⟩, fun _ => ⟨Nat.zero_le _, rfl⟩⟩
  | n + 1, [], m, h => by rw [wide_nil h]; exact ⟨fun h => by simp at h, fun h => by simp at h⟩
  | n + 1, c :: r, m, h => by
    obtain ⟨m', rfl, h'⟩ := wide_in h
    constructor
    · rintro ⟨h1, h2⟩
      rw [List.take_succ_cons, List.all_cons, Bool.and_eq_true] at h2
      obtain ⟨e1, e2⟩ := hex_plain h2.1
      rw [(next_in e1 e2).1, (next_in e1 e2).2] at h'
      obtain ⟨i1, i2, i3⟩ := (hex_run n h').1 ⟨by simpa using h1, h2.2⟩
      rw [List.take_succ_cons, List.take_succ_cons, i1, List.drop_succ_cons, List.drop_succ_cons]
      exact ⟨rfl, by simpa using i2, i3⟩
    · rintro ⟨h1, h2⟩
      rw [List.take_succ_cons, List.all_cons, Bool.and_eq_true] at h2
      obtain ⟨e1, e2⟩ := hex_plain h2.1
      rw [(next_in e1 e2).1, (next_in e1 e2).2] at h'
      obtain ⟨i1, i2⟩ := (hex_run n h').2 ⟨by simpa using h1, h2.2⟩
      rw [List.take_succ_cons, List.all_cons, h2.1, i2]
      exact ⟨by simpa using i1, rfl⟩
theorem unit_sim {r m : bytes} (h : Wide true false r m) : (unitP m).1 = (unitP r).1 ∧ (unitP m).2.1 = (unitP r).2.1 ∧ ((unitP r).2.1 = true → Wide true false (unitP r).2.2 (unitP m).2.2) := by
  obtain ⟨h1, h2⟩ := hex_run 4 h
  by_cases c : 4 ≤ r.length ∧ (r.take 4).all isHex = true
  · obtain ⟨i1, i2, i3⟩ := h1 c
    have e1 : unitP r = ((hexNum (r.take 4) : Int), true, r.drop 4) := by rw [unitP, if_neg (by omega), if_pos c.2]
    have e2 : unitP m = ((hexNum (r.take 4) : Int), true, m.drop 4) := by rw [unitP, if_neg (by omega), i1, if_pos c.2]
    rw [e1, e2]
    exact ⟨rfl, rfl, fun _ => i3⟩
  · have no : ∀ s : bytes, ¬ (4 ≤ s.length ∧ (s.take 4).all isHex = true) → unitP s = (0, false, s) := fun s hs => by
      unfold unitP
      split
      · rfl
      · split
        · exact absurd ⟨by omega, by assumption⟩ hs
        · rfl
    rw [no r c, no m (fun k => c (h2 k))]
    exact ⟨rfl, rfl, fun h => by cases h⟩
theorem low_sim {n : Int} {r m : bytes} (h : Wide true false r m) : (lowP n m).1 = (lowP n r).1 ∧ (lowP n m).2.1 = (lowP n r).2.1 ∧ ((lowP n r).2.1 = true → Wide true false (lowP n r).2.2 (lowP n m).2.2) := by
  have hs : (skipW [92, 117] r = none ∧ skipW [92, 117] m = none) ∨ ∃ r2 m2, skipW [92, 117] r = some r2 ∧ skipW [92, 117] m = some m2 ∧ Wide true false r2 m2 := by
    cases r with
    | nil => rw [wide_nil h]; exact .inl ⟨rfl, rfl⟩
    | cons c r =>
      obtain ⟨m', rfl, h'⟩ := wide_in h
      rw [skipW_cons, skipW_cons]
      by_cases hc : 92 = c
      · subst hc
        rw [if_pos rfl, if_pos rfl]
        cases r with
        | nil => rw [wide_nil h']; exact .inl ⟨rfl, rfl⟩
        | cons d r =>
          obtain ⟨m2, rfl, h2⟩ := wide_in (t := true) h'
          rw [skipW_cons, skipW_cons]
          by_cases hd : 117 = d
          · subst hd
            rw [if_pos rfl, if_pos rfl, skipW_nil, skipW_nil]
            exact .inr ⟨r, m2, rfl, rfl, h2⟩
          · rw [if_neg hd, if_neg hd]
            exact .inl ⟨rfl, rfl⟩
      · rw [if_neg hc, if_neg hc]
        exact .inl ⟨rfl, rfl⟩
  unfold lowP
  rcases hs with ⟨h1, h2⟩ | ⟨r2, m2, h1, h2, h3⟩
  · rw [h1, h2]; exact ⟨rfl, rfl, fun h => by cases h⟩
  · rw [h1, h2]
    obtain ⟨i1, i2, i3⟩ := unit_sim h3
    simp only
    rw [i1, i2]
    refine ⟨rfl, rfl, fun h => i3 ?_⟩
    rw [Bool.and_eq_true] at h
    exact h.1
theorem rune_sim {r m : bytes} (h : Wide true false r m) : (runeP m).1 = (runeP r).1 ∧ (runeP m).2.1 = (runeP r).2.1 ∧ ((runeP r).2.1 = true → Wide true false (runeP r).2.2 (runeP m).2.2) := by
  obtain ⟨i1, i2, i3⟩ := unit_sim h
  unfold runeP
  rw [i1, i2]
  by_cases c : ((unitP r).2.1 && halfR (unitP r).1) = true
  · rw [if_pos c, if_pos c]
    rw [Bool.and_eq_true] at c
    exact low_sim (i3 c.1)
  · rw [if_neg c, if_neg c]
    exact ⟨i1, i2, i3⟩
theorem esc_sim {r m : bytes} (h : Wide true true r m) : (escP m).1 = (escP r).1 ∧ (escP m).2.1 = (escP r).2.1 ∧ ((escP r).2.1 = 0 → Wide true false (escP r).2.2 (escP m).2.2) := by
  cases r with
  | nil => rw [wide_nil h]; exact ⟨rfl, rfl, fun h => absurd h (by decide)⟩
  | cons c r =>
    obtain ⟨m', rfl, h'⟩ := wide_in h
    have h' : Wide true false r m' := h'
    rw [escP_eq, escP_eq]
    show _ ∧ _ ∧ _
    rw [show peek (c :: m') = c from rfl, show peek (c :: r) = c from rfl]
    by_cases hi : escSigns.idxOf c < 8
    · rw [if_pos hi, if_pos hi]
      exact ⟨rfl, rfl, fun _ => h'⟩
    · rw [if_neg hi, if_neg hi, skipW_cons, skipW_cons]
      by_cases hc : 117 = c
      · rw [if_pos hc, if_pos hc, skipW_nil, skipW_nil]
        obtain ⟨i1, i2, i3⟩ := rune_sim h'
        simp only [escU]
        rw [i1, i2]
        split
        · rename_i hu
          exact ⟨rfl, rfl, fun _ => i3 hu⟩
        · exact ⟨rfl, rfl, fun h => by cases h⟩
      · rw [if_neg hc, if_neg hc]
        exact ⟨rfl, rfl, fun h => by cases h⟩
theorem wide_pk {t : Bool} {r m : bytes} (h : Wide true t r m) : peek m = peek r := by
  cases r with
  | nil => rw [wide_nil h]
  | cons c r =>
    obtain ⟨m', rfl, h'⟩ := wide_in h
    rfl
theorem wide_d1 {t : Bool} {r m : bytes} (h : Wide true t r m) (h0 : peek r ≠ 0) : Wide (nextW true t (peek r)) (nextT true t (peek r)) (r.drop 1) (m.drop 1) := by
  cases r with
  | nil => exact absurd rfl h0
  | cons c r =>
    obtain ⟨m', rfl, h'⟩ := wide_in h
    exact h'
theorem quotedR_sim (r o m : bytes) : Wide true false r m → (quotedR m o).1 = (quotedR r o).1 ∧ (quotedR m o).2.2 = (quotedR r o).2.2 ∧ ((quotedR r o).2.2 = 0 → Wide false false (quotedR r o).2.1 (quotedR m o).2.1) := by
  revert m
  refine quotedGo_ind (fun r o x => ∀ m, Wide true false r m → (quotedR m o).1 = x.1 ∧ (quotedR m o).2.2 = x.2.2 ∧ (x.2.2 = 0 → Wide false false x.2.1 (quotedR m o).2.1)) ?_ ?_ ?_ ?_ ?_ (r.length + 1) r o (Nat.lt_succ_self _)
  · intro r o h m hw
    rw [quotedR_ctl (by rw [wide_pk hw]; exact h)]
    exact ⟨rfl, rfl, fun h => by cases h⟩
  · intro r o h m hw
    have hd := wide_d1 hw (by rw [h]; decide)
    rw [quotedR_end (by rw [wide_pk hw]; exact h)]
    rw [h] at hd
    exact ⟨rfl, rfl, fun _ => hd⟩
  · intro r o h he m hw
    have hd := wide_d1 hw (by rw [h]; decide)
    rw [h] at hd
    have hd : Wide true true (r.drop 1) (m.drop 1) := hd
    obtain ⟨i1, i2, i3⟩ := esc_sim hd
    rw [quotedR_bad (by rw [wide_pk hw]; exact h) (by rw [i2]; exact he)]
    exact ⟨rfl, i2, fun h => absurd h he⟩
  · intro r o x h he ih m hw
    have hd := wide_d1 hw (by rw [h]; decide)
    rw [h] at hd
    have hd : Wide true true (r.drop 1) (m.drop 1) := hd
    obtain ⟨i1, i2, i3⟩ := esc_sim hd
    rw [quotedR_esc (by rw [wide_pk hw]; exact h) (by rw [i2]; exact he), i1]
    exact ih _ (i3 he)
  · intro r o x h1 h2 h3 ih m hw
    have hd := wide_d1 hw (by intro e; rw [e] at h1; revert h1; decide)
    rw [(next_in h2 h3).1, (next_in h2 h3).2] at hd
    have hp := wide_pk hw
    rw [quotedR_one (by rw [hp]; exact h1) (by rw [hp]; exact h2) (by rw [hp]; exact h3), hp]
    exact ih _ hd
def Sim (x x' : JV × bytes × Int) : Prop := x'.1 = x.1 ∧ x'.2.2 = x.2.2 ∧ (x.2.2 = 0 → Out x.2.1 x'.2.1)
theorem quoted_sim {r r' : bytes} (h : Tight r r') : (quotedP r').1 = (quotedP r).1 ∧ (quotedP r').2.2 = (quotedP r).2.2 ∧ ((quotedP r).2.2 = 0 → Out (quotedP r).2.1 (quotedP r').2.1) := by
  rw [quotedP_eq, quotedP_eq, peek_t h]
  by_cases hp : peek r = 34
  · rw [if_pos hp, if_pos hp]
    cases h with
    | nil => exact absurd hp (by decide)
    | cons c q r m hc hq hs h =>
      have hp : c = 34 := hp
      subst hp
      have hq0 : q = [] := hs.resolve_left (by decide)
      subst hq0
      obtain ⟨i1, i2, i3⟩ := quotedR_sim r [] m h
      exact ⟨i1, i2, fun e => out_w (i3 e)⟩
  · rw [if_neg hp, if_neg hp]
    exact ⟨rfl, rfl, fun h => by cases h⟩
theorem name_sim {v : JV} {r r' : bytes} (h : Out r r') : (nameP v r').1 = (nameP v r).1 ∧ (nameP v r').2.2 = (nameP v r).2.2 ∧ ((nameP v r).2.2 = 0 → Out (nameP v r).2.1 (nameP v r').2.1) := by
  obtain ⟨i1, i2, i3⟩ := quoted_sim (tight_out h)
  rw [nameP_eq, nameP_eq, i1, i2]
  generalize quotedP (blanks r') = q' at *
  generalize quotedP (blanks r) = q at *
  by_cases he : q.2.2 = 0
  · rcases skip_sign (c := 58) (by decide) (tight_out (i3 he)) with ⟨h1, h2⟩ | ⟨r2, r2', h1, h2, h3⟩
    · rw [h1, h2]
      refine ⟨rfl, rfl, fun e => ?_⟩
      generalize (if (jget v q.1).isSome = true ∧ q.2.2 = 0 then (6 : Int) else q.2.2) = e' at e
      simp only at e
      by_cases h4 : e' = 0
      · rw [if_pos h4] at e; cases e
      · rw [if_neg h4] at e; exact absurd e h4
    · rw [h1, h2]
      exact ⟨rfl, rfl, fun _ => h3⟩
  · have e1 : (if (jget v q.1).isSome = true ∧ q.2.2 = 0 then (6 : Int) else q.2.2) = q.2.2 := if_neg (fun k => he k.2)
    rw [e1]
    have e2 : (if q.2.2 = 0 then (2 : Int) else q.2.2) = q.2.2 := if_neg he
    rw [e2]
    cases skipW [58] (blanks q.2.1) <;> cases skipW [58] (blanks q'.2.1) <;> exact ⟨rfl, rfl, fun e => absurd e he⟩
theorem word_plain : (∀ a ∈ wNull, isSign a = false ∧ a ≠ 34 ∧ isBlank a = false) ∧ (∀ a ∈ wTrue, isSign a = false ∧ a ≠ 34 ∧ isBlank a = false) ∧ (∀ a ∈ wFalse, isSign a = false ∧ a ≠ 34 ∧ isBlank a = false) := by decide
theorem leaf_sim {r r' : bytes} (h : Tight r r') : (leafP r = none ∧ leafP r' = none) ∨ ∃ x x', leafP r = some x ∧ leafP r' = some x' ∧ Sim x x' := by
  have hw := tight_w h
  unfold leafP
  rcases wide_skip word_plain.1 hw with ⟨h1, h2⟩ | ⟨r2, m2, h1, h2, h3⟩
  · rw [h1, h2]
    rcases wide_skip word_plain.2.1 hw with ⟨h1, h2⟩ | ⟨r2, m2, h1, h2, h3⟩
    · rw [h1, h2]
      rcases wide_skip word_plain.2.2 hw with ⟨h1, h2⟩ | ⟨r2, m2, h1, h2, h3⟩
      · rw [h1, h2]
        simp only
        rw [peek_t h]
        split
        · obtain ⟨i1, i2, i3⟩ := quoted_sim h
          exact .inr ⟨_, _, rfl, rfl, by rw [i1], i2, i3⟩
        · split
          · obtain ⟨i1, i2, i3⟩ := num_sim hw
            exact .inr ⟨_, _, rfl, rfl, by rw [i1], i2, fun _ => i3⟩
          · split
            · exact .inr ⟨_, _, rfl, rfl, rfl, rfl, fun h => by cases h⟩
            · exact .inl ⟨rfl, rfl⟩
      · rw [h1, h2]; exact .inr ⟨_, _, rfl, rfl, rfl, rfl, fun _ => out_w h3⟩
    · rw [h1, h2]; exact .inr ⟨_, _, rfl, rfl, rfl, rfl, fun _ => out_w h3⟩
  · rw [h1, h2]; exact .inr ⟨_, _, rfl, rfl, rfl, rfl, fun _ => out_w h3⟩
theorem treeEnd_sim {k : JV → bytes → JV × bytes × Int} {e : UInt8} (he : isSign e = true) {v : JV} {r r' : bytes} {err : Int} (hk : ∀ r4 r4', Out r4 r4' → Sim (k v r4) (k v r4')) (h : err = 0 → Out r r') : Sim (treeEnd k e v r err) (treeEnd k e v r' err) := by
  unfold treeEnd
  by_cases h0 : err ≠ 0
  · rw [if_pos h0, if_pos h0]
    exact ⟨rfl, rfl, fun h => absurd h h0⟩
  · rw [if_neg h0, if_neg h0]
    have ht := tight_out (h (by simpa using h0))
    rcases skip_sign he ht with ⟨h1, h2⟩ | ⟨r2, r2', h1, h2, h3⟩
    · rw [h1, h2]
      simp only
      rcases skip_sign (c := 44) (by decide) ht with ⟨h1, h2⟩ | ⟨r2, r2', h1, h2, h3⟩
      · rw [h1, h2]
        exact ⟨rfl, rfl, fun h => by cases h⟩
      · rw [h1, h2]
        exact hk _ _ h3
    · rw [h1, h2]
      exact ⟨rfl, rfl, fun _ => h3⟩
theorem treeGo_sim {f : bytes → JV × bytes × Int} {e : UInt8} (he : isSign e = true) (hf : ∀ r r', Out r r' → Sim (f r) (f r')) : ∀ (n : Nat) (v : JV) (r r' : bytes), Out r r' → Sim (treeGo f e n v r) (treeGo f e n v r')
  | 0, v, r, r', h => ⟨rfl, rfl, fun h => by cases h⟩
  | n + 1, v, r, r', h => by
    unfold treeGo
    by_cases h6 : v.kind = 6
    · rw [if_pos h6, if_pos h6]
      obtain ⟨i1, i2, i3⟩ := name_sim (v := v) h
      rw [i1, i2]
      by_cases hn : (nameP v r).2.2 ≠ 0
      · rw [if_pos hn, if_pos hn]
        exact ⟨rfl, rfl, fun h => absurd h hn⟩
      · rw [if_neg hn, if_neg hn]
        obtain ⟨j1, j2, j3⟩ := hf _ _ (i3 (by simpa using hn))
        rw [j1, j2]
        exact treeEnd_sim he (fun r4 r4' h4 => treeGo_sim he hf n _ r4 r4' h4) j3
    · rw [if_neg h6, if_neg h6]
      obtain ⟨j1, j2, j3⟩ := hf _ _ h
      rw [j1, j2]
      exact treeEnd_sim he (fun r4 r4' h4 => treeGo_sim he hf n _ r4 r4' h4) j3
theorem treeP_sim {f : bytes → JV × bytes × Int} {e : UInt8} (he : isSign e = true) (hs : ∀ r, (f r).2.1 <:+ r) (hf : ∀ r r', Out r r' → Sim (f r) (f r')) {v : JV} {r r' : bytes} (h : Out r r') : Sim (treeP f e v r) (treeP f e v r') := by
  have ht := tight_out h
  unfold treeP
  rcases skip_sign he ht with ⟨h1, h2⟩ | ⟨r2, r2', h1, h2, h3⟩
  · rw [h1, h2]
    simp only
    rw [treeGo_fuel hs _ ((blanks r).length + (blanks r').length + 1) v (blanks r) (by omega) (by omega), treeGo_fuel hs _ ((blanks r).length + (blanks r').length + 1) v (blanks r') (by omega) (by omega)]
    exact treeGo_sim he hf _ _ _ _ (out_t ht)
  · rw [h1, h2]
    exact ⟨rfl, rfl, fun _ => h3⟩
theorem bracket_sim {r r' : bytes} (h : Tight r r') (hp : peek r = 91 ∨ peek r = 123) : Out (r.drop 1) (r'.drop 1) := by
  cases h with
  | nil => rcases hp with h | h <;> exact absurd h (by decide)
  | cons c q r m hc hq hs h =>
    have hp : c = 91 ∨ c = 123 := hp
    have h34 : c ≠ 34 := by rintro rfl; revert hp; decide
    rw [(next_out h34).1, (next_out h34).2] at h
    exact ⟨q, m, rfl, hq, h⟩
theorem value_sim : ∀ (n : Nat) (r r' : bytes), Out r r' → Sim (valueP n r) (valueP n r')
  | 0, r, r', h => by
    have ht := tight_out h
    unfold valueP
    rcases leaf_sim ht with ⟨h1, h2⟩ | ⟨x, x', h1, h2, h3⟩
    · rw [h1, h2]
      exact ⟨rfl, rfl, fun h => by cases h⟩
    · rw [h1, h2]
      exact h3
  | n + 1, r, r', h => by
    have ht := tight_out h
    unfold valueP
    rcases leaf_sim ht with ⟨h1, h2⟩ | ⟨x, x', h1, h2, h3⟩
    · rw [h1, h2, peek_t ht, Option.getD_none, Option.getD_none]
      have hb := bracket_sim ht (leaf_none h1)
      split
      · exact treeP_sim (by decide) (suf_value n) (value_sim n) hb
      · exact treeP_sim (by decide) (suf_value n) (value_sim n) hb
    · rw [h1, h2]
      exact h3
theorem parse_sim {s s' : bytes} (h : Wide false false s s') (h1 : s.length ≤ 8192) (h2 : s'.length ≤ 8192) (h3 : Lib.validD s = true) (h4 : Lib.validD s' = true) : parseP s' = parseP s := by
  obtain ⟨i1, i2, i3⟩ := value_sim 12 s s' (out_w h)
  unfold parseP
  rw [if_neg (c := 8192 < s'.length) (by omega), if_neg (c := 8192 < s.length) (by omega), h3, h4, if_neg (c := true = false) (by simp), if_neg (c := true = false) (by simp), i1, i2]
  by_cases he : (valueP 12 s).2.2 ≠ 0
  · rw [if_pos he, if_pos he]
  · rw [if_neg he, if_neg he]
    have ht := tight_out (i3 (by simpa using he))
    have : blanks (valueP 12 s').2.1 ≠ [] ↔ blanks (valueP 12 s).2.1 ≠ [] := by
      revert ht
      generalize blanks (valueP 12 s').2.1 = a
      generalize blanks (valueP 12 s).2.1 = b
      intro ht
      cases ht <;> simp
    by_cases hb : blanks (valueP 12 s).2.1 ≠ []
    · rw [if_pos hb, if_pos (this.2 hb)]
    · rw [if_neg hb, if_neg (fun k => hb (this.1 k))]
/-- What the law makes of a text: blanks by the places of its signs. -/
def wideL (g : Nat) : Nat → Bool → Bool → bytes → bytes
  | _, _, _, [] => []
  | i, w, t, c :: r => (if (!w && isSign c) && (g + i) % 2 == 0 then [32, 9] else []) ++ c :: ((if (!w && isSign c) && (g + i) % 3 == 0 then [10, 13, 32] else []) ++ wideL g (i + 1) (nextW w t c) (nextT w t c) r)
theorem wideL_wide (g : Nat) : ∀ (r : bytes) (i : Nat) (w t : Bool), Wide w t r (wideL g i w t r)
  | [], i, w, t => .nil w t
  | c :: r, i, w, t => by
    unfold wideL
    refine .cons w t c _ _ r _ ?_ ?_ ?_ (wideL_wide g r (i + 1) _ _)
    · split
      · decide
      · intro b hb; cases hb
    · split
      · decide
      · intro b hb; cases hb
    · cases hs : (!w && isSign c) with
      | true =>
        rw [Bool.and_eq_true] at hs
        exact .inl ⟨by simpa using hs.1, hs.2⟩
      | false => exact .inr ⟨rfl, rfl⟩
theorem wideL_asc (g : Nat) : ∀ (r : bytes) (i : Nat) (w t : Bool), (∀ b ∈ r, b.toNat < 128) → ∀ b ∈ wideL g i w t r, b.toNat < 128
  | [], i, w, t, h, b, hb => by cases hb
  | c :: r, i, w, t, h, b, hb => by
    unfold wideL at hb
    have h1 : ∀ b ∈ ([32, 9] : bytes), b.toNat < 128 := by decide
    have h2 : ∀ b ∈ ([10, 13, 32] : bytes), b.toNat < 128 := by decide
    simp only [List.mem_append, List.mem_cons] at hb
    rcases hb with hb | rfl | hb | hb
    · split at hb
      · exact h1 b hb
      · cases hb
    · exact h _ (List.mem_cons_self ..)
    · split at hb
      · exact h2 b hb
      · cases hb
    · exact wideL_asc g r _ _ _ (fun x hx => h x (List.mem_cons_of_mem _ hx)) b hb
theorem asc_valid {l : bytes} (h : ∀ b ∈ l, b.toNat < 128) : Lib.validD l = true := by
  have := valid_wd (w := l) (r := []) h
  rw [List.append_nil] at this
  rw [this]
  rfl
end Go.Proofs.YtplmbhjhihoneaaGreatDoor
end
