/- Trees as texts, as plain functions; what is printed is parsed as it was. No program in sight. -/
import Derived.Test.YtplmbhjhihoneaaGreatDoorWPa
import Derived.Lib.ItoaNum
section
set_option linter.unusedSimpArgs false
set_option linter.unusedVariables false
namespace Go.Proofs.YtplmbhjhihoneaaGreatDoor
open Go V
set_option maxRecDepth 10000
set_option maxHeartbeats 4000000
def hexS (n : Nat) : UInt8 := [48, 49, 50, 51, 52, 53, 54, 55, 56, 57, 97, 98, 99, 100, 101, 102].getD n 0
def escB (c : UInt8) : bytes :=
  if c = 34 then [92, 34] else if c = 92 then [92, 92] else if c = 8 then [92, 98] else if c = 9 then [92, 116] else if c = 10 then [92, 110] else if c = 12 then [92, 102] else if c = 13 then [92, 114]
  else if c.toNat < 32 then [92, 117, 48, 48, UInt8.ofNat (48 + c.toNat / 16), hexS (c.toNat % 16)] else [c]
def quoteP (s : bytes) : bytes := 34 :: (s.flatMap escB ++ [34])
def headP (first obj : Bool) (n : bytes) : bytes := (if first then [] else [44]) ++ (if obj then quoteP n ++ [58] else [])
mutual
def printP : JV → bytes
  | .mk k n t ns is =>
    if k = 1 then wTrue else if k = 2 then wFalse else if k = 3 then Lib.itoa n else if k = 4 then quoteP t
    else if k = 5 then 91 :: (itemsP false is true ns ++ [93])
    else if k = 6 then 123 :: (itemsP true is true ns ++ [125])
    else wNull
def itemsP (obj : Bool) : List JV → Bool → List bytes → bytes
  | [], _, _ => []
  | v :: r, first, ns => headP first obj (ns.headD []) ++ (printP v ++ itemsP obj r false ns.tail)
end
theorem printP_eq (v : JV) : printP v = if v.kind = 1 then wTrue else if v.kind = 2 then wFalse else if v.kind = 3 then Lib.itoa v.num else if v.kind = 4 then quoteP v.text
    else if v.kind = 5 then 91 :: (itemsP false v.items true v.names ++ [93]) else if v.kind = 6 then 123 :: (itemsP true v.items true v.names ++ [125]) else wNull := by
  cases v; rw [printP]; rfl
theorem itemsP_nil (obj first : Bool) (ns : List bytes) : itemsP obj [] first ns = [] := by rw [itemsP]
theorem itemsP_cons (obj first : Bool) (ns : List bytes) (v : JV) (r : List JV) : itemsP obj (v :: r) first ns = headP first obj (ns.headD []) ++ (printP v ++ itemsP obj r false ns.tail) := by rw [itemsP]

/-! Texts -/
theorem escB_len (c : UInt8) : (escB c).length ≤ 6 ∧ 1 ≤ (escB c).length := by
  unfold escB
  repeat' split
  all_goals simp
theorem flat_len (s : bytes) : (s.flatMap escB).length ≤ 6 * s.length := by
  induction s with
  | nil => simp
  | cons c s ih =>
    have := (escB_len c).1
    rw [List.flatMap_cons, List.length_append, List.length_cons]
    omega
theorem quoteP_len (s : bytes) : (quoteP s).length ≤ 6 * s.length + 2 := by
  have := flat_len s
  unfold quoteP
  simp only [List.length_cons, List.length_append, List.length_nil]
  omega
theorem hex_facts : ∀ n : Fin 256, n.val < 32 → (([48, 48, UInt8.ofNat (48 + n.val / 16), hexS (n.val % 16)].all isHex = true ∧ hexNum [48, 48, UInt8.ofNat (48 + n.val / 16), hexS (n.val % 16)] = n.val) ∧ halfR (n.val : Int) = false ∧ enc1 (n.val : Int) = [UInt8.ofNat n.val]) ∧ ∀ b ∈ [UInt8.ofNat (48 + n.val / 16), hexS (n.val % 16)], b.toNat < 128 := by decide +kernel
theorem unitP_four {a b c d : UInt8} {r : bytes} (h : [a, b, c, d].all isHex = true) : unitP (a :: b :: c :: d :: r) = (((hexNum [a, b, c, d] : Nat) : Int), true, r) := by
  unfold unitP
  rw [if_neg (by simp)]
  rw [if_pos (by exact h)]
  rfl
theorem esc_one : ∀ i : Fin 7, ∀ r : bytes, escP ([34, 92, 98, 116, 110, 102, 114].getD i.val 0 :: r) = ([[34, 92, 8, 9, 10, 12, 13].getD i.val 0], 0, r) := by
  intro i r
  match i with
  | 0 => rfl
  | 1 => rfl
  | 2 => rfl
  | 3 => rfl
  | 4 => rfl
  | 5 => rfl
  | 6 => rfl
theorem quotedR_esc1 (i : Fin 7) (r o : bytes) : quotedR (92 :: [34, 92, 98, 116, 110, 102, 114].getD i.val 0 :: r) o = quotedR r (o ++ [[34, 92, 8, 9, 10, 12, 13].getD i.val 0]) := by
  have h := esc_one i r
  rw [quotedR_esc (by rfl) (by show (escP (_ :: r)).2.1 = 0; rw [h])]
  show quotedR (escP (_ :: r)).2.2 (o ++ (escP (_ :: r)).1) = _
  rw [h]
theorem quotedR_ctl6 {c : UInt8} (hc : c.toNat < 32) (r o : bytes) : quotedR ([92, 117, 48, 48, UInt8.ofNat (48 + c.toNat / 16), hexS (c.toNat % 16)] ++ r) o = quotedR r (o ++ [c]) := by
  obtain ⟨⟨⟨h1, h2⟩, h3, h4⟩, _⟩ := hex_facts ⟨c.toNat, c.toNat_lt⟩ hc
  simp only at h1 h2 h3 h4
  have hu := unitP_four (r := r) h1
  rw [h2] at hu
  have he : escP (117 :: 48 :: 48 :: UInt8.ofNat (48 + c.toNat / 16) :: hexS (c.toNat % 16) :: r) = ([c], 0, r) := by
    have hp : ∀ l : bytes, peek (117 :: l) = 117 := fun _ => rfl
    unfold escP
    rw [hp, if_neg (show ¬ escSigns.idxOf (117 : UInt8) < 8 by decide)]
    have hs : skipW [117] (117 :: 48 :: 48 :: UInt8.ofNat (48 + c.toNat / 16) :: hexS (c.toNat % 16) :: r) = some (48 :: 48 :: UInt8.ofNat (48 + c.toNat / 16) :: hexS (c.toNat % 16) :: r) := rfl
    rw [hs]
    dsimp only
    rw [hu]
    dsimp only
    rw [h3, Bool.and_false, if_neg (by decide)]
    unfold escU
    dsimp only
    rw [if_pos rfl, h4, UInt8.ofNat_toNat]
  rw [quotedR_esc (by rfl) (by show (escP (117 :: _)).2.1 = 0; exact congrArg (·.2.1) he)]
  show quotedR (escP (117 :: _)).2.2 (o ++ (escP (117 :: _)).1) = _
  have e1 := congrArg (·.2.2) he
  have e2 := congrArg (·.1) he
  dsimp only at e1 e2
  exact (congrArg (fun x => quotedR x _) e1).trans (congrArg (fun x => quotedR r (o ++ x)) e2)
theorem quotedR_escB (c : UInt8) (r o : bytes) : quotedR (escB c ++ r) o = quotedR r (o ++ [c]) := by
  unfold escB
  split
  · subst c; exact quotedR_esc1 0 r o
  split
  · subst c; exact quotedR_esc1 1 r o
  split
  · subst c; exact quotedR_esc1 2 r o
  split
  · subst c; exact quotedR_esc1 3 r o
  split
  · subst c; exact quotedR_esc1 4 r o
  split
  · subst c; exact quotedR_esc1 5 r o
  split
  · subst c; exact quotedR_esc1 6 r o
  split
  · rename_i h; exact quotedR_ctl6 h r o
  · rename_i h1 h2 h3 h4 h5 h6 h7 h
    exact quotedR_one (by show 32 ≤ c.toNat; omega) (by exact h1) (by exact h2)
theorem quotedR_flat : ∀ (s r o : bytes), quotedR (s.flatMap escB ++ 34 :: r) o = (o ++ s, r, 0)
  | [], r, o => by
    rw [List.append_nil]
    exact quotedR_end rfl
  | c :: s, r, o => by
    rw [List.flatMap_cons, List.append_assoc, quotedR_escB, quotedR_flat s r (o ++ [c]), List.append_assoc]
    rfl
theorem quoteP_app (s r : bytes) : quoteP s ++ r = 34 :: (s.flatMap escB ++ 34 :: r) := by simp [quoteP]
theorem quotedP_quote (s r : bytes) : quotedP (quoteP s ++ r) = (s, r, 0) := by
  rw [quoteP_app, quotedP_eq, if_pos (show peek (34 :: _) = 34 from rfl)]
  show quotedR (s.flatMap escB ++ 34 :: r) [] = _
  rw [quotedR_flat]
  rfl
theorem escB_asc {c : UInt8} (h : c.toNat < 128) : ∀ b ∈ escB c, b.toNat < 128 := by
  intro b hb
  unfold escB at hb
  repeat' split at hb
  all_goals try (simp only [List.mem_cons, List.not_mem_nil, or_false] at hb; rcases hb with rfl | rfl <;> decide)
  · rename_i h32
    have := (hex_facts ⟨c.toNat, c.toNat_lt⟩ h32).2
    simp only at this
    simp only [List.mem_cons, List.not_mem_nil, or_false] at hb
    rcases hb with rfl | rfl | rfl | rfl | rfl | rfl
    · decide
    · decide
    · decide
    · decide
    · exact this _ (by simp)
    · exact this _ (by simp)
  · simp only [List.mem_cons, List.not_mem_nil, or_false] at hb
    subst hb
    exact h
theorem escB_hi {c : UInt8} (h : 128 ≤ c.toNat) : escB c = [c] := by
  have hn : ∀ d : UInt8, d.toNat < 128 → c ≠ d := fun d hd e => by subst e; omega
  unfold escB
  rw [if_neg (hn _ (by decide)), if_neg (hn _ (by decide)), if_neg (hn _ (by decide)), if_neg (hn _ (by decide)), if_neg (hn _ (by decide)), if_neg (hn _ (by decide)), if_neg (hn _ (by decide)), if_neg (by omega)]
theorem flat_hi : ∀ {l : bytes}, (∀ b ∈ l, 128 ≤ b.toNat) → l.flatMap escB = l
  | [], _ => rfl
  | c :: l, h => by
    rw [List.flatMap_cons, escB_hi (h c (List.mem_cons_self ..)), flat_hi fun b hb => h b (List.mem_cons_of_mem _ hb)]
    rfl
theorem flat_valid {s : bytes} (h : Lib.validD s = true) : Lib.validD (s.flatMap escB) = true := by
  obtain ⟨rs, hok, rfl⟩ := valid_runes h
  clear h
  induction rs with
  | nil => rfl
  | cons x rs ih =>
    simp only [encOk, List.all_cons, Bool.and_eq_true] at hok
    have e : encL (x :: rs) = enc1 x ++ encL rs := rfl
    rw [e, List.flatMap_append]
    refine valid_cat ?_ (ih hok.2)
    by_cases hx : x < 128
    · have hr := of_decide_eq_true hok.1
      rw [one_c1 hx, List.flatMap_cons, List.flatMap_nil, List.append_nil]
      refine asc_valid (escB_asc ?_)
      rw [byteOf_n (by omega)]
      omega
    · rw [flat_hi (enc1_hi hok.1 (by omega))]
      exact valid_one hok.1
theorem quote_valid {s : bytes} (h : Lib.validD s = true) : Lib.validD (quoteP s) = true :=
  valid_cat (a := [34]) (by decide) (valid_cat (flat_valid h) (by decide))

/-! Numbers -/
theorem digit_byte {d : Nat} (h : d < 10) : (UInt8.ofNat (48 + d)).toNat = 48 + d := by
  rw [UInt8.toNat_ofNat_of_lt' (by show 48 + d < 256; omega)]
theorem digit_is {d : Nat} (h : d < 10) : isDigit (UInt8.ofNat (48 + d)) = true := by
  unfold isDigit
  rw [digit_byte h]
  exact decide_eq_true (by omega)
theorem digs_all (u : Nat) : ∀ b ∈ Lib.decDigits u, isDigit b = true := by
  induction u using Nat.strongRecOn with
  | ind u ih =>
    intro b hb
    rw [Lib.decDigits] at hb
    split at hb
    · rename_i h
      simp only [List.mem_cons, List.not_mem_nil, or_false] at hb
      subst hb
      exact digit_is h
    · rename_i h
      rcases List.mem_append.1 hb with hb | hb
      · exact ih (u / 10) (by omega) b hb
      · simp only [List.mem_cons, List.not_mem_nil, or_false] at hb
        subst hb
        exact digit_is (by omega)
theorem digs_val (u : Nat) : decVal (Lib.decDigits u) = u := by
  induction u using Nat.strongRecOn with
  | ind u ih =>
    rw [Lib.decDigits]
    split
    · rename_i h
      unfold decVal
      rw [List.foldl_cons, List.foldl_nil, digit_byte h]
      omega
    · rename_i h
      have := ih (u / 10) (by omega)
      unfold decVal at this ⊢
      rw [List.foldl_append, this, List.foldl_cons, List.foldl_nil, digit_byte (by omega)]
      omega
theorem digs_ne (u : Nat) : Lib.decDigits u ≠ [] := by
  rw [Lib.decDigits]
  split <;> simp
theorem digs_zero {u : Nat} (h : u ≠ 0) : peek (Lib.decDigits u) ≠ 48 := by
  induction u using Nat.strongRecOn with
  | ind u ih =>
    rw [Lib.decDigits]
    split
    · rename_i h2
      intro e
      have e : UInt8.ofNat (48 + u) = 48 := e
      have := digit_byte h2
      rw [e] at this
      have h3 : (48 : UInt8).toNat = 48 := rfl
      omega
    · rename_i h2
      have h3 := ih (u / 10) (by omega) (by omega)
      have h4 := digs_ne (u / 10)
      cases hd : Lib.decDigits (u / 10) with
      | nil => exact absurd hd h4
      | cons a b => rw [hd] at h3; exact h3
theorem tw_all {r : bytes} (hr : isDigit (peek r) = false) : ∀ {l : bytes}, (∀ b ∈ l, isDigit b = true) → (l ++ r).takeWhile isDigit = l
  | [], _ => by
    cases r with
    | nil => rfl
    | cons c r =>
      have hr : isDigit c = false := hr
      rw [List.nil_append, List.takeWhile_cons, hr]
      rfl
  | c :: l, h => by
    rw [List.cons_append, List.takeWhile_cons, h c (List.mem_cons_self ..), if_pos rfl, tw_all hr fun b hb => h b (List.mem_cons_of_mem _ hb)]
theorem digs_numLen {u : Nat} {r : bytes} (hr : isDigit (peek r) = false) : numLen (Lib.decDigits u ++ r) = (Lib.decDigits u).length := by
  unfold numLen
  by_cases h : u = 0
  · subst h
    rw [Lib.decDigits_one (by omega)]
    rfl
  · have h1 := digs_zero h
    have h2 := digs_ne u
    rw [if_neg ?_, tw_all hr (digs_all u)]
    cases hd : Lib.decDigits u with
    | nil => exact absurd hd h2
    | cons a b => rw [hd] at h1; exact h1
theorem digs_pos (u : Nat) : 1 ≤ (Lib.decDigits u).length := by
  have := List.length_pos_iff.2 (digs_ne u)
  omega
theorem digs_peek (u : Nat) (r : bytes) : peek (Lib.decDigits u ++ r) = peek (Lib.decDigits u) := by
  have h2 := digs_ne u
  cases hd : Lib.decDigits u with
  | nil => exact absurd hd h2
  | cons a b => rfl
theorem digs_first (u : Nat) : isDigit (peek (Lib.decDigits u)) = true := by
  have h2 := digs_ne u
  have h3 := digs_all u
  cases hd : Lib.decDigits u with
  | nil => exact absurd hd h2
  | cons a b => rw [hd] at h3; exact h3 a (List.mem_cons_self ..)
theorem digs_go {b : Bool} {u : Nat} {r : bytes} (hr : isDigit (peek r) = false) (h1 : u ≤ 9007199254740991) (h2 : b = true → u ≠ 0) : numGo b (Lib.decDigits u ++ r) = (if b then -(u : Int) else u, r, 0) := by
  have hp := digs_pos u
  unfold numGo
  rw [digs_numLen hr, List.take_left, List.drop_left, digs_val, digs_peek, if_neg, if_neg (by omega)]
  rintro (h | ⟨h3, h4⟩)
  · omega
  · exact digs_zero (h2 h3) h4
theorem num_back {n : Int} {r : bytes} (hr : isDigit (peek r) = false) (h1 : -9007199254740991 ≤ n) (h2 : n ≤ 9007199254740991) : numP (Lib.itoa n ++ r) = (n, r, 0) := by
  unfold Lib.itoa numP
  by_cases h : n < 0
  · rw [if_pos h]
    have : skipW [45] (45 :: Lib.decDigits n.natAbs ++ r) = some (Lib.decDigits n.natAbs ++ r) := rfl
    rw [this]
    dsimp only
    rw [digs_go hr (by omega) (by omega), if_pos rfl]
    congr 1
    omega
  · rw [if_neg h]
    have h3 := digs_first n.toNat
    have : skipW [45] (Lib.decDigits n.toNat ++ r) = none := by
      rw [skip_peek (by decide), digs_peek, if_neg]
      intro e
      rw [e] at h3
      exact absurd h3 (by decide)
    rw [this]
    dsimp only
    rw [digs_go hr (by omega) (fun e => by cases e), if_neg (by decide)]
    congr 1
    omega
end Go.Proofs.YtplmbhjhihoneaaGreatDoor
end

section
set_option linter.unusedSimpArgs false
set_option linter.unusedVariables false
namespace Go.Proofs.YtplmbhjhihoneaaGreatDoor
open Go V
set_option maxRecDepth 10000
set_option maxHeartbeats 4000000
theorem skip_first {a : UInt8} {w r : bytes} (ha : a ≠ 0) (h : peek r ≠ a) : skipW (a :: w) r = none := by
  cases r with
  | nil => exact skipW_none a w
  | cons c r =>
    rw [skipW_cons, if_neg fun e => h e.symm]
/-- A byte that a value may begin with. -/
def startB (c : UInt8) : Bool := c == 110 || c == 116 || c == 102 || c == 34 || c == 45 || c == 91 || c == 123 || isDigit c
theorem start_not {c : UInt8} (h : startB c = true) : isBlank c = false ∧ c ≠ 93 ∧ c ≠ 125 ∧ c ≠ 44 ∧ c ≠ 0 := by
  have : ∀ n : Fin 256, startB (UInt8.ofNat n.val) = true → isBlank (UInt8.ofNat n.val) = false ∧ UInt8.ofNat n.val ≠ 93 ∧ UInt8.ofNat n.val ≠ 125 ∧ UInt8.ofNat n.val ≠ 44 ∧ UInt8.ofNat n.val ≠ 0 := by decide +kernel
  have := this ⟨c.toNat, c.toNat_lt⟩
  simp only [UInt8.ofNat_toNat] at this
  exact this h
theorem itoa_first (n : Int) : ∃ c l, Lib.itoa n = c :: l ∧ (c = 45 ∨ isDigit c = true) := by
  unfold Lib.itoa
  split
  · exact ⟨_, _, rfl, .inl rfl⟩
  · have h2 := digs_ne n.toNat
    have h3 := digs_first n.toNat
    cases hd : Lib.decDigits n.toNat with
    | nil => exact absurd hd h2
    | cons a b => rw [hd] at h3; exact ⟨a, b, rfl, .inr h3⟩
theorem print_first (v : JV) : ∃ c l, printP v = c :: l ∧ startB c = true := by
  rw [printP_eq]
  split
  · exact ⟨_, _, rfl, rfl⟩
  split
  · exact ⟨_, _, rfl, rfl⟩
  split
  · obtain ⟨c, l, h1, h2⟩ := itoa_first v.num
    refine ⟨c, l, h1, ?_⟩
    unfold startB
    rcases h2 with rfl | h2
    · rfl
    · rw [h2, Bool.or_true]
  split
  · exact ⟨_, _, rfl, rfl⟩
  split
  · exact ⟨_, _, rfl, rfl⟩
  split
  · exact ⟨_, _, rfl, rfl⟩
  · exact ⟨_, _, rfl, rfl⟩
theorem print_blanks (v : JV) (r : bytes) : blanks (printP v ++ r) = printP v ++ r := by
  obtain ⟨c, l, h1, h2⟩ := print_first v
  rw [h1]
  exact blanks_cons_no (start_not h2).1
theorem value_leafP {n : Nat} {v : JV} {r : bytes} {x : JV × bytes × Int} (h : leafP (printP v ++ r) = some x) : valueP n (printP v ++ r) = x := by
  cases n with
  | zero => rw [valueP, print_blanks, h]; rfl
  | succ n => rw [valueP, print_blanks, h]; rfl
theorem leaf_text (s r : bytes) : leafP (quoteP s ++ r) = some (.mk 4 0 s [] [], r, 0) := by
  have h1 : peek (quoteP s ++ r) = 34 := rfl
  unfold leafP wNull wTrue wFalse
  rw [skip_first (by decide) (by rw [h1]; decide), skip_first (by decide) (by rw [h1]; decide), skip_first (by decide) (by rw [h1]; decide)]
  dsimp only
  rw [if_pos h1, quotedP_quote]
theorem leaf_num {n : Int} {r : bytes} (hr : isDigit (peek r) = false) (h1 : -9007199254740991 ≤ n) (h2 : n ≤ 9007199254740991) : leafP (Lib.itoa n ++ r) = some (.mk 3 n [] [] [], r, 0) := by
  have h := num_back hr h1 h2
  obtain ⟨c, l, h3, h4⟩ := itoa_first n
  have hp : peek (Lib.itoa n ++ r) = c := by rw [h3]; rfl
  have hne : ∀ d : UInt8, d ≠ 45 → isDigit d = false → c ≠ d := fun d h5 h6 e => by
    subst e
    rcases h4 with h4 | h4
    · exact h5 h4
    · rw [h6] at h4; cases h4
  unfold leafP wNull wTrue wFalse
  rw [skip_first (by decide) (by rw [hp]; exact hne _ (by decide) (by decide)), skip_first (by decide) (by rw [hp]; exact hne _ (by decide) (by decide)), skip_first (by decide) (by rw [hp]; exact hne _ (by decide) (by decide))]
  dsimp only
  rw [if_neg (by rw [hp]; exact hne _ (by decide) (by decide)), if_pos (by rw [hp]; exact h4), h]
theorem kind_mk {k n : Int} {t : bytes} {ns : List bytes} {is : List JV} : (JV.mk k n t ns is).kind = k := rfl
/-- What parses one value's text. -/
def Reads (f : bytes → JV × bytes × Int) (x : JV) : Prop := ∀ r, isDigit (peek r) = false → f (printP x ++ r) = (x, r, 0)
theorem end_close {k : JV → bytes → JV × bytes × Int} {e : UInt8} {v : JV} {r : bytes} (he : isBlank e = false) : treeEnd k e v (e :: r) 0 = (v, r, 0) := by
  unfold treeEnd
  rw [if_neg (by decide), blanks_cons_no he, skipW_cons, if_pos rfl, skipW_nil]
theorem end_more {k : JV → bytes → JV × bytes × Int} {e : UInt8} {v : JV} {r : bytes} (he : e ≠ 44) : treeEnd k e v (44 :: r) 0 = k v r := by
  unfold treeEnd
  rw [if_neg (by decide), blanks_cons_no (by decide), skipW_cons, if_neg he, skipW_cons, if_pos rfl, skipW_nil]
theorem items_next (obj : Bool) (x : JV) (r : List JV) (ns : List bytes) : itemsP obj (x :: r) false ns = 44 :: itemsP obj (x :: r) true ns := by
  rw [itemsP_cons, itemsP_cons]
  rfl
theorem go_list {f : bytes → JV × bytes × Int} : ∀ (rest : List JV) (x : JV) (dn : List JV) (m : Nat) (ns : List bytes) (r : bytes), (∀ y ∈ x :: rest, Reads f y) → rest.length < m →
    treeGo f 93 m (.mk 5 0 [] [] dn) (itemsP false (x :: rest) true ns ++ 93 :: r) = (.mk 5 0 [] [] (dn ++ x :: rest), r, 0)
  | rest, x, dn, 0, ns, r, _, h => by omega
  | [], x, dn, m + 1, ns, r, hf, h => by
    have e : itemsP false [x] true ns ++ 93 :: r = printP x ++ 93 :: r := by
      rw [itemsP_cons, itemsP_nil, List.append_nil]
      rfl
    rw [e, treeGo, kind_mk, if_neg (show ¬ (5 : Int) = 6 by decide), hf x (List.mem_cons_self ..) (93 :: r) (by rfl)]
    exact end_close (by decide)
  | y :: rest, x, dn, m + 1, ns, r, hf, h => by
    have e : itemsP false (x :: y :: rest) true ns ++ 93 :: r = printP x ++ 44 :: (itemsP false (y :: rest) true ns.tail ++ 93 :: r) := by
      rw [itemsP_cons, items_next, List.append_assoc, List.append_assoc]
      rfl
    rw [e, treeGo, kind_mk, if_neg (show ¬ (5 : Int) = 6 by decide), hf x (List.mem_cons_self ..) _ (by rfl)]
    dsimp only
    rw [end_more (by decide)]
    have := go_list rest y (dn ++ [x]) m ns.tail r (fun z hz => hf z (List.mem_cons_of_mem _ hz)) (by simp only [List.length_cons] at h; omega)
    rw [List.append_assoc] at this
    exact this
theorem jget_new {dn : List bytes} {di : List JV} {s : bytes} (h : ∀ a ∈ dn, lessB a s = true) : jget (.mk 6 0 [] dn di) s = none := by
  unfold jget
  rw [kind_mk, if_pos rfl]
  have : dn.findIdx? (fun n => n == s) = none := by
    rw [List.findIdx?_eq_none_iff]
    intro a ha
    exact beq_eq_false_iff_ne.2 (less_ne (h a ha))
  show (match dn.findIdx? (fun n => n == s) with | some i => _ | none => none) = none
  rw [this]
theorem jput_end {dn : List bytes} {di : List JV} {s : bytes} {x : JV} (h : ∀ a ∈ dn, lessB a s = true) (hl : dn.length = di.length) : jput (.mk 6 0 [] dn di) s x = .mk 6 0 [] (dn ++ [s]) (di ++ [x]) := by
  have hp : pos dn s = dn.length := pos_unique (Nat.le_refl _) (fun j a _ e => h a (List.mem_of_getElem? e)) (fun a e => by rw [List.getElem?_eq_none (Nat.le_refl _)] at e; cases e)
  rw [jput_new (by show dn[pos dn s]? ≠ some s; rw [hp, List.getElem?_eq_none (Nat.le_refl _)]; exact fun e => by cases e)]
  show JV.mk 6 0 [] (dn.insertIdx (pos dn s) s) (di.insertIdx (pos dn s) x) = _
  rw [hp, List.insertIdx_length_self, hl, List.insertIdx_length_self]
theorem name_back {v : JV} {s t : bytes} (h : jget v s = none) : nameP v (quoteP s ++ 58 :: t) = (s, t, 0) := by
  have hb : blanks (quoteP s ++ 58 :: t) = quoteP s ++ 58 :: t := blanks_cons_no (by decide)
  unfold nameP
  rw [hb, quotedP_quote]
  dsimp only
  rw [h, blanks_cons_no (by decide), skipW_cons, if_pos rfl, skipW_nil]
  rfl
theorem go_obj {f : bytes → JV × bytes × Int} : ∀ (rest : List JV) (x : JV) (s : bytes) (ns : List bytes) (dn : List bytes) (di : List JV) (m : Nat) (r : bytes), (∀ y ∈ x :: rest, Reads f y) → rest.length < m →
    srt (dn ++ s :: ns) = true → dn.length = di.length → ns.length = rest.length →
    treeGo f 125 m (.mk 6 0 [] dn di) (itemsP true (x :: rest) true (s :: ns) ++ 125 :: r) = (.mk 6 0 [] (dn ++ s :: ns) (di ++ x :: rest), r, 0)
  | rest, x, s, ns, dn, di, 0, r, _, h, _, _, _ => by omega
  | [], x, s, ns, dn, di, m + 1, r, hf, h, hs, hl, hn => by
    have hns : ns = [] := List.eq_nil_of_length_eq_zero hn
    subst hns
    have hlt : ∀ a ∈ dn, lessB a s = true := fun a ha => (List.pairwise_append.1 (srt_pair hs)).2.2 a ha s (List.mem_cons_self ..)
    have e : itemsP true [x] true [s] ++ 125 :: r = quoteP s ++ 58 :: (printP x ++ 125 :: r) := by
      rw [itemsP_cons, itemsP_nil, List.append_nil]
      simp [headP]
    rw [e, treeGo, kind_mk, if_pos (show (6 : Int) = 6 from rfl), name_back (jget_new hlt)]
    dsimp only
    rw [if_neg (by decide), hf x (List.mem_cons_self ..) (125 :: r) (by rfl)]
    dsimp only
    rw [end_close (by decide), jput_end hlt hl]
  | y :: rest, x, s, [], dn, di, m + 1, r, hf, h, hs, hl, hn => by simp at hn
  | y :: rest, x, s, s2 :: ns, dn, di, m + 1, r, hf, h, hs, hl, hn => by
    have hlt : ∀ a ∈ dn, lessB a s = true := fun a ha => (List.pairwise_append.1 (srt_pair hs)).2.2 a ha s (List.mem_cons_self ..)
    have e : itemsP true (x :: y :: rest) true (s :: s2 :: ns) ++ 125 :: r = quoteP s ++ 58 :: (printP x ++ 44 :: (itemsP true (y :: rest) true (s2 :: ns) ++ 125 :: r)) := by
      rw [itemsP_cons, items_next]
      simp [headP]
    rw [e, treeGo, kind_mk, if_pos (show (6 : Int) = 6 from rfl), name_back (jget_new hlt)]
    dsimp only
    rw [if_neg (by decide), hf x (List.mem_cons_self ..) _ (by rfl)]
    dsimp only
    rw [end_more (by decide), jput_end hlt hl]
    have := go_obj rest y s2 ns (dn ++ [s]) (di ++ [x]) m r (fun z hz => hf z (List.mem_cons_of_mem _ hz)) (by simp only [List.length_cons] at h; omega) (by rw [List.append_assoc]; exact hs) (by simp [hl]) (by simpa using hn)
    rw [List.append_assoc, List.append_assoc] at this
    exact this
theorem items_len (obj : Bool) : ∀ (l : List JV) (b : Bool) (ns : List bytes), l.length ≤ (itemsP obj l b ns).length
  | [], _, _ => by simp
  | x :: l, b, ns => by
    have := items_len obj l false ns.tail
    obtain ⟨c, p, h1, _⟩ := print_first x
    rw [itemsP_cons, h1]
    simp only [List.length_append, List.length_cons]
    omega
theorem treeP_list {f : bytes → JV × bytes × Int} {is : List JV} (ns : List bytes) {r : bytes} (hf : ∀ y ∈ is, Reads f y) : treeP f 93 listJ (itemsP false is true ns ++ 93 :: r) = (.mk 5 0 [] [] is, r, 0) := by
  cases is with
  | nil =>
    rw [itemsP_nil, List.nil_append]
    unfold treeP
    rw [blanks_cons_no (by decide), skipW_cons, if_pos rfl, skipW_nil]
    rfl
  | cons x rest =>
    obtain ⟨c, p, h1, h2⟩ := print_first x
    have h3 := start_not h2
    have e : itemsP false (x :: rest) true ns ++ 93 :: r = c :: (p ++ (itemsP false rest false ns.tail ++ 93 :: r)) := by
      rw [itemsP_cons, h1]
      simp [headP]
    have hb : blanks (itemsP false (x :: rest) true ns ++ 93 :: r) = itemsP false (x :: rest) true ns ++ 93 :: r := by rw [e]; exact blanks_cons_no h3.1
    have hl := items_len false (x :: rest) true ns
    unfold treeP
    rw [hb, skip_first (by decide) (by rw [e]; exact h3.2.1)]
    dsimp only
    exact go_list rest x [] _ ns r hf (by simp only [List.length_append, List.length_cons] at hl ⊢; omega)
theorem treeP_obj {f : bytes → JV × bytes × Int} {is : List JV} {ns : List bytes} {r : bytes} (hf : ∀ y ∈ is, Reads f y) (hs : srt ns = true) (hn : ns.length = is.length) : treeP f 125 objJ (itemsP true is true ns ++ 125 :: r) = (.mk 6 0 [] ns is, r, 0) := by
  cases is with
  | nil =>
    have : ns = [] := List.eq_nil_of_length_eq_zero hn
    subst this
    rw [itemsP_nil, List.nil_append]
    unfold treeP
    rw [blanks_cons_no (by decide), skipW_cons, if_pos rfl, skipW_nil]
    rfl
  | cons x rest =>
    cases ns with
    | nil => simp at hn
    | cons s ns =>
      have e : itemsP true (x :: rest) true (s :: ns) ++ 125 :: r = 34 :: (s.flatMap escB ++ 34 :: 58 :: (printP x ++ (itemsP true rest false ns ++ 125 :: r))) := by
        rw [itemsP_cons]
        simp [headP, quoteP]
      have hb : blanks (itemsP true (x :: rest) true (s :: ns) ++ 125 :: r) = itemsP true (x :: rest) true (s :: ns) ++ 125 :: r := by rw [e]; exact blanks_cons_no (by decide)
      have hl := items_len true (x :: rest) true (s :: ns)
      unfold treeP
      rw [hb, skip_first (by decide) (by rw [e]; exact (show (34 : UInt8) ≠ 125 by decide))]
      dsimp only
      exact go_obj rest x s ns [] [] _ r hf (by simp only [List.length_append, List.length_cons] at hl ⊢; omega) hs rfl (by simpa using hn)
theorem right_list {n : Nat} {v : JV} (h : rightJ n v = true) (hk : v.kind = 5) : ∃ k, n = k + 1 ∧ v = .mk 5 0 [] [] v.items ∧ v.items.all (rightJ k) = true := by
  rcases right_of h with h | ⟨h0, h1, h2⟩
  · exact absurd (.inl hk) (one_kind h)
  · unfold manyJ bareJ at h1
    rw [if_pos hk] at h1
    simp only [Bool.and_eq_true, decide_eq_true_eq] at h1
    refine ⟨n - 1, by omega, ?_, h2⟩
    obtain ⟨k, nu, t, ns, is⟩ := v
    simp only [JV.kind, JV.num, JV.text, JV.names, JV.items] at hk h1 ⊢
    obtain ⟨⟨rfl, rfl⟩, rfl⟩ := h1
    rw [hk]
theorem jv_eta (v : JV) : v = .mk v.kind v.num v.text v.names v.items := by cases v; rfl
theorem right_leaf {n : Nat} {v : JV} (h : rightJ n v = true) (hk : v.kind ≠ 5 ∧ v.kind ≠ 6) : v = .mk v.kind v.num v.text [] [] ∧ ((v.kind = 0 ∨ v.kind = 1 ∨ v.kind = 2) ∧ v.num = 0 ∧ v.text = [] ∨ v.kind = 3 ∧ v.text = [] ∧ -9007199254740991 ≤ v.num ∧ v.num ≤ 9007199254740991 ∨ v.kind = 4 ∧ v.num = 0 ∧ Lib.validD v.text = true) := by
  have he := jv_eta v
  rcases right_of h with h | ⟨_, h, _⟩
  · unfold oneJ bareJ leafJ at h
    by_cases h2 : v.kind = 0 ∨ v.kind = 1 ∨ v.kind = 2
    · rw [if_pos h2] at h
      simp only [Bool.and_eq_true, decide_eq_true_eq] at h
      obtain ⟨⟨e1, e2⟩, e3, e4⟩ := h
      rw [e3, e4] at he
      exact ⟨he, .inl ⟨h2, e1, e2⟩⟩
    rw [if_neg h2] at h
    by_cases h3 : v.kind = 3
    · rw [if_pos h3] at h
      simp only [Bool.and_eq_true, decide_eq_true_eq] at h
      obtain ⟨⟨⟨e3, e4⟩, e2⟩, h4⟩ := h
      rw [e3, e4] at he
      exact ⟨he, .inr (.inl ⟨h3, e2, h4⟩)⟩
    rw [if_neg h3] at h
    by_cases h4 : v.kind = 4
    · rw [if_pos h4] at h
      simp only [Bool.and_eq_true, decide_eq_true_eq] at h
      obtain ⟨⟨⟨e3, e4⟩, e1⟩, h5⟩ := h
      rw [e3, e4] at he
      exact ⟨he, .inr (.inr ⟨h4, e1, h5⟩)⟩
    rw [if_neg h4] at h
    cases h
  · unfold manyJ at h
    rw [if_neg hk.1, if_neg hk.2] at h
    cases h
theorem value_back : ∀ (n : Nat) (v : JV), rightJ n v = true → Reads (valueP n) v := by
  intro n
  induction n with
  | zero =>
    intro v h r hr
    by_cases hk : v.kind ≠ 5 ∧ v.kind ≠ 6
    · obtain ⟨h1, h2⟩ := right_leaf h hk
      refine value_leafP ?_
      rw [printP_eq]
      rcases h2 with ⟨h2, h3, h4⟩ | ⟨h2, h3, h4, h5⟩ | ⟨h2, h3, h4⟩
      · rw [h3, h4] at h1
        rcases h2 with e | e | e
        · rw [h1, e]; rfl
        · rw [h1, e]; rfl
        · rw [h1, e]; rfl
      · rw [if_neg (by omega), if_neg (by omega), if_pos h2, leaf_num hr h4 h5, h1, h2, h3]
        rfl
      · rw [if_neg (by omega), if_neg (by omega), if_neg (by omega), if_pos h2, leaf_text, h1, h2, h3]
        rfl
    · rcases right_of h with h | ⟨h, _⟩
      · exact absurd (by omega) (one_kind h)
      · omega
  | succ n ih =>
    intro v h r hr
    by_cases hk : v.kind ≠ 5 ∧ v.kind ≠ 6
    · obtain ⟨h1, h2⟩ := right_leaf h hk
      refine value_leafP ?_
      rw [printP_eq]
      rcases h2 with ⟨h2, h3, h4⟩ | ⟨h2, h3, h4, h5⟩ | ⟨h2, h3, h4⟩
      · rw [h3, h4] at h1
        rcases h2 with e | e | e
        · rw [h1, e]; rfl
        · rw [h1, e]; rfl
        · rw [h1, e]; rfl
      · rw [if_neg (by omega), if_neg (by omega), if_pos h2, leaf_num hr h4 h5, h1, h2, h3]
        rfl
      · rw [if_neg (by omega), if_neg (by omega), if_neg (by omega), if_pos h2, leaf_text, h1, h2, h3]
        rfl
    · have hpe : printP v ++ r = (if v.kind = 5 then 91 else 123) :: ((if v.kind = 5 then itemsP false v.items true v.names ++ 93 :: r else itemsP true v.items true v.names ++ 125 :: r)) := by
        rw [printP_eq, if_neg (by omega), if_neg (by omega), if_neg (by omega), if_neg (by omega)]
        by_cases h5 : v.kind = 5
        · rw [if_pos h5, if_pos h5, if_pos h5]
          simp
        · rw [if_neg h5, if_neg h5, if_neg h5, if_pos (by omega)]
          simp
      rw [valueP, print_blanks, hpe]
      by_cases h5 : v.kind = 5
      · rw [if_pos h5, if_pos h5]
        obtain ⟨k, e, h1, h2⟩ := right_list h h5
        obtain rfl : n = k := by omega
        have hl : leafP (91 :: (itemsP false v.items true v.names ++ 93 :: r)) = none := rfl
        rw [hl, Option.getD_none, if_pos (by rfl)]
        show treeP (valueP n) 93 listJ (itemsP false v.items true v.names ++ 93 :: r) = _
        rw [treeP_list v.names fun y hy => ih y (List.all_eq_true.1 h2 y hy), ← h1]
      · rw [if_neg h5, if_neg h5]
        obtain ⟨_, h1, h2, h3, h4, h6, h7⟩ := right_obj h (by omega)
        have hl : leafP (123 :: (itemsP true v.items true v.names ++ 125 :: r)) = none := rfl
        rw [hl, Option.getD_none, if_neg (show ¬ peek (123 :: (itemsP true v.items true v.names ++ 125 :: r)) = 91 from fun e => absurd (show (123 : UInt8) = 91 from e) (by decide))]
        show treeP (valueP n) 125 objJ (itemsP true v.items true v.names ++ 125 :: r) = _
        rw [treeP_obj (fun y hy => ih y (List.all_eq_true.1 h7 y hy)) h6 h3]
        obtain ⟨k, nu, t, ns, is⟩ := v
        simp only [JV.kind, JV.num, JV.text, JV.names, JV.items] at *
        rw [h1, h2, show k = 6 by omega]
theorem itoa_asc (n : Int) : ∀ b ∈ Lib.itoa n, b.toNat < 128 := by
  have : ∀ u, ∀ b ∈ Lib.decDigits u, b.toNat < 128 := fun u b hb => digit_asc (digs_all u b hb)
  intro b hb
  unfold Lib.itoa at hb
  split at hb
  · rcases List.mem_cons.1 hb with rfl | hb
    · decide
    · exact this _ b hb
  · exact this _ b hb
theorem items_valid (obj : Bool) : ∀ (l : List JV) (b : Bool) (ns : List bytes), (∀ x ∈ l, Lib.validD (printP x) = true) → (∀ s ∈ ns, Lib.validD s = true) → Lib.validD (itemsP obj l b ns) = true
  | [], b, ns, _, _ => by rw [itemsP_nil]; rfl
  | x :: l, b, ns, h, hn => by
    rw [itemsP_cons]
    refine valid_cat ?_ (valid_cat (h x (List.mem_cons_self ..)) (items_valid obj l false ns.tail (fun y hy => h y (List.mem_cons_of_mem _ hy)) fun s hs => hn s (List.mem_of_mem_tail hs)))
    unfold headP
    refine valid_cat (by cases b <;> decide) ?_
    cases obj with
    | false => rfl
    | true =>
      refine valid_cat (quote_valid ?_) (by decide)
      cases ns with
      | nil => rfl
      | cons s ns => exact hn s (List.mem_cons_self ..)
theorem print_valid : ∀ (n : Nat) (v : JV), rightJ n v = true → Lib.validD (printP v) = true := by
  intro n
  induction n with
  | zero =>
    intro v h
    by_cases hk : v.kind ≠ 5 ∧ v.kind ≠ 6
    · obtain ⟨h1, h2⟩ := right_leaf h hk
      rw [printP_eq]
      repeat' split
      all_goals first | rfl | omega | exact asc_valid (itoa_asc _) | skip
      exact quote_valid (by rcases h2 with h2 | h2 | h2 <;> first | omega | exact h2.2.2)
    · rcases right_of h with h | ⟨h, _⟩
      · exact absurd (by omega) (one_kind h)
      · omega
  | succ n ih =>
    intro v h
    by_cases hk : v.kind ≠ 5 ∧ v.kind ≠ 6
    · obtain ⟨h1, h2⟩ := right_leaf h hk
      rw [printP_eq]
      repeat' split
      all_goals first | rfl | omega | exact asc_valid (itoa_asc _) | skip
      exact quote_valid (by rcases h2 with h2 | h2 | h2 <;> first | omega | exact h2.2.2)
    · by_cases h5 : v.kind = 5
      · obtain ⟨k, e, h1, h2⟩ := right_list h h5
        obtain rfl : n = k := by omega
        rw [printP_eq, if_neg (by omega), if_neg (by omega), if_neg (by omega), if_neg (by omega), if_pos h5]
        have hn : v.names = [] := by rw [h1]; rfl
        exact valid_cat (a := [91]) (by decide) (valid_cat (items_valid _ _ _ _ (fun x hx => ih x (List.all_eq_true.1 h2 x hx)) (by rw [hn]; exact fun s hs => by cases hs)) (by decide))
      · obtain ⟨_, h1, h2, h3, h4, h6, h7⟩ := right_obj h (by omega)
        rw [printP_eq, if_neg (by omega), if_neg (by omega), if_neg (by omega), if_neg (by omega), if_neg h5, if_pos (by omega)]
        exact valid_cat (a := [123]) (by decide) (valid_cat (items_valid _ _ _ _ (fun x hx => ih x (List.all_eq_true.1 h7 x hx)) fun s hs => List.all_eq_true.1 h4 s hs) (by decide))
/-- What is printed is parsed as it was. -/
theorem parse_print {v : JV} (h : rightJ 12 v = true) (hl : (printP v).length ≤ 8192) : parseP (printP v) = (v, 0) := by
  have hv := value_back 12 v h [] rfl
  rw [List.append_nil] at hv
  unfold parseP
  rw [if_neg (by omega), if_neg (by rw [print_valid 12 v h]; decide), hv]
  rfl
/-! Lengths -/
theorem itoa_len {n : Int} (h1 : -9007199254740991 ≤ n) (h2 : n ≤ 9007199254740991) : (Lib.itoa n).length ≤ 17 := by
  have hd : ∀ (k u : Nat), u < 10 ^ k → (Lib.decDigits u).length ≤ max k 1 := by
    intro k
    induction k with
    | zero =>
      intro u h
      have : u < 1 := h
      obtain rfl : u = 0 := by omega
      rw [Lib.decDigits_one (by omega)]
      simp
    | succ k ih =>
      intro u h
      rw [Lib.decDigits]
      split
      · simp
        try omega
      · rename_i h3
        have := ih (u / 10) (by rw [Nat.pow_succ] at h; omega)
        rw [List.length_append, List.length_cons, List.length_nil]
        cases k with
        | zero => have : u < 10 := h; omega
        | succ k => omega
  have h16 : (10 : Nat) ^ 16 = 10000000000000000 := by decide
  unfold Lib.itoa
  split
  · have := hd 16 n.natAbs (by omega)
    rw [List.length_cons]
    omega
  · have := hd 16 n.toNat (by omega)
    omega
theorem items_size (obj : Bool) : ∀ (l : List JV) (b : Bool) (ns : List bytes), (∀ x ∈ l, (printP x).length + 1 ≤ 24 * sizeJ x) → (obj = true → ns.length = l.length) → (itemsP obj l b ns).length ≤ 24 * (l.map sizeJ).sum + 24 * (ns.map nameW).sum
  | [], b, ns, _, _ => by rw [itemsP_nil]; simp
  | x :: l, b, ns, h, hn => by
    have h1 := h x (List.mem_cons_self ..)
    have h2 := items_size obj l false ns.tail (fun y hy => h y (List.mem_cons_of_mem _ hy)) (fun e => by have := hn e; simp only [List.length_cons] at this; rw [List.length_tail]; omega)
    have h3 : (headP b obj (ns.headD [])).length + 24 * (ns.tail.map nameW).sum ≤ 1 + 24 * (ns.map nameW).sum := by
      unfold headP
      have hb : (if b = true then ([] : bytes) else [44]).length ≤ 1 := by cases b <;> simp
      rw [List.length_append]
      cases obj with
      | false =>
        cases ns with
        | nil => simp; cases b <;> simp
        | cons s ns => simp; cases b <;> simp <;> omega
      | true =>
        cases ns with
        | nil => simp at hn
        | cons s ns =>
          have := quoteP_len s
          have hw : nameW s = 1 + s.length := rfl
          simp only [if_true, List.headD_cons, List.tail_cons, List.map_cons, List.sum_cons, List.length_append, List.length_cons, List.length_nil, hw]
          omega
    rw [itemsP_cons, List.map_cons, List.sum_cons]
    simp only [List.length_append]
    omega
theorem print_size : ∀ (n : Nat) (v : JV), rightJ n v = true → (printP v).length + 1 ≤ 24 * sizeJ v := by
  intro n
  induction n with
  | zero =>
    intro v h
    have h0 := sizeJ_pos v
    have ht := size_text v
    have hq := quoteP_len v.text
    by_cases hk : v.kind ≠ 5 ∧ v.kind ≠ 6
    · obtain ⟨h1, h2⟩ := right_leaf h hk
      rw [printP_eq]
      repeat' split
      all_goals first | omega | (simp [wTrue, wFalse, wNull]; omega) | skip
      have := itoa_len (n := v.num) (by omega) (by omega)
      omega
    · rcases right_of h with h | ⟨h, _⟩
      · exact absurd (by omega) (one_kind h)
      · omega
  | succ n ih =>
    intro v h
    have h0 := sizeJ_pos v
    have ht := size_text v
    have hq := quoteP_len v.text
    by_cases hk : v.kind ≠ 5 ∧ v.kind ≠ 6
    · obtain ⟨h1, h2⟩ := right_leaf h hk
      rw [printP_eq]
      repeat' split
      all_goals first | omega | (simp [wTrue, wFalse, wNull]; omega) | skip
      have := itoa_len (n := v.num) (by omega) (by omega)
      omega
    · have hsz : sizeJ v = 1 + v.text.length + (v.names.map nameW).sum + (v.items.map sizeJ).sum := by rw [sizeJ_eq, sizesJ_eq]
      by_cases h5 : v.kind = 5
      · obtain ⟨k, e, h1, h2⟩ := right_list h h5
        obtain rfl : n = k := by omega
        have := items_size false v.items true v.names (fun x hx => ih x (List.all_eq_true.1 h2 x hx)) (fun e => by cases e)
        rw [printP_eq, if_neg (by omega), if_neg (by omega), if_neg (by omega), if_neg (by omega), if_pos h5]
        simp only [List.length_cons, List.length_append, List.length_nil]
        omega
      · obtain ⟨_, h1, h2, h3, h4, h6, h7⟩ := right_obj h (by omega)
        have := items_size true v.items true v.names (fun x hx => ih x (List.all_eq_true.1 h7 x hx)) (fun _ => h3)
        rw [printP_eq, if_neg (by omega), if_neg (by omega), if_neg (by omega), if_neg (by omega), if_neg h5, if_pos (by omega)]
        simp only [List.length_cons, List.length_append, List.length_nil]
        omega
end Go.Proofs.YtplmbhjhihoneaaGreatDoor
end
