/- The document's texts of trees: digits, texts. -/
import Derived.Test.YtplmbhjhihoneaaGreatDoorWPl
import Derived.Test.YtplmbhjhihoneaaGreatDoorW7
import Derived.Test.YtplmbhjhihoneaaGreatDoorWPk
import Derived.Test.YtplmbhjhihoneaaGreatDoorW5
section
set_option linter.unusedSimpArgs false
set_option linter.unusedVariables false
namespace Go.Proofs.YtplmbhjhihoneaaGreatDoor
open Go V
set_option maxRecDepth 10000
set_option maxHeartbeats 1000000
def dRest (n : Nat) (s : bytes) : bytes := if s = [] then Lib.decDigits n else if n = 0 then s else Lib.decDigits n ++ s
theorem dRest_step {n : Nat} {s : bytes} (h : 0 < n ∨ s = []) : dRest n s = dRest (n / 10) (UInt8.ofNat (48 + n % 10) :: s) := by
  have h1 : Lib.decDigits n = if n < 10 then [UInt8.ofNat (48 + n)] else Lib.decDigits (n / 10) ++ [UInt8.ofNat (48 + n % 10)] := by
    rw [Lib.decDigits]
    split <;> rfl
  unfold dRest
  rw [if_neg (show UInt8.ofNat (48 + n % 10) :: s ≠ [] by simp), h1]
  by_cases h2 : n < 10
  · rw [if_pos h2, if_pos (show n / 10 = 0 by omega), show n % 10 = n by omega]
    split
    · rename_i h3; rw [h3]
    · rename_i h3
      rw [if_neg (by rcases h with h | h; omega; exact absurd h h3)]
      rfl
  · rw [if_neg h2, if_neg (show ¬ n / 10 = 0 by omega)]
    split
    · rename_i h3; rw [h3]
    · rw [if_neg (by omega), List.append_assoc]
      rfl
theorem dig_piece {i : Nat} (h : i < 10) : (([48, 49, 50, 51, 52, 53, 54, 55, 56, 57] : bytes).drop i).take 1 = [UInt8.ofNat (48 + i)] := by
  have : ∀ i : Fin 10, (([48, 49, 50, 51, 52, 53, 54, 55, 56, 57] : bytes).drop i.val).take 1 = [UInt8.ofNat (48 + i.val)] := by decide
  exact this ⟨i, h⟩
theorem digs_20 {u : Nat} (h : u < 18446744073709551616) : (Lib.decDigits u).length ≤ 20 := by
  rw [Lib.decDigits_length]
  rcases Nat.eq_zero_or_pos u with e | e
  · subst e
    rw [Lib.nDigits_small (by omega)]
    omega
  · have := Lib.numDigits_eq u e h
    split at this <;> omega
theorem dRest_len (n : Nat) (s : bytes) : s.length ≤ (dRest n s).length := by
  unfold dRest
  split
  · rename_i h; rw [h]; simp
  split
  · exact Nat.le_refl _
  · simp
theorem Digits_r (u : Nat) (H : List AObj) (hu : u < 9223372036854775808) : ACalls Tryz.prog 97 [.lit (.int .i64 u)] H (fun x H' => x = .str (Lib.decDigits u) ∧ H' = H) := by
  refine acalls_vc L_ok mixed [] (rs := [.tmp 2]) (n := 21) Tryz.func97 rfl rfl rfl rfl (Nat.le_of_ble_eq_true rfl) (by kernel_rfl) ?_
  repeat' (first | refine unhold ?_ | (simp -dsimp -implicitDefEqProofs (disch := (first | assumption | omega | (simp only [ll1, ll2, ll3, ll4, ll5, ll6, ll7, ll8]; omega))) only [go_sem]) | refine vcI (fun _ => ?_) (fun _ => ?_) | (refine vcA ?_ ?_; focus (repeat' (first | omega | assumption | refine vcA ?_ ?_); done)) | omega | refine imp_in (fun _ => ?_))
  refine vc_loopk L_ok mixed [] [2] (fun p : Nat × bytes => p.1 ≤ u ∧ dRest p.1 p.2 = Lib.decDigits u) (fun p => [(0, .int .i64 p.1), (3, .str p.2)]) (fun _ => H) (fun p => 2 * p.1 + if p.2 = [] then 1 else 0) (by kernel_rfl) ?_ (u, []) ⟨by simp, rfl⟩ env_ok rfl
  rintro ⟨n, s⟩ ⟨hn, hd⟩
  dsimp only at hn hd ⊢
  have hp := dig_piece (i := n % 10) (by omega)
  have hsl := dRest_len n s
  rw [hd] at hsl
  have h20 := digs_20 (u := u) (by omega)
  have z1 : ((n : Int) % 10).toNat = n % 10 := by omega
  have z2 : ((n : Int) % 10 + 1).toNat = n % 10 + 1 := by omega
  have z3 : n % 10 + 1 - n % 10 = 1 := by omega
  by_cases h : 0 < n
  · have hc : ((0 : Int) < (n : Int)) = True := eq_true (by omega)
    have hst := dRest_step (s := s) (.inl h)
    repeat' (first | refine unhold ?_ | (simp -dsimp -implicitDefEqProofs (disch := (first | assumption | omega | (simp only [ll1, ll2, ll3, ll4, ll5, ll6, ll7, ll8]; omega))) only [go_sem, hc, z1, z2, z3, hp, List.cons_append, List.nil_append]) | refine vcI (fun _ => ?_) (fun _ => ?_) | (refine vcA ?_ ?_; focus (repeat' (first | omega | assumption | refine vcA ?_ ?_); done)) | omega | refine imp_in (fun _ => ?_))
    refine again ((n / 10, UInt8.ofNat (48 + n % 10) :: s)) ?_ ?_ rfl env_ok
    · dsimp only
      rw [if_neg (by simp)]
      split <;> omega
    · exact ⟨by dsimp only; omega, by rw [← hst, hd]⟩
  · have hc : ((0 : Int) < (n : Int)) = False := eq_false (by omega)
    by_cases hs : s = []
    · have hst := dRest_step (n := n) (.inr hs)
      have hsc : (s = []) = True := eq_true hs
      repeat' (first | refine unhold ?_ | (simp -dsimp -implicitDefEqProofs (disch := (first | assumption | omega | (simp only [ll1, ll2, ll3, ll4, ll5, ll6, ll7, ll8]; omega))) only [go_sem, hc, hsc, z1, z2, z3, hp, List.cons_append, List.nil_append]) | refine vcI (fun _ => ?_) (fun _ => ?_) | (refine vcA ?_ ?_; focus (repeat' (first | omega | assumption | refine vcA ?_ ?_); done)) | omega | refine imp_in (fun _ => ?_))
      refine again ((n / 10, UInt8.ofNat (48 + n % 10) :: s)) ?_ ?_ rfl env_ok
      · dsimp only
        rw [if_neg (by simp), if_pos hs]
        omega
      · exact ⟨by dsimp only; omega, by rw [← hst, hd]⟩
    · have hsc : (s = []) = False := eq_false hs
      repeat' (first | refine unhold ?_ | (simp -dsimp -implicitDefEqProofs (disch := (first | assumption | omega | (simp only [ll1, ll2, ll3, ll4, ll5, ll6, ll7, ll8]; omega))) only [go_sem, hc, hsc]) | refine vcI (fun _ => ?_) (fun _ => ?_) | (refine vcA ?_ ?_; focus (repeat' (first | omega | assumption | refine vcA ?_ ?_); done)) | omega | refine imp_in (fun _ => ?_))
      refine done_same ⟨?_, rfl⟩
      rw [← hd, dRest, if_neg hs, if_pos (by omega)]
theorem esc_short {c : UInt8} {m : UInt8} (n : UInt8) (h : (c.toNat : Int) = (n.toNat : Int)) (hm : escB n = [92, m]) : escB c = [92, m] := by
  rw [show c = n from UInt8.toNat_inj.1 (by omega), hm]
theorem flat_take {s : bytes} {i : Nat} (h : i < s.length) : (s.take (i + 1)).flatMap escB = (s.take i).flatMap escB ++ escB (s.getD i 0) := by
  rw [List.take_add_one, List.getElem?_eq_getElem h, List.getD, List.getElem?_eq_getElem h, List.flatMap_append]
  simp
theorem q_leaf {f l g : bytes} {xs : List AV} (ht : g = f ++ l) (h : xs = l.map byteAV) : byteAV 34 :: (f.map byteAV ++ xs) = (34 :: g).map byteAV := by rw [ht, h]; simp
theorem q_len {f l g : bytes} {n : Nat} (ht : g = f ++ l) (h : n = l.length) : f.length + 1 + n = (34 :: g).length := by rw [ht, h]; simp; omega
theorem esc_self {c : UInt8} (h : (c.toNat : Int) = 34 ∨ (c.toNat : Int) = 92) : escB c = [92, c] := by
  rcases h with h | h
  · rw [show c = 34 from UInt8.toNat_inj.1 (by show c.toNat = 34; omega)]; rfl
  · rw [show c = 92 from UInt8.toNat_inj.1 (by show c.toNat = 92; omega)]; rfl
theorem esc_ctl {c : UInt8} (h : (c.toNat : Int) < 32) (h1 : ¬ (c.toNat : Int) = 8) (h2 : ¬ (c.toNat : Int) = 9) (h3 : ¬ (c.toNat : Int) = 10) (h4 : ¬ (c.toNat : Int) = 12) (h5 : ¬ (c.toNat : Int) = 13) : escB c = [92, 117, 48, 48, UInt8.ofNat (48 + c.toNat / 16), hexS (c.toNat % 16)] := by
  have hn : ∀ d : UInt8, c.toNat ≠ d.toNat → c ≠ d := fun d hd e => hd (by rw [e])
  unfold escB
  rw [if_neg (hn _ (by show c.toNat ≠ 34; omega)), if_neg (hn _ (by show c.toNat ≠ 92; omega)), if_neg (hn _ (by show c.toNat ≠ 8; omega)), if_neg (hn _ (by show c.toNat ≠ 9; omega)), if_neg (hn _ (by show c.toNat ≠ 10; omega)), if_neg (hn _ (by show c.toNat ≠ 12; omega)), if_neg (hn _ (by show c.toNat ≠ 13; omega)), if_pos (by omega)]
theorem esc_plain {c : UInt8} (h : 32 ≤ (c.toNat : Int)) (h1 : ¬ (c.toNat : Int) = 34) (h2 : ¬ (c.toNat : Int) = 92) : escB c = [c] := by
  have hn : ∀ d : UInt8, c.toNat ≠ d.toNat → c ≠ d := fun d hd e => hd (by rw [e])
  unfold escB
  rw [if_neg (hn _ (by show c.toNat ≠ 34; omega)), if_neg (hn _ (by show c.toNat ≠ 92; omega)), if_neg (hn _ (by show c.toNat ≠ 8; omega)), if_neg (hn _ (by show c.toNat ≠ 9; omega)), if_neg (hn _ (by show c.toNat ≠ 10; omega)), if_neg (hn _ (by show c.toNat ≠ 12; omega)), if_neg (hn _ (by show c.toNat ≠ 13; omega)), if_neg (by omega)]
theorem ctl_lits {c : UInt8} (h : (c.toNat : Int) < 32) : [AV.lit (.int .u8 92), .lit (.int .u8 117), .lit (.int .u8 48), .lit (.int .u8 48), .lit (.int .u8 (48 + (c.toNat : Int) / 16)), .lit (.int .u8 ((([48, 49, 50, 51, 52, 53, 54, 55, 56, 57, 97, 98, 99, 100, 101, 102] : bytes).getD ((c.toNat : Int) % 16).toNat 0).toNat : Nat))] = ([92, 117, 48, 48, UInt8.ofNat (48 + c.toNat / 16), hexS (c.toNat % 16)] : bytes).map byteAV := by
  have e1 : (48 + (c.toNat : Int) / 16) = ((UInt8.ofNat (48 + c.toNat / 16)).toNat : Int) := by
    rw [UInt8.toNat_ofNat_of_lt' (by show 48 + c.toNat / 16 < 256; omega)]
    omega
  have e2 : ((c.toNat : Int) % 16).toNat = c.toNat % 16 := by omega
  rw [e1, e2]
  rfl
theorem quote_r (s : bytes) (H : List AObj) (hl : s.length ≤ 100000) : ACalls Tryz.prog 70 [.str s] H (fun x H' => x = .str (quoteP s) ∧ H' = H) := by
  refine acalls_vc L_ok mixed [] (rs := [.tmp 2]) (n := 77) Tryz.func70 rfl rfl rfl rfl (Nat.le_of_ble_eq_true rfl) (by kernel_rfl) ?_
  repeat' (first | refine unhold ?_ | (simp -dsimp -implicitDefEqProofs (disch := (first | assumption | omega | (simp only [ll1, ll2, ll3, ll4, ll5, ll6, ll7, ll8]; omega))) only [go_sem]) | refine vcI (fun _ => ?_) (fun _ => ?_) | (refine vcA ?_ ?_; focus (repeat' (first | omega | assumption | refine vcA ?_ ?_); done)) | omega | refine imp_in (fun _ => ?_))
  refine aw_mint 3 1 rfl (by decide) (fun _ => rfl) ?_
  refine vc_loopk L_ok mixed [] [0, 2] (fun i : Nat => i ≤ s.length) (fun i => [(4, .int .i64 i), (3, .sl (.tok H.length) 1 ((34 :: (s.take i).flatMap escB).map byteAV))]) (fun i => H ++ [.grow 1 (34 :: (s.take i).flatMap escB).length none]) (fun i => s.length - i) (by kernel_rfl) ?_ 0 (by omega) env_ok rfl
  intro i hi
  have hfl := flat_len (s.take i)
  have htl : (s.take i).length ≤ 100000 := by rw [List.length_take]; omega
  by_cases hil : i < s.length
  · have ht := flat_take hil
    generalize hc : s.getD i 0 = c at ht
    generalize hf : (s.take i).flatMap escB = f at *
    have hcl := c.toNat_lt
    repeat' (first | refine unhold ?_ | (simp -dsimp -implicitDefEqProofs (disch := (first | assumption | omega | (simp only [ll1, ll2, ll3, ll4, ll5, ll6, ll7, ll8]; omega))) only [go_sem, hc]) | refine vcI (fun _ => ?_) (fun _ => ?_) | (refine vcA ?_ ?_; focus (repeat' (first | omega | assumption | refine vcA ?_ ?_); done)) | omega | refine imp_in (fun _ => ?_))
    · rename_i h1
      have he := esc_self (.inl h1)
      rw [he] at ht
      rw [q_leaf (xs := [.lit (.int .u8 92), .lit (.int .u8 c.toNat)]) ht rfl, q_len (n := 2) ht rfl]
      refine again (i + 1) ?_ ?_ rfl env_ok
      · omega
      · omega
    · rename_i h0 h1
      have he := esc_self (.inr h1)
      rw [he] at ht
      rw [q_leaf (xs := [.lit (.int .u8 92), .lit (.int .u8 c.toNat)]) ht rfl, q_len (n := 2) ht rfl]
      refine again (i + 1) ?_ ?_ rfl env_ok
      · omega
      · omega
    · rename_i h1
      have he := esc_short (m := 98) 8 h1 rfl
      rw [he] at ht
      rw [q_leaf (xs := [.lit (.int .u8 92), .lit (.int .u8 98)]) ht rfl, q_len (n := 2) ht rfl]
      refine again (i + 1) ?_ ?_ rfl env_ok
      · omega
      · omega
    · rename_i h1
      have he := esc_short (m := 116) 9 h1 rfl
      rw [he] at ht
      rw [q_leaf (xs := [.lit (.int .u8 92), .lit (.int .u8 116)]) ht rfl, q_len (n := 2) ht rfl]
      refine again (i + 1) ?_ ?_ rfl env_ok
      · omega
      · omega
    · rename_i h1
      have he := esc_short (m := 110) 10 h1 rfl
      rw [he] at ht
      rw [q_leaf (xs := [.lit (.int .u8 92), .lit (.int .u8 110)]) ht rfl, q_len (n := 2) ht rfl]
      refine again (i + 1) ?_ ?_ rfl env_ok
      · omega
      · omega
    · rename_i h1
      have he := esc_short (m := 102) 12 h1 rfl
      rw [he] at ht
      rw [q_leaf (xs := [.lit (.int .u8 92), .lit (.int .u8 102)]) ht rfl, q_len (n := 2) ht rfl]
      refine again (i + 1) ?_ ?_ rfl env_ok
      · omega
      · omega
    · rename_i h1
      have he := esc_short (m := 114) 13 h1 rfl
      rw [he] at ht
      rw [q_leaf (xs := [.lit (.int .u8 92), .lit (.int .u8 114)]) ht rfl, q_len (n := 2) ht rfl]
      refine again (i + 1) ?_ ?_ rfl env_ok
      · omega
      · omega
    · rename_i a1 a2 a3 a4 a5 a6 a7 h1
      have he := esc_ctl h1 a3 a4 a5 a6 a7
      rw [he] at ht
      rw [q_leaf ht (ctl_lits h1), q_len (n := 6) ht rfl]
      refine again (i + 1) ?_ ?_ rfl env_ok
      · omega
      · omega
    · rename_i a1 a2 a3 a4 a5 a6 a7 h1
      have he := esc_plain h1 a1 a2
      rw [he] at ht
      rw [q_leaf (xs := [.lit (.int .u8 c.toNat)]) ht rfl, q_len (n := 1) ht rfl]
      refine again (i + 1) ?_ ?_ rfl env_ok
      · omega
      · omega
  · obtain rfl : i = s.length := by omega
    rw [List.take_length] at *
    have hq : byteAV 34 :: (((s.flatMap escB)).map byteAV ++ [AV.lit (.int .u8 34)]) = (quoteP s).map byteAV := q_leaf (l := [34]) (xs := [.lit (.int .u8 34)]) rfl rfl
    repeat' (first | refine unhold ?_ | (simp -dsimp -implicitDefEqProofs (disch := (first | assumption | omega | (simp only [ll1, ll2, ll3, ll4, ll5, ll6, ll7, ll8]; omega))) only [go_sem, hq]) | refine vcI (fun _ => ?_) (fun _ => ?_) | (refine vcA ?_ ?_; focus (repeat' (first | omega | assumption | refine vcA ?_ ?_); done)) | omega | refine imp_in (fun _ => ?_))
    exact done_cut _ (Le.refl _) (.str _) ⟨rfl, rfl⟩
end Go.Proofs.YtplmbhjhihoneaaGreatDoor
end

section
set_option linter.unusedSimpArgs false
set_option linter.unusedVariables false
namespace Go.Proofs.YtplmbhjhihoneaaGreatDoor
open Go V
set_option maxRecDepth 10000
mutual
def trT : JV → bytes → bytes
  | .mk k n t ns is, o =>
    if 8192 < o.length then o
    else if k = 5 then itT false is true ns (o ++ [91]) ++ [93]
    else if k = 6 then itT true is true ns (o ++ [123]) ++ [125]
    else o ++ printP (.mk k n t ns is)
def itT (obj : Bool) : List JV → Bool → List bytes → bytes → bytes
  | [], _, _, o => o
  | v :: r, first, ns, o => itT obj r false ns.tail (trT v (o ++ headP first obj (ns.headD [])))
end
theorem trT_eq (v : JV) (o : bytes) : trT v o = if 8192 < o.length then o else if v.kind = 5 then itT false v.items true v.names (o ++ [91]) ++ [93] else if v.kind = 6 then itT true v.items true v.names (o ++ [123]) ++ [125] else o ++ printP v := by
  cases v; rw [trT]; rfl
theorem itT_nil (obj first : Bool) (ns : List bytes) (o : bytes) : itT obj [] first ns o = o := by rw [itT]
theorem itT_cons (obj first : Bool) (ns : List bytes) (v : JV) (r : List JV) (o : bytes) : itT obj (v :: r) first ns o = itT obj r false ns.tail (trT v (o ++ headP first obj (ns.headD []))) := by rw [itT]
/-- What is laid instead of p behind o. -/
def Cut (o p x : bytes) : Prop := o.length ≤ x.length ∧ x.length ≤ o.length + p.length ∧ (x = o ++ p ∨ (8192 < x.length ∧ 8192 < o.length + p.length))
theorem cut_self (o p : bytes) : Cut o p (o ++ p) := ⟨by simp, by simp, .inl rfl⟩
theorem cut_trans {o p q x y : bytes} (h : Cut o p x) (k : Cut x q y) : Cut o (p ++ q) y := by
  obtain ⟨h1, h2, h3⟩ := h
  obtain ⟨k1, k2, k3⟩ := k
  refine ⟨by omega, by rw [List.length_append]; omega, ?_⟩
  rw [List.length_append]
  rcases h3 with rfl | h3
  · rcases k3 with rfl | k3
    · left; rw [List.append_assoc]
    · right; rw [List.length_append] at k3; omega
  · right; omega
theorem cut_add {o p x : bytes} (h : Cut o p x) (q : bytes) : Cut o (p ++ q) (x ++ q) := cut_trans h (cut_self x q)
theorem it_cut {obj : Bool} : ∀ (l : List JV) (first : Bool) (ns : List bytes) (o : bytes), (∀ x ∈ l, ∀ o, Cut o (printP x) (trT x o)) → Cut o (itemsP obj l first ns) (itT obj l first ns o)
  | [], first, ns, o, _ => by
    rw [itT_nil, itemsP_nil]
    have := cut_self o []
    rw [List.append_nil] at this
    exact this
  | v :: r, first, ns, o, h => by
    rw [itT_cons, itemsP_cons, ← List.append_assoc]
    exact cut_trans (cut_trans (cut_self o _) (h v (List.mem_cons_self ..) _)) (it_cut r false ns.tail _ fun x hx => h x (List.mem_cons_of_mem _ hx))
theorem tr_cut : ∀ (v : JV) (o : bytes), Cut o (printP v) (trT v o) := by
  refine JV.induct fun k n t ns is ih o => ?_
  rw [trT_eq]
  by_cases h : 8192 < o.length
  · rw [if_pos h]
    exact ⟨Nat.le_refl _, by omega, .inr ⟨h, by omega⟩⟩
  rw [if_neg h]
  by_cases h5 : k = 5
  · subst h5
    rw [printP_eq, kind_mk, if_pos rfl, if_neg (by decide), if_neg (by decide), if_neg (by decide), if_neg (by decide), if_pos rfl]
    exact cut_add (cut_trans (p := [91]) (cut_self o [91]) (it_cut is true ns _ ih)) [93]
  by_cases h6 : k = 6
  · subst h6
    rw [printP_eq, kind_mk, if_neg (by decide), if_pos rfl, if_neg (by decide), if_neg (by decide), if_neg (by decide), if_neg (by decide), if_neg (by decide), if_pos rfl]
    exact cut_add (cut_trans (p := [123]) (cut_self o [123]) (it_cut is true ns _ ih)) [125]
  rw [kind_mk, if_neg h5, if_neg h6]
  exact cut_self _ _
theorem tr_all (v : JV) : (8192 < (trT v []).length ↔ 8192 < (printP v).length) ∧ ((printP v).length ≤ 8192 → trT v [] = printP v) := by
  obtain ⟨h1, h2, h3⟩ := tr_cut v []
  simp only [List.length_nil, Nat.zero_add, List.nil_append] at h2 h3
  rcases h3 with h | h
  · rw [h]; exact ⟨Iff.rfl, fun _ => rfl⟩
  · exact ⟨⟨fun _ => h.2, fun _ => h.1⟩, fun k => by omega⟩
/-! The loop over the items: what is left behind the place i. -/
theorem headD_drop {α : Type} (l : List α) (i : Nat) (d : α) : (l.drop i).headD d = l.getD i d := by
  rw [List.headD_eq_head?_getD, List.head?_drop, List.getD]
theorem itT_at {obj : Bool} {v : JV} {i : Nat} (h : i < v.items.length) (o : bytes) : itT obj (v.items.drop i) (i == 0) (v.names.drop i) o = itT obj (v.items.drop (i + 1)) (i + 1 == 0) (v.names.drop (i + 1)) (trT (v.items.getD i zeroJ) (o ++ headP (i == 0) obj (v.names.getD i []))) := by
  rw [drop_cons zeroJ h, itT_cons, headD_drop, List.tail_drop]
  rfl
theorem itemsP_at {obj : Bool} {v : JV} {i : Nat} (h : i < v.items.length) : itemsP obj (v.items.drop i) (i == 0) (v.names.drop i) = headP (i == 0) obj (v.names.getD i []) ++ (printP (v.items.getD i zeroJ) ++ itemsP obj (v.items.drop (i + 1)) (i + 1 == 0) (v.names.drop (i + 1))) := by
  rw [drop_cons zeroJ h, itemsP_cons, headD_drop, List.tail_drop]
  rfl
end Go.Proofs.YtplmbhjhihoneaaGreatDoor
end

section
set_option linter.unusedSimpArgs false
set_option linter.unusedVariables false
namespace Go.Proofs.YtplmbhjhihoneaaGreatDoor
open Go V
set_option maxRecDepth 10000
set_option maxHeartbeats 1000000
/-- The printer, at k, and its buffer's token, at m. -/
def pA (a : AV) (H : List AObj) (k m : Nat) (o : bytes) : List AObj := (H.set k (bObj 73 m a o)).set m (gObj o.length)
theorem pA_set {a b : AV} {H : List AObj} {k m : Nat} {o p : bytes} (h : k ≠ m) : ((pA a H k m o).set k (bObj 73 m b p)).set m (gObj p.length) = pA b H k m p := by
  unfold pA
  rw [List.set_comm _ _ (Ne.symm h), List.set_set, List.set_set]
theorem pA_len {a : AV} {H : List AObj} {k m : Nat} {o : bytes} : (pA a H k m o).length = H.length := by simp [pA]
structure PAt (H : List AObj) (k m : Nat) : Prop where
  kl : k < H.length
  ml : m < H.length
  ne : k ≠ m
theorem pA_k {a : AV} {H : List AObj} {k m : Nat} {o : bytes} (h : PAt H k m) : (pA a H k m o)[k]? = some (bObj 73 m a o) := by
  unfold pA
  rw [List.getElem?_set_ne h.ne.symm, List.getElem?_set_self h.kl]
theorem pA_m {a : AV} {H : List AObj} {k m : Nat} {o : bytes} (h : PAt H k m) : (pA a H k m o)[m]? = some (gObj o.length) := by
  unfold pA
  rw [List.getElem?_set_self (by rw [List.length_set]; exact h.ml)]
theorem bT_p : bT 73 := by unfold bT; kernel_rfl
theorem pByte {a : AV} {H : List AObj} {k m : Nat} {o : bytes} {z : Int} (c : UInt8) (hz : z = (c.toNat : Int)) (h : PAt H k m) (ha : bAddr k a) (hl : o.length ≤ 100000000) :
    ACalls Tryz.prog 96 [.mp k 0, .lit (.int .u8 z)] (pA a H k m o) (fun x H' => x = .lit .nilIface ∧ H' = pA (.mp k 0) H k m (o ++ [c])) := by
  subst hz
  have := WriteByte_c (c := c) bT_p (pA_k h) ha (pA_m h) hl
  rw [pA_set h.ne] at this
  exact this
theorem pString {a : AV} {H : List AObj} {k m : Nat} {o l : bytes} (h : PAt H k m) (ha : bAddr k a) (hl : o.length ≤ 100000000) (hl2 : l.length ≤ 100000000) :
    ACalls Tryz.prog 93 [.mp k 0, .str l] (pA a H k m o) (fun x H' => x = .tup [.int .i64 l.length, .lit .nilIface] ∧ H' = pA (.mp k 0) H k m (o ++ l)) := by
  have := WriteString_c (l := l) bT_p (pA_k h) ha (pA_m h) hl hl2
  rw [pA_set h.ne] at this
  exact this
theorem esc_cases (c : UInt8) : (∃ j, j < 7 ∧ idxB [34, 92, 8, 9, 10, 12, 13] c = ((j : Nat) : Int) ∧ escB c = [92, ([34, 92, 98, 116, 110, 102, 114] : bytes).getD j 0]) ∨ (idxB [34, 92, 8, 9, 10, 12, 13] c = -1 ∧ c.toNat < 32 ∧ escB c = [92, 117, 48, 48, hexS (c.toNat / 16), hexS (c.toNat % 16)]) ∨ (idxB [34, 92, 8, 9, 10, 12, 13] c = -1 ∧ ¬ c.toNat < 32 ∧ escB c = [c]) := by
  have : ∀ n : Fin 256, (∃ j, j < 7 ∧ idxB [34, 92, 8, 9, 10, 12, 13] (UInt8.ofNat n.val) = ((j : Nat) : Int) ∧ escB (UInt8.ofNat n.val) = [92, ([34, 92, 98, 116, 110, 102, 114] : bytes).getD j 0]) ∨ (idxB [34, 92, 8, 9, 10, 12, 13] (UInt8.ofNat n.val) = -1 ∧ (UInt8.ofNat n.val).toNat < 32 ∧ escB (UInt8.ofNat n.val) = [92, 117, 48, 48, hexS ((UInt8.ofNat n.val).toNat / 16), hexS ((UInt8.ofNat n.val).toNat % 16)]) ∨ (idxB [34, 92, 8, 9, 10, 12, 13] (UInt8.ofNat n.val) = -1 ∧ ¬ (UInt8.ofNat n.val).toNat < 32 ∧ escB (UInt8.ofNat n.val) = [UInt8.ofNat n.val]) := by decide +kernel
  have := this ⟨c.toNat, c.toNat_lt⟩
  simp only [UInt8.ofNat_toNat] at this
  exact this
theorem pquote_c {a : AV} {H : List AObj} {k m : Nat} {o : bytes} (s : bytes) (h : PAt H k m) (ha : bAddr k a) (hl : o.length ≤ 10000000) (hs : s.length ≤ 100000) :
    ACalls Tryz.prog 68 [.mp k 0, .str s] (pA a H k m o) (fun x H' => x = .tup [] ∧ H' = pA (.mp k 0) H k m (o ++ quoteP s)) := by
  refine acalls_vc L_ok mixed [1000009, 1000012, 1000013] (rs := []) (n := 65) Tryz.func68 rfl rfl rfl rfl (Nat.le_of_ble_eq_true rfl) (by kernel_rfl) ?_
  repeat' (first | refine unhold ?_ | (simp -dsimp -implicitDefEqProofs (disch := (first | assumption | omega | (simp only [ll1, ll2, ll3, ll4, ll5, ll6, ll7, ll8]; omega))) only [go_sem]) | refine acalls_same (pByte 34 rfl h ha (by omega)) ?_ | refine ⟨_, pByte 34 rfl h ha (by omega), ?_⟩ | refine ⟨_, _, pByte 34 rfl h ha (by omega), ?_⟩ | refine vcI (fun _ => ?_) (fun _ => ?_) | (refine vcA ?_ ?_; focus (repeat' (first | omega | assumption | refine vcA ?_ ?_); done)) | omega | refine imp_in (fun _ => ?_))
  refine vc_loopk L_ok mixed [1000009, 1000012, 1000013] [0, 1, 12] (fun i : Nat => i ≤ s.length) (fun i => [(13, .int .i64 i)]) (fun i => pA (.mp k 0) H k m (o ++ 34 :: (s.take i).flatMap escB)) (fun i => s.length - i) (by kernel_rfl) ?_ 0 (by omega) env_ok rfl
  intro i hi
  have hfl := flat_len (s.take i)
  have htl : (s.take i).length ≤ 100000 := by rw [List.length_take]; omega
  have hlo : (o ++ 34 :: (s.take i).flatMap escB).length ≤ 20000000 := by simp only [List.length_append, List.length_cons]; omega
  by_cases hil : i < s.length
  · have ht := flat_take hil
    generalize hc : s.getD i 0 = c at ht
    generalize hf : (s.take i).flatMap escB = f at *
    have hcl := c.toNat_lt
    rcases esc_cases c with ⟨j, hj, hi1, hi2⟩ | ⟨hi1, hi3, hi2⟩ | ⟨hi1, hi3, hi2⟩
    · have hI := fun H => IndexByte_c [34, 92, 8, 9, 10, 12, 13] c H
      rw [hi1] at hI
      rw [hi2] at ht
      repeat' (first | refine unhold ?_ | (simp -dsimp -implicitDefEqProofs (disch := (first | assumption | omega | (simp only [ll1, ll2, ll3, ll4, ll5, ll6, ll7, ll8]; omega))) only [go_sem, hc, List.length_append, List.length_cons, List.length_nil]) | refine acalls_same (hI _) ?_ | refine ⟨_, hI _, ?_⟩ | refine ⟨_, _, hI _, ?_⟩ | refine acalls_same (pByte 92 rfl h bAddr_k ?_) ?_ | refine ⟨_, pByte 92 rfl h bAddr_k ?_, ?_⟩ | refine ⟨_, _, pByte 92 rfl h bAddr_k ?_, ?_⟩ | refine acalls_same (pByte _ rfl h bAddr_k ?_) ?_ | refine ⟨_, pByte _ rfl h bAddr_k ?_, ?_⟩ | refine ⟨_, _, pByte _ rfl h bAddr_k ?_, ?_⟩ | refine vcI (fun _ => ?_) (fun _ => ?_) | (refine vcA ?_ ?_; focus (repeat' (first | omega | assumption | refine vcA ?_ ?_); done)) | omega | refine imp_in (fun _ => ?_))
      rw [← ht]
      refine again (i + 1) ?_ ?_ rfl env_ok
      · omega
      · omega
    · have hI := fun H => IndexByte_c [34, 92, 8, 9, 10, 12, 13] c H
      rw [hi1] at hI
      rw [hi2] at ht
      have hct : ((c.toNat : Int) < 32) = True := eq_true (by omega)
      repeat' (first | refine unhold ?_ | (simp -dsimp -implicitDefEqProofs (disch := (first | assumption | omega | (simp only [ll1, ll2, ll3, ll4, ll5, ll6, ll7, ll8]; omega))) only [go_sem, hc, hct, List.length_append, List.length_cons, List.length_nil]) | refine acalls_same (hI _) ?_ | refine ⟨_, hI _, ?_⟩ | refine ⟨_, _, hI _, ?_⟩ | refine acalls_same (pString h bAddr_k ?_ ?_) ?_ | refine ⟨_, pString h bAddr_k ?_ ?_, ?_⟩ | refine ⟨_, _, pString h bAddr_k ?_ ?_, ?_⟩ | refine acalls_same (pByte _ rfl h bAddr_k ?_) ?_ | refine ⟨_, pByte _ rfl h bAddr_k ?_, ?_⟩ | refine ⟨_, _, pByte _ rfl h bAddr_k ?_, ?_⟩ | refine vcI (fun _ => ?_) (fun _ => ?_) | (refine vcA ?_ ?_; focus (repeat' (first | omega | assumption | refine vcA ?_ ?_); done)) | omega | refine imp_in (fun _ => ?_))
      have ht2 : (s.take (i + 1)).flatMap escB = f ++ [92, 117, 48, 48, ([48, 49, 50, 51, 52, 53, 54, 55, 56, 57, 97, 98, 99, 100, 101, 102] : bytes).getD (c.toNat / 16) 0, ([48, 49, 50, 51, 52, 53, 54, 55, 56, 57, 97, 98, 99, 100, 101, 102] : bytes).getD (c.toNat % 16) 0] := ht
      rw [show ((c.toNat : Int) % 16).toNat = c.toNat % 16 by omega, ← ht2]
      refine again (i + 1) ?_ ?_ rfl env_ok
      · omega
      · omega
    · have hI := fun H => IndexByte_c [34, 92, 8, 9, 10, 12, 13] c H
      rw [hi1] at hI
      rw [hi2] at ht
      have hct : ((c.toNat : Int) < 32) = False := eq_false (by omega)
      repeat' (first | refine unhold ?_ | (simp -dsimp -implicitDefEqProofs (disch := (first | assumption | omega | (simp only [ll1, ll2, ll3, ll4, ll5, ll6, ll7, ll8]; omega))) only [go_sem, hc, hct, List.length_append, List.length_cons, List.length_nil]) | refine acalls_same (hI _) ?_ | refine ⟨_, hI _, ?_⟩ | refine ⟨_, _, hI _, ?_⟩ | refine acalls_same (pByte c rfl h bAddr_k ?_) ?_ | refine ⟨_, pByte c rfl h bAddr_k ?_, ?_⟩ | refine ⟨_, _, pByte c rfl h bAddr_k ?_, ?_⟩ | refine vcI (fun _ => ?_) (fun _ => ?_) | (refine vcA ?_ ?_; focus (repeat' (first | omega | assumption | refine vcA ?_ ?_); done)) | omega | refine imp_in (fun _ => ?_))
      rw [← ht]
      refine again (i + 1) ?_ ?_ rfl env_ok
      · omega
      · omega
  · obtain rfl : i = s.length := by omega
    rw [List.take_length] at *
    repeat' (first | refine unhold ?_ | (simp -dsimp -implicitDefEqProofs (disch := (first | assumption | omega | (simp only [ll1, ll2, ll3, ll4, ll5, ll6, ll7, ll8]; omega))) only [go_sem, List.length_append, List.length_cons, List.length_nil]) | refine acalls_same (pByte 34 rfl h bAddr_k ?_) ?_ | refine ⟨_, pByte 34 rfl h bAddr_k ?_, ?_⟩ | refine ⟨_, _, pByte 34 rfl h bAddr_k ?_, ?_⟩ | refine vcI (fun _ => ?_) (fun _ => ?_) | (refine vcA ?_ ?_; focus (repeat' (first | omega | assumption | refine vcA ?_ ?_); done)) | omega | refine imp_in (fun _ => ?_))
    exact done_keep _ (Le.refl _) (by rw [pA_len, pA_len]; exact Nat.le_refl _) ⟨rfl, rfl⟩
end Go.Proofs.YtplmbhjhihoneaaGreatDoor
end
