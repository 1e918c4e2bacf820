/- The document's parser: trees. -/
import Derived.Test.YtplmbhjhihoneaaGreatDoorWPd
import Derived.Test.YtplmbhjhihoneaaGreatDoorWPc
import Derived.Test.YtplmbhjhihoneaaGreatDoorW7
import Derived.Test.YtplmbhjhihoneaaGreatDoorW6
import Derived.Test.YtplmbhjhihoneaaGreatDoorWPa
section
set_option linter.unusedSimpArgs false
set_option linter.unusedVariables false
namespace Go.Proofs.YtplmbhjhihoneaaGreatDoor
open Go V
set_option maxRecDepth 10000
set_option maxHeartbeats 4000000
/-- What the document's parser tells: a tree, the place behind it, the error. -/
def valAV (t : bytes) (x : JV × bytes × Int) : AV := if x.2.2 = 0 then .tup [jAV x.1, at_ t x.2.1, .lit (.int .i64 0)] else .tup [jAV zeroJ, .lit (.int .i64 0), .lit (.int .i64 x.2.2)]
theorem valAV_ok {t : bytes} {v : JV} {r : bytes} : valAV t (v, r, 0) = .tup [jAV v, at_ t r, .lit (.int .i64 0)] := rfl
theorem valAV_no {t : bytes} {v : JV} {r : bytes} {e : Int} (h : e ≠ 0) : valAV t (v, r, e) = .tup [jAV zeroJ, .lit (.int .i64 0), .lit (.int .i64 e)] := if_neg h
theorem low_val {m : Nat} {t : bytes} {x : JV × bytes × Int} : Low m (valAV t x) := by
  unfold valAV
  split
  · exact low_tup (lowAll_cons (low_jAV _) (lowAll_cons (.lit _) (lowAll_cons (.lit _) lowAll_nil)))
  · exact low_tup (lowAll_cons (low_jAV _) (lowAll_cons (.lit _) (lowAll_cons (.lit _) lowAll_nil)))
theorem le_tup3 {x y a b : AV} (h : Le x y) : Le (.tup [x, a, b]) (.tup [y, a, b]) := le_tup (LeAll.cons h (LeAll.cons (Le.refl _) (LeAll.cons (Le.refl _) LeAll.nil)))
def RefC (f : bytes → JV × bytes × Int) (t : bytes) (w : Int) : Prop := ∀ (r : bytes) (a : Int) (H : List AObj), a = ((t.length - r.length : Nat) : Int) → r <:+ t →
  ACalls Tryz.prog 54 [.str t, .lit (.int .i64 a), .lit (.int .i64 w)] H (fun x H' => x = valAV t (f r) ∧ H' = H)
theorem blank_I {t r : bytes} {H : List AObj} {a : Int} (ha : a = ((t.length - r.length : Nat) : Int)) (hs : r <:+ t) (hl : t.length ≤ 10000) : ACalls Tryz.prog 55 [.str t, .lit (.int .i64 a)] H (fun x H' => x = at_ t (blanks r) ∧ H' = H) := by subst ha; exact blank_r hs hl
theorem le_val0 {k n : Int} {t : bytes} {o o' : Own} {s s' : Nat} {a b : AV} : Le (.tup [.agg [.lit (.int .i64 k), .lit (.int .i64 n), .str t, .sl o s [], .sl o' s' []], a, b]) (.tup [jAV (.mk k n t [] []), a, b]) := le_tup3 le_j0
theorem word_no {w b : bytes} (hw : w.headD 0 ≠ 0) (h : peek b ≠ w.headD 0) : skipW w b = none := by
  cases w with
  | nil => exact absurd rfl hw
  | cons a w =>
    cases b with
    | nil => unfold skipW; simp
    | cons d b =>
      unfold skipW
      rw [List.isPrefixOf_cons_cons]
      have : (a == d) = false := beq_eq_false_iff_ne.2 (fun e => h e.symm)
      rw [this, Bool.false_and]
      rfl
theorem rvalue_leaf {t : bytes} (hl : t.length ≤ 10000) {r : bytes} {a w : Int} {H : List AObj} (ha : a = ((t.length - r.length : Nat) : Int)) (hs : r <:+ t) {x : JV × bytes × Int} (hx : leafP (blanks r) = some x) :
    ACalls Tryz.prog 54 [.str t, .lit (.int .i64 a), .lit (.int .i64 w)] H (fun y H' => y = valAV t x ∧ H' = H) := by
  subst ha
  have hs1 := suf_blanks hs
  have h1 := suf_len hs1
  have hb := fun H => blank_r (H := H) hs hl
  have hp := peek_any hs1
  have c0 := fun H => begins_r (H := H) (w := [110, 117, 108, 108]) hs1 hl (by decide)
  have c1 := fun H => begins_r (H := H) (w := [116, 114, 117, 101]) hs1 hl (by decide)
  have c2 := fun H => begins_r (H := H) (w := [102, 97, 108, 115, 101]) hs1 hl (by decide)
  have c3 := fun H => begins_r (H := H) (w := [34]) hs1 hl (by decide)
  have c4 := fun H => begins_r (H := H) (w := [91]) hs1 hl (by decide)
  have c5 := fun H => begins_r (H := H) (w := [123]) hs1 hl (by decide)
  rw [skip_peek (by decide)] at c3 c4 c5
  unfold leafP at hx
  unfold wNull wTrue wFalse at hx
  generalize blanks r = b at *
  cases k0 : skipW [110, 117, 108, 108] b with
  | some r2 =>
    rw [k0] at c0 hx
    cases hx
    have hq := skip_len k0
    have e : AV.lit (.int .i64 (((t.length - b.length : Nat) : Int) + 4)) = at_ t r2 := int_at (by simp only [List.length_cons, List.length_nil] at hq; omega)
    refine acalls_vc L_ok mixed [] (rs := [.cell 6 27, .tmp 7, .tmp 8]) (n := 226) Tryz.func54 rfl rfl rfl rfl (Nat.le_of_ble_eq_true rfl) (by kernel_rfl) ?_
    repeat' (first | refine unhold ?_ | (simp -dsimp -implicitDefEqProofs (disch := (first | assumption | omega | (simp only [ll1, ll2, ll3, ll4, ll5, ll6, ll7, ll8]; omega))) only [go_sem]) | refine acalls_same (hb _) ?_ | refine ⟨_, hb _, ?_⟩ | refine ⟨_, _, hb _, ?_⟩ | refine acalls_same (c0 _) ?_ | refine ⟨_, c0 _, ?_⟩ | refine ⟨_, _, c0 _, ?_⟩ | refine vcI (fun _ => ?_) (fun _ => ?_) | (refine vcA ?_ ?_; focus (repeat' (first | omega | assumption | refine vcA ?_ ?_); done)) | omega | refine imp_in (fun _ => ?_))
    exact done_weak le_val0 (done_cut (valAV t (zeroJ, r2, 0)) (by rw [valAV_ok, ← e]; exact Le.refl _) low_val ⟨rfl, rfl⟩)
  | none =>
  rw [k0] at c0 hx
  cases k1 : skipW [116, 114, 117, 101] b with
  | some r2 =>
    rw [k1] at c1 hx
    cases hx
    have hq := skip_len k1
    have e : AV.lit (.int .i64 (((t.length - b.length : Nat) : Int) + 4)) = at_ t r2 := int_at (by simp only [List.length_cons, List.length_nil] at hq; omega)
    refine acalls_vc L_ok mixed [] (rs := [.cell 6 27, .tmp 7, .tmp 8]) (n := 226) Tryz.func54 rfl rfl rfl rfl (Nat.le_of_ble_eq_true rfl) (by kernel_rfl) ?_
    repeat' (first | refine unhold ?_ | (simp -dsimp -implicitDefEqProofs (disch := (first | assumption | omega | (simp only [ll1, ll2, ll3, ll4, ll5, ll6, ll7, ll8]; omega))) only [go_sem]) | refine acalls_same (hb _) ?_ | refine ⟨_, hb _, ?_⟩ | refine ⟨_, _, hb _, ?_⟩ | refine acalls_same (c0 _) ?_ | refine ⟨_, c0 _, ?_⟩ | refine ⟨_, _, c0 _, ?_⟩ | refine acalls_same (c1 _) ?_ | refine ⟨_, c1 _, ?_⟩ | refine ⟨_, _, c1 _, ?_⟩ | refine vcI (fun _ => ?_) (fun _ => ?_) | (refine vcA ?_ ?_; focus (repeat' (first | omega | assumption | refine vcA ?_ ?_); done)) | omega | refine imp_in (fun _ => ?_))
    exact done_weak le_val0 (done_cut (valAV t (.mk 1 0 [] [] [], r2, 0)) (by rw [valAV_ok, ← e]; exact Le.refl _) low_val ⟨rfl, rfl⟩)
  | none =>
  rw [k1] at c1 hx
  cases k2 : skipW [102, 97, 108, 115, 101] b with
  | some r2 =>
    rw [k2] at c2 hx
    cases hx
    have hq := skip_len k2
    have e : AV.lit (.int .i64 (((t.length - b.length : Nat) : Int) + 5)) = at_ t r2 := int_at (by simp only [List.length_cons, List.length_nil] at hq; omega)
    refine acalls_vc L_ok mixed [] (rs := [.cell 6 27, .tmp 7, .tmp 8]) (n := 226) Tryz.func54 rfl rfl rfl rfl (Nat.le_of_ble_eq_true rfl) (by kernel_rfl) ?_
    repeat' (first | refine unhold ?_ | (simp -dsimp -implicitDefEqProofs (disch := (first | assumption | omega | (simp only [ll1, ll2, ll3, ll4, ll5, ll6, ll7, ll8]; omega))) only [go_sem]) | refine acalls_same (hb _) ?_ | refine ⟨_, hb _, ?_⟩ | refine ⟨_, _, hb _, ?_⟩ | refine acalls_same (c0 _) ?_ | refine ⟨_, c0 _, ?_⟩ | refine ⟨_, _, c0 _, ?_⟩ | refine acalls_same (c1 _) ?_ | refine ⟨_, c1 _, ?_⟩ | refine ⟨_, _, c1 _, ?_⟩ | refine acalls_same (c2 _) ?_ | refine ⟨_, c2 _, ?_⟩ | refine ⟨_, _, c2 _, ?_⟩ | refine vcI (fun _ => ?_) (fun _ => ?_) | (refine vcA ?_ ?_; focus (repeat' (first | omega | assumption | refine vcA ?_ ?_); done)) | omega | refine imp_in (fun _ => ?_))
    exact done_weak le_val0 (done_cut (valAV t (.mk 2 0 [] [] [], r2, 0)) (by rw [valAV_ok, ← e]; exact Le.refl _) low_val ⟨rfl, rfl⟩)
  | none =>
  rw [k2] at c2 hx
  simp only at hx
  by_cases p34 : peek b = 34
  · rw [if_pos p34] at c3 hx
    cases hx
    have cq := fun H => quoted_r (H := H) hs1 hl
    rcases (quoted_len b).2 with he | ⟨he, _⟩
    · rw [quoAV, if_pos he] at cq
      rw [he]
      have hn : (((t.length - (quotedP b).2.1.length : Nat) : Int) < 0) = False := eq_false (by omega)
      refine acalls_vc L_ok mixed [] (rs := [.cell 6 27, .tmp 7, .tmp 8]) (n := 226) Tryz.func54 rfl rfl rfl rfl (Nat.le_of_ble_eq_true rfl) (by kernel_rfl) ?_
      repeat' (first | refine unhold ?_ | (simp -dsimp -implicitDefEqProofs (disch := (first | assumption | omega | (simp only [ll1, ll2, ll3, ll4, ll5, ll6, ll7, ll8]; omega))) only [go_sem, hn]) | refine acalls_same (hb _) ?_ | refine ⟨_, hb _, ?_⟩ | refine ⟨_, _, hb _, ?_⟩ | refine acalls_same (c0 _) ?_ | refine ⟨_, c0 _, ?_⟩ | refine ⟨_, _, c0 _, ?_⟩ | refine acalls_same (c1 _) ?_ | refine ⟨_, c1 _, ?_⟩ | refine ⟨_, _, c1 _, ?_⟩ | refine acalls_same (c2 _) ?_ | refine ⟨_, c2 _, ?_⟩ | refine ⟨_, _, c2 _, ?_⟩ | refine acalls_same (c3 _) ?_ | refine ⟨_, c3 _, ?_⟩ | refine ⟨_, _, c3 _, ?_⟩ | refine acalls_same (cq _) ?_ | refine ⟨_, cq _, ?_⟩ | refine ⟨_, _, cq _, ?_⟩ | refine vcI (fun _ => ?_) (fun _ => ?_) | (refine vcA ?_ ?_; focus (repeat' (first | omega | assumption | refine vcA ?_ ?_); done)) | omega | refine imp_in (fun _ => ?_))
      exact done_weak le_val0 (done_cut (valAV t (.mk 4 0 (quotedP b).1 [] [], (quotedP b).2.1, 0)) (Le.refl _) low_val ⟨rfl, rfl⟩)
    · rw [quoAV, if_neg (by rw [he]; decide)] at cq
      rw [he]
      refine acalls_vc L_ok mixed [] (rs := [.cell 6 27, .tmp 7, .tmp 8]) (n := 226) Tryz.func54 rfl rfl rfl rfl (Nat.le_of_ble_eq_true rfl) (by kernel_rfl) ?_
      repeat' (first | refine unhold ?_ | (simp -dsimp -implicitDefEqProofs (disch := (first | assumption | omega | (simp only [ll1, ll2, ll3, ll4, ll5, ll6, ll7, ll8]; omega))) only [go_sem]) | refine acalls_same (hb _) ?_ | refine ⟨_, hb _, ?_⟩ | refine ⟨_, _, hb _, ?_⟩ | refine acalls_same (c0 _) ?_ | refine ⟨_, c0 _, ?_⟩ | refine ⟨_, _, c0 _, ?_⟩ | refine acalls_same (c1 _) ?_ | refine ⟨_, c1 _, ?_⟩ | refine ⟨_, _, c1 _, ?_⟩ | refine acalls_same (c2 _) ?_ | refine ⟨_, c2 _, ?_⟩ | refine ⟨_, _, c2 _, ?_⟩ | refine acalls_same (c3 _) ?_ | refine ⟨_, c3 _, ?_⟩ | refine ⟨_, _, c3 _, ?_⟩ | refine acalls_same (cq _) ?_ | refine ⟨_, cq _, ?_⟩ | refine ⟨_, _, cq _, ?_⟩ | refine vcI (fun _ => ?_) (fun _ => ?_) | (refine vcA ?_ ?_; focus (repeat' (first | omega | assumption | refine vcA ?_ ?_); done)) | omega | refine imp_in (fun _ => ?_))
      exact done_weak le_val0 (done_cut (valAV t (.mk 4 0 (quotedP b).1 [] [], (quotedP b).2.1, 2)) (Le.refl _) low_val ⟨rfl, rfl⟩)
  · rw [if_neg p34] at c3 hx
    have hdg := digit_iff (peek b)
    by_cases hnum : peek b = 45 ∨ isDigit (peek b) = true
    · rw [if_pos hnum] at hx
      cases hx
      have hne : b ≠ [] := by rintro rfl; revert hnum; decide
      have hpos := List.length_pos_iff.2 hne
      have cn := fun H => number_r (H := H) hs1 hl hne
      have flt : (((t.length - b.length : Nat) : Int) < ((t.length : Nat) : Int)) = True := eq_true (by omega)
      have hor : ((peek b).toNat : Int) = 45 ∨ ¬ ((peek b).toNat : Int) = 45 ∧ 48 ≤ ((peek b).toNat : Int) ∧ ((peek b).toNat : Int) ≤ 57 := by
        rcases hnum with h | h
        · exact .inl (by rw [h]; rfl)
        · rw [hdg] at h
          have := of_decide_eq_true h
          exact .inr ⟨by omega, this⟩
      generalize numP b = q at *
      by_cases he : q.2.2 = 0
      · rw [numAV, if_pos he] at cn
        have hres : valAV t (.mk 3 q.1 [] [] [], q.2.1, q.2.2) = .tup [jAV (.mk 3 q.1 [] [] []), at_ t q.2.1, .lit (.int .i64 0)] := if_pos he
        rw [hres]
        rcases hor with g1 | ⟨g1, g2, g3⟩
        · refine acalls_vc L_ok mixed [] (rs := [.cell 6 27, .tmp 7, .tmp 8]) (n := 226) Tryz.func54 rfl rfl rfl rfl (Nat.le_of_ble_eq_true rfl) (by kernel_rfl) ?_
          repeat' (first | refine unhold ?_ | (simp -dsimp -implicitDefEqProofs (disch := (first | assumption | omega | (simp only [ll1, ll2, ll3, ll4, ll5, ll6, ll7, ll8]; omega))) only [go_sem, hp, flt, g1]) | refine acalls_same (hb _) ?_ | refine ⟨_, hb _, ?_⟩ | refine ⟨_, _, hb _, ?_⟩ | refine acalls_same (c0 _) ?_ | refine ⟨_, c0 _, ?_⟩ | refine ⟨_, _, c0 _, ?_⟩ | refine acalls_same (c1 _) ?_ | refine ⟨_, c1 _, ?_⟩ | refine ⟨_, _, c1 _, ?_⟩ | refine acalls_same (c2 _) ?_ | refine ⟨_, c2 _, ?_⟩ | refine ⟨_, _, c2 _, ?_⟩ | refine acalls_same (c3 _) ?_ | refine ⟨_, c3 _, ?_⟩ | refine ⟨_, _, c3 _, ?_⟩ | refine acalls_same (cn _) ?_ | refine ⟨_, cn _, ?_⟩ | refine ⟨_, _, cn _, ?_⟩ | refine vcI (fun _ => ?_) (fun _ => ?_) | (refine vcA ?_ ?_; focus (repeat' (first | omega | assumption | refine vcA ?_ ?_); done)) | omega | refine imp_in (fun _ => ?_))
          exact done_weak le_val0 (done_cut (valAV t (.mk 3 q.1 [] [] [], q.2.1, 0)) (Le.refl _) low_val ⟨rfl, rfl⟩)
        · have g1 := eq_false g1
          have g2 := eq_true g2
          have g3 := eq_true g3
          refine acalls_vc L_ok mixed [] (rs := [.cell 6 27, .tmp 7, .tmp 8]) (n := 226) Tryz.func54 rfl rfl rfl rfl (Nat.le_of_ble_eq_true rfl) (by kernel_rfl) ?_
          repeat' (first | refine unhold ?_ | (simp -dsimp -implicitDefEqProofs (disch := (first | assumption | omega | (simp only [ll1, ll2, ll3, ll4, ll5, ll6, ll7, ll8]; omega))) only [go_sem, hp, flt, g1, g2, g3]) | refine acalls_same (hb _) ?_ | refine ⟨_, hb _, ?_⟩ | refine ⟨_, _, hb _, ?_⟩ | refine acalls_same (c0 _) ?_ | refine ⟨_, c0 _, ?_⟩ | refine ⟨_, _, c0 _, ?_⟩ | refine acalls_same (c1 _) ?_ | refine ⟨_, c1 _, ?_⟩ | refine ⟨_, _, c1 _, ?_⟩ | refine acalls_same (c2 _) ?_ | refine ⟨_, c2 _, ?_⟩ | refine ⟨_, _, c2 _, ?_⟩ | refine acalls_same (c3 _) ?_ | refine ⟨_, c3 _, ?_⟩ | refine ⟨_, _, c3 _, ?_⟩ | refine acalls_same (cn _) ?_ | refine ⟨_, cn _, ?_⟩ | refine ⟨_, _, cn _, ?_⟩ | refine vcI (fun _ => ?_) (fun _ => ?_) | (refine vcA ?_ ?_; focus (repeat' (first | omega | assumption | refine vcA ?_ ?_); done)) | omega | refine imp_in (fun _ => ?_))
          exact done_weak le_val0 (done_cut (valAV t (.mk 3 q.1 [] [] [], q.2.1, 0)) (Le.refl _) low_val ⟨rfl, rfl⟩)
      · rw [numAV, if_neg he] at cn
        have hef : (q.2.2 = 0) = False := eq_false he
        rcases hor with g1 | ⟨g1, g2, g3⟩
        · refine acalls_vc L_ok mixed [] (rs := [.cell 6 27, .tmp 7, .tmp 8]) (n := 226) Tryz.func54 rfl rfl rfl rfl (Nat.le_of_ble_eq_true rfl) (by kernel_rfl) ?_
          repeat' (first | refine unhold ?_ | (simp -dsimp -implicitDefEqProofs (disch := (first | assumption | omega | (simp only [ll1, ll2, ll3, ll4, ll5, ll6, ll7, ll8]; omega))) only [go_sem, hp, flt, g1, hef]) | refine acalls_same (hb _) ?_ | refine ⟨_, hb _, ?_⟩ | refine ⟨_, _, hb _, ?_⟩ | refine acalls_same (c0 _) ?_ | refine ⟨_, c0 _, ?_⟩ | refine ⟨_, _, c0 _, ?_⟩ | refine acalls_same (c1 _) ?_ | refine ⟨_, c1 _, ?_⟩ | refine ⟨_, _, c1 _, ?_⟩ | refine acalls_same (c2 _) ?_ | refine ⟨_, c2 _, ?_⟩ | refine ⟨_, _, c2 _, ?_⟩ | refine acalls_same (c3 _) ?_ | refine ⟨_, c3 _, ?_⟩ | refine ⟨_, _, c3 _, ?_⟩ | refine acalls_same (cn _) ?_ | refine ⟨_, cn _, ?_⟩ | refine ⟨_, _, cn _, ?_⟩ | refine vcI (fun _ => ?_) (fun _ => ?_) | (refine vcA ?_ ?_; focus (repeat' (first | omega | assumption | refine vcA ?_ ?_); done)) | omega | refine imp_in (fun _ => ?_))
          exact done_weak le_val0 (done_cut (valAV t (.mk 3 q.1 [] [] [], q.2.1, q.2.2)) (by rw [valAV_no he]; exact Le.refl _) low_val ⟨rfl, rfl⟩)
        · have g1 := eq_false g1
          have g2 := eq_true g2
          have g3 := eq_true g3
          refine acalls_vc L_ok mixed [] (rs := [.cell 6 27, .tmp 7, .tmp 8]) (n := 226) Tryz.func54 rfl rfl rfl rfl (Nat.le_of_ble_eq_true rfl) (by kernel_rfl) ?_
          repeat' (first | refine unhold ?_ | (simp -dsimp -implicitDefEqProofs (disch := (first | assumption | omega | (simp only [ll1, ll2, ll3, ll4, ll5, ll6, ll7, ll8]; omega))) only [go_sem, hp, flt, g1, g2, g3, hef]) | refine acalls_same (hb _) ?_ | refine ⟨_, hb _, ?_⟩ | refine ⟨_, _, hb _, ?_⟩ | refine acalls_same (c0 _) ?_ | refine ⟨_, c0 _, ?_⟩ | refine ⟨_, _, c0 _, ?_⟩ | refine acalls_same (c1 _) ?_ | refine ⟨_, c1 _, ?_⟩ | refine ⟨_, _, c1 _, ?_⟩ | refine acalls_same (c2 _) ?_ | refine ⟨_, c2 _, ?_⟩ | refine ⟨_, _, c2 _, ?_⟩ | refine acalls_same (c3 _) ?_ | refine ⟨_, c3 _, ?_⟩ | refine ⟨_, _, c3 _, ?_⟩ | refine acalls_same (cn _) ?_ | refine ⟨_, cn _, ?_⟩ | refine ⟨_, _, cn _, ?_⟩ | refine vcI (fun _ => ?_) (fun _ => ?_) | (refine vcA ?_ ?_; focus (repeat' (first | omega | assumption | refine vcA ?_ ?_); done)) | omega | refine imp_in (fun _ => ?_))
          exact done_weak le_val0 (done_cut (valAV t (.mk 3 q.1 [] [] [], q.2.1, q.2.2)) (by rw [valAV_no he]; exact Le.refl _) low_val ⟨rfl, rfl⟩)
    · rw [if_neg hnum] at hx
      have g1 : (((peek b).toNat : Int) = 45) = False := eq_false (fun h => hnum (.inl (byte_eq (d := 45) h)))
      have g2 : ¬ (48 ≤ ((peek b).toNat : Int) ∧ ((peek b).toNat : Int) ≤ 57) := fun h => hnum (.inr (by rw [hdg]; exact decide_eq_true h))
      split at hx
      · rename_i h91
        cases hx
        rw [if_neg h91.1] at c4
        rw [if_neg h91.2] at c5
        refine acalls_vc L_ok mixed [] (rs := [.cell 6 27, .tmp 7, .tmp 8]) (n := 226) Tryz.func54 rfl rfl rfl rfl (Nat.le_of_ble_eq_true rfl) (by kernel_rfl) ?_
        repeat' (first | refine unhold ?_ | (simp -dsimp -implicitDefEqProofs (disch := (first | assumption | omega | (simp only [ll1, ll2, ll3, ll4, ll5, ll6, ll7, ll8]; omega))) only [go_sem, hp, g1]) | refine acalls_same (hb _) ?_ | refine ⟨_, hb _, ?_⟩ | refine ⟨_, _, hb _, ?_⟩ | refine acalls_same (c0 _) ?_ | refine ⟨_, c0 _, ?_⟩ | refine ⟨_, _, c0 _, ?_⟩ | refine acalls_same (c1 _) ?_ | refine ⟨_, c1 _, ?_⟩ | refine ⟨_, _, c1 _, ?_⟩ | refine acalls_same (c2 _) ?_ | refine ⟨_, c2 _, ?_⟩ | refine ⟨_, _, c2 _, ?_⟩ | refine acalls_same (c3 _) ?_ | refine ⟨_, c3 _, ?_⟩ | refine ⟨_, _, c3 _, ?_⟩ | refine acalls_same (c4 _) ?_ | refine ⟨_, c4 _, ?_⟩ | refine ⟨_, _, c4 _, ?_⟩ | refine acalls_same (c5 _) ?_ | refine ⟨_, c5 _, ?_⟩ | refine ⟨_, _, c5 _, ?_⟩ | refine vcI (fun _ => ?_) (fun _ => ?_) | (refine vcA ?_ ?_; focus (repeat' (first | omega | assumption | refine vcA ?_ ?_); done)) | omega | refine imp_in (fun _ => ?_))
        all_goals first | exact done_weak le_val0 (done_cut (valAV t (zeroJ, b, 2)) (Le.refl _) low_val ⟨rfl, rfl⟩) | exact absurd (by constructor <;> assumption) g2
      · cases hx
end Go.Proofs.YtplmbhjhihoneaaGreatDoor
end

section
set_option linter.unusedSimpArgs false
set_option linter.unusedVariables false
namespace Go.Proofs.YtplmbhjhihoneaaGreatDoor
open Go V
set_option maxRecDepth 10000
set_option maxHeartbeats 4000000
/-- The state of a list's loop in the document's parser. -/
structure RS where
  r : bytes
  is : List JV
theorem low_z {m : Nat} : ∀ z ∈ zCells, Low m z := fun z hz => by
  simp only [zCells, List.mem_cons, List.not_mem_nil, or_false] at hz
  rcases hz with rfl | rfl | rfl | rfl | rfl
  · exact .lit _
  · exact .lit _
  · exact .str _
  · exact low_nilsl (fun k e => by cases e)
  · exact low_nilsl (fun k e => by cases e)
theorem low_tokJ {m k : Nat} {is : List JV} (h : k < m) : Low m (.sl (.tok k) 5 (is.map jAV)) := by
  have := low_jsl (m := m) (l := is)
  cases this with
  | sl _ _ _ _ hx => exact .sl _ _ _ (fun j e => by cases e; exact h) hx
theorem low_l {m k : Nat} {is : List JV} (h : k < m) : ∀ z ∈ lCells k is, Low m z := fun z hz => by
  simp only [lCells, List.mem_cons, List.not_mem_nil, or_false] at hz
  rcases hz with rfl | rfl | rfl | rfl | rfl
  · exact .lit _
  · exact .lit _
  · exact .str _
  · exact low_nilsl (fun k e => by cases e)
  · exact low_tokJ h
def rObjs (H : List AObj) (is : List JV) : List AObj := H ++ [.cells (.one 27) zCells, .cells (.one 27) zCells, .cells (.one 27) (lCells (H.length + 3) is), .grow 5 is.length none]
theorem rObjs_len (H : List AObj) (is : List JV) : (rObjs H is).length = H.length + 4 := by simp [rObjs]
theorem rObjs_low (H : List AObj) (is is' : List JV) : ∀ (k : Nat) (sh : Shape) (cs : List AV), (rObjs H is')[k]? = some (.cells sh cs) → (rObjs H is)[k]? = some (.cells sh cs) ∨ ∀ z ∈ cs, Low (H.length + 4) z :=
  obj_app fun o ho sh cs e => by
    simp only [List.mem_cons, List.not_mem_nil, or_false] at ho
    subst e
    rcases ho with h | h | h | h
    · cases h; exact low_z
    · cases h; exact low_z
    · cases h; exact low_l (by omega)
    · cases h
theorem treeR_l' {f : bytes → JV × bytes × Int} (hf : ∀ r, (f r).2.1 <:+ r) (is : List JV) (r : bytes) : treeR f 93 (lJ is) r = treeEnd (treeR f 93) 93 (lJ (is ++ [(f r).1])) (f r).2.1 (f r).2.2 := treeR_l hf is r
theorem value_list {t : bytes} (hl : t.length ≤ 10000) {f : bytes → JV × bytes × Int} {r : bytes} {a w : Int} {H : List AObj} (hw : 0 ≤ w ∧ w < 12) (hf : ∀ r, (f r).2.1 <:+ r) (hval : RefC f t (w + 1)) (ha : a = ((t.length - r.length : Nat) : Int)) (hs : r <:+ t) (hx : leafP (blanks r) = none) (h91 : peek (blanks r) = 91) :
    ACalls Tryz.prog 54 [.str t, .lit (.int .i64 a), .lit (.int .i64 w)] H (fun y H' => y = valAV t (treeP f 93 listJ ((blanks r).drop 1)) ∧ H' = H) := by
  subst ha
  have hs1 := suf_blanks hs
  have h1 := suf_len hs1
  have hb := fun H => blank_r (H := H) hs hl
  have hp := peek_any hs1
  have c0 := fun H => begins_r (H := H) (w := [110, 117, 108, 108]) hs1 hl (by decide)
  have c1 := fun H => begins_r (H := H) (w := [116, 114, 117, 101]) hs1 hl (by decide)
  have c2 := fun H => begins_r (H := H) (w := [102, 97, 108, 115, 101]) hs1 hl (by decide)
  have c3 := fun H => begins_r (H := H) (w := [34]) hs1 hl (by decide)
  have c4 := fun H => begins_r (H := H) (w := [91]) hs1 hl (by decide)
  rw [skip_peek (by decide)] at c3 c4
  have hs2 := suf_drop_n hs1 1
  generalize blanks r = b at *
  rw [word_no (by decide) (by rw [h91]; decide)] at c0 c1 c2
  rw [if_neg (by rw [h91]; decide)] at c3
  rw [if_pos h91] at c4
  have hpos := peek_pos (r := b) (by rw [h91]; decide)
  have p91 : ((peek b).toNat : Int) = 91 := by rw [h91]; rfl
  have flt : (((t.length - b.length : Nat) : Int) < ((t.length : Nat) : Int)) = True := eq_true (by omega)
  have hb2 := fun H => blank_I (H := H) (a := ((t.length - b.length : Nat) : Int) + 1) (r := b.drop 1) (by rw [List.length_drop]; omega) hs2 hl
  have hs3 := suf_blanks hs2
  have h3 := suf_len hs3
  have hp3 := peek_any hs3
  have hw12 : (12 ≤ w) = False := eq_false (by omega)
  unfold treeP
  generalize blanks (b.drop 1) = b2 at *
  rw [skip_peek (by decide)]
  by_cases c93 : peek b2 = 93
  · rw [if_pos c93]
    have p93 : ((peek b2).toNat : Int) = 93 := by rw [c93]; rfl
    have hpos2 := peek_pos (r := b2) (by rw [c93]; decide)
    have flt2 : (((t.length - b2.length : Nat) : Int) < ((t.length : Nat) : Int)) = True := eq_true (by omega)
    have e : AV.lit (.int .i64 (((t.length - b2.length : Nat) : Int) + 1)) = at_ t (b2.drop 1) := int_at (by rw [List.length_drop]; omega)
    refine acalls_vc L_ok mixed [] (rs := [.cell 6 27, .tmp 7, .tmp 8]) (n := 226) Tryz.func54 rfl rfl rfl rfl (Nat.le_of_ble_eq_true rfl) (by kernel_rfl) ?_
    repeat' (first | refine unhold ?_ | (simp -dsimp -implicitDefEqProofs (disch := (first | assumption | omega | (simp only [ll1, ll2, ll3, ll4, ll5, ll6, ll7, ll8]; omega))) only [go_sem, hp, hp3, p91, p93, flt, flt2, hw12]) | refine acalls_same (hb _) ?_ | refine ⟨_, hb _, ?_⟩ | refine ⟨_, _, hb _, ?_⟩ | refine acalls_same (c0 _) ?_ | refine ⟨_, c0 _, ?_⟩ | refine ⟨_, _, c0 _, ?_⟩ | refine acalls_same (c1 _) ?_ | refine ⟨_, c1 _, ?_⟩ | refine ⟨_, _, c1 _, ?_⟩ | refine acalls_same (c2 _) ?_ | refine ⟨_, c2 _, ?_⟩ | refine ⟨_, _, c2 _, ?_⟩ | refine acalls_same (c3 _) ?_ | refine ⟨_, c3 _, ?_⟩ | refine ⟨_, _, c3 _, ?_⟩ | refine acalls_same (c4 _) ?_ | refine ⟨_, c4 _, ?_⟩ | refine ⟨_, _, c4 _, ?_⟩ | refine acalls_same (hb2 _) ?_ | refine ⟨_, hb2 _, ?_⟩ | refine ⟨_, _, hb2 _, ?_⟩ | refine vcI (fun _ => ?_) (fun _ => ?_) | (refine vcA ?_ ?_; focus (repeat' (first | omega | assumption | refine vcA ?_ ?_); done)) | omega | refine imp_in (fun _ => ?_))
    exact done_weak le_val0 (done_cut (valAV t (listJ, b2.drop 1, 0)) (by rw [valAV_ok, ← e]; exact Le.refl _) low_val ⟨rfl, rfl⟩)
  · rw [if_neg c93]
    have p93 : (((peek b2).toNat : Int) = 93) = False := eq_false (fun h => c93 (byte_eq (d := 93) h))
    show ACalls _ _ _ _ (fun y H' => y = valAV t (treeR f 93 (lJ []) b2) ∧ H' = H)
    generalize hq : treeR f 93 (lJ []) b2 = q
    have hb1 : 0 + b2.length ≤ t.length := by omega
    refine acalls_vc L_ok mixed [] (rs := [.cell 6 27, .tmp 7, .tmp 8]) (n := 226) Tryz.func54 rfl rfl rfl rfl (Nat.le_of_ble_eq_true rfl) (by kernel_rfl) ?_
    repeat' (first | refine unhold ?_ | (simp -dsimp -implicitDefEqProofs (disch := (first | assumption | omega | (simp only [ll1, ll2, ll3, ll4, ll5, ll6, ll7, ll8]; omega))) only [go_sem, hp, hp3, p91, p93, flt, hw12]) | refine acalls_same (hb _) ?_ | refine ⟨_, hb _, ?_⟩ | refine ⟨_, _, hb _, ?_⟩ | refine acalls_same (c0 _) ?_ | refine ⟨_, c0 _, ?_⟩ | refine ⟨_, _, c0 _, ?_⟩ | refine acalls_same (c1 _) ?_ | refine ⟨_, c1 _, ?_⟩ | refine ⟨_, _, c1 _, ?_⟩ | refine acalls_same (c2 _) ?_ | refine ⟨_, c2 _, ?_⟩ | refine ⟨_, _, c2 _, ?_⟩ | refine acalls_same (c3 _) ?_ | refine ⟨_, c3 _, ?_⟩ | refine ⟨_, _, c3 _, ?_⟩ | refine acalls_same (c4 _) ?_ | refine ⟨_, c4 _, ?_⟩ | refine ⟨_, _, c4 _, ?_⟩ | refine acalls_same (hb2 _) ?_ | refine ⟨_, hb2 _, ?_⟩ | refine ⟨_, _, hb2 _, ?_⟩ | refine vcI (fun _ => ?_) (fun _ => ?_) | (refine vcA ?_ ?_; focus (repeat' (first | omega | assumption | refine vcA ?_ ?_); done)) | omega | refine imp_in (fun _ => ?_))
    all_goals
      refine aw_mintC (H.length + 2) 4 5 (by simp; exact ⟨rfl, rfl⟩) rfl (by decide) ?_
      refine vc_loopk L_ok mixed [] [0, 2, 6, 9, 15, 16] (fun y : RS => y.r <:+ t ∧ y.is.length + y.r.length ≤ t.length ∧ treeR f 93 (lJ y.is) y.r = q) (fun y => [(1, at_ t y.r)]) (fun y => rObjs H y.is) (fun y => y.r.length) (by kernel_rfl) ?_ ⟨b2, []⟩ ⟨hs3, hb1, hq⟩ env_ok (by simp [rObjs])
      rintro ⟨r', is⟩ ⟨hs', hnl, hq'⟩
      dsimp only at hs' hnl hq' ⊢
      rw [treeR_l' hf] at hq'
      have hl' := suf_len hs'
      have hv := fun H => hval r' _ H rfl hs'
      have hs4 := (hf r').trans hs'
      have hl4 := (hf r').length_le
      have hm : is.map jAV ++ [jAV (f r').1] = (is ++ [(f r').1]).map jAV := by simp
      by_cases he : (f r').2.2 = 0
      · rw [valAV, if_pos he] at hv
        rw [he] at hq'
        have hb4 := fun H => blank_r (H := H) hs4 hl
        have hs5 := suf_blanks hs4
        have hl5 := (suf_blanks (List.suffix_refl (f r').2.1)).length_le
        rw [treeEnd, if_neg (by simp), skip_peek (by decide), skip_peek (by decide)] at hq'
        have c44 := fun H => begins_r (H := H) (w := [44]) hs5 hl (by decide)
        rw [skip_peek (by decide)] at c44
        generalize (f r').1 = x at *
        generalize blanks (f r').2.1 = b5 at *
        have hp5 := peek_any hs5
        have h5 := suf_len hs5
        by_cases d93 : peek b5 = 93
        · rw [if_pos d93] at hq'
          simp only at hq'
          subst hq'
          have q93 : ((peek b5).toNat : Int) = 93 := by rw [d93]; rfl
          have hpos5 := peek_pos (r := b5) (by rw [d93]; decide)
          have flt5 : (((t.length - b5.length : Nat) : Int) < ((t.length : Nat) : Int)) = True := eq_true (by omega)
          have e5 : AV.lit (.int .i64 (((t.length - b5.length : Nat) : Int) + 1)) = at_ t (b5.drop 1) := int_at (by rw [List.length_drop]; omega)
          unfold rObjs
          dsimp only [lCells, zCells]
          repeat' (first | refine unhold ?_ | (simp -dsimp -implicitDefEqProofs (disch := (first | assumption | omega | (simp only [ll1, ll2, ll3, ll4, ll5, ll6, ll7, ll8]; omega))) only [go_sem, hp5, q93, flt5, hm]) | refine acalls_same (hv _) ?_ | refine ⟨_, hv _, ?_⟩ | refine ⟨_, _, hv _, ?_⟩ | refine acalls_same (hb4 _) ?_ | refine ⟨_, hb4 _, ?_⟩ | refine ⟨_, _, hb4 _, ?_⟩ | refine vcI (fun _ => ?_) (fun _ => ?_) | (refine vcA ?_ ?_; focus (repeat' (first | omega | assumption | refine vcA ?_ ?_); done)) | omega | refine imp_in (fun _ => ?_))
          exact done_weak (le_tup3 le_list) (done_cut (valAV t (lJ (is ++ [x]), b5.drop 1, 0)) (by rw [valAV_ok, ← e5]; exact Le.refl _) low_val ⟨rfl, rfl⟩)
        · rw [if_neg d93] at hq'
          have q93 : (((peek b5).toNat : Int) = 93) = False := eq_false (fun h => d93 (byte_eq (d := 93) h))
          by_cases d44 : peek b5 = 44
          · rw [if_pos d44] at hq' c44
            have hpos5 := peek_pos (r := b5) (by rw [d44]; decide)
            have flt5 : (((t.length - b5.length : Nat) : Int) < ((t.length : Nat) : Int)) = True := eq_true (by omega)
            have e5 : ((t.length - b5.length : Nat) : Int) + 1 = ((t.length - (b5.length - 1) : Nat) : Int) := by omega
            have hs6 := suf_drop_n hs5 1
            have h6 : (b5.drop 1).length = b5.length - 1 := List.length_drop
            simp only at hq'
            unfold rObjs
            dsimp only [lCells, zCells]
            repeat' (first | refine unhold ?_ | (simp -dsimp -implicitDefEqProofs (disch := (first | assumption | omega | (simp only [ll1, ll2, ll3, ll4, ll5, ll6, ll7, ll8]; omega))) only [go_sem, hp5, q93, flt5, hm, e5]) | refine acalls_same (hv _) ?_ | refine ⟨_, hv _, ?_⟩ | refine ⟨_, _, hv _, ?_⟩ | refine acalls_same (hb4 _) ?_ | refine ⟨_, hb4 _, ?_⟩ | refine ⟨_, _, hb4 _, ?_⟩ | refine acalls_same (c44 _) ?_ | refine ⟨_, c44 _, ?_⟩ | refine ⟨_, _, c44 _, ?_⟩ | refine vcI (fun _ => ?_) (fun _ => ?_) | (refine vcA ?_ ?_; focus (repeat' (first | omega | assumption | refine vcA ?_ ?_); done)) | omega | refine imp_in (fun _ => ?_))
            simp only [← h6]
            refine again_drop (H.length + 4) ([.cells (.one 27) (jCells x)]) (⟨b5.drop 1, is ++ [x]⟩) ?_ ?_ ?_ ?_ ?_ (by repeat (first | exact envLow_nil | (refine envLow_cons ?_ ?_; focus (first | (first | exact .lit _ | exact .str _ | exact .any | exact low_bytes | exact low_runes | exact .mp _ _ (by omega) | exact .msl _ _ _ _ (by omega) | exact low_nilsl (fun k e => by cases e) | exact low_jAV _ | exact low_jsl | exact low_ssl | exact low_fn0 | exact low_ipJ _) | (refine low_tup ?_; repeat (first | exact lowAll_nil | (refine lowAll_cons ?_ ?_; focus (first | exact .lit _ | exact .str _ | exact .any | exact low_bytes | exact low_runes | exact .mp _ _ (by omega) | exact .msl _ _ _ _ (by omega) | exact low_nilsl (fun k e => by cases e) | exact low_jAV _ | exact low_jsl | exact low_ssl | exact low_fn0 | exact low_ipJ _)))) | (refine low_agg ?_; repeat (first | exact lowAll_nil | (refine lowAll_cons ?_ ?_; focus (first | exact .lit _ | exact .str _ | exact .any | exact low_bytes | exact low_runes | exact .mp _ _ (by omega) | exact .msl _ _ _ _ (by omega) | exact low_nilsl (fun k e => by cases e) | exact low_jAV _ | exact low_jsl | exact low_ssl | exact low_fn0 | exact low_ipJ _)))))))) ?_ env_ok
            · dsimp only; omega
            · exact ⟨hs6, by simp only [List.length_append, List.length_cons, List.length_nil]; omega, hq'⟩
            · simp
            · exact rObjs_len H _
            · exact Nat.le_of_eq (rObjs_len H _)
            · exact rObjs_low H is (is ++ [x])
          · rw [if_neg d44] at hq' c44
            simp only at hq'
            subst hq'
            unfold rObjs
            dsimp only [lCells, zCells]
            repeat' (first | refine unhold ?_ | (simp -dsimp -implicitDefEqProofs (disch := (first | assumption | omega | (simp only [ll1, ll2, ll3, ll4, ll5, ll6, ll7, ll8]; omega))) only [go_sem, hp5, q93, hm]) | refine acalls_same (hv _) ?_ | refine ⟨_, hv _, ?_⟩ | refine ⟨_, _, hv _, ?_⟩ | refine acalls_same (hb4 _) ?_ | refine ⟨_, hb4 _, ?_⟩ | refine ⟨_, _, hb4 _, ?_⟩ | refine acalls_same (c44 _) ?_ | refine ⟨_, c44 _, ?_⟩ | refine ⟨_, _, c44 _, ?_⟩ | refine vcI (fun _ => ?_) (fun _ => ?_) | (refine vcA ?_ ?_; focus (repeat' (first | omega | assumption | refine vcA ?_ ?_); done)) | omega | refine imp_in (fun _ => ?_))
            all_goals exact done_weak le_val0 (done_cut (valAV t (zeroJ, b5, 2)) (Le.refl _) low_val ⟨rfl, rfl⟩)
      · rw [valAV, if_neg he] at hv
        have hqq : q = (zeroJ, blanks (f r').2.1, (f r').2.2) := by rw [← hq', treeEnd, if_pos he]
        subst hqq
        have hef : ((f r').2.2 = 0) = False := eq_false he
        unfold rObjs
        dsimp only [lCells, zCells]
        repeat' (first | refine unhold ?_ | (simp -dsimp -implicitDefEqProofs (disch := (first | assumption | omega | (simp only [ll1, ll2, ll3, ll4, ll5, ll6, ll7, ll8]; omega))) only [go_sem, hef, hm]) | refine acalls_same (hv _) ?_ | refine ⟨_, hv _, ?_⟩ | refine ⟨_, _, hv _, ?_⟩ | refine vcI (fun _ => ?_) (fun _ => ?_) | (refine vcA ?_ ?_; focus (repeat' (first | omega | assumption | refine vcA ?_ ?_); done)) | omega | refine imp_in (fun _ => ?_))
        exact done_weak le_val0 (done_cut (valAV t (zeroJ, blanks (f r').2.1, (f r').2.2)) (by rw [valAV_no he]; exact Le.refl _) low_val ⟨rfl, rfl⟩)
end Go.Proofs.YtplmbhjhihoneaaGreatDoor
end

section
set_option linter.unusedSimpArgs false
set_option linter.unusedVariables false
namespace Go.Proofs.YtplmbhjhihoneaaGreatDoor
open Go V
set_option maxRecDepth 10000
set_option maxHeartbeats 4000000
structure OS where
  r : bytes
  v : JV
def vObjs (H : List AObj) (v : JV) : List AObj := H ++ [.cells (.one 27) zCells, .cells (.one 27) zCells, .cells (.one 27) (jCells v)]
theorem vObjs_len (H : List AObj) (v : JV) : (vObjs H v).length = H.length + 3 := by simp [vObjs]
theorem low_jc {m : Nat} (v : JV) : ∀ z ∈ jCells v, Low m z := fun z hz => by
  have := low_jAV (m := m) v
  rw [jAV_eq] at this
  cases this with
  | agg _ h => exact h z hz
theorem vObjs_low (H : List AObj) (v v' : JV) : ∀ (k : Nat) (sh : Shape) (cs : List AV), (vObjs H v')[k]? = some (.cells sh cs) → (vObjs H v)[k]? = some (.cells sh cs) ∨ ∀ z ∈ cs, Low (H.length + 3) z :=
  obj_app fun o ho sh cs e => by
    simp only [List.mem_cons, List.not_mem_nil, or_false] at ho
    subst e
    rcases ho with h | h | h
    · cases h; exact low_z
    · cases h; exact low_z
    · cases h; exact low_jc v'
theorem name_q {v : JV} {r : bytes} (h : (quotedP (blanks r)).2.2 = 2) : (nameP v r).2.2 = 2 := by
  rw [nameP_eq, h]
  cases skipW [58] (blanks (quotedP (blanks r)).2.1) <;> simp
theorem name_t {v : JV} {r : bytes} (h : (quotedP (blanks r)).2.2 = 0) (k : (jget v (quotedP (blanks r)).1).isSome = true) : (nameP v r).2.2 = 6 := by
  rw [nameP_eq, h]
  cases skipW [58] (blanks (quotedP (blanks r)).2.1) <;> simp [k]
theorem name_no {v : JV} {r : bytes} (h : (quotedP (blanks r)).2.2 = 0) (k : (jget v (quotedP (blanks r)).1).isSome = false) (e : skipW [58] (blanks (quotedP (blanks r)).2.1) = none) : (nameP v r).2.2 = 2 := by
  rw [nameP_eq, h, e]
  simp [k]
theorem name_ok {v : JV} {r r4 : bytes} (h : (quotedP (blanks r)).2.2 = 0) (k : (jget v (quotedP (blanks r)).1).isSome = false) (e : skipW [58] (blanks (quotedP (blanks r)).2.1) = some r4) : nameP v r = ((quotedP (blanks r)).1, r4, 0) := by
  rw [nameP_eq, h, e]
  simp [k]
theorem put_obj {v : JV} (h : v.names.length = v.items.length) (hk : v.kind = 6 ∧ v.num = 0 ∧ v.text = []) (s : bytes) (x : JV) : jput v s x = ofP objJ (insP s x (prs v)) := by
  rw [jput_prs h, ofP, hk.1, hk.2.1, hk.2.2]
  rfl
theorem value_obj {t : bytes} (hl : t.length ≤ 10000) {f : bytes → JV × bytes × Int} {r : bytes} {a w : Int} {H : List AObj} (hw : 0 ≤ w ∧ w < 12) (hf : ∀ r, (f r).2.1 <:+ r) (hval : RefC f t (w + 1)) (ha : a = ((t.length - r.length : Nat) : Int)) (hs : r <:+ t) (hx : leafP (blanks r) = none) (h123 : peek (blanks r) = 123) :
    ACalls Tryz.prog 54 [.str t, .lit (.int .i64 a), .lit (.int .i64 w)] H (fun y H' => y = valAV t (treeP f 125 objJ ((blanks r).drop 1)) ∧ H' = H) := by
  subst ha
  have hs1 := suf_blanks hs
  have h1 := suf_len hs1
  have hb := fun H => blank_r (H := H) hs hl
  have hp := peek_any hs1
  have c0 := fun H => begins_r (H := H) (w := [110, 117, 108, 108]) hs1 hl (by decide)
  have c1 := fun H => begins_r (H := H) (w := [116, 114, 117, 101]) hs1 hl (by decide)
  have c2 := fun H => begins_r (H := H) (w := [102, 97, 108, 115, 101]) hs1 hl (by decide)
  have c3 := fun H => begins_r (H := H) (w := [34]) hs1 hl (by decide)
  have c4 := fun H => begins_r (H := H) (w := [91]) hs1 hl (by decide)
  have c5 := fun H => begins_r (H := H) (w := [123]) hs1 hl (by decide)
  rw [skip_peek (by decide)] at c3 c4 c5
  have hs2 := suf_drop_n hs1 1
  generalize blanks r = b at *
  rw [word_no (by decide) (by rw [h123]; decide)] at c0 c1 c2
  rw [if_neg (by rw [h123]; decide)] at c3 c4
  rw [if_pos h123] at c5
  have hpos := peek_pos (r := b) (by rw [h123]; decide)
  have p123 : ((peek b).toNat : Int) = 123 := by rw [h123]; rfl
  have flt : (((t.length - b.length : Nat) : Int) < ((t.length : Nat) : Int)) = True := eq_true (by omega)
  have hb2 := fun H => blank_I (H := H) (a := ((t.length - b.length : Nat) : Int) + 1) (r := b.drop 1) (by rw [List.length_drop]; omega) hs2 hl
  have hs3 := suf_blanks hs2
  have h3 := suf_len hs3
  have hp3 := peek_any hs3
  have hw12 : (12 ≤ w) = False := eq_false (by omega)
  unfold treeP
  generalize blanks (b.drop 1) = b2 at *
  rw [skip_peek (by decide)]
  by_cases c125 : peek b2 = 125
  · rw [if_pos c125]
    have p125 : ((peek b2).toNat : Int) = 125 := by rw [c125]; rfl
    have hpos2 := peek_pos (r := b2) (by rw [c125]; decide)
    have flt2 : (((t.length - b2.length : Nat) : Int) < ((t.length : Nat) : Int)) = True := eq_true (by omega)
    have e : AV.lit (.int .i64 (((t.length - b2.length : Nat) : Int) + 1)) = at_ t (b2.drop 1) := int_at (by rw [List.length_drop]; omega)
    refine acalls_vc L_ok mixed [] (rs := [.cell 6 27, .tmp 7, .tmp 8]) (n := 226) Tryz.func54 rfl rfl rfl rfl (Nat.le_of_ble_eq_true rfl) (by kernel_rfl) ?_
    repeat' (first | refine unhold ?_ | (simp -dsimp -implicitDefEqProofs (disch := (first | assumption | omega | (simp only [ll1, ll2, ll3, ll4, ll5, ll6, ll7, ll8]; omega))) only [go_sem, hp, hp3, p123, p125, flt, flt2, hw12]) | refine acalls_same (hb _) ?_ | refine ⟨_, hb _, ?_⟩ | refine ⟨_, _, hb _, ?_⟩ | refine acalls_same (c0 _) ?_ | refine ⟨_, c0 _, ?_⟩ | refine ⟨_, _, c0 _, ?_⟩ | refine acalls_same (c1 _) ?_ | refine ⟨_, c1 _, ?_⟩ | refine ⟨_, _, c1 _, ?_⟩ | refine acalls_same (c2 _) ?_ | refine ⟨_, c2 _, ?_⟩ | refine ⟨_, _, c2 _, ?_⟩ | refine acalls_same (c3 _) ?_ | refine ⟨_, c3 _, ?_⟩ | refine ⟨_, _, c3 _, ?_⟩ | refine acalls_same (c4 _) ?_ | refine ⟨_, c4 _, ?_⟩ | refine ⟨_, _, c4 _, ?_⟩ | refine acalls_same (c5 _) ?_ | refine ⟨_, c5 _, ?_⟩ | refine ⟨_, _, c5 _, ?_⟩ | refine acalls_same (hb2 _) ?_ | refine ⟨_, hb2 _, ?_⟩ | refine ⟨_, _, hb2 _, ?_⟩ | refine vcI (fun _ => ?_) (fun _ => ?_) | (refine vcA ?_ ?_; focus (repeat' (first | omega | assumption | refine vcA ?_ ?_); done)) | omega | refine imp_in (fun _ => ?_))
    exact done_weak le_val0 (done_cut (valAV t (objJ, b2.drop 1, 0)) (by rw [valAV_ok, ← e]; exact Le.refl _) low_val ⟨rfl, rfl⟩)
  · rw [if_neg c125]
    have p125 : (((peek b2).toNat : Int) = 125) = False := eq_false (fun h => c125 (byte_eq (d := 125) h))
    show ACalls _ _ _ _ (fun y H' => y = valAV t (treeR f 125 objJ b2) ∧ H' = H)
    generalize hq : treeR f 125 objJ b2 = q
    have hb1 : 0 + b2.length ≤ t.length := by omega
    refine acalls_vc L_ok mixed [] (rs := [.cell 6 27, .tmp 7, .tmp 8]) (n := 226) Tryz.func54 rfl rfl rfl rfl (Nat.le_of_ble_eq_true rfl) (by kernel_rfl) ?_
    repeat' (first | refine unhold ?_ | (simp -dsimp -implicitDefEqProofs (disch := (first | assumption | omega | (simp only [ll1, ll2, ll3, ll4, ll5, ll6, ll7, ll8]; omega))) only [go_sem, hp, hp3, p123, p125, flt, hw12]) | refine acalls_same (hb _) ?_ | refine ⟨_, hb _, ?_⟩ | refine ⟨_, _, hb _, ?_⟩ | refine acalls_same (c0 _) ?_ | refine ⟨_, c0 _, ?_⟩ | refine ⟨_, _, c0 _, ?_⟩ | refine acalls_same (c1 _) ?_ | refine ⟨_, c1 _, ?_⟩ | refine ⟨_, _, c1 _, ?_⟩ | refine acalls_same (c2 _) ?_ | refine ⟨_, c2 _, ?_⟩ | refine ⟨_, _, c2 _, ?_⟩ | refine acalls_same (c3 _) ?_ | refine ⟨_, c3 _, ?_⟩ | refine ⟨_, _, c3 _, ?_⟩ | refine acalls_same (c4 _) ?_ | refine ⟨_, c4 _, ?_⟩ | refine ⟨_, _, c4 _, ?_⟩ | refine acalls_same (c5 _) ?_ | refine ⟨_, c5 _, ?_⟩ | refine ⟨_, _, c5 _, ?_⟩ | refine acalls_same (hb2 _) ?_ | refine ⟨_, hb2 _, ?_⟩ | refine ⟨_, _, hb2 _, ?_⟩ | refine vcI (fun _ => ?_) (fun _ => ?_) | (refine vcA ?_ ?_; focus (repeat' (first | omega | assumption | refine vcA ?_ ?_); done)) | omega | refine imp_in (fun _ => ?_))
    all_goals
      refine aw_leC (H.length + 2) (sh := .one 27) (cs := [.lit (.int .i64 6), .lit (.int .i64 0), .str [], .sl .full 0 [], .sl .full 0 []]) (cs' := jCells objJ) (by simp) (.cons (Le.refl _) (.cons (Le.refl _) (.cons (Le.refl _) (.cons (le_nil) (.cons (le_nil) .nil))))) ?_
      refine vc_loopk L_ok mixed [] [0, 2, 6, 9, 15, 16] (fun y : OS => y.r <:+ t ∧ y.v.names.length + y.r.length ≤ t.length ∧ objOk y.v ∧ (y.v.kind = 6 ∧ y.v.num = 0 ∧ y.v.text = []) ∧ treeR f 125 y.v y.r = q) (fun y => [(1, at_ t y.r)]) (fun y => vObjs H y.v) (fun y => y.r.length) (by kernel_rfl) ?_ ⟨b2, objJ⟩ ⟨hs3, hb1, ⟨rfl, rfl, Nat.zero_le _⟩, ⟨rfl, rfl, rfl⟩, hq⟩ env_ok (by simp [vObjs])
      rintro ⟨r', v⟩ ⟨hs', hnl, hok, hk, hq'⟩
      dsimp only at hs' hnl hok hk hq' ⊢
      rw [treeR_eq hf, if_pos hk.1] at hq'
      have hkc : (v.kind = 6) = True := eq_true hk.1
      have hl' := suf_len hs'
      have hb' := fun H => blank_r (H := H) hs' hl
      have hs4 := suf_blanks hs'
      have hq4 := fun H => quoted_r (H := H) hs4 hl
      have hn1 := hok.1
      unfold vObjs
      dsimp only [jCells, zCells]
      rcases (quoted_len (blanks r')).2 with he | ⟨he, _⟩
      · rw [quoAV, if_pos he] at hq4
        have hs5 := suf_quoted hs4
        have hneg : (((t.length - (quotedP (blanks r')).2.1.length : Nat) : Int) < 0) = False := eq_false (by omega)
        have cG := fun H => Get_r v (quotedP (blanks r')).1 H (by omega) (by omega)
        cases hj : (jget v (quotedP (blanks r')).1).isSome with
        | true =>
          have h6 := name_t (v := v) he hj
          rw [if_pos (by rw [h6]; decide), h6] at hq'
          subst hq'
          repeat' (first | refine unhold ?_ | (simp -dsimp -implicitDefEqProofs (disch := (first | assumption | omega | (simp only [ll1, ll2, ll3, ll4, ll5, ll6, ll7, ll8]; omega))) only [go_sem, hkc, hneg, getAV, hj]) | refine acalls_same (hb' _) ?_ | refine ⟨_, hb' _, ?_⟩ | refine ⟨_, _, hb' _, ?_⟩ | refine acalls_same (hq4 _) ?_ | refine ⟨_, hq4 _, ?_⟩ | refine ⟨_, _, hq4 _, ?_⟩ | refine acalls_same (cG _) ?_ | refine ⟨_, cG _, ?_⟩ | refine ⟨_, _, cG _, ?_⟩ | refine vcI (fun _ => ?_) (fun _ => ?_) | (refine vcA ?_ ?_; focus (repeat' (first | omega | assumption | refine vcA ?_ ?_); done)) | omega | refine imp_in (fun _ => ?_))
          exact done_weak le_val0 (done_cut (valAV t (zeroJ, (nameP v r').2.1, 6)) (Le.refl _) low_val ⟨rfl, rfl⟩)
        | false =>
          have hz : (jget v (quotedP (blanks r')).1).getD zeroJ = zeroJ := by
            cases e : jget v (quotedP (blanks r')).1 with
            | none => rfl
            | some x => rw [e] at hj; cases hj
          have hb6 := fun H => blank_r (H := H) hs5 hl
          have hs6 := suf_blanks hs5
          have c58 := fun H => begins_r (H := H) (w := [58]) hs6 hl (by decide)
          cases hk4 : skipW [58] (blanks (quotedP (blanks r')).2.1) with
          | none =>
            have h2 := name_no (v := v) he hj hk4
            rw [if_pos (by rw [h2]; decide), h2] at hq'
            subst hq'
            rw [hk4] at c58
            repeat' (first | refine unhold ?_ | (simp -dsimp -implicitDefEqProofs (disch := (first | assumption | omega | (simp only [ll1, ll2, ll3, ll4, ll5, ll6, ll7, ll8]; omega))) only [go_sem, hkc, hneg, getAV, hj, hz]) | refine acalls_same (hb' _) ?_ | refine ⟨_, hb' _, ?_⟩ | refine ⟨_, _, hb' _, ?_⟩ | refine acalls_same (hq4 _) ?_ | refine ⟨_, hq4 _, ?_⟩ | refine ⟨_, _, hq4 _, ?_⟩ | refine acalls_same (cG _) ?_ | refine ⟨_, cG _, ?_⟩ | refine ⟨_, _, cG _, ?_⟩ | refine acalls_same (hb6 _) ?_ | refine ⟨_, hb6 _, ?_⟩ | refine ⟨_, _, hb6 _, ?_⟩ | refine acalls_same (c58 _) ?_ | refine ⟨_, c58 _, ?_⟩ | refine ⟨_, _, c58 _, ?_⟩ | refine vcI (fun _ => ?_) (fun _ => ?_) | (refine vcA ?_ ?_; focus (repeat' (first | omega | assumption | refine vcA ?_ ?_); done)) | omega | refine imp_in (fun _ => ?_))
            exact done_weak le_val0 (done_cut (valAV t (zeroJ, (nameP v r').2.1, 2)) (Le.refl _) low_val ⟨rfl, rfl⟩)
          | some r4 =>
            have hnm := name_ok (v := v) he hj hk4
            rw [hk4] at c58
            rw [hnm] at hq'
            rw [if_neg (by simp)] at hq'
            dsimp only at hq'
            have hs7 := suf_skip hs6 hk4
            have h7 := skip_len hk4
            have h6l := (suf_blanks (List.suffix_refl (quotedP (blanks r')).2.1)).length_le
            have h5l := (quoted_len (blanks r')).1.length_le
            have h4l := (suf_blanks (List.suffix_refl r')).length_le
            simp only [List.length_cons, List.length_nil] at h7
            have hl7 := suf_len hs7
            have hv := fun H => hval r4 (((t.length - (blanks (quotedP (blanks r')).2.1).length : Nat) : Int) + 1) H (by omega) hs7
            generalize (quotedP (blanks r')).1 = s at *
            have hs8 := (hf r4).trans hs7
            have hl8 := (hf r4).length_le
            by_cases hfe : (f r4).2.2 = 0
            · rw [valAV, if_pos hfe] at hv
              rw [hfe] at hq'
              have hput := fun H => put_r v s (f r4).1 H hok
              rw [put_obj hok.1 hk, treeEnd, if_neg (by simp), skip_peek (by decide), skip_peek (by decide)] at hq'
              have hb9 := fun H => blank_r (H := H) hs8 hl
              have hs9 := suf_blanks hs8
              have hl9 := (suf_blanks (List.suffix_refl (f r4).2.1)).length_le
              have c44 := fun H => begins_r (H := H) (w := [44]) hs9 hl (by decide)
              rw [skip_peek (by decide)] at c44
              have hput_ok := put_ok (x := (f r4).1) (s := s) hok (by omega)
              rw [put_obj hok.1 hk] at hput_ok
              generalize (f r4).1 = x at *
              generalize blanks (f r4).2.1 = b9 at *
              have hp9 := peek_any hs9
              have h9 := suf_len hs9
              have hkk : (ofP objJ (insP s x (prs v))).kind = 6 ∧ (ofP objJ (insP s x (prs v))).num = 0 ∧ (ofP objJ (insP s x (prs v))).text = [] := ⟨rfl, rfl, rfl⟩
              generalize ofP objJ (insP s x (prs v)) = v2 at *
              by_cases d125 : peek b9 = 125
              · rw [if_pos d125] at hq'
                simp only at hq'
                subst hq'
                have q125 : ((peek b9).toNat : Int) = 125 := by rw [d125]; rfl
                have hpos9 := peek_pos (r := b9) (by rw [d125]; decide)
                have flt9 : (((t.length - b9.length : Nat) : Int) < ((t.length : Nat) : Int)) = True := eq_true (by omega)
                have e9 : AV.lit (.int .i64 (((t.length - b9.length : Nat) : Int) + 1)) = at_ t (b9.drop 1) := int_at (by rw [List.length_drop]; omega)
                repeat' (first | refine unhold ?_ | (simp -dsimp -implicitDefEqProofs (disch := (first | assumption | omega | (simp only [ll1, ll2, ll3, ll4, ll5, ll6, ll7, ll8]; omega))) only [go_sem, hkc, hneg, getAV, hj, hz, hp9, q125, flt9]) | refine acalls_same (hb' _) ?_ | refine ⟨_, hb' _, ?_⟩ | refine ⟨_, _, hb' _, ?_⟩ | refine acalls_same (hq4 _) ?_ | refine ⟨_, hq4 _, ?_⟩ | refine ⟨_, _, hq4 _, ?_⟩ | refine acalls_same (cG _) ?_ | refine ⟨_, cG _, ?_⟩ | refine ⟨_, _, cG _, ?_⟩ | refine acalls_same (hb6 _) ?_ | refine ⟨_, hb6 _, ?_⟩ | refine ⟨_, _, hb6 _, ?_⟩ | refine acalls_same (c58 _) ?_ | refine ⟨_, c58 _, ?_⟩ | refine ⟨_, _, c58 _, ?_⟩ | refine acalls_same (hv _) ?_ | refine ⟨_, hv _, ?_⟩ | refine ⟨_, _, hv _, ?_⟩ | refine acalls_same (hput _) ?_ | refine ⟨_, hput _, ?_⟩ | refine ⟨_, _, hput _, ?_⟩ | refine acalls_same (hb9 _) ?_ | refine ⟨_, hb9 _, ?_⟩ | refine ⟨_, _, hb9 _, ?_⟩ | refine vcI (fun _ => ?_) (fun _ => ?_) | (refine vcA ?_ ?_; focus (repeat' (first | omega | assumption | refine vcA ?_ ?_); done)) | omega | refine imp_in (fun _ => ?_))
                exact done_cut (valAV t (v2, b9.drop 1, 0)) (by rw [valAV_ok, ← e9]; exact Le.refl _) low_val ⟨rfl, rfl⟩
              · rw [if_neg d125] at hq'
                have q125 : (((peek b9).toNat : Int) = 125) = False := eq_false (fun h => d125 (byte_eq (d := 125) h))
                by_cases d44 : peek b9 = 44
                · rw [if_pos d44] at hq' c44
                  have hpos9 := peek_pos (r := b9) (by rw [d44]; decide)
                  have flt9 : (((t.length - b9.length : Nat) : Int) < ((t.length : Nat) : Int)) = True := eq_true (by omega)
                  have e9 : ((t.length - b9.length : Nat) : Int) + 1 = ((t.length - (b9.length - 1) : Nat) : Int) := by omega
                  have hs10 := suf_drop_n hs9 1
                  have h10 : (b9.drop 1).length = b9.length - 1 := List.length_drop
                  simp only at hq'
                  repeat' (first | refine unhold ?_ | (simp -dsimp -implicitDefEqProofs (disch := (first | assumption | omega | (simp only [ll1, ll2, ll3, ll4, ll5, ll6, ll7, ll8]; omega))) only [go_sem, hkc, hneg, getAV, hj, hz, hp9, q125, flt9, e9]) | refine acalls_same (hb' _) ?_ | refine ⟨_, hb' _, ?_⟩ | refine ⟨_, _, hb' _, ?_⟩ | refine acalls_same (hq4 _) ?_ | refine ⟨_, hq4 _, ?_⟩ | refine ⟨_, _, hq4 _, ?_⟩ | refine acalls_same (cG _) ?_ | refine ⟨_, cG _, ?_⟩ | refine ⟨_, _, cG _, ?_⟩ | refine acalls_same (hb6 _) ?_ | refine ⟨_, hb6 _, ?_⟩ | refine ⟨_, _, hb6 _, ?_⟩ | refine acalls_same (c58 _) ?_ | refine ⟨_, c58 _, ?_⟩ | refine ⟨_, _, c58 _, ?_⟩ | refine acalls_same (hv _) ?_ | refine ⟨_, hv _, ?_⟩ | refine ⟨_, _, hv _, ?_⟩ | refine acalls_same (hput _) ?_ | refine ⟨_, hput _, ?_⟩ | refine ⟨_, _, hput _, ?_⟩ | refine acalls_same (hb9 _) ?_ | refine ⟨_, hb9 _, ?_⟩ | refine ⟨_, _, hb9 _, ?_⟩ | refine acalls_same (c44 _) ?_ | refine ⟨_, c44 _, ?_⟩ | refine ⟨_, _, c44 _, ?_⟩ | refine vcI (fun _ => ?_) (fun _ => ?_) | (refine vcA ?_ ?_; focus (repeat' (first | omega | assumption | refine vcA ?_ ?_); done)) | omega | refine imp_in (fun _ => ?_))
                  simp only [← h10]
                  refine again_drop (H.length + 3) ([.cells (.one 27) (jCells zeroJ), .cells (.one 27) (jCells x)]) (⟨b9.drop 1, v2⟩) ?_ ?_ ?_ ?_ ?_ (by repeat (first | exact envLow_nil | (refine envLow_cons ?_ ?_; focus (first | (first | exact .lit _ | exact .str _ | exact .any | exact low_bytes | exact low_runes | exact .mp _ _ (by omega) | exact .msl _ _ _ _ (by omega) | exact low_nilsl (fun k e => by cases e) | exact low_jAV _ | exact low_jsl | exact low_ssl | exact low_fn0 | exact low_ipJ _) | (refine low_tup ?_; repeat (first | exact lowAll_nil | (refine lowAll_cons ?_ ?_; focus (first | exact .lit _ | exact .str _ | exact .any | exact low_bytes | exact low_runes | exact .mp _ _ (by omega) | exact .msl _ _ _ _ (by omega) | exact low_nilsl (fun k e => by cases e) | exact low_jAV _ | exact low_jsl | exact low_ssl | exact low_fn0 | exact low_ipJ _)))) | (refine low_agg ?_; repeat (first | exact lowAll_nil | (refine lowAll_cons ?_ ?_; focus (first | exact .lit _ | exact .str _ | exact .any | exact low_bytes | exact low_runes | exact .mp _ _ (by omega) | exact .msl _ _ _ _ (by omega) | exact low_nilsl (fun k e => by cases e) | exact low_jAV _ | exact low_jsl | exact low_ssl | exact low_fn0 | exact low_ipJ _)))))))) ?_ env_ok
                  · dsimp only; omega
                  · exact ⟨hs10, by dsimp only; omega, hput_ok.1, hkk, hq'⟩
                  · simp
                  · exact vObjs_len H _
                  · exact Nat.le_of_eq (vObjs_len H _)
                  · exact vObjs_low H v v2
                · rw [if_neg d44] at hq' c44
                  simp only at hq'
                  subst hq'
                  repeat' (first | refine unhold ?_ | (simp -dsimp -implicitDefEqProofs (disch := (first | assumption | omega | (simp only [ll1, ll2, ll3, ll4, ll5, ll6, ll7, ll8]; omega))) only [go_sem, hkc, hneg, getAV, hj, hz, hp9, q125]) | refine acalls_same (hb' _) ?_ | refine ⟨_, hb' _, ?_⟩ | refine ⟨_, _, hb' _, ?_⟩ | refine acalls_same (hq4 _) ?_ | refine ⟨_, hq4 _, ?_⟩ | refine ⟨_, _, hq4 _, ?_⟩ | refine acalls_same (cG _) ?_ | refine ⟨_, cG _, ?_⟩ | refine ⟨_, _, cG _, ?_⟩ | refine acalls_same (hb6 _) ?_ | refine ⟨_, hb6 _, ?_⟩ | refine ⟨_, _, hb6 _, ?_⟩ | refine acalls_same (c58 _) ?_ | refine ⟨_, c58 _, ?_⟩ | refine ⟨_, _, c58 _, ?_⟩ | refine acalls_same (hv _) ?_ | refine ⟨_, hv _, ?_⟩ | refine ⟨_, _, hv _, ?_⟩ | refine acalls_same (hput _) ?_ | refine ⟨_, hput _, ?_⟩ | refine ⟨_, _, hput _, ?_⟩ | refine acalls_same (hb9 _) ?_ | refine ⟨_, hb9 _, ?_⟩ | refine ⟨_, _, hb9 _, ?_⟩ | refine acalls_same (c44 _) ?_ | refine ⟨_, c44 _, ?_⟩ | refine ⟨_, _, c44 _, ?_⟩ | refine vcI (fun _ => ?_) (fun _ => ?_) | (refine vcA ?_ ?_; focus (repeat' (first | omega | assumption | refine vcA ?_ ?_); done)) | omega | refine imp_in (fun _ => ?_))
                  all_goals exact done_weak le_val0 (done_cut (valAV t (zeroJ, b9, 2)) (Le.refl _) low_val ⟨rfl, rfl⟩)
            · rw [valAV, if_neg hfe] at hv
              have hqq : q = (zeroJ, blanks (f r4).2.1, (f r4).2.2) := by rw [← hq', treeEnd, if_pos hfe]
              subst hqq
              have hef : ((f r4).2.2 = 0) = False := eq_false hfe
              repeat' (first | refine unhold ?_ | (simp -dsimp -implicitDefEqProofs (disch := (first | assumption | omega | (simp only [ll1, ll2, ll3, ll4, ll5, ll6, ll7, ll8]; omega))) only [go_sem, hkc, hneg, getAV, hj, hz, hef]) | refine acalls_same (hb' _) ?_ | refine ⟨_, hb' _, ?_⟩ | refine ⟨_, _, hb' _, ?_⟩ | refine acalls_same (hq4 _) ?_ | refine ⟨_, hq4 _, ?_⟩ | refine ⟨_, _, hq4 _, ?_⟩ | refine acalls_same (cG _) ?_ | refine ⟨_, cG _, ?_⟩ | refine ⟨_, _, cG _, ?_⟩ | refine acalls_same (hb6 _) ?_ | refine ⟨_, hb6 _, ?_⟩ | refine ⟨_, _, hb6 _, ?_⟩ | refine acalls_same (c58 _) ?_ | refine ⟨_, c58 _, ?_⟩ | refine ⟨_, _, c58 _, ?_⟩ | refine acalls_same (hv _) ?_ | refine ⟨_, hv _, ?_⟩ | refine ⟨_, _, hv _, ?_⟩ | refine vcI (fun _ => ?_) (fun _ => ?_) | (refine vcA ?_ ?_; focus (repeat' (first | omega | assumption | refine vcA ?_ ?_); done)) | omega | refine imp_in (fun _ => ?_))
              exact done_weak le_val0 (done_cut (valAV t (zeroJ, blanks (f r4).2.1, (f r4).2.2)) (by rw [valAV_no hfe]; exact Le.refl _) low_val ⟨rfl, rfl⟩)
      · rw [quoAV, if_neg (by rw [he]; decide)] at hq4
        have h2 := name_q (v := v) he
        rw [if_pos (by rw [h2]; decide), h2] at hq'
        subst hq'
        repeat' (first | refine unhold ?_ | (simp -dsimp -implicitDefEqProofs (disch := (first | assumption | omega | (simp only [ll1, ll2, ll3, ll4, ll5, ll6, ll7, ll8]; omega))) only [go_sem, hkc]) | refine acalls_same (hb' _) ?_ | refine ⟨_, hb' _, ?_⟩ | refine ⟨_, _, hb' _, ?_⟩ | refine acalls_same (hq4 _) ?_ | refine ⟨_, hq4 _, ?_⟩ | refine ⟨_, _, hq4 _, ?_⟩ | refine vcI (fun _ => ?_) (fun _ => ?_) | (refine vcA ?_ ?_; focus (repeat' (first | omega | assumption | refine vcA ?_ ?_); done)) | omega | refine imp_in (fun _ => ?_))
        exact done_weak le_val0 (done_cut (valAV t (zeroJ, (nameP v r').2.1, 2)) (Le.refl _) low_val ⟨rfl, rfl⟩)
end Go.Proofs.YtplmbhjhihoneaaGreatDoor
end

section
set_option linter.unusedSimpArgs false
set_option linter.unusedVariables false
namespace Go.Proofs.YtplmbhjhihoneaaGreatDoor
open Go V
set_option maxRecDepth 10000
set_option maxHeartbeats 4000000
theorem rvalue_deep {t : bytes} (hl : t.length ≤ 10000) {r : bytes} {a w : Int} {H : List AObj} (hw : 12 ≤ w) (ha : a = ((t.length - r.length : Nat) : Int)) (hs : r <:+ t) (hb91 : peek (blanks r) = 91 ∨ peek (blanks r) = 123) :
    ACalls Tryz.prog 54 [.str t, .lit (.int .i64 a), .lit (.int .i64 w)] H (fun y H' => y = valAV t (zeroJ, blanks r, 4) ∧ H' = H) := by
  subst ha
  have hs1 := suf_blanks hs
  have h1 := suf_len hs1
  have hb := fun H => blank_r (H := H) hs hl
  have hp := peek_any hs1
  have c0 := fun H => begins_r (H := H) (w := [110, 117, 108, 108]) hs1 hl (by decide)
  have c1 := fun H => begins_r (H := H) (w := [116, 114, 117, 101]) hs1 hl (by decide)
  have c2 := fun H => begins_r (H := H) (w := [102, 97, 108, 115, 101]) hs1 hl (by decide)
  have c3 := fun H => begins_r (H := H) (w := [34]) hs1 hl (by decide)
  have c4 := fun H => begins_r (H := H) (w := [91]) hs1 hl (by decide)
  have c5 := fun H => begins_r (H := H) (w := [123]) hs1 hl (by decide)
  rw [skip_peek (by decide)] at c3 c4 c5
  generalize blanks r = b at *
  have hpos := peek_pos (r := b) (by rcases hb91 with h | h <;> rw [h] <;> decide)
  have flt : (((t.length - b.length : Nat) : Int) < ((t.length : Nat) : Int)) = True := eq_true (by omega)
  have hw12 : (12 ≤ w) = True := eq_true hw
  rcases hb91 with h | h
  · rw [word_no (by decide) (by rw [h]; decide)] at c0 c1 c2
    rw [if_neg (by rw [h]; decide)] at c3 c5
    rw [if_pos h] at c4
    have pk : ((peek b).toNat : Int) = 91 := by rw [h]; rfl
    refine acalls_vc L_ok mixed [] (rs := [.cell 6 27, .tmp 7, .tmp 8]) (n := 226) Tryz.func54 rfl rfl rfl rfl (Nat.le_of_ble_eq_true rfl) (by kernel_rfl) ?_
    repeat' (first | refine unhold ?_ | (simp -dsimp -implicitDefEqProofs (disch := (first | assumption | omega | (simp only [ll1, ll2, ll3, ll4, ll5, ll6, ll7, ll8]; omega))) only [go_sem, hp, pk, flt, hw12]) | refine acalls_same (hb _) ?_ | refine ⟨_, hb _, ?_⟩ | refine ⟨_, _, hb _, ?_⟩ | refine acalls_same (c0 _) ?_ | refine ⟨_, c0 _, ?_⟩ | refine ⟨_, _, c0 _, ?_⟩ | refine acalls_same (c1 _) ?_ | refine ⟨_, c1 _, ?_⟩ | refine ⟨_, _, c1 _, ?_⟩ | refine acalls_same (c2 _) ?_ | refine ⟨_, c2 _, ?_⟩ | refine ⟨_, _, c2 _, ?_⟩ | refine acalls_same (c3 _) ?_ | refine ⟨_, c3 _, ?_⟩ | refine ⟨_, _, c3 _, ?_⟩ | refine acalls_same (c4 _) ?_ | refine ⟨_, c4 _, ?_⟩ | refine ⟨_, _, c4 _, ?_⟩ | refine vcI (fun _ => ?_) (fun _ => ?_) | (refine vcA ?_ ?_; focus (repeat' (first | omega | assumption | refine vcA ?_ ?_); done)) | omega | refine imp_in (fun _ => ?_))
    exact done_weak le_val0 (done_cut (valAV t (zeroJ, b, 4)) (Le.refl _) low_val ⟨rfl, rfl⟩)
  · rw [word_no (by decide) (by rw [h]; decide)] at c0 c1 c2
    rw [if_neg (by rw [h]; decide)] at c3 c4
    rw [if_pos h] at c5
    have pk : ((peek b).toNat : Int) = 123 := by rw [h]; rfl
    refine acalls_vc L_ok mixed [] (rs := [.cell 6 27, .tmp 7, .tmp 8]) (n := 226) Tryz.func54 rfl rfl rfl rfl (Nat.le_of_ble_eq_true rfl) (by kernel_rfl) ?_
    repeat' (first | refine unhold ?_ | (simp -dsimp -implicitDefEqProofs (disch := (first | assumption | omega | (simp only [ll1, ll2, ll3, ll4, ll5, ll6, ll7, ll8]; omega))) only [go_sem, hp, pk, flt, hw12]) | refine acalls_same (hb _) ?_ | refine ⟨_, hb _, ?_⟩ | refine ⟨_, _, hb _, ?_⟩ | refine acalls_same (c0 _) ?_ | refine ⟨_, c0 _, ?_⟩ | refine ⟨_, _, c0 _, ?_⟩ | refine acalls_same (c1 _) ?_ | refine ⟨_, c1 _, ?_⟩ | refine ⟨_, _, c1 _, ?_⟩ | refine acalls_same (c2 _) ?_ | refine ⟨_, c2 _, ?_⟩ | refine ⟨_, _, c2 _, ?_⟩ | refine acalls_same (c3 _) ?_ | refine ⟨_, c3 _, ?_⟩ | refine ⟨_, _, c3 _, ?_⟩ | refine acalls_same (c4 _) ?_ | refine ⟨_, c4 _, ?_⟩ | refine ⟨_, _, c4 _, ?_⟩ | refine acalls_same (c5 _) ?_ | refine ⟨_, c5 _, ?_⟩ | refine ⟨_, _, c5 _, ?_⟩ | refine vcI (fun _ => ?_) (fun _ => ?_) | (refine vcA ?_ ?_; focus (repeat' (first | omega | assumption | refine vcA ?_ ?_); done)) | omega | refine imp_in (fun _ => ?_))
    exact done_weak le_val0 (done_cut (valAV t (zeroJ, b, 4)) (Le.refl _) low_val ⟨rfl, rfl⟩)
theorem value_r {t : bytes} (hl : t.length ≤ 10000) : ∀ (n : Nat) (w : Int), n ≤ 12 → w = 12 - (n : Int) → RefC (valueP n) t w
  | 0, w, hn, hw => fun r a H ha hs => by
    rw [show valueP 0 r = (leafP (blanks r)).getD (zeroJ, blanks r, 4) by rw [valueP]]
    cases e : leafP (blanks r) with
    | some x => exact rvalue_leaf hl ha hs e
    | none => exact rvalue_deep hl (by omega) ha hs (leaf_none e)
  | n + 1, w, hn, hw => fun r a H ha hs => by
    rw [show valueP (n + 1) r = (leafP (blanks r)).getD (if peek (blanks r) = 91 then treeP (valueP n) 93 listJ ((blanks r).drop 1) else treeP (valueP n) 125 objJ ((blanks r).drop 1)) by rw [valueP]]
    have ih := value_r hl n (w + 1) (by omega) (by omega)
    cases e : leafP (blanks r) with
    | some x => exact rvalue_leaf hl ha hs e
    | none =>
      rw [Option.getD_none]
      rcases leaf_none e with h | h
      · rw [if_pos h]
        exact value_list hl (by omega) (suf_value n) ih ha hs e h
      · rw [if_neg (by rw [h]; decide)]
        exact value_obj hl (by omega) (suf_value n) ih ha hs e h
theorem Parse_r (s : bytes) (H : List AObj) (hl : s.length ≤ 10000) : ACalls Tryz.prog 21 [.str s] H (fun x H' => x = parseAV (parseP s) ∧ H' = H) := by
  unfold parseP
  by_cases c1 : 8192 < s.length
  · rw [if_pos c1]
    refine acalls_vc L_ok mixed [] (rs := [.cell 2 27, .tmp 3]) (n := 34) Tryz.func21 rfl rfl rfl rfl (Nat.le_of_ble_eq_true rfl) (by kernel_rfl) ?_
    repeat' (first | refine unhold ?_ | (simp -dsimp -implicitDefEqProofs (disch := (first | assumption | omega | (simp only [ll1, ll2, ll3, ll4, ll5, ll6, ll7, ll8]; omega))) only [go_sem]) | refine vcI (fun _ => ?_) (fun _ => ?_) | (refine vcA ?_ ?_; focus (repeat' (first | omega | assumption | refine vcA ?_ ?_); done)) | omega | refine imp_in (fun _ => ?_))
    exact done_weak (le_pair le_zero) (done_cut (parseAV (zeroJ, 3)) (Le.refl _) low_parse ⟨rfl, rfl⟩)
  · rw [if_neg c1]
    cases c2 : Lib.validD s with
    | false =>
      rw [if_pos rfl]
      refine acalls_vc L_ok mixed [] (rs := [.cell 2 27, .tmp 3]) (n := 34) Tryz.func21 rfl rfl rfl rfl (Nat.le_of_ble_eq_true rfl) (by kernel_rfl) ?_
      repeat' (first | refine unhold ?_ | (simp -dsimp -implicitDefEqProofs (disch := (first | assumption | omega | (simp only [ll1, ll2, ll3, ll4, ll5, ll6, ll7, ll8]; omega))) only [go_sem, c2]) | refine acalls_same (Right_r s _ hl) ?_ | refine ⟨_, Right_r s _ hl, ?_⟩ | refine ⟨_, _, Right_r s _ hl, ?_⟩ | refine vcI (fun _ => ?_) (fun _ => ?_) | (refine vcA ?_ ?_; focus (repeat' (first | omega | assumption | refine vcA ?_ ?_); done)) | omega | refine imp_in (fun _ => ?_))
      exact done_weak (le_pair le_zero) (done_cut (parseAV (zeroJ, 2)) (Le.refl _) low_parse ⟨rfl, rfl⟩)
    | true =>
      rw [if_neg (by simp)]
      have hv := fun H => value_r hl 12 0 (by omega) (by omega) s 0 H (by omega) (List.suffix_refl s)
      have hs1 := suf_value 12 s
      generalize valueP 12 s = q at *
      by_cases he : q.2.2 = 0
      · rw [valAV, if_pos he] at hv
        rw [if_neg (by simpa using he)]
        have hb := fun H => blank_r (H := H) hs1 hl
        have hs2 := suf_blanks hs1
        have h2 := suf_len hs2
        generalize blanks q.2.1 = b at *
        by_cases hbn : b = []
        · subst hbn
          rw [if_neg (by simp)]
          refine acalls_vc L_ok mixed [] (rs := [.cell 2 27, .tmp 3]) (n := 34) Tryz.func21 rfl rfl rfl rfl (Nat.le_of_ble_eq_true rfl) (by kernel_rfl) ?_
          repeat' (first | refine unhold ?_ | (simp -dsimp -implicitDefEqProofs (disch := (first | assumption | omega | (simp only [ll1, ll2, ll3, ll4, ll5, ll6, ll7, ll8]; omega))) only [go_sem, c2]) | refine acalls_same (Right_r s _ hl) ?_ | refine ⟨_, Right_r s _ hl, ?_⟩ | refine ⟨_, _, Right_r s _ hl, ?_⟩ | refine acalls_same (hv _) ?_ | refine ⟨_, hv _, ?_⟩ | refine ⟨_, _, hv _, ?_⟩ | refine acalls_same (hb _) ?_ | refine ⟨_, hb _, ?_⟩ | refine ⟨_, _, hb _, ?_⟩ | refine vcI (fun _ => ?_) (fun _ => ?_) | (refine vcA ?_ ?_; focus (repeat' (first | omega | assumption | refine vcA ?_ ?_); done)) | omega | refine imp_in (fun _ => ?_))
          exact done_cut (parseAV (q.1, 0)) (Le.refl _) low_parse ⟨rfl, rfl⟩
        · rw [if_pos (by simpa using hbn)]
          have hpos := List.length_pos_iff.2 hbn
          have hne : (((s.length - b.length : Nat) : Int) = ((s.length : Nat) : Int)) = False := eq_false (by omega)
          refine acalls_vc L_ok mixed [] (rs := [.cell 2 27, .tmp 3]) (n := 34) Tryz.func21 rfl rfl rfl rfl (Nat.le_of_ble_eq_true rfl) (by kernel_rfl) ?_
          repeat' (first | refine unhold ?_ | (simp -dsimp -implicitDefEqProofs (disch := (first | assumption | omega | (simp only [ll1, ll2, ll3, ll4, ll5, ll6, ll7, ll8]; omega))) only [go_sem, c2, hne]) | refine acalls_same (Right_r s _ hl) ?_ | refine ⟨_, Right_r s _ hl, ?_⟩ | refine ⟨_, _, Right_r s _ hl, ?_⟩ | refine acalls_same (hv _) ?_ | refine ⟨_, hv _, ?_⟩ | refine ⟨_, _, hv _, ?_⟩ | refine acalls_same (hb _) ?_ | refine ⟨_, hb _, ?_⟩ | refine ⟨_, _, hb _, ?_⟩ | refine vcI (fun _ => ?_) (fun _ => ?_) | (refine vcA ?_ ?_; focus (repeat' (first | omega | assumption | refine vcA ?_ ?_); done)) | omega | refine imp_in (fun _ => ?_))
          exact done_weak (le_pair le_zero) (done_cut (parseAV (zeroJ, 2)) (Le.refl _) low_parse ⟨rfl, rfl⟩)
      · rw [valAV, if_neg he] at hv
        rw [if_pos (by simpa using he)]
        have hef : (q.2.2 = 0) = False := eq_false he
        refine acalls_vc L_ok mixed [] (rs := [.cell 2 27, .tmp 3]) (n := 34) Tryz.func21 rfl rfl rfl rfl (Nat.le_of_ble_eq_true rfl) (by kernel_rfl) ?_
        repeat' (first | refine unhold ?_ | (simp -dsimp -implicitDefEqProofs (disch := (first | assumption | omega | (simp only [ll1, ll2, ll3, ll4, ll5, ll6, ll7, ll8]; omega))) only [go_sem, c2, hef]) | refine acalls_same (Right_r s _ hl) ?_ | refine ⟨_, Right_r s _ hl, ?_⟩ | refine ⟨_, _, Right_r s _ hl, ?_⟩ | refine acalls_same (hv _) ?_ | refine ⟨_, hv _, ?_⟩ | refine ⟨_, _, hv _, ?_⟩ | refine vcI (fun _ => ?_) (fun _ => ?_) | (refine vcA ?_ ?_; focus (repeat' (first | omega | assumption | refine vcA ?_ ?_); done)) | omega | refine imp_in (fun _ => ?_))
        exact done_weak (le_pair le_zero) (done_cut (parseAV (zeroJ, q.2.2)) (Le.refl _) low_parse ⟨rfl, rfl⟩)
end Go.Proofs.YtplmbhjhihoneaaGreatDoor
end
