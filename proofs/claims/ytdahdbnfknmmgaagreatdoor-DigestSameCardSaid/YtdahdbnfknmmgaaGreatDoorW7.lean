/- Sums of trees, and redaction: plain functions. No program in sight. -/
import Derived.Test.YtdahdbnfknmmgaaGreatDoorW6
import Derived.Test.YtdahdbnfknmmgaaGreatDoorW4
import Derived.Test.YtdahdbnfknmmgaaGreatDoorW3
import Derived.RangeFuncIn
import Derived.RangeFuncLeaves
import Derived.Test.YtdahdbnfknmmgaaGreatDoorW5
section
set_option linter.unusedSimpArgs false
set_option linter.unusedVariables false
namespace Go.Proofs.YtdahdbnfknmmgaaGreatDoor
open Go V
set_option maxRecDepth 10000
def nHashes : bytes := [104, 97, 115, 104, 101, 115]
def nSigs : bytes := [115, 105, 103, 110, 97, 116, 117, 114, 101, 115]
def nUns : bytes := [117, 110, 115, 105, 103, 110, 101, 100]
def nContent : bytes := [99, 111, 110, 116, 101, 110, 116]
def nType : bytes := [116, 121, 112, 101]
def nSha : bytes := [115, 104, 97, 50, 53, 54]
def outerN : List bytes := [[97, 117, 116, 104, 95, 101, 118, 101, 110, 116, 115], [99, 111, 110, 116, 101, 110, 116], [100, 101, 112, 116, 104], [104, 97, 115, 104, 101, 115], [111, 114, 105, 103, 105, 110, 95, 115, 101, 114, 118, 101, 114, 95, 116, 115], [112, 114, 101, 118, 95, 101, 118, 101, 110, 116, 115], [114, 111, 111, 109, 95, 105, 100], [115, 101, 110, 100, 101, 114], [115, 105, 103, 110, 97, 116, 117, 114, 101, 115], [115, 116, 97, 116, 101, 95, 107, 101, 121], [116, 121, 112, 101]]
def innerN (k : bytes) : List bytes :=
  if k = [109, 46, 114, 111, 111, 109, 46, 99, 114, 101, 97, 116, 101] then [[99, 114, 101, 97, 116, 111, 114]]
  else if k = [109, 46, 114, 111, 111, 109, 46, 109, 101, 109, 98, 101, 114] then [[109, 101, 109, 98, 101, 114, 115, 104, 105, 112]]
  else if k = [109, 46, 114, 111, 111, 109, 46, 106, 111, 105, 110, 95, 114, 117, 108, 101, 115] then [[106, 111, 105, 110, 95, 114, 117, 108, 101]]
  else if k = [109, 46, 114, 111, 111, 109, 46, 112, 111, 119, 101, 114, 95, 108, 101, 118, 101, 108, 115] then [[98, 97, 110], [101, 118, 101, 110, 116, 115], [101, 118, 101, 110, 116, 115, 95, 100, 101, 102, 97, 117, 108, 116], [105, 110, 118, 105, 116, 101], [107, 105, 99, 107], [114, 101, 100, 97, 99, 116], [115, 116, 97, 116, 101, 95, 100, 101, 102, 97, 117, 108, 116], [117, 115, 101, 114, 115], [117, 115, 101, 114, 115, 95, 100, 101, 102, 97, 117, 108, 116]]
  else if k = [109, 46, 114, 111, 111, 109, 46, 104, 105, 115, 116, 111, 114, 121, 95, 118, 105, 115, 105, 98, 105, 108, 105, 116, 121] then [[104, 105, 115, 116, 111, 114, 121, 95, 118, 105, 115, 105, 98, 105, 108, 105, 116, 121]]
  else []
def usualL : bytes := [65, 66, 67, 68, 69, 70, 71, 72, 73, 74, 75, 76, 77, 78, 79, 80, 81, 82, 83, 84, 85, 86, 87, 88, 89, 90, 97, 98, 99, 100, 101, 102, 103, 104, 105, 106, 107, 108, 109, 110, 111, 112, 113, 114, 115, 116, 117, 118, 119, 120, 121, 122, 48, 49, 50, 51, 52, 53, 54, 55, 56, 57, 43, 47]
def safeL : bytes := [65, 66, 67, 68, 69, 70, 71, 72, 73, 74, 75, 76, 77, 78, 79, 80, 81, 82, 83, 84, 85, 86, 87, 88, 89, 90, 97, 98, 99, 100, 101, 102, 103, 104, 105, 106, 107, 108, 109, 110, 111, 112, 113, 114, 115, 116, 117, 118, 119, 120, 121, 122, 48, 49, 50, 51, 52, 53, 54, 55, 56, 57, 45, 95]
def zero32 : bytes := List.replicate 32 0
def objB (v : JV) : Bool := decide (v.kind = 6) && rightJ 12 v
def sumE (v : JV) : bytes × Int := if (printE v).2 = 0 then (sum256 (printE v).1, 0) else (zero32, (printE v).2)
def keepP (ns : List bytes) (v : JV) : JV := jcut (fun s => !hasB ns s) v
def kindP (v : JV) : bytes := ((jget v nType).getD zeroJ).text
def redactP (v : JV) : JV × Int :=
  if objB v = true then (match jget v nContent with
    | some c => if c.kind = 6 then withP (keepP outerN v) nContent (keepP (innerN (kindP v)) c) else (keepP outerN v, 0)
    | none => (keepP outerN v, 0))
  else (zeroJ, 1)
def contentP (v : JV) : bytes × Int := if objB v = true then sumE (jcut (hasB [nHashes, nSigs, nUns]) v) else (zero32, 1)
def refP (v : JV) : bytes × Int := if (redactP v).2 = 0 then sumE (jcut (hasB [nSigs]) (redactP v).1) else (zero32, (redactP v).2)
def nameE (v : JV) : bytes × Int := if (refP v).2 = 0 then (36 :: encB safeL (refP v).1, 0) else ([], (refP v).2)
def textJ (s : bytes) : JV := .mk 4 0 s [] []
def shaJ (s : bytes) : JV := .mk 6 0 [] [nSha] [textJ s]
def hashedP (v : JV) : JV × Int := if (contentP v).2 = 0 then withP v nHashes (shaJ (encB usualL (contentP v).1)) else (zeroJ, (contentP v).2)
theorem printE_len (v : JV) : (printE v).1.length ≤ 8192 := by
  unfold printE
  split
  · split
    · exact Nat.zero_le _
    · rename_i h
      show (printP v).length ≤ 8192
      omega
  · exact Nat.zero_le _
theorem sumE_len (v : JV) : (sumE v).1.length = 32 := by
  unfold sumE
  split
  · exact sum256_len _
  · rfl
theorem contentP_len (v : JV) : (contentP v).1.length = 32 := by
  unfold contentP
  split
  · exact sumE_len _
  · rfl
theorem refP_len (v : JV) : (refP v).1.length = 32 := by
  unfold refP
  split
  · exact sumE_len _
  · rfl
/-! Filters and what is put in. -/
theorem ins_head {s : bytes} {x : JV} : ∀ {l : Prs}, (∀ y ∈ l, lessB y.1 s = false ∧ y.1 ≠ s) → insP s x l = (s, x) :: l
  | [], _ => rfl
  | q :: r, h => by
    have := h q (List.mem_cons_self ..)
    rw [insP, if_neg (by rw [this.1]; decide), if_neg this.2]
theorem filter_out {p : bytes → Bool} {s : bytes} (hp : p s = false) (x : JV) : ∀ l : Prs, (insP s x l).filter (fun q => p q.1) = l.filter (fun q => p q.1)
  | [] => by simp [insP, hp]
  | q :: r => by
    rw [insP]
    split
    · rw [List.filter_cons, List.filter_cons, filter_out hp x r]
    · split
      · rename_i h
        subst h
        rw [List.filter_cons, List.filter_cons, if_neg (by rw [hp]; decide), if_neg (by rw [hp]; decide)]
      · rw [List.filter_cons, if_neg (by show ¬ (p s = true); rw [hp]; decide)]
theorem filter_in {p : bytes → Bool} {s : bytes} (hp : p s = true) (x : JV) : ∀ l : Prs, srt (l.map (·.1)) = true → (insP s x l).filter (fun q => p q.1) = insP s x (l.filter (fun q => p q.1))
  | [], _ => by simp [insP, hp]
  | q :: r, hs => by
    have ih := filter_in hp x r (srt_tail hs)
    rw [insP]
    by_cases h : lessB q.1 s = true
    · rw [if_pos h, List.filter_cons, List.filter_cons, ih]
      split
      · rw [insP, if_pos h]
      · rfl
    · rw [if_neg h]
      by_cases he : q.1 = s
      · rw [if_pos he, List.filter_cons, List.filter_cons, if_pos hp, if_pos (by rw [he]; exact hp), insP, if_neg h, if_pos he]
      · rw [if_neg he, List.filter_cons, if_pos hp, ins_head]
        intro y hy
        have hy2 := (List.mem_filter.1 hy).1
        have h0 : lessB q.1 s = false := by simpa using h
        have h1 : lessB s q.1 = true := by
          cases e : lessB s q.1 with
          | true => rfl
          | false => exact absurd (lessB_tri h0 e) he
        rcases List.mem_cons.1 hy2 with rfl | hy3
        · exact ⟨h0, he⟩
        · have h2 := lessB_trans h1 (srt_head hs y.1 (List.mem_map_of_mem hy3))
          exact ⟨lessB_asymm h2, fun e => by rw [e, lessB_irrefl] at h2; cases h2⟩
theorem ins_twice (s : bytes) (x y : JV) : ∀ l : Prs, insP s x (insP s y l) = insP s x l
  | [] => by simp [insP, lessB_irrefl]
  | q :: r => by
    conv => lhs; rw [insP]
    conv => rhs; rw [insP]
    split
    · rename_i h
      rw [insP, if_pos h, ins_twice s x y r]
    · split
      · rw [insP, if_neg (by rw [lessB_irrefl]; decide), if_pos rfl]
      · rw [insP, if_neg (by rw [lessB_irrefl]; decide), if_pos rfl]
theorem getP_filter {p : bytes → Bool} {s : bytes} (hp : p s = true) : ∀ l : Prs, getP s (l.filter fun q => p q.1) = getP s l
  | [] => rfl
  | q :: r => by
    have ih := getP_filter hp r
    rw [List.filter_cons]
    by_cases h : q.1 = s
    · rw [if_pos (by rw [h]; exact hp), getP, getP, if_pos h, if_pos h]
    · conv => rhs; rw [getP, if_neg h]
      split
      · rw [getP, if_neg h, ih]
      · exact ih
/-! Right objects as lists. -/
structure OkL (l : Prs) : Prop where
  srt : srt (l.map (·.1)) = true
  valid : ∀ s ∈ l.map (·.1), Lib.validD s = true
  items : ∀ x ∈ l.map (·.2), rightJ 11 x = true
theorem obj_l {v : JV} (h : objB v = true) : v = ofP objJ (prs v) ∧ OkL (prs v) := by
  unfold objB at h
  rw [Bool.and_eq_true, decide_eq_true_eq] at h
  obtain ⟨_, _, _, h3, h4, h5, h6⟩ := right_obj h.2 h.1
  exact ⟨obj_is h.2 h.1, by rw [prs_names h3]; exact h5, by rw [prs_names h3]; exact List.all_eq_true.1 h4, by rw [prs_items h3]; exact List.all_eq_true.1 h6⟩
theorem l_right {l : Prs} (h : OkL l) : rightJ 12 (ofP objJ l) = true := obj_right h.valid h.srt h.items
theorem l_obj {l : Prs} (h : OkL l) : objB (ofP objJ l) = true := by
  unfold objB
  rw [l_right h]
  rfl
theorem OkL.filter {l : Prs} (h : OkL l) (p : bytes × JV → Bool) : OkL (l.filter p) :=
  ⟨srt_filter h.srt, fun s hs => by
    obtain ⟨q, hq, rfl⟩ := List.mem_map.1 hs
    exact h.valid _ (List.mem_map_of_mem (List.mem_filter.1 hq).1), fun x hx => by
    obtain ⟨q, hq, rfl⟩ := List.mem_map.1 hx
    exact h.items _ (List.mem_map_of_mem (List.mem_filter.1 hq).1)⟩
theorem OkL.ins {l : Prs} (h : OkL l) {s : bytes} {x : JV} (hs : Lib.validD s = true) (hx : rightJ 11 x = true) : OkL (insP s x l) :=
  ⟨srt_ins h.srt, fun t ht => by
    rcases mem_ins.1 ht with rfl | ht
    · exact hs
    · exact h.valid _ ht, fun y hy => by
    rcases mem_ins2 hy with rfl | hy
    · exact hx
    · exact h.items _ hy⟩
theorem OkL.get {l : Prs} (h : OkL l) {s : bytes} {x : JV} (e : getP s l = some x) : rightJ 11 x = true := by
  have : ∀ {l : Prs}, (∀ x ∈ l.map (·.2), rightJ 11 x = true) → getP s l = some x → rightJ 11 x = true := by
    intro l
    induction l with
    | nil => intro _ e; cases e
    | cons q r ih =>
      intro hi e
      rw [getP] at e
      split at e
      · cases e
        exact hi _ (by simp)
      · exact ih (fun y hy => hi y (by simp only [List.map_cons, List.mem_cons]; exact .inr hy)) e
  exact this h.items e
theorem cut_l {l : Prs} (h : OkL l) (p : bytes → Bool) : jcut p (ofP objJ l) = ofP objJ (l.filter fun q => !p q.1) := by
  unfold jcut
  rw [if_pos ⟨rfl, l_right h⟩, prs_ofP]
  rfl
theorem keep_l {l : Prs} (h : OkL l) (ns : List bytes) : keepP ns (ofP objJ l) = ofP objJ (l.filter fun q => hasB ns q.1) := by
  unfold keepP
  rw [cut_l h]
  simp
theorem keep_right {c : JV} (ns : List bytes) (h : rightJ 11 c = true) (hk : c.kind = 6) : rightJ 11 (keepP ns c) = true ∧ (keepP ns c).kind = 6 := by
  have h12 := right_up (m := 12) (by omega) c h
  obtain ⟨_, _, _, h3, h4, h5, h6⟩ := right_obj h hk
  unfold keepP jcut
  rw [if_pos ⟨hk, h12⟩]
  refine ⟨obj_right (n := 10) (fun t ht => ?_) (srt_filter (by rw [prs_names h3]; exact h5)) (fun y hy => ?_), rfl⟩
  · obtain ⟨q, hq, rfl⟩ := List.mem_map.1 ht
    exact List.all_eq_true.1 h4 _ (by rw [← prs_names h3]; exact List.mem_map.2 ⟨q, (List.mem_filter.1 hq).1, rfl⟩)
  · obtain ⟨q, hq, rfl⟩ := List.mem_map.1 hy
    exact List.all_eq_true.1 h6 _ (by rw [← prs_items h3]; exact List.mem_map.2 ⟨q, (List.mem_filter.1 hq).1, rfl⟩)
theorem keep_twice {c : JV} (ns : List bytes) (h : rightJ 11 c = true) (hk : c.kind = 6) : keepP ns (keepP ns c) = keepP ns c := by
  have h12 := right_up (m := 12) (by omega) c h
  obtain ⟨e, ok⟩ := obj_l (v := c) (by unfold objB; rw [h12, decide_eq_true hk]; rfl)
  rw [e, keep_l ok, keep_l (ok.filter _), List.filter_filter]
  simp
theorem with_l {l : Prs} (h : OkL l) {s : bytes} {x : JV} (hs : Lib.validD s = true) (hx : rightJ 11 x = true) : withP (ofP objJ l) s x = (ofP objJ (insP s x l), 0) := by
  have hd := deep_right 11 13 x hx
  unfold withP
  rw [if_pos ⟨rfl, l_right h, right_up (by omega) x hx, hs⟩, if_neg (by omega), jput_ofP]
/-! What is redacted. -/
def kindL (l : Prs) : bytes := ((getP nType l).getD zeroJ).text
def outL (l : Prs) : Prs := l.filter fun q => hasB outerN q.1
def redL (l : Prs) : Prs := match getP nContent l with
  | some c => if c.kind = 6 then insP nContent (keepP (innerN (kindL l)) c) (outL l) else outL l
  | none => outL l
theorem v_content : Lib.validD nContent = true := by decide +kernel
theorem v_hashes : Lib.validD nHashes = true := by decide +kernel
theorem red_l {l : Prs} (h : OkL l) : redactP (ofP objJ l) = (ofP objJ (redL l), 0) ∧ OkL (redL l) := by
  have hk : kindP (ofP objJ l) = kindL l := by unfold kindP kindL; rw [jget_ofP rfl]
  unfold redactP redL
  rw [if_pos (l_obj h), jget_ofP rfl, keep_l h, hk]
  have ho : OkL (outL l) := h.filter _
  cases e : getP nContent l with
  | none => exact ⟨rfl, ho⟩
  | some c =>
    dsimp only
    by_cases hc : c.kind = 6
    · obtain ⟨h1, h2⟩ := keep_right (innerN (kindL l)) (h.get e) hc
      rw [if_pos hc, if_pos hc]
      exact ⟨with_l ho v_content h1, ho.ins v_content h1⟩
    · rw [if_neg hc, if_neg hc]
      exact ⟨rfl, ho⟩
theorem out_twice (l : Prs) : outL (outL l) = outL l := by
  unfold outL
  rw [List.filter_filter]
  simp
theorem red_twice {l : Prs} (h : OkL l) : redL (redL l) = redL l := by
  have hT : hasB outerN nType = true := by decide
  have hC : hasB outerN nContent = true := by decide
  have g1 : getP nContent (outL l) = getP nContent l := getP_filter hC l
  have g2 : getP nType (outL l) = getP nType l := getP_filter hT l
  cases e : getP nContent l with
  | none =>
    have e1 : redL l = outL l := by unfold redL; rw [e]
    rw [e1]
    unfold redL
    rw [g1, e, out_twice]
  | some c =>
    by_cases hc : c.kind = 6
    · have e1 : redL l = insP nContent (keepP (innerN (kindL l)) c) (outL l) := by unfold redL; rw [e]; dsimp only; rw [if_pos hc]
      obtain ⟨h1, h2⟩ := keep_right (innerN (kindL l)) (h.get e) hc
      have e2 : kindL (redL l) = kindL l := by
        rw [e1]
        conv => lhs; unfold kindL
        rw [getP_ins_ne (by decide), g2]
        rfl
      have e3 : getP nContent (redL l) = some (keepP (innerN (kindL l)) c) := by rw [e1, getP_ins]
      have e0 : redL (redL l) = match getP nContent (redL l) with
        | some c => if c.kind = 6 then insP nContent (keepP (innerN (kindL (redL l))) c) (outL (redL l)) else outL (redL l)
        | none => outL (redL l) := rfl
      rw [e0, e3]
      dsimp only
      rw [if_pos h2, e2, keep_twice _ (h.get e) hc, e1]
      have e4 : outL (insP nContent (keepP (innerN (kindL l)) c) (outL l)) = insP nContent (keepP (innerN (kindL l)) c) (outL l) := by
        have := filter_in (p := hasB outerN) hC (keepP (innerN (kindL l)) c) (outL l) (h.filter _).srt
        have e5 := out_twice l
        unfold outL at this e5 ⊢
        rw [this, e5]
      rw [e4, ins_twice]
    · have e1 : redL l = outL l := by unfold redL; rw [e]; dsimp only; rw [if_neg hc]
      rw [e1]
      unfold redL
      rw [g1, e]
      dsimp only
      rw [if_neg hc, out_twice]
/-! The sums. -/
theorem content_l {l : Prs} (h : OkL l) : contentP (ofP objJ l) = sumE (ofP objJ (l.filter fun q => !hasB [nHashes, nSigs, nUns] q.1)) := by
  unfold contentP
  rw [if_pos (l_obj h), cut_l h]
theorem ref_l {l : Prs} (h : OkL l) : refP (ofP objJ l) = sumE (ofP objJ ((redL l).filter fun q => !hasB [nSigs] q.1)) := by
  obtain ⟨h1, h2⟩ := red_l h
  unfold refP
  rw [h1, if_pos rfl, cut_l h2]
theorem redP_ok {v : JV} (h : (redactP v).2 = 0) : objB v = true := by
  unfold redactP at h
  split at h
  · assumption
  · cases h
theorem refP_ok {v : JV} (h : (refP v).2 = 0) : objB v = true := by
  unfold refP at h
  split at h
  · rename_i hr
    exact redP_ok hr
  · rename_i hr
    exact absurd h hr
theorem nameE_ok {v : JV} (h : (nameE v).2 = 0) : objB v = true := by
  unfold nameE at h
  split at h
  · rename_i hr
    exact refP_ok hr
  · rename_i hr
    exact absurd h hr
theorem contentP_ok {v : JV} (h : (contentP v).2 = 0) : objB v = true := by
  unfold contentP at h
  split at h
  · assumption
  · cases h
theorem name_bad {v : JV} (h : (nameE v).2 ≠ 0) : (nameE v).1 = [] := by
  unfold nameE at h ⊢
  split
  · rename_i hr
    rw [if_pos hr] at h
    exact absurd rfl h
  · rfl
/-- What is redacted is itself again, and has the same name. -/
theorem red_again {v : JV} (h : objB v = true) : (redactP v).2 = 0 ∧ redactP (redactP v).1 = redactP v ∧ nameE (redactP v).1 = nameE v := by
  obtain ⟨e, ok⟩ := obj_l h
  obtain ⟨h1, h2⟩ := red_l ok
  obtain ⟨h3, h4⟩ := red_l h2
  rw [← e] at h1
  rw [red_twice ok] at h3
  have h5 : refP (redactP v).1 = refP v := by
    rw [h1, ref_l h2, red_twice ok, ← ref_l ok, ← e]
  refine ⟨by rw [h1], by rw [h1, h3], ?_⟩
  unfold nameE
  rw [h5]
theorem name_unsigned {v x : JV} (h : (withP v nUns x).2 = 0) : nameE (withP v nUns x).1 = nameE v := by
  obtain ⟨hk, hr, hx, hs, he⟩ := with_ok h
  obtain ⟨e, ok⟩ := obj_l (v := v) (by unfold objB; rw [hr, decide_eq_true hk]; rfl)
  have e1 : redL (insP nUns x (prs v)) = redL (prs v) := by
    have g1 : getP nContent (insP nUns x (prs v)) = getP nContent (prs v) := getP_ins_ne (by decide) x _
    have g2 : getP nType (insP nUns x (prs v)) = getP nType (prs v) := getP_ins_ne (by decide) x _
    have g3 : outL (insP nUns x (prs v)) = outL (prs v) := filter_out (p := hasB outerN) (by decide) x _
    unfold redL kindL
    rw [g1, g2, g3]
  have e2 : refP (withP v nUns x).1 = refP v := by
    rw [he]
    conv => lhs; rw [e, jput_ofP, ref_l (ok.ins hs hx), e1, ← ref_l ok, ← e]
  unfold nameE
  rw [e2]
theorem name_signed {v x : JV} (h : (withP v nSigs x).2 = 0) : nameE (withP v nSigs x).1 = nameE v := by
  obtain ⟨hk, hr, hx, hs, he⟩ := with_ok h
  obtain ⟨e, ok⟩ := obj_l (v := v) (by unfold objB; rw [hr, decide_eq_true hk]; rfl)
  have e1 : (redL (insP nSigs x (prs v))).filter (fun q => !hasB [nSigs] q.1) = (redL (prs v)).filter (fun q => !hasB [nSigs] q.1) := by
    have g1 : getP nContent (insP nSigs x (prs v)) = getP nContent (prs v) := getP_ins_ne (by decide) x _
    have g2 : getP nType (insP nSigs x (prs v)) = getP nType (prs v) := getP_ins_ne (by decide) x _
    have g3 : outL (insP nSigs x (prs v)) = insP nSigs x (outL (prs v)) := filter_in (p := hasB outerN) (by decide) x _ ok.srt
    have ho : OkL (outL (prs v)) := ok.filter _
    have f1 : ∀ l : Prs, (insP nSigs x l).filter (fun q => !hasB [nSigs] q.1) = l.filter (fun q => !hasB [nSigs] q.1) := fun l => filter_out (p := fun s => !hasB [nSigs] s) (by decide) x l
    have f2 : ∀ (y : JV) (l : Prs), srt (l.map (·.1)) = true → (insP nContent y l).filter (fun q => !hasB [nSigs] q.1) = insP nContent y (l.filter (fun q => !hasB [nSigs] q.1)) := fun y l hl => filter_in (p := fun s => !hasB [nSigs] s) (by decide) y l hl
    unfold redL kindL
    rw [g1, g2, g3]
    cases getP nContent (prs v) with
    | none => exact f1 _
    | some c =>
      dsimp only
      split
      · rw [f2 _ _ (srt_ins ho.srt), f2 _ _ ho.srt, f1]
      · exact f1 _
  have e2 : refP (withP v nSigs x).1 = refP v := by
    rw [he]
    conv => lhs; rw [e, jput_ofP, ref_l (ok.ins hs hx), e1, ← ref_l ok, ← e]
  unfold nameE
  rw [e2]
theorem content_cut {v : JV} (h : (contentP v).2 = 0) : contentP (jcut (hasB [nUns, nSigs, nHashes]) v) = contentP v := by
  obtain ⟨e, ok⟩ := obj_l (contentP_ok h)
  rw [e, cut_l ok, content_l (ok.filter _), content_l ok, List.filter_filter]
  congr 2
  apply List.filter_congr
  intro q _
  simp only [hasB, List.any_cons, List.any_nil]
  cases nHashes == q.1 <;> cases nSigs == q.1 <;> cases nUns == q.1 <;> rfl
/-! What gets its sum. -/
theorem usual_asc : ∀ c ∈ usualL, c.toNat < 128 := by decide
theorem encB_asc {letters : bytes} (h : ∀ c ∈ letters, c.toNat < 128) (b : bytes) : ∀ c ∈ encB letters b, c.toNat < 128 := fun c hc => by
  obtain ⟨j, _, rfl⟩ := List.mem_map.1 hc
  rw [List.getD]
  cases e : letters[sextB b j]? with
  | none => decide
  | some x => exact h x (List.mem_of_getElem? e)
theorem valid_asc {l : bytes} (h : ∀ c ∈ l, c.toNat < 128) : Lib.validD l = true := by
  have := valid_wd (r := []) h
  rw [List.append_nil] at this
  rw [this]
  decide +kernel
theorem text_right {s : bytes} (h : Lib.validD s = true) (n : Nat) : rightJ n (textJ s) = true := right_one (by
  unfold oneJ textJ leafJ
  simp [JV.kind, JV.names, JV.items, JV.num, JV.text, h])
theorem sha_right {s : bytes} (h : Lib.validD s = true) : rightJ 11 (shaJ s) = true := by
  have := obj_right (n := 10) (l := [(nSha, textJ s)]) (fun t ht => by
    simp only [List.map_cons, List.map_nil, List.mem_cons, List.not_mem_nil, or_false] at ht
    subst ht
    decide +kernel) rfl (fun x hx => by
    simp only [List.map_cons, List.map_nil, List.mem_cons, List.not_mem_nil, or_false] at hx
    subst hx
    exact text_right h 10)
  exact this
theorem enc_valid (b : bytes) : Lib.validD (encB usualL b) = true := valid_asc (encB_asc usual_asc b)
theorem hashed_l {v : JV} (h : (contentP v).2 = 0) : hashedP v = (ofP objJ (insP nHashes (shaJ (encB usualL (contentP v).1)) (prs v)), 0) := by
  obtain ⟨e, ok⟩ := obj_l (contentP_ok h)
  unfold hashedP
  rw [if_pos h]
  conv => lhs; arg 1; rw [e]
  rw [with_l ok v_hashes (sha_right (enc_valid _))]
theorem hashed_bad {v : JV} (h : (hashedP v).2 ≠ 0) : (hashedP v).1 = zeroJ := by
  by_cases hc : (contentP v).2 = 0
  · rw [hashed_l hc] at h
    exact absurd rfl h
  · unfold hashedP
    rw [if_neg hc]
theorem hashed_ok {v : JV} (h : (hashedP v).2 = 0) : (contentP v).2 = 0 := by
  unfold hashedP at h
  split at h
  · assumption
  · exact h
theorem hashed_same {v : JV} (h : (hashedP v).2 = 0) : contentP (hashedP v).1 = contentP v := by
  have hc := hashed_ok h
  obtain ⟨e, ok⟩ := obj_l (contentP_ok hc)
  rw [hashed_l hc, content_l (ok.ins v_hashes (sha_right (enc_valid _)))]
  conv => rhs; rw [e, content_l ok]
  congr 2
  exact filter_out (p := fun s => !hasB [nHashes, nSigs, nUns] s) (by decide) _ _
theorem hashed_get {v : JV} (h : (hashedP v).2 = 0) : jget (hashedP v).1 nHashes = some (shaJ (encB usualL (contentP v).1)) := by
  rw [hashed_l (hashed_ok h), jget_ofP rfl, getP_ins]
theorem sha_get (s : bytes) : jget (shaJ s) nSha = some (textJ s) := by
  have := jget_ofP (v := objJ) rfl [(nSha, textJ s)] nSha
  rw [getP, if_pos rfl] at this
  exact this
theorem hashed_red {v : JV} (h : (hashedP v).2 = 0) : (redactP (hashedP v).1).2 = 0 ∧ jget (redactP (hashedP v).1).1 nHashes = some (shaJ (encB usualL (contentP v).1)) := by
  have hc := hashed_ok h
  obtain ⟨e, ok⟩ := obj_l (contentP_ok hc)
  have ok2 := ok.ins v_hashes (sha_right (enc_valid (contentP v).1))
  obtain ⟨h1, h2⟩ := red_l ok2
  rw [hashed_l hc, h1]
  refine ⟨rfl, ?_⟩
  rw [jget_ofP rfl]
  have ho : getP nHashes (outL (insP nHashes (shaJ (encB usualL (contentP v).1)) (prs v))) = some (shaJ (encB usualL (contentP v).1)) := by
    unfold outL
    rw [getP_filter (by decide), getP_ins]
  unfold redL
  split
  · split
    · rw [getP_ins_ne (by decide), ho]
    · exact ho
  · exact ho
/-! Sizes. -/
theorem size_keep (ns : List bytes) (v : JV) : sizeJ (keepP ns v) ≤ sizeJ v := size_cut _ _
end Go.Proofs.YtdahdbnfknmmgaaGreatDoor
end

section
set_option linter.unusedSimpArgs false
set_option linter.unusedVariables false
namespace Go.Proofs.YtdahdbnfknmmgaaGreatDoor
open Go V
set_option maxRecDepth 10000
set_option maxHeartbeats 4000000
abbrev wAV (K : IntKind) {w : Nat} (x : BitVec w) : AV := .lit (.int K (x.toNat : Int))
theorem w_self {w : Nat} (x : BitVec w) : BitVec.ofInt w (x.toNat : Int) = x := by simp
theorem u32_w (x : BitVec 32) : IntKind.u32.wrap (x.toNat : Int) = (x.toNat : Int) := wrap_nat_u32 x.isLt
theorem u32_add (x y : BitVec 32) : IntKind.u32.wrap ((x.toNat : Int) + (y.toNat : Int)) = ((x + y).toNat : Int) := by
  rw [BitVec.toNat_add]
  simp [IntKind.wrap, IntKind.signed, IntKind.bits]
theorem u32_xor (x y : BitVec 32) : IntKind.u32.wrap (((BitVec.ofInt IntKind.u32.bits (x.toNat : Int) ^^^ BitVec.ofInt IntKind.u32.bits (y.toNat : Int)).toNat : Nat) : Int) = ((x ^^^ y).toNat : Int) := by
  show IntKind.u32.wrap (((BitVec.ofInt 32 (x.toNat : Int) ^^^ BitVec.ofInt 32 (y.toNat : Int)).toNat : Nat) : Int) = _
  rw [w_self, w_self, u32_w]
theorem u32_and (x y : BitVec 32) : IntKind.u32.wrap (((BitVec.ofInt IntKind.u32.bits (x.toNat : Int) &&& BitVec.ofInt IntKind.u32.bits (y.toNat : Int)).toNat : Nat) : Int) = ((x &&& y).toNat : Int) := by
  show IntKind.u32.wrap (((BitVec.ofInt 32 (x.toNat : Int) &&& BitVec.ofInt 32 (y.toNat : Int)).toNat : Nat) : Int) = _
  rw [w_self, w_self, u32_w]
theorem u32_or (x y : BitVec 32) : IntKind.u32.wrap (((BitVec.ofInt IntKind.u32.bits (x.toNat : Int) ||| BitVec.ofInt IntKind.u32.bits (y.toNat : Int)).toNat : Nat) : Int) = ((x ||| y).toNat : Int) := by
  show IntKind.u32.wrap (((BitVec.ofInt 32 (x.toNat : Int) ||| BitVec.ofInt 32 (y.toNat : Int)).toNat : Nat) : Int) = _
  rw [w_self, w_self, u32_w]
theorem u32_not (x : BitVec 32) : IntKind.u32.wrap (((BitVec.ofInt IntKind.u32.bits (if IntKind.u32.signed = true then -1 else IntKind.u32.max) ^^^ BitVec.ofInt IntKind.u32.bits (x.toNat : Int)).toNat : Nat) : Int) = ((~~~ x).toNat : Int) := by
  show IntKind.u32.wrap (((BitVec.allOnes 32 ^^^ BitVec.ofInt 32 (x.toNat : Int)).toNat : Nat) : Int) = _
  rw [w_self, BitVec.xor_comm, BitVec.xor_allOnes, u32_w]
attribute [go_sem] u32_w u32_add u32_xor u32_and u32_or u32_not
theorem w_shr3 (x : BitVec 32) : x.toNat / 8 = (x >>> 3).toNat := by simp [Nat.shiftRight_eq_div_pow]
theorem w_shr10 (x : BitVec 32) : x.toNat / 1024 = (x >>> 10).toNat := by simp [Nat.shiftRight_eq_div_pow]
theorem getD_w {K : IntKind} {w : Nat} {m : List (BitVec w)} {i : Nat} (h : i < m.length) : (m.map (wAV K)).getD i .any = wAV K (m.getD i 0) := by
  simp [List.getD, List.getElem?_eq_getElem h]
theorem mapW {K : IntKind} {w : Nat} (a : List (BitVec w)) (b : BitVec w) : a.map (wAV K) ++ [wAV K b] = (a ++ [b]).map (wAV K) := by simp
theorem ones_w {K : IntKind} {w : Nat} {m : List (BitVec w)} : ones (m.map (wAV K)) = True := eq_true (ones_map fun _ => rfl)
theorem all_w {K : IntKind} {w : Nat} {m : List (BitVec w)} : (m.map (wAV K)).all AV.scalar = true := List.all_eq_true.2 (ones_map fun _ => rfl)
theorem rot_eq {x : BitVec 32} {n : Nat} (h1 : 1 ≤ n) (h2 : n ≤ 31) : IntKind.u32.wrap (((BitVec.ofInt IntKind.u32.bits (IntKind.u32.wrap ((x.toNat : Int) * 2 ^ (32 - n))) ||| BitVec.ofInt IntKind.u32.bits (((x.toNat / 2 ^ n : Nat)) : Int)).toNat : Nat) : Int) = ((x.rotateRight n).toNat : Int) := by
  show IntKind.u32.wrap (((BitVec.ofInt 32 (IntKind.u32.wrap ((x.toNat : Int) * 2 ^ (32 - n))) ||| BitVec.ofInt 32 (((x.toNat / 2 ^ n : Nat)) : Int)).toNat : Nat) : Int) = _
  have e1 : BitVec.ofInt 32 (IntKind.u32.wrap ((x.toNat : Int) * 2 ^ (32 - n))) = x <<< (32 - n) := by
    have : IntKind.u32.wrap ((x.toNat : Int) * 2 ^ (32 - n)) = ((x <<< (32 - n)).toNat : Int) := by
      rw [BitVec.toNat_shiftLeft, Nat.shiftLeft_eq]
      simp [IntKind.wrap, IntKind.signed, IntKind.bits]
    rw [this, w_self]
  have e2 : BitVec.ofInt 32 (((x.toNat / 2 ^ n : Nat)) : Int) = x >>> n := by
    have : x.toNat / 2 ^ n = (x >>> n).toNat := by simp [Nat.shiftRight_eq_div_pow]
    rw [this, w_self]
  rw [e1, e2, u32_w]
  congr 2
  rw [BitVec.rotateRight_def, Nat.mod_eq_of_lt (by omega), BitVec.or_comm]
theorem and31_u64 {a : Int} (h : 0 ≤ a ∧ a < 18446744073709551616) : ((BitVec.ofInt IntKind.u64.bits a &&& BitVec.ofInt IntKind.u64.bits 31).toNat : Int) = a % 32 := and_mask_ (k := 64) (m := 5) h.1 h.2 (by omega)
theorem mem_getD' {α : Type} {l : List α} {i : Nat} {d : α} (h : i < l.length) : l.getD i d ∈ l := by
  rw [List.getD, List.getElem?_eq_getElem h]
  exact List.getElem_mem h
theorem Rot_c (x : BitVec 32) (n : Nat) (H : List AObj) (h1 : 1 ≤ n) (h2 : n ≤ 31) : ACalls Tryz.prog 113 [wAV .u32 x, .lit (.int .i64 (0 - (n : Int)))] H (fun y H' => y = wAV .u32 (x.rotateRight n) ∧ H' = H) := by
  have hr := rot_eq (x := x) h1 h2
  have w1 : IntKind.u64.wrap (0 - (n : Int)) = 18446744073709551616 - n := by
    simp [IntKind.wrap, IntKind.signed, IntKind.bits] <;> omega
  have w2 : ((BitVec.ofInt IntKind.u64.bits (18446744073709551616 - (n : Int)) &&& BitVec.ofInt IntKind.u64.bits 31).toNat : Int) = 32 - (n : Int) := by
    rw [and31_u64 (by omega)]
    omega
  have m1 : min (32 - (n : Int)).toNat 32 = 32 - n := by omega
  have m2 : min (32 - (32 - (n : Int))).toNat 32 = n := by omega
  have m3 : (x.toNat : Int).fdiv (2 ^ n) = ((x.toNat / 2 ^ n : Nat) : Int) := by
    rw [fdiv_nat (Int.le_of_lt (Int.pow_pos (by decide)))]
    have : ((2 : Int) ^ n) = ((2 ^ n : Nat) : Int) := by simp
    rw [this, Int.toNat_natCast]
  refine acalls_vc L_ok mixed [] (rs := [.tmp 4]) (n := 17) Tryz.func113 rfl rfl rfl rfl (Nat.le_of_ble_eq_true rfl) (by kernel_rfl) ?_
  repeat' (first | refine unhold ?_ | (simp -dsimp -implicitDefEqProofs (disch := (first | assumption | omega | (simp only [ll1, ll2, ll3, ll4, ll5, ll6, ll7, ll8]; omega))) only [go_sem, w1, w2, m1, m2, m3, hr]) | refine vcI (fun _ => ?_) (fun _ => ?_) | (refine vcA ?_ ?_; focus (repeat' (first | omega | assumption | refine vcA ?_ ?_); done)) | omega | refine imp_in (fun _ => ?_))
  exact done_same ⟨rfl, rfl⟩
theorem turned32_c {o : Own} (x : BitVec 32) (ns : List Nat) (H : List AObj) (hn : ∀ n ∈ ns, 1 ≤ n ∧ n ≤ 31) (hl : ns.length ≤ 100) : ACalls Tryz.prog 83 [wAV .u32 x, .sl o 1 (ns.map fun n : Nat => .lit (.int .i64 (n : Int)))] H (fun y H' => y = wAV .u32 (ns.foldl (fun a n => a ^^^ x.rotateRight n) 0) ∧ H' = H) := by
  refine acalls_vc L_ok mixed [] (rs := [.tmp 4]) (n := 22) Tryz.func83 rfl rfl rfl rfl (Nat.le_of_ble_eq_true rfl) (by kernel_rfl) ?_
  repeat' (first | refine unhold ?_ | (simp -dsimp -implicitDefEqProofs (disch := (first | assumption | omega | (simp only [ll1, ll2, ll3, ll4, ll5, ll6, ll7, ll8]; omega))) only [go_sem]) | refine vcI (fun _ => ?_) (fun _ => ?_) | (refine vcA ?_ ?_; focus (repeat' (first | omega | assumption | refine vcA ?_ ?_); done)) | omega | refine imp_in (fun _ => ?_))
  refine vc_loopk L_ok mixed [] [0, 4, 8, 9] (fun i : Nat => i ≤ ns.length) (fun i => [(5, wAV .u32 ((ns.take i).foldl (fun a n => a ^^^ x.rotateRight n) 0)), (10, .lit (.int .i64 i))]) (fun _ => H) (fun i => ns.length - i) (by kernel_rfl) ?_ 0 (by omega) env_ok rfl
  intro i hi
  by_cases hil : i < ns.length
  · have hx : (ns.map fun n : Nat => AV.lit (.int .i64 (n : Int))).getD i .any = .lit (.int .i64 ((ns.getD i 0 : Nat) : Int)) := by simp [List.getD, List.getElem?_eq_getElem hil]
    have hm := hn _ (mem_getD' (d := 0) hil)
    have hs : (ns.take (i + 1)).foldl (fun a n => a ^^^ x.rotateRight n) 0 = (ns.take i).foldl (fun a n => a ^^^ x.rotateRight n) 0 ^^^ x.rotateRight (ns.getD i 0) := by
      rw [List.take_succ_eq_append_getElem hil, List.foldl_append, List.getD, List.getElem?_eq_getElem hil]
      rfl
    generalize ns.getD i 0 = n at *
    repeat' (first | refine unhold ?_ | (simp -dsimp -implicitDefEqProofs (disch := (first | assumption | omega | (simp only [ll1, ll2, ll3, ll4, ll5, ll6, ll7, ll8]; omega))) only [go_sem, hx]) | refine acalls_same (Rot_c x n _ hm.1 hm.2) ?_ | refine ⟨_, Rot_c x n _ hm.1 hm.2, ?_⟩ | refine ⟨_, _, Rot_c x n _ hm.1 hm.2, ?_⟩ | refine vcI (fun _ => ?_) (fun _ => ?_) | (refine vcA ?_ ?_; focus (repeat' (first | omega | assumption | refine vcA ?_ ?_); done)) | omega | refine imp_in (fun _ => ?_))
    rw [← hs]
    refine again (i + 1) ?_ ?_ rfl env_ok
    · omega
    · omega
  · obtain rfl : i = ns.length := by omega
    rw [List.take_length]
    repeat' (first | refine unhold ?_ | (simp -dsimp -implicitDefEqProofs (disch := (first | assumption | omega | (simp only [ll1, ll2, ll3, ll4, ll5, ll6, ll7, ll8]; omega))) only [go_sem]) | refine vcI (fun _ => ?_) (fun _ => ?_) | (refine vcA ?_ ?_; focus (repeat' (first | omega | assumption | refine vcA ?_ ?_); done)) | omega | refine imp_in (fun _ => ?_))
    exact done_same ⟨rfl, rfl⟩
end Go.Proofs.YtdahdbnfknmmgaaGreatDoor
end

section
set_option linter.unusedSimpArgs false
set_option linter.unusedVariables false
namespace Go.Proofs.YtdahdbnfknmmgaaGreatDoor
open Go V
set_option maxRecDepth 10000
set_option maxHeartbeats 4000000
theorem shaK_c (i : Nat) (H : List AObj) (hi : i < 80) : ACalls Tryz.prog 81 [.lit (.int .i64 (i : Int))] H (fun y H' => y = wAV .u32 (kOf 32 i) ∧ H' = H) := by
  have hk : ∀ j, j < 80 → IntKind.u32.wrap ((rootsN.getD j 0 / 4294967296 : Nat) : Int) = ((kOf 32 j).toNat : Int) := by
    intro j hj
    have h1 : kOf 32 j = BitVec.ofNat 32 (rootsN.getD j 0 / 4294967296) := rfl
    rw [h1, BitVec.toNat_ofNat]
    simp [IntKind.wrap, IntKind.signed, IntKind.bits]
  have h := hk i hi
  refine acalls_vc L_ok mixed [] (rs := [.tmp 2]) (n := 8) Tryz.func81 rfl rfl rfl rfl (Nat.le_of_ble_eq_true rfl) (by kernel_rfl) ?_
  repeat' (first | refine unhold ?_ | (simp -dsimp -implicitDefEqProofs (disch := (first | assumption | omega | (simp only [ll1, ll2, ll3, ll4, ll5, ll6, ll7, ll8]; omega))) only [go_sem, h]) | refine vcI (fun _ => ?_) (fun _ => ?_) | (refine vcA ?_ ?_; focus (repeat' (first | omega | assumption | refine vcA ?_ ?_); done)) | omega | refine imp_in (fun _ => ?_))
  exact done_same ⟨rfl, rfl⟩
theorem big_fold {x : BitVec 32} (a b c : Nat) : [a, b, c].foldl (fun o n => o ^^^ x.rotateRight n) (0 : BitVec 32) = bigT x (a, b, c) := by
  simp [bigT]
theorem small_fold {x : BitVec 32} (a b c : Nat) : [a, b].foldl (fun o n => o ^^^ x.rotateRight n) (0 : BitVec 32) ^^^ (x >>> c) = smallT x (a, b, c) := by
  simp [smallT]
theorem shaB0_c (x : BitVec 32) (H : List AObj) : ACalls Tryz.prog 82 [wAV .u32 x] H (fun y H' => y = wAV .u32 (bigT x (2, 13, 22)) ∧ H' = H) := by
  have ht := fun H => turned32_c (o := .full) x [2, 13, 22] H (by decide) (by decide)
  rw [big_fold] at ht
  refine acalls_vc L_ok mixed [] (rs := [.tmp 2]) (n := 6) Tryz.func82 rfl rfl rfl rfl (Nat.le_of_ble_eq_true rfl) (by kernel_rfl) ?_
  repeat' (first | refine unhold ?_ | (simp -dsimp -implicitDefEqProofs (disch := (first | assumption | omega | (simp only [ll1, ll2, ll3, ll4, ll5, ll6, ll7, ll8]; omega))) only [go_sem]) | refine acalls_same (ht _) ?_ | refine ⟨_, ht _, ?_⟩ | refine ⟨_, _, ht _, ?_⟩ | refine vcI (fun _ => ?_) (fun _ => ?_) | (refine vcA ?_ ?_; focus (repeat' (first | omega | assumption | refine vcA ?_ ?_); done)) | omega | refine imp_in (fun _ => ?_))
  exact done_same ⟨rfl, rfl⟩
theorem shaB1_c (x : BitVec 32) (H : List AObj) : ACalls Tryz.prog 84 [wAV .u32 x] H (fun y H' => y = wAV .u32 (bigT x (6, 11, 25)) ∧ H' = H) := by
  have ht := fun H => turned32_c (o := .full) x [6, 11, 25] H (by decide) (by decide)
  rw [big_fold] at ht
  refine acalls_vc L_ok mixed [] (rs := [.tmp 2]) (n := 6) Tryz.func84 rfl rfl rfl rfl (Nat.le_of_ble_eq_true rfl) (by kernel_rfl) ?_
  repeat' (first | refine unhold ?_ | (simp -dsimp -implicitDefEqProofs (disch := (first | assumption | omega | (simp only [ll1, ll2, ll3, ll4, ll5, ll6, ll7, ll8]; omega))) only [go_sem]) | refine acalls_same (ht _) ?_ | refine ⟨_, ht _, ?_⟩ | refine ⟨_, _, ht _, ?_⟩ | refine vcI (fun _ => ?_) (fun _ => ?_) | (refine vcA ?_ ?_; focus (repeat' (first | omega | assumption | refine vcA ?_ ?_); done)) | omega | refine imp_in (fun _ => ?_))
  exact done_same ⟨rfl, rfl⟩
theorem shaS0_c (x : BitVec 32) (H : List AObj) : ACalls Tryz.prog 85 [wAV .u32 x] H (fun y H' => y = wAV .u32 (smallT x (7, 18, 3)) ∧ H' = H) := by
  have ht := fun H => turned32_c (o := .full) x [7, 18] H (by decide) (by decide)
  have hs := small_fold (x := x) 7 18 3
  refine acalls_vc L_ok mixed [] (rs := [.tmp 2]) (n := 9) Tryz.func85 rfl rfl rfl rfl (Nat.le_of_ble_eq_true rfl) (by kernel_rfl) ?_
  repeat' (first | refine unhold ?_ | (simp -dsimp -implicitDefEqProofs (disch := (first | assumption | omega | (simp only [ll1, ll2, ll3, ll4, ll5, ll6, ll7, ll8]; omega))) only [go_sem, w_shr3, hs]) | refine acalls_same (ht _) ?_ | refine ⟨_, ht _, ?_⟩ | refine ⟨_, _, ht _, ?_⟩ | refine vcI (fun _ => ?_) (fun _ => ?_) | (refine vcA ?_ ?_; focus (repeat' (first | omega | assumption | refine vcA ?_ ?_); done)) | omega | refine imp_in (fun _ => ?_))
  exact done_same ⟨rfl, rfl⟩
theorem shaS1_c (x : BitVec 32) (H : List AObj) : ACalls Tryz.prog 86 [wAV .u32 x] H (fun y H' => y = wAV .u32 (smallT x (17, 19, 10)) ∧ H' = H) := by
  have ht := fun H => turned32_c (o := .full) x [17, 19] H (by decide) (by decide)
  have hs := small_fold (x := x) 17 19 10
  refine acalls_vc L_ok mixed [] (rs := [.tmp 2]) (n := 9) Tryz.func86 rfl rfl rfl rfl (Nat.le_of_ble_eq_true rfl) (by kernel_rfl) ?_
  repeat' (first | refine unhold ?_ | (simp -dsimp -implicitDefEqProofs (disch := (first | assumption | omega | (simp only [ll1, ll2, ll3, ll4, ll5, ll6, ll7, ll8]; omega))) only [go_sem, w_shr10, hs]) | refine acalls_same (ht _) ?_ | refine ⟨_, ht _, ?_⟩ | refine ⟨_, _, ht _, ?_⟩ | refine vcI (fun _ => ?_) (fun _ => ?_) | (refine vcA ?_ ?_; focus (repeat' (first | omega | assumption | refine vcA ?_ ?_); done)) | omega | refine imp_in (fun _ => ?_))
  exact done_same ⟨rfl, rfl⟩
theorem CloneU_c {xs : List AV} {H : List AObj} (hu : ∀ y ∈ xs, y.flat.length = 1 ∧ y.okv = true) (hne : xs ≠ []) (hl : xs.length ≤ 100000) : ACalls Tryz.prog 134 [.sl .sh 1 xs] H (fun y H' => y = .sl (.tok H.length) 1 xs ∧ H' = H ++ [.grow 1 xs.length none]) := by
  have hpos := List.length_pos_iff.2 hne
  refine acalls_vc L_ok mixed [] (rs := [.tmp 2]) (n := 8) Tryz.func134 rfl rfl rfl rfl (Nat.le_of_ble_eq_true rfl) (by kernel_rfl) ?_
  repeat' (first | refine unhold ?_ | (simp -dsimp -implicitDefEqProofs (disch := (first | assumption | omega | (simp only [ll1, ll2, ll3, ll4, ll5, ll6, ll7, ll8]; omega))) only [go_sem, hne]) | refine vcI (fun _ => ?_) (fun _ => ?_) | (refine vcA ?_ ?_; focus (repeat' (first | omega | assumption | refine vcA ?_ ?_); done)) | omega | refine imp_in (fun _ => ?_))
  exact done_grow ⟨rfl, rfl⟩
theorem setk_same {H : List AObj} {k : Nat} {x : AObj} (h : H[k]? = some x) : H.set k x = H := by
  apply List.ext_getElem?
  intro j
  rw [List.getElem?_set]
  split
  · rename_i e
    subst e
    rw [if_pos (lt_of_get h), h]
  · rfl
theorem setk_at {H M : List AObj} {k : Nat} {o : AObj} (h : k < H.length) : (H.set k o ++ M)[k]? = some o := by
  rw [List.getElem?_append_left (by rw [List.length_set]; exact h), List.getElem?_set_self h]
theorem setk_set {H M : List AObj} {k : Nat} {o x : AObj} (h : k < H.length) : (H.set k o ++ M).set k x = H.set k x ++ M := by
  rw [List.set_append_left _ _ (by rw [List.length_set]; exact h), List.set_set]
theorem done_cutkl {H₀ : List AObj} {k : Nat} {o : AObj} {M : List AObj} {R : AV → List AObj → Prop} {x : AV} (y : AV) (hle : Le x y) (hx : Low H₀.length y) (hcs : ∀ sh cs, o = .cells sh cs → ∀ y ∈ cs, Low H₀.length y) (hr : R y (H₀.set k o)) : Done H₀ R x (H₀.set k o ++ M) := by
  unfold Done
  refine ⟨y, (H₀.set k o ++ M).take H₀.length, ends_cut hle (Nat.le_refl _) hx fun i sh cs hi e => ?_, ?_⟩
  · rw [List.getElem?_append_left (by rw [List.length_set]; exact hi)] at e
    rw [List.getElem?_set] at e
    split at e
    · rename_i hk
      subst hk
      rw [if_pos (by exact hi)] at e
      exact .inr (hcs sh cs (Option.some.inj e))
    · exact .inl e
  · rw [List.take_append_of_le_length (by rw [List.length_set]; exact Nat.le_refl _), List.take_of_length_le (by rw [List.length_set]; exact Nat.le_refl _)]
    exact hr
theorem done_cutk {H₀ : List AObj} {k : Nat} {o : AObj} {M : List AObj} {R : AV → List AObj → Prop} {x : AV} (hx : Low H₀.length x) (hcs : ∀ sh cs, o = .cells sh cs → ∀ y ∈ cs, Low H₀.length y) (hr : R x (H₀.set k o)) : Done H₀ R x (H₀.set k o ++ M) := done_cutkl x (Le.refl x) hx hcs hr
/-- The cells of the rounds' state. -/
def rCells (s : Sha.St 32) : List AV := [wAV .u32 s.a, wAV .u32 s.b, wAV .u32 s.c, wAV .u32 s.d, wAV .u32 s.e, wAV .u32 s.f, wAV .u32 s.g, wAV .u32 s.h, .lit (.int .i64 64), .fn (.func 81) [] [], .fn (.func 82) [] [], .fn (.func 84) [] [], .fn (.func 85) [] [], .fn (.func 86) [] []]
def rObj (s : Sha.St 32) : AObj := .cells (.one 120) (rCells s)
theorem rLow {m : Nat} {s : Sha.St 32} : ∀ sh cs, rObj s = .cells sh cs → ∀ y ∈ cs, Low m y := fun sh cs h y hy => by
  unfold rObj rCells at h
  cases h
  simp only [List.mem_cons, List.not_mem_nil, or_false] at hy
  rcases hy with rfl | rfl | rfl | rfl | rfl | rfl | rfl | rfl | rfl | rfl | rfl | rfl | rfl | rfl
  all_goals first | exact .lit _ | exact .fn _ _ _ (fun _ h => by cases h) (fun _ h => by cases h)
def restC : List AV := [.lit (.int .i64 64), .fn (.func 81) [] [], .fn (.func 82) [] [], .fn (.func 84) [] [], .fn (.func 85) [] [], .fn (.func 86) [] []]
theorem rObj_eq (s : Sha.St 32) : rObj s = .cells (.one 120) (s.list.map (wAV .u32) ++ restC) := rfl
/-- The first i words have been put to. -/
def mixL (s t : List (BitVec 32)) (i : Nat) : List (BitVec 32) := (List.range 8).map fun j => if j < i then s.getD j 0 + t.getD j 0 else s.getD j 0
theorem mixL_len (s t : List (BitVec 32)) (i : Nat) : (mixL s t i).length = 8 := by simp [mixL]
theorem mixL_none (s t : Sha.St 32) : mixL s.list t.list 0 = s.list := rfl
theorem mixL_all (s t : Sha.St 32) : mixL s.list t.list 8 = (Sha.add s t).list := rfl
theorem mixL_set {s t : List (BitVec 32)} {i : Nat} (h : i < 8) : (mixL s t i).set i ((mixL s t i).getD i 0 + t.getD i 0) = mixL s t (i + 1) := by
  have hg : ∀ i j, (mixL s t i)[j]? = if j < 8 then some (if j < i then s.getD j 0 + t.getD j 0 else s.getD j 0) else none := fun i j => by
    unfold mixL
    rw [List.getElem?_map]
    by_cases h1 : j < 8
    · rw [List.getElem?_range h1, if_pos h1]
      rfl
    · rw [List.getElem?_eq_none (by simp; omega), if_neg h1]
      rfl
  apply List.ext_getElem?
  intro j
  have hgd : (mixL s t i).getD i 0 = s.getD i 0 := by rw [List.getD, hg, if_pos h, if_neg (by omega)]; rfl
  rw [List.getElem?_set, hg, hg, hgd, mixL_len]
  by_cases h1 : j < 8
  · rw [if_pos h1, if_pos h1]
    split
    · rename_i e
      subst e
      rw [if_pos (by omega)]
    · rename_i e
      by_cases h3 : j < i
      · rw [if_pos h3, if_pos (by omega)]
      · rw [if_neg h3, if_neg (by omega)]
  · rw [if_neg h1, if_neg h1, if_neg (by omega)]
theorem step_eq (M : List (BitVec 32)) (s : Sha.St 32) (i : Nat) : sha32.steps M s (i + 1) = ⟨(sha32.steps M s i).h + bigT (sha32.steps M s i).e (6, 11, 25) + ((sha32.steps M s i).e &&& (sha32.steps M s i).f ^^^ ~~~ (sha32.steps M s i).e &&& (sha32.steps M s i).g) + kOf 32 i + M.getD i 0 + (bigT (sha32.steps M s i).a (2, 13, 22) + ((sha32.steps M s i).a &&& (sha32.steps M s i).b ^^^ (sha32.steps M s i).a &&& (sha32.steps M s i).c ^^^ (sha32.steps M s i).b &&& (sha32.steps M s i).c)),
    (sha32.steps M s i).a, (sha32.steps M s i).b, (sha32.steps M s i).c, (sha32.steps M s i).d + ((sha32.steps M s i).h + bigT (sha32.steps M s i).e (6, 11, 25) + ((sha32.steps M s i).e &&& (sha32.steps M s i).f ^^^ ~~~ (sha32.steps M s i).e &&& (sha32.steps M s i).g) + kOf 32 i + M.getD i 0), (sha32.steps M s i).e, (sha32.steps M s i).f, (sha32.steps M s i).g⟩ := by
  rw [Sha.steps]
  generalize sha32.steps M s i = t
  rfl
theorem take_eq (s : Sha.St 32) (m : List (BitVec 32)) : sha32.take s m = Sha.add s (sha32.steps (sha32.sched m 48) s 64) := rfl
theorem take_c {k : Nat} {s : Sha.St 32} {H : List AObj} (m : List (BitVec 32)) (hk : H[k]? = some (rObj s)) (hm : m.length = 16) :
    ACalls Tryz.prog 115 [.mp k 0, .agg (m.map (wAV .u32))] H (fun x H' => x = .tup [] ∧ H' = H.set k (rObj (sha32.take s m))) := by
  have hkl := lt_of_get hk
  unfold rObj rCells at hk
  have hc := fun H => CloneU_c (xs := m.map (wAV .u32)) (H := H) (fun y hy => by obtain ⟨z, _, rfl⟩ := List.mem_map.1 hy; exact ⟨rfl, rfl⟩) (by intro e; have := congrArg List.length e; simp at this; rw [this] at hm; cases hm) (by simp; omega)
  have hk1 : ∀ M, (H ++ M)[k]? = H[k]? := fun M => List.getElem?_append_left hkl
  refine acalls_vc L_ok mixed [1000005, 1000005005015, 1000005005032, 1000005021015, 1000005021032, 1000005026015, 1000005031015, 1000006, 1000010, 1000010020006, 1000017] (rs := []) (n := 195) Tryz.func115 rfl rfl rfl rfl (Nat.le_of_ble_eq_true rfl) (by kernel_rfl) ?_
  repeat' (first | refine unhold ?_ | (simp -dsimp -implicitDefEqProofs (disch := (first | assumption | omega | (simp only [ll1, ll2, ll3, ll4, ll5, ll6, ll7, ll8]; omega))) only [go_sem, ones_w, all_w, hm]) | refine acalls_same (hc _) ?_ | refine ⟨_, hc _, ?_⟩ | refine ⟨_, _, hc _, ?_⟩ | refine vcI (fun _ => ?_) (fun _ => ?_) | (refine vcA ?_ ?_; focus (repeat' (first | omega | assumption | refine vcA ?_ ?_); done)) | omega | refine imp_in (fun _ => ?_))
  refine vc_loopk L_ok mixed [1000005, 1000005005015, 1000005005032, 1000005021015, 1000005021032, 1000005026015, 1000005031015, 1000006, 1000010, 1000010020006, 1000017] [0] (fun n : Nat => n ≤ 48) (fun n => [(4, .sl (.tok H.length) 1 ((sha32.sched m n).map (wAV .u32))), (5, .lit (.int .i64 ((16 + n : Nat) : Int)))]) (fun n => H ++ [.grow 1 (16 + n) none]) (fun n => 48 - n) (by kernel_rfl) ?_ 0 (by omega) env_ok (by simp [hm])
  · intro n hn
    have hl := sha32.sched_len m n
    rw [hm] at hl
    have hs : sha32.sched m (n + 1) = sha32.sched m n ++ [(sha32.sched m n).getD n 0 + smallT ((sha32.sched m n).getD (n + 1) 0) (7, 18, 3) + (sha32.sched m n).getD (n + 9) 0 + smallT ((sha32.sched m n).getD (n + 14) 0) (17, 19, 10)] := by
      show sha32.sched m n ++ [sha32.next (sha32.sched m n)] = _
      unfold Sha.next
      rw [hl, show 16 + n - 16 = n by omega, show 16 + n - 15 = n + 1 by omega, show 16 + n - 7 = n + 9 by omega, show 16 + n - 2 = n + 14 by omega]
      rfl
    have hM := fun x => mapW (K := .u32) (sha32.sched m n) x
    have z1 : (((16 + n : Nat) : Int) - 16).toNat = n := by omega
    have z2 : (((16 + n : Nat) : Int) - 15).toNat = n + 1 := by omega
    have z3 : (((16 + n : Nat) : Int) - 7).toNat = n + 9 := by omega
    have z4 : (((16 + n : Nat) : Int) - 2).toNat = n + 14 := by omega
    by_cases h : n < 48
    · have hc : (((16 + n : Nat) : Int) < 64) = True := eq_true (by omega)
      generalize sha32.sched m n = M at *
      repeat' (first | refine unhold ?_ | (simp -dsimp -implicitDefEqProofs (disch := (first | assumption | omega | (simp only [ll1, ll2, ll3, ll4, ll5, ll6, ll7, ll8]; omega))) only [go_sem, hk, hk1, hc, z1, z2, z3, z4, getD_w, hM]) | refine acalls_same (shaS0_c _ _) ?_ | refine ⟨_, shaS0_c _ _, ?_⟩ | refine ⟨_, _, shaS0_c _ _, ?_⟩ | refine acalls_same (shaS1_c _ _) ?_ | refine ⟨_, shaS1_c _ _, ?_⟩ | refine ⟨_, _, shaS1_c _ _, ?_⟩ | refine vcI (fun _ => ?_) (fun _ => ?_) | (refine vcA ?_ ?_; focus (repeat' (first | omega | assumption | refine vcA ?_ ?_); done)) | omega | refine imp_in (fun _ => ?_))
      rw [← hs]
      refine again (n + 1) ?_ ?_ ?_ env_ok
      · omega
      · omega
      · rw [hl]
        rfl
    · obtain rfl : n = 48 := by omega
      have hc : (((16 + 48 : Nat) : Int) < 64) = False := eq_false (by omega)
      have hsl := fun i => step_eq (sha32.sched m 48) s i
      have hT := take_eq s m
      rw [hT]
      generalize sha32.sched m 48 = M at *
      have hl64 : M.length = 64 := by omega
      repeat' (first | refine unhold ?_ | (simp -dsimp -implicitDefEqProofs (disch := (first | assumption | omega | (simp only [ll1, ll2, ll3, ll4, ll5, ll6, ll7, ll8]; omega))) only [go_sem, hk, hk1, hc, hl64]) | refine vcI (fun _ => ?_) (fun _ => ?_) | (refine vcA ?_ ?_; focus (repeat' (first | omega | assumption | refine vcA ?_ ?_); done)) | omega | refine imp_in (fun _ => ?_))
      refine vc_loopk L_ok mixed [1000005, 1000005005015, 1000005005032, 1000005021015, 1000005021032, 1000005026015, 1000005031015, 1000006, 1000010, 1000010020006, 1000017] [0, 106, 107] (fun i : Nat => i ≤ 64) (fun i => [(6, wAV .u32 (sha32.steps M s i).a), (7, wAV .u32 (sha32.steps M s i).b), (8, wAV .u32 (sha32.steps M s i).c), (9, wAV .u32 (sha32.steps M s i).d), (10, wAV .u32 (sha32.steps M s i).e), (11, wAV .u32 (sha32.steps M s i).f), (12, wAV .u32 (sha32.steps M s i).g), (13, wAV .u32 (sha32.steps M s i).h), (108, .lit (.int .i64 i))]) (fun _ => H ++ [.grow 1 (16 + 48) none]) (fun i => 64 - i) (by kernel_rfl) ?_ 0 (by omega) env_ok rfl
      intro i hi
      by_cases h : i < 64
      · have hs2 := hsl i
        have hM2 := getD_w (K := .u32) (m := M) (i := i) (by omega)
        generalize hst : sha32.steps M s i = st at *
        have hic : ((i : Int) < 64) = True := eq_true (by omega)
        repeat' (first | refine unhold ?_ | (simp -dsimp -implicitDefEqProofs (disch := (first | assumption | omega | (simp only [ll1, ll2, ll3, ll4, ll5, ll6, ll7, ll8]; omega))) only [go_sem, hk, hk1, hM2, hic]) | refine acalls_same (shaB1_c _ _) ?_ | refine ⟨_, shaB1_c _ _, ?_⟩ | refine ⟨_, _, shaB1_c _ _, ?_⟩ | refine acalls_same (shaK_c i _ (by omega)) ?_ | refine ⟨_, shaK_c i _ (by omega), ?_⟩ | refine ⟨_, _, shaK_c i _ (by omega), ?_⟩ | refine acalls_same (shaB0_c _ _) ?_ | refine ⟨_, shaB0_c _ _, ?_⟩ | refine ⟨_, _, shaB0_c _ _, ?_⟩ | refine vcI (fun _ => ?_) (fun _ => ?_) | (refine vcA ?_ ?_; focus (repeat' (first | omega | assumption | refine vcA ?_ ?_); done)) | omega | refine imp_in (fun _ => ?_))
        refine again (i + 1) ?_ ?_ rfl ?_
        · omega
        · omega
        · rw [hs2]
          exact env_ok
      · obtain rfl : i = 64 := by omega
        generalize sha32.steps M s 64 = t at *
        have hk0 : H.set k (.cells (.one 120) ((mixL s.list t.list 0).map (wAV .u32) ++ restC)) = H := by
          rw [mixL_none]
          exact setk_same hk
        have hm0 : ∀ M, H ++ M = H.set k (.cells (.one 120) ((mixL s.list t.list 0).map (wAV .u32) ++ restC)) ++ M := fun M => by rw [hk0]
        repeat' (first | refine unhold ?_ | (simp -dsimp -implicitDefEqProofs (disch := (first | assumption | omega | (simp only [ll1, ll2, ll3, ll4, ll5, ll6, ll7, ll8]; omega))) only [go_sem]) | refine vcI (fun _ => ?_) (fun _ => ?_) | (refine vcA ?_ ?_; focus (repeat' (first | omega | assumption | refine vcA ?_ ?_); done)) | omega | refine imp_in (fun _ => ?_))
        refine vc_loopk L_ok mixed [1000005, 1000005005015, 1000005005032, 1000005021015, 1000005021032, 1000005026015, 1000005031015, 1000006, 1000010, 1000010020006, 1000017] [] (fun i : Nat => i ≤ 8) (fun i => [(179, .lit (.int .i64 i)), (178, .agg (t.list.map (wAV .u32))), (0, .mp k 0)]) (fun i => H.set k (.cells (.one 120) ((mixL s.list t.list i).map (wAV .u32) ++ restC)) ++ [.grow 1 64 none]) (fun i => 8 - i) (by kernel_rfl) ?_ 0 (by omega) env_ok (hm0 _)
        intro i hi
        have hg : ∀ o M, (H.set k o ++ M)[k]? = some o := fun o M => setk_at hkl
        have hset : ∀ o x M, (H.set k o ++ M).set k x = H.set k x ++ M := fun o x M => setk_set hkl
        have hL := mixL_len s.list t.list i
        have htl : t.list.length = 8 := rfl
        by_cases h : i < 8
        · have hic : ((i : Int) < 8) = True := eq_true (by omega)
          have hms := mixL_set (s := s.list) (t := t.list) h
          have hg1 : ((mixL s.list t.list i).map (wAV .u32) ++ restC).getD i .any = wAV .u32 ((mixL s.list t.list i).getD i 0) := by
            rw [getD_left (by rw [List.length_map]; omega), getD_w (by omega)]
          have hg2 : (t.list.map (wAV .u32)).getD i .any = wAV .u32 (t.list.getD i 0) := getD_w (by omega)
          have hs1 : ∀ x, ((mixL s.list t.list i).map (wAV .u32) ++ restC).set i (wAV .u32 x) = ((mixL s.list t.list i).set i x).map (wAV .u32) ++ restC := fun x => by
            rw [List.set_append_left _ _ (by rw [List.length_map]; omega), List.map_set]
          repeat' (first | refine unhold ?_ | (simp -dsimp -implicitDefEqProofs (disch := (first | assumption | omega | (simp only [ll1, ll2, ll3, ll4, ll5, ll6, ll7, ll8]; omega))) only [go_sem, hg, hset, hic, hL, htl, hg1, hg2, hs1, hms]) | refine vcI (fun _ => ?_) (fun _ => ?_) | (refine vcA ?_ ?_; focus (repeat' (first | omega | assumption | refine vcA ?_ ?_); done)) | omega | refine imp_in (fun _ => ?_))
          refine again (i + 1) ?_ ?_ ?_ env_ok
          · omega
          · omega
          · rfl
        · obtain rfl : i = 8 := by omega
          repeat' (first | refine unhold ?_ | (simp -dsimp -implicitDefEqProofs (disch := (first | assumption | omega | (simp only [ll1, ll2, ll3, ll4, ll5, ll6, ll7, ll8]; omega))) only [go_sem]) | refine vcI (fun _ => ?_) (fun _ => ?_) | (refine vcA ?_ ?_; focus (repeat' (first | omega | assumption | refine vcA ?_ ?_); done)) | omega | refine imp_in (fun _ => ?_))
          rw [mixL_all, ← rObj_eq]
          exact done_cutk (low_tup lowAll_nil) rLow ⟨rfl, rfl⟩
theorem sk1 {H M : List AObj} {k : Nat} {o a : AObj} : (H.set k o ++ (a :: M))[H.length]? = some a := by
  rw [List.getElem?_append_right (by rw [List.length_set]; exact Nat.le_refl _), List.length_set, Nat.sub_self]; rfl
theorem sk2 {H M : List AObj} {k : Nat} {o a b : AObj} : (H.set k o ++ (a :: b :: M))[H.length + 1]? = some b := by
  rw [List.getElem?_append_right (by rw [List.length_set]; omega), List.length_set, Nat.add_sub_cancel_left]; rfl
theorem sk1s {H M : List AObj} {k : Nat} {o a x : AObj} : (H.set k o ++ (a :: M)).set H.length x = H.set k o ++ (x :: M) := by
  rw [List.set_append_right _ _ (by rw [List.length_set]; exact Nat.le_refl _), List.length_set, Nat.sub_self]; rfl
theorem sk2s {H M : List AObj} {k : Nat} {o a b x : AObj} : (H.set k o ++ (a :: b :: M)).set (H.length + 1) x = H.set k o ++ (a :: x :: M) := by
  rw [List.set_append_right _ _ (by rw [List.length_set]; omega), List.length_set, Nat.add_sub_cancel_left]; rfl
attribute [go_sem] sk1 sk2 sk1s sk2s
end Go.Proofs.YtdahdbnfknmmgaaGreatDoor
end

section
set_option linter.unusedSimpArgs false
set_option linter.unusedVariables false
namespace Go.Proofs.YtdahdbnfknmmgaaGreatDoor
open Go V
set_option maxRecDepth 10000
set_option maxHeartbeats 4000000
theorem aset_eq : ∀ (zs cs : List AV) (off : Nat), off + zs.length ≤ cs.length → aset cs off zs = cs.take off ++ zs ++ cs.drop (off + zs.length)
  | [], cs, off, _ => by simp [aset]
  | x :: r, cs, off, h => by
    rw [List.length_cons] at h
    rw [aset, aset_eq r (cs.set off x) (off + 1) (by rw [List.length_set]; omega)]
    have h1 : (cs.set off x).take (off + 1) = cs.take off ++ [x] := by
      rw [List.take_set, List.take_succ_eq_append_getElem (by omega), List.set_append_right _ _ (by rw [List.length_take]; omega)]
      simp [Nat.min_eq_left (show off ≤ cs.length by omega)]
    have h2 : (cs.set off x).drop (off + 1 + r.length) = cs.drop (off + 1 + r.length) := by
      rw [List.drop_set, if_pos (by omega)]
    rw [h1, h2, List.length_cons, show off + (r.length + 1) = off + 1 + r.length by omega]
    simp
/-- What is padded, t bytes of the length told. -/
def tailP (n8 t : Nat) : List UInt8 := (List.range 8).map fun k => if 7 - k < t then UInt8.ofNat (n8 / 256 ^ (7 - k)) else 0
def padT (w : Nat) (b : List UInt8) (t : Nat) : List UInt8 := b ++ 128 :: (List.replicate (padLen w b.length - 8 - (b.length + 1)) 0 ++ tailP (8 * b.length) t)
theorem padLen_big {w n : Nat} (hw : w = 32 ∨ w = 64) : n + 9 ≤ padLen w n ∧ padLen w n ≤ n + 1 + w / 4 + 2 * w := by
  unfold padLen
  rcases hw with rfl | rfl
  · simp only [Nat.reduceDiv, Nat.reduceMul]; omega
  · simp only [Nat.reduceDiv, Nat.reduceMul]; omega
theorem padT_len {w : Nat} {b : List UInt8} {t : Nat} (hw : w = 32 ∨ w = 64) : (padT w b t).length = padLen w b.length := by
  have := padLen_big (n := b.length) hw
  unfold padT tailP
  simp
  omega
theorem tailP_zero (n8 : Nat) : tailP n8 0 = List.replicate 8 0 := by
  unfold tailP
  simp
  rfl
theorem tailP_end {n8 t : Nat} (h : n8 / 256 ^ t = 0) : tailP n8 t = bytesOf 8 n8 := by
  unfold tailP bytesOf
  refine List.map_congr_left fun k hk => ?_
  have hk8 := List.mem_range.1 hk
  split
  · congr 2
  · rename_i h1
    have h2 : n8 / 256 ^ (7 - k) = 0 := by
      have e : 7 - k = t + (7 - k - t) := by omega
      rw [e, Nat.pow_add, ← Nat.div_div_eq_div_mul, h, Nat.zero_div]
    rw [show 8 - 1 - k = 7 - k by omega, h2]
    rfl
theorem padT_end {w : Nat} {b : List UInt8} {t : Nat} (h : 8 * b.length / 256 ^ t = 0) : padT w b t = padded w b := by
  unfold padT padded
  rw [tailP_end h]
theorem tailP_set {n8 t : Nat} (h : t < 8) : (tailP n8 t).set (7 - t) (UInt8.ofNat (n8 / 256 ^ t)) = tailP n8 (t + 1) := by
  have hl : ∀ t, (tailP n8 t).length = 8 := fun t => by simp [tailP]
  have hg : ∀ t j, (tailP n8 t)[j]? = if j < 8 then some (if 7 - j < t then UInt8.ofNat (n8 / 256 ^ (7 - j)) else 0) else none := fun t j => by
    unfold tailP
    rw [List.getElem?_map]
    by_cases h1 : j < 8
    · rw [List.getElem?_range h1, if_pos h1]
      rfl
    · rw [List.getElem?_eq_none (by simp; omega), if_neg h1]
      rfl
  apply List.ext_getElem?
  intro j
  rw [List.getElem?_set, hg, hg, hl]
  by_cases h1 : j < 8
  · rw [if_pos h1, if_pos h1]
    split
    · rename_i e
      rw [if_pos (by omega), if_pos (by omega), show 7 - j = t by omega]
    · rename_i e
      by_cases h3 : 7 - j < t
      · rw [if_pos h3, if_pos (by omega)]
      · rw [if_neg h3, if_neg (by omega)]
  · rw [if_neg h1, if_neg h1, if_neg (by omega)]
theorem padT_set {w : Nat} {b : List UInt8} {t : Nat} (hw : w = 32 ∨ w = 64) (h : t < 8) : (padT w b t).set (padLen w b.length - 1 - t) (UInt8.ofNat (8 * b.length / 256 ^ t)) = padT w b (t + 1) := by
  have := padLen_big (n := b.length) hw
  unfold padT
  rw [List.set_append_right _ _ (by omega), show padLen w b.length - 1 - t - b.length = (padLen w b.length - 2 - t - b.length) + 1 by omega, List.set_cons_succ, List.set_append_right _ _ (by rw [List.length_replicate]; omega), List.length_replicate,
    show padLen w b.length - 2 - t - b.length - (padLen w b.length - 8 - (b.length + 1)) = 7 - t by omega, tailP_set h]
theorem padT_zero {w : Nat} {b : List UInt8} (hw : w = 32 ∨ w = 64) : (b ++ List.replicate (padLen w b.length - b.length) 0).set b.length 128 = padT w b 0 := by
  have := padLen_big (n := b.length) hw
  rw [List.set_append_right _ _ (Nat.le_refl _), Nat.sub_self, show padLen w b.length - b.length = (padLen w b.length - 8 - (b.length + 1)) + 8 + 1 by omega, List.replicate_succ, List.set_cons_zero]
  unfold padT
  rw [tailP_zero, List.replicate_append_replicate]
theorem t_lt {n t : Nat} (h : n / 256 ^ t ≠ 0) (hn : n < 18446744073709551616) : t < 8 := by
  rcases Nat.lt_or_ge t 8 with h1 | h1
  · exact h1
  · exfalso
    refine h (Nat.div_eq_of_lt (Nat.lt_of_lt_of_le hn ?_))
    exact Nat.le_trans (by decide : 18446744073709551616 ≤ 256 ^ 8) (Nat.pow_le_pow_right (by decide) h1)
theorem padded_w {w : Nat} {n : Nat} (hw : w = 32) (h : (n : Int) < 1099511627776) : ((n : Int) + 1 + 8) + (64 - ((n : Int) + 1 + 8) % 64) % 64 = ((padLen w n : Nat) : Int) := by
  subst hw
  unfold padLen
  simp only [Nat.reduceDiv, Nat.reduceMul]
  omega
theorem Padded_c (n : Nat) (H : List AObj) (h : n ≤ 1000000000) : ACalls Tryz.prog 116 [.lit (.int .i64 (n : Int)), .lit (.int .i64 32)] H (fun y H' => y = .lit (.int .i64 ((padLen 32 n : Nat) : Int)) ∧ H' = H) := by
  have hp := padded_w (w := 32) (n := n) rfl (by omega)
  have h1 : ((n : Int) < 0) = False := eq_false (by omega)
  have h2 : (1099511627776 < (n : Int)) = False := eq_false (by omega)
  refine acalls_vc L_ok mixed [] (rs := [.tmp 4]) (n := 37) Tryz.func116 rfl rfl rfl rfl (Nat.le_of_ble_eq_true rfl) (by kernel_rfl) ?_
  repeat' (first | refine unhold ?_ | (simp -dsimp -implicitDefEqProofs (disch := (first | assumption | omega | (simp only [ll1, ll2, ll3, ll4, ll5, ll6, ll7, ll8]; omega))) only [go_sem, h1, h2]) | refine vcI (fun _ => ?_) (fun _ => ?_) | (refine vcA ?_ ?_; focus (repeat' (first | omega | assumption | refine vcA ?_ ?_); done)) | omega | refine imp_in (fun _ => ?_))
  rw [hp]
  exact done_same ⟨rfl, rfl⟩
theorem shr8 {n t : Nat} : n / 256 ^ t / 256 = n / 256 ^ (t + 1) := by rw [Nat.pow_succ, Nat.div_div_eq_div_mul]
theorem u8_of {n : Nat} : IntKind.u8.wrap (n : Int) = ((UInt8.ofNat n).toNat : Int) := by
  rw [u8_wrap]
  simp
theorem padded_c {o : Own} (b : List UInt8) (H : List AObj) (h : b.length ≤ 100000000) : ACalls Tryz.prog 88 [.sl o 1 (b.map byteAV), .lit (.int .i64 32)] H (fun y H' => y = .sl .sh 1 ((padded 32 b).map byteAV) ∧ H' = H) := by
  have hb := padLen_big (w := 32) (n := b.length) (.inl rfl)
  have hP := fun H => Padded_c b.length H (by omega)
  have hz := padT_zero (w := 32) (b := b) (.inl rfl)
  have hlen := fun t => padT_len (w := 32) (b := b) (t := t) (.inl rfl)
  generalize hN : padLen 32 b.length = N at *
  have hrep : zeroFlat [AV.lit (.int .u8 0)] N = (List.replicate N (0 : UInt8)).map byteAV := by rw [zeroFlat_one, List.map_replicate]; rfl
  have hcp : aset ((List.replicate N (0 : UInt8)).map byteAV) 0 (b.map byteAV) = (b ++ List.replicate (N - b.length) 0).map byteAV := by
    rw [aset_eq _ _ _ (by simp; omega)]
    simp
  have hst : ((b ++ List.replicate (N - b.length) (0 : UInt8)).map byteAV).set b.length (.lit (.int .u8 128)) = (padT 32 b 0).map byteAV := by
    rw [← hz, List.map_set]
    rfl
  have h0 : ((b.length : Int) * 8) = ((8 * b.length / 256 ^ 0 : Nat) : Int) := by rw [Nat.pow_zero, Nat.div_one]; omega
  refine acalls_vc L_ok mixed [] (rs := [.tmp 4]) (n := 39) Tryz.func88 rfl rfl rfl rfl (Nat.le_of_ble_eq_true rfl) (by kernel_rfl) ?_
  repeat' (first | refine unhold ?_ | (simp -dsimp -implicitDefEqProofs (disch := (first | assumption | omega | (simp only [ll1, ll2, ll3, ll4, ll5, ll6, ll7, ll8]; omega))) only [go_sem, hrep, hcp, hst, h0]) | refine acalls_same (hP _) ?_ | refine ⟨_, hP _, ?_⟩ | refine ⟨_, _, hP _, ?_⟩ | refine vcI (fun _ => ?_) (fun _ => ?_) | (refine vcA ?_ ?_; focus (repeat' (first | omega | assumption | refine vcA ?_ ?_); done)) | omega | refine imp_in (fun _ => ?_))
  refine vc_loopk L_ok mixed [] [4, 5] (fun t : Nat => t ≤ 8) (fun t => [(6, .lit (.int .u64 ((8 * b.length / 256 ^ t : Nat) : Int))), (7, .lit (.int .i64 ((N - 1 - t : Nat) : Int)))]) (fun t => H ++ [.cells (.one 5) ((padT 32 b t).map byteAV)]) (fun t => 8 * b.length / 256 ^ t) (by kernel_rfl) ?_ 0 (by omega) env_ok rfl
  intro t ht
  have hl := hlen t
  have hs := shr8 (n := 8 * b.length) (t := t)
  have hT := fun h : t < 8 => padT_set (w := 32) (b := b) (t := t) (.inl rfl) h
  have hE := fun h => padT_end (w := 32) (b := b) (t := t) h
  have hlt := fun h => t_lt (n := 8 * b.length) (t := t) h (by omega)
  rw [hN] at hT
  generalize hn : 8 * b.length / 256 ^ t = n at *
  generalize hn' : 8 * b.length / 256 ^ (t + 1) = n' at *
  have hnn : n ≤ 800000000 := by rw [← hn]; exact Nat.le_trans (Nat.div_le_self _ _) (by omega)
  by_cases h1 : n = 0
  · subst h1
    rw [hE rfl]
    repeat' (first | refine unhold ?_ | (simp -dsimp -implicitDefEqProofs (disch := (first | assumption | omega | (simp only [ll1, ll2, ll3, ll4, ll5, ll6, ll7, ll8]; omega))) only [go_sem]) | refine vcI (fun _ => ?_) (fun _ => ?_) | (refine vcA ?_ ?_; focus (repeat' (first | omega | assumption | refine vcA ?_ ?_); done)) | omega | refine imp_in (fun _ => ?_))
    refine done_frz (.sl .sh 1 ((padded 32 b).map byteAV)) (.msl _ _ _ _ _ (.one 5) ((padded 32 b).map byteAV) _ (Nat.le_refl _) (by simp) (by simp; rw [← hE rfl, hl]) (fun x hx => by obtain ⟨c, _, rfl⟩ := List.mem_map.1 hx; exact ⟨rfl, rfl⟩) (by rw [flats_ones byteAV (fun _ => rfl)]; simp) fun j c y e1 e2 => ?_) ⟨rfl, rfl⟩
    rw [flats_ones byteAV (fun _ => rfl)] at e2
    rw [Nat.zero_add] at e1
    rw [e1] at e2
    cases e2
    refine .low _ ?_
    obtain ⟨c, _, rfl⟩ := List.mem_map.1 (List.mem_of_getElem? e1)
    exact .lit _
  · have h8 := hlt h1
    have hset : ((padT 32 b t).map byteAV).set (N - 1 - t) (.lit (.int .u8 (IntKind.u8.wrap (n : Int)))) = (padT 32 b (t + 1)).map byteAV := by
      rw [← hT h8, List.map_set, u8_of]
      rfl
    have hc : (0 < (n : Int)) = True := eq_true (by omega)
    repeat' (first | refine unhold ?_ | (simp -dsimp -implicitDefEqProofs (disch := (first | assumption | omega | (simp only [ll1, ll2, ll3, ll4, ll5, ll6, ll7, ll8]; omega))) only [go_sem, hc, hset, hs]) | refine vcI (fun _ => ?_) (fun _ => ?_) | (refine vcA ?_ ?_; focus (repeat' (first | omega | assumption | refine vcA ?_ ?_); done)) | omega | refine imp_in (fun _ => ?_))
    refine again (t + 1) ?_ ?_ rfl env_ok
    · have : n' = n / 256 := hs.symm
      omega
    · omega
end Go.Proofs.YtdahdbnfknmmgaaGreatDoor
end

section
set_option linter.unusedSimpArgs false
set_option linter.unusedVariables false
namespace Go.Proofs.YtdahdbnfknmmgaaGreatDoor.V
open Go
set_option maxHeartbeats 1000000
variable {ds : List Deferred}

/-! What is no cells may be turned: no value is another one. -/
def NC (o : Obj) : Prop := ∀ a t f, o ≠ .cells a t f
theorem nc_loop (r : Loop) : NC (.loop r) := fun _ _ _ e => by cases e
theorem nc_deferred (x : Option (List Deferred)) : NC (.deferred x) := fun _ _ _ e => by cases e
section
variable {w : World} {r : Nat} {o o' : Obj}
theorem put_cell (h : w.heap[r]? = some o) (hn : NC o) (hn' : NC o') (a : Addr) : (w.putObj r o').cell? a = w.cell? a := by
  have hr := (Array.getElem?_eq_some_iff.1 h).1
  unfold World.cell?
  by_cases e : a.block = r
  · rw [e, World.putObj_heap_same hr, h]
    cases o' with
    | cells x y z => exact absurd rfl (hn' x y z)
    | _ => cases o with
      | cells x y z => exact absurd rfl (hn x y z)
      | _ => rfl
  · rw [World.putObj_heap_other e]
theorem put_frozen (h : w.heap[r]? = some o) (hn : NC o) (hn' : NC o') (a : Addr) : (w.putObj r o').frozen? a = w.frozen? a := by
  have hr := (Array.getElem?_eq_some_iff.1 h).1
  unfold World.frozen?
  by_cases e : a.block = r
  · rw [e, World.putObj_heap_same hr, h]
    cases o' with
    | cells x y z => exact absurd rfl (hn' x y z)
    | _ => cases o with
      | cells x y z => exact absurd rfl (hn x y z)
      | _ => rfl
  · rw [World.putObj_heap_other e]
theorem put_cells (h : w.heap[r]? = some o) (hn : NC o) {b : Nat} {arr : Array Value} {T : TypeId} {fr : Nat × Nat} (hb : w.heap[b]? = some (.cells arr T fr)) : (w.putObj r o').heap[b]? = some (.cells arr T fr) := by
  have : b ≠ r := fun e => by
    subst e
    rw [h] at hb
    cases hb
    exact hn _ _ _ rfl
  rw [World.putObj_heap_other this]
  exact hb
end
/-- What is no value's place may turn; the abstract objects may be told otherwise as far as no value asks. -/
theorem Rel.turn {G : Gh} {H H' : List AObj} {w w' : World} (hc : ∀ a, w'.cell? a = w.cell? a) (hH : ∀ (k : Nat) o, H[k]? = some o → (∃ o', H'[k]? = some o') ∧ (o.isBlk = true → ∃ o', H'[k]? = some o' ∧ o'.isBlk = true) ∧ (∀ s n t, o = .grow s n t → H'[k]? = some o)) {x : AV} {v : Value} (r : Rel G H w x v) : Rel G H' w' x v := by
  induction r with
  | any v => exact .any v
  | lit v => exact .lit v
  | str l => exact .str l
  | sl o s xs a len cap val hl hcap hs hcc hr hf ha ho ih =>
    exact .sl o s xs a len cap val hl hcap hs (fun j x e => let ⟨b, off, h1, h2, h3⟩ := hcc j x e; ⟨b, off, h1, h2, (hc _).trans h3⟩) ih hf ha (fun k e => let ⟨n, t, e1, h⟩ := ho k e; ⟨n, t, (hH k _ e1).2.2 _ _ _ rfl, h⟩)
  | agg cs arr hl hr ih => exact .agg cs arr hl ih
  | tup cs arr hl hr ih => exact .tup cs arr hl ih
  | ip x b off val hcc hr ih => exact .ip x b off val (fun j y e => ⟨(hcc j y e).1, (hc _).trans (hcc j y e).2⟩) ih
  | mp k off o h1 ho => obtain ⟨o', h2, h3⟩ := (hH k o h1).2.1 ho; exact .mp k off o' h2 h3
  | msl k off len cap o h1 ho hcap => obtain ⟨o', h2, h3⟩ := (hH k o h1).2.1 ho; exact .msl k off len cap o' h2 h3 hcap
  | mrow k len o h1 ho hcap => obtain ⟨o', h2, h3⟩ := (hH k o h1).2.1 ho; exact .mrow k len o' h2 h3 hcap
  | fn f fs cs fa ca hf hc' hrf hrc ih1 ih2 => exact .fn f fs cs fa ca hf hc' ih1 ih2
  | ifc t x v hr ih => exact .ifc t x v ih
  | err u v => exact .err u v
  | data x a len cap hr hc' ih => exact .data x a len cap ih hc'
  | yld k l o ho e => obtain ⟨o', h2⟩ := (hH k o ho).1; exact .yld k l o' h2 e
theorem same_turn {H : List AObj} : ∀ (k : Nat) o, H[k]? = some o → (∃ o', H[k]? = some o') ∧ (o.isBlk = true → ∃ o', H[k]? = some o' ∧ o'.isBlk = true) ∧ (∀ s n t, o = .grow s n t → H[k]? = some o) := fun _ o h => ⟨⟨o, h⟩, fun hb => ⟨o, h, hb⟩, fun _ _ _ _ => h⟩
/-- A loop's record turns. -/
theorem loop_turn {H : List AObj} {k : Nat} {r r' : Loop} {E E' : Env} (hk : H[k]? = some (.loop r E)) : ∀ (i : Nat) o, H[i]? = some o → (∃ o', (H.set k (.loop r' E'))[i]? = some o') ∧ (o.isBlk = true → ∃ o', (H.set k (.loop r' E'))[i]? = some o' ∧ o'.isBlk = true) ∧ (∀ s n t, o = .grow s n t → (H.set k (.loop r' E'))[i]? = some o) := fun i o h => by
  have hs : (H.set k (AObj.loop r' E'))[k]? = some (.loop r' E') := List.getElem?_set_self (lt_of_get hk)
  by_cases e : i = k
  · subst e
    rw [hk] at h
    cases h
    exact ⟨⟨_, hs⟩, fun hb => (by cases hb), fun s n t e => (by cases e)⟩
  · have : (H.set k (.loop r' E'))[i]? = some o := by rw [List.getElem?_set_ne (Ne.symm e)]; exact h
    exact ⟨⟨o, this⟩, fun hb => ⟨o, this, hb⟩, fun _ _ _ _ => this⟩
theorem HInv.turn {G : Gh} {H : List AObj} {w : World} (hi : HInv G H w) {k l : Nat} {r : Loop} {E : Env} (r' : Loop) (hk : H[k]? = some (.loop r E)) (hl : G.lp k = some l) (ht : r'.tmps = r.tmps) : HInv G (H.set k (.loop r' E)) (w.putObj l (.loop r')) := by
  obtain ⟨himm, hrec, henv⟩ := hi.tabs.2.2.2 k l r E hl hk
  have hkl := lt_of_get hk
  have hsz : l < w.heap.size := (Array.getElem?_eq_some_iff.1 hrec).1
  have hc := fun a => put_cell (o' := .loop r') hrec (nc_loop _) (nc_loop _) a
  have hf := fun a => put_frozen (o' := .loop r') hrec (nc_loop _) (nc_loop _) a
  have tr : ∀ {x v}, Rel G H w x v → Rel G (H.set k (.loop r' E)) (w.putObj l (.loop r')) x v := fun h => h.turn hc (loop_turn hk)
  have bk : ∀ (i : Nat) o, (∀ r E, o ≠ .loop r E) → (H.set k (.loop r' E))[i]? = some o → H[i]? = some o := fun i o ho h => by
    by_cases e : i = k
    · subst e
      rw [List.getElem?_set_self hkl] at h
      cases h
      exact absurd rfl (ho _ _)
    · rw [List.getElem?_set_ne (Ne.symm e)] at h
      exact h
  refine ⟨fun b off e => by rw [World.putObj_size]; exact hi.lt b off e, fun i sh cs e => ?_, fun i s n t e => ?_, fun i j b e1 e2 => ?_, ⟨⟨fun g j v e => ⟨(hi.tabs.1.1 g j v e).1, (hc _).trans (hi.tabs.1.1 g j v e).2⟩, fun g t e => ⟨(hi.tabs.1.2 g t e).1, let ⟨u, v, h⟩ := (hi.tabs.1.2 g t e).2; ⟨u, v, (hc _).trans h⟩⟩⟩, fun i m e => by rw [World.putObj_size]; exact hi.tabs.2.1 i m e, hi.tabs.2.2.1, fun i m r1 E1 e1 e2 => ?_⟩⟩
  · obtain ⟨arr, T, fr, hb, hs, hr, hn, hz, hsh⟩ := hi.cells i sh cs (bk i _ (fun _ _ e => by cases e) e)
    exact ⟨arr, T, fr, put_cells hrec (nc_loop _) hb, hs, fun j x v ex ev => tr (hr j x v ex ev), hn, fun off ho => (hf _).trans (hz off ho), hsh⟩
  · obtain ⟨h0, h1, h2, hty⟩ := hi.grow i s n t (bk i _ (fun _ _ e => by cases e) e)
    refine ⟨h0, h1, fun hn => ?_, typedOk_keep hty rfl (Nat.le_refl _) (fun b arr e fr hb => ⟨arr, put_cells hrec (nc_loop _) hb, rfl⟩) (fun b off arr e fr _ _ _ _ hx _ => hx)⟩
    obtain ⟨b, off, arr, T, fr, ea, hb, hle, hj⟩ := h2 hn
    exact ⟨b, off, arr, T, fr, ea, put_cells hrec (nc_loop _) hb, hle, fun j h3 h4 => ⟨(hj j h3 h4).1, (hf _).trans (hj j h3 h4).2⟩⟩
  · have hs : ∀ i b, site G (H.set k (.loop r' E)) i = some b → site G H i = some b := fun i b e => by
      unfold site at e ⊢
      cases ho : (H.set k (AObj.loop r' E))[i]? with
      | none => rw [ho] at e; cases e
      | some o =>
        rw [ho] at e
        cases o with
        | loop _ _ => cases e
        | gone => cases e
        | cells _ _ => rw [bk i _ (fun _ _ e => by cases e) ho]; exact e
        | grow _ _ _ => rw [bk i _ (fun _ _ e => by cases e) ho]; exact e
    exact hi.apart i j b (hs i b e1) (hs j b e2)
  · by_cases e : i = k
    · subst e
      rw [hl] at e1
      cases e1
      rw [List.getElem?_set_self hkl] at e2
      cases e2
      exact ⟨himm, World.putObj_heap_same hsz, fun t => ⟨(henv t).1, by rw [ht]; exact tr (henv t).2⟩⟩
    · rw [List.getElem?_set_ne (Ne.symm e)] at e2
      obtain ⟨h1, h2, h3⟩ := hi.tabs.2.2.2 i m r1 E1 e1 e2
      have hne : m ≠ l := fun h => e (hi.tabs.2.2.1 i k l (by rw [← h]; exact e1) hl)
      exact ⟨h1, (World.putObj_heap_other hne).trans h2, fun t => ⟨(h3 t).1, tr (h3 t).2⟩⟩
/-- The record while a round is under way. -/
def busy (r : Loop) : Loop := { r with state := .busy }
theorem get_args {r : Loop} {p : Nat} {v : Value} (hp : r.params = #[p]) : (r.params.zip #[v]).foldl (fun t (q, x) => t.setIfInBounds q x) r.tmps = r.tmps.setIfInBounds p v := by rw [hp]; simp
/-- **A round, out of its body's walk**: the record is told as busy meanwhile. -/
theorem ayields_of_aw {P : Program} {k n p : Nat} {r : Loop} {E : Env} {arg : AV} {H B : List AObj} (hk : H[k]? = some (.loop r E)) (hst : r.state = .ready) (hpd : r.pending = none) (hp : r.params = #[p]) (hn : r.tmps.size = n) (hpn : p < n)
    (h : AW P n r.assign (Ex (fun env1 H1 => AW P n r.body (fun e env2 H2 => e = .normal ∧ H2 = B) env1 (H1.set k (.loop (busy r) E)) ∧ H1[k]? = some (.loop r E)) (fun _ _ _ => False)) ((p, arg) :: E) H) :
    AYields P k [arg] H (fun x H2 => x = .lit (.bool true) ∧ H2 = B.set k (.loop r E)) := by
  intro ro N G w vs l hi ha hl
  obtain ⟨himm, hrec, henv⟩ := hi.tabs.2.2.2 k l r E hl hk
  obtain ⟨v, rfl, hv⟩ : ∃ v, vs = #[v] ∧ Rel G H w arg v := by
    obtain ⟨h1, h2⟩ := ha
    have : vs.size = 1 := h1
    refine ⟨vs[0], ?_, h2 0 arg _ rfl (Array.getElem?_eq_getElem (by omega))⟩
    apply Array.ext
    · simp [this]
    · intro i h1 h2
      have : i = 0 := by omega
      subst this
      rfl
  refine ⟨r.fn, _, r.assign, r.body, run_yield hrec (by rw [hp]; rfl), ?_⟩
  rw [get_args hp]
  refine roundIn_of_wpIn trivial ?_
  have s0 : Sat n [] G ((p, arg) :: E) H { tmps := r.tmps.setIfInBounds p v, defers := [] } w := by
    refine ⟨by simp [hn], rfl, fun t => ?_, hi⟩
    simp only [get]
    rw [getD_set (by rw [hn]; exact hpn)]
    by_cases e : p = t
    · simp only [e, if_true]; exact hv
    · simp only [e, if_false]; exact (henv t).2
  refine wpIn_mono (h (some l) N [] G _ w s0) fun e a1 w1 ⟨G1, env1, H1, s1, st1, q⟩ => ?_
  cases e with
  | normal =>
    obtain ⟨q, hk1⟩ := q
    have hl1 : G1.lp k = some l := by rw [st1.lp]; exact hl
    obtain ⟨himm1, hrec1, henv1⟩ := s1.inv.tabs.2.2.2 k l r E hl1 hk1
    have hsz1 : l < w1.heap.size := (Array.getElem?_eq_some_iff.1 hrec1).1
    refine ⟨_, run_beginRound hrec1 hst, ?_⟩
    have hc1 := fun a => put_cell (o' := .loop (busy r)) hrec1 (nc_loop _) (nc_loop _) a
    have s2 : Sat n [] G1 env1 (H1.set k (.loop (busy r) E)) a1 (w1.putObj l (.loop (busy r))) := ⟨s1.size, s1.defers, fun t => (s1.env t).turn hc1 (loop_turn hk1), s1.inv.turn (busy r) hk1 hl1 rfl⟩
    refine wpIn_mono (q (some l) N [] G1 a1 _ s2) fun e a3 w3 ⟨G3, env3, H3, s3, st3, hq⟩ => ?_
    obtain ⟨rfl, rfl⟩ := hq
    have hkb : (H1.set k (AObj.loop (busy r) E))[k]? = some (.loop (busy r) E) := List.getElem?_set_self (lt_of_get hk1)
    have hk3 : H3[k]? = some (.loop (busy r) E) := by
      have := st3.obj k
      rw [hkb] at this
      exact this.1
    have hl3 : G3.lp k = some l := by rw [st3.lp]; exact hl1
    obtain ⟨himm3, hrec3, henv3⟩ := s3.inv.tabs.2.2.2 k l _ E hl3 hk3
    have hsz3 : l < w3.heap.size := (Array.getElem?_eq_some_iff.1 hrec3).1
    have hback : ({ busy r with state := .ready, pending := none } : Loop) = r := by
      obtain ⟨a, b, c, d, e, f, g, i⟩ := r
      simp only at hst hpd
      subst hst hpd
      rfl
    have hend := run_endRound (P := P) none hrec3
    simp only [Option.isNone_none, if_true] at hend
    rw [hback] at hend
    refine ⟨_, _, hend, .bool true, .lit (.bool true), G3, H3.set k (.loop r E), rfl, s3.inv.turn r hk3 hl3 rfl, ?_, .lit _, rfl, rfl⟩
    have hc3 := fun a => put_cell (o' := .loop r) hrec3 (nc_loop _) (nc_loop _) a
    refine ⟨?_, ?_, ?_, ?_, fun b off h => st3.imm _ _ (st1.imm _ _ h), fun b off h => ?_, fun b h => ?_, fun i => ?_⟩
    · exact st3.os.trans st1.os
    · exact st3.tape.trans st1.tape
    · exact st3.output.trans st1.output
    · have := st1.size
      have := st3.size
      rw [World.putObj_size] at this ⊢
      omega
    · exact (hc3 _).trans ((st3.cell b off (st1.imm _ _ h)).trans ((hc1 _).trans (st1.cell b off h)))
    · have h3 := st3.whole b fun off => st1.imm _ _ (h off)
      have h1 := st1.whole b h
      by_cases e : b = l
      · subst e
        rw [World.putObj_heap_same hsz3, ← h1, hrec1]
      · exact (World.putObj_heap_other e).trans (h3.trans ((World.putObj_heap_other e).trans h1))
    · have o1 := st1.obj i
      have o3 := st3.obj i
      by_cases e : i = k
      · subst e
        rw [hk] at o1 ⊢
        rw [hkb] at o3
        exact ⟨List.getElem?_set_self (lt_of_get hk3), o3.2.1.trans o1.2.1, o3.2.2.trans o1.2.2⟩
      · rw [List.getElem?_set_ne (Ne.symm e)] at o3
        have := obj_trans o1 o3
        unfold objKept at this ⊢
        rw [List.getElem?_set_ne (Ne.symm e)]
        exact this
  | _ => exact q.elim
/-! The loops' numbers may be told otherwise, where no object bears them. -/
def withLp (G : Gh) (f : Nat → Option Nat) : Gh := { G with lp := f }
theorem Rel.lp {G : Gh} {H : List AObj} {w : World} {f : Nat → Option Nat} (hf : ∀ k, k < H.length → f k = G.lp k) {x : AV} {v : Value} (r : Rel G H w x v) : Rel (withLp G f) H w x v := by
  induction r with
  | any v => exact .any v
  | lit v => exact .lit v
  | str l => exact .str l
  | sl o s xs a len cap val hl hcap hs hcc hr hf ha ho ih => exact .sl o s xs a len cap val hl hcap hs hcc ih hf ha ho
  | agg cs arr hl hr ih => exact .agg cs arr hl ih
  | tup cs arr hl hr ih => exact .tup cs arr hl ih
  | ip x b off val hcc hr ih => exact .ip x b off val hcc ih
  | mp k off o h1 ho => exact .mp (G := withLp G f) k off o h1 ho
  | msl k off len cap o h1 ho hcap => exact .msl (G := withLp G f) k off len cap o h1 ho hcap
  | mrow k len o h1 ho hcap => exact .mrow (G := withLp G f) k len o h1 ho hcap
  | fn f fs cs fa ca hf hc' hrf hrc ih1 ih2 => exact .fn f fs cs fa ca hf hc' ih1 ih2
  | ifc t x v hr ih => exact .ifc t x v ih
  | err u v => exact .err u v
  | data x a len cap hr hc' ih => exact .data x a len cap ih hc'
  | yld k l o ho e => exact .yld k l o ho ((hf k (lt_of_get ho)).trans e)
theorem HInv.lp {G : Gh} {H : List AObj} {w : World} (hi : HInv G H w) {f : Nat → Option Nat} (hf : ∀ k, k < H.length → f k = G.lp k) (hb : ∀ k l, f k = some l → l < w.heap.size) (hj : ∀ k k' l, f k = some l → f k' = some l → k = k') : HInv (withLp G f) H w := by
  refine ⟨hi.lt, fun k sh cs e => ?_, hi.grow, hi.apart, hi.tabs.1, hb, hj, fun k l r E e1 e2 => ?_⟩
  · obtain ⟨arr, T, fr, h1, hs, hr, hn, hz, hsh⟩ := hi.cells k sh cs e
    exact ⟨arr, T, fr, h1, hs, fun j x v ex ev => (hr j x v ex ev).lp hf, hn, hz, hsh⟩
  · have e1' : f k = some l := e1
    rw [hf k (lt_of_get e2)] at e1'
    obtain ⟨h1, h2, h3⟩ := hi.tabs.2.2.2 k l r E e1' e2
    exact ⟨h1, h2, fun t => ⟨(h3 t).1, (h3 t).2.lp hf⟩⟩
/-- What is no loop's that is told may turn. -/
theorem HInv.put {G : Gh} {H : List AObj} {w : World} (hi : HInv G H w) {l : Nat} {o o' : Obj} (h : w.heap[l]? = some o) (hn : NC o) (hn' : NC o') (hl : ∀ k, G.lp k ≠ some l) : HInv G H (w.putObj l o') := by
  have hc := fun a => put_cell (o' := o') h hn hn' a
  have hf := fun a => put_frozen (o' := o') h hn hn' a
  have tr : ∀ {x v}, Rel G H w x v → Rel G H (w.putObj l o') x v := fun h => h.turn hc same_turn
  refine ⟨fun b off e => by rw [World.putObj_size]; exact hi.lt b off e, fun i sh cs e => ?_, fun i s n t e => ?_, hi.apart, ⟨⟨fun g j v e => ⟨(hi.tabs.1.1 g j v e).1, (hc _).trans (hi.tabs.1.1 g j v e).2⟩, fun g t e => ⟨(hi.tabs.1.2 g t e).1, let ⟨u, v, h⟩ := (hi.tabs.1.2 g t e).2; ⟨u, v, (hc _).trans h⟩⟩⟩, fun i m e => by rw [World.putObj_size]; exact hi.tabs.2.1 i m e, hi.tabs.2.2.1, fun i m r1 E1 e1 e2 => ?_⟩⟩
  · obtain ⟨arr, T, fr, hb, hs, hr, hn2, hz, hsh⟩ := hi.cells i sh cs e
    exact ⟨arr, T, fr, put_cells h hn hb, hs, fun j x v ex ev => tr (hr j x v ex ev), hn2, fun off ho => (hf _).trans (hz off ho), hsh⟩
  · obtain ⟨h0, h1, h2, hty⟩ := hi.grow i s n t e
    refine ⟨h0, h1, fun hn2 => ?_, typedOk_keep hty rfl (Nat.le_refl _) (fun b arr e fr hb => ⟨arr, put_cells h hn hb, rfl⟩) (fun b off arr e fr _ _ _ _ hx _ => hx)⟩
    obtain ⟨b, off, arr, T, fr, ea, hb, hle, hj⟩ := h2 hn2
    exact ⟨b, off, arr, T, fr, ea, put_cells h hn hb, hle, fun j h3 h4 => ⟨(hj j h3 h4).1, (hf _).trans (hj j h3 h4).2⟩⟩
  · obtain ⟨h1, h2, h3⟩ := hi.tabs.2.2.2 i m r1 E1 e1 e2
    have hne : m ≠ l := fun h => hl i (by rw [← h]; exact e1)
    exact ⟨h1, (World.putObj_heap_other hne).trans h2, fun t => ⟨(h3 t).1, tr (h3 t).2⟩⟩
/-- A step's end may turn, in a block that its beginning didn't know. -/
theorem Step.put {G G' : Gh} {H H' : List AObj} {w w' : World} (st : Step G H w G' H' w') {l : Nat} {o o' : Obj} (h : w'.heap[l]? = some o) (hn : NC o) (hn' : NC o') (hl : ¬ ∀ off, G.imm l off) : Step G H w G' H' (w'.putObj l o') :=
  ⟨st.os, st.tape, st.output, by rw [World.putObj_size]; exact st.size, st.imm, fun b off e => (put_cell h hn hn' _).trans (st.cell b off e), fun b e => (World.putObj_heap_other (fun e' => by subst e'; exact hl e)).trans (st.whole b e), st.obj⟩
theorem snoc_turn {H : List AObj} {x : AObj} : ∀ (k : Nat) o, H[k]? = some o → (∃ o', (H ++ [x])[k]? = some o') ∧ (o.isBlk = true → ∃ o', (H ++ [x])[k]? = some o' ∧ o'.isBlk = true) ∧ (∀ s n t, o = .grow s n t → (H ++ [x])[k]? = some o) := fun k o h => by
  have : (H ++ [x])[k]? = some o := by rw [List.getElem?_append_left (lt_of_get h)]; exact h
  exact ⟨⟨o, this⟩, fun hb => ⟨o, this, hb⟩, fun _ _ _ _ => this⟩
/-- A record is told. -/
theorem HInv.tell {G : Gh} {H : List AObj} {w : World} (hi : HInv G H w) {l : Nat} {r : Loop} {E : Env} (hl : G.lp H.length = some l) (himm : ∀ off, G.imm l off) (hrec : w.heap[l]? = some (.loop r)) (henv : ∀ t, Rel G H w (get E t) (r.tmps.getD t undef)) : HInv G (H ++ [.loop r E]) w := by
  have tr : ∀ {x v}, Rel G H w x v → Rel G (H ++ [.loop r E]) w x v := fun h => h.turn (fun _ => rfl) snoc_turn
  have bk : ∀ (i : Nat) o, (∀ r E, o ≠ .loop r E) → (H ++ [.loop r E])[i]? = some o → H[i]? = some o := fun i o ho h => by
    rcases Nat.lt_or_ge i H.length with hi | hi
    · rw [List.getElem?_append_left hi] at h; exact h
    · rw [List.getElem?_append_right hi] at h
      cases hn : i - H.length with
      | zero => rw [hn] at h; cases h; exact absurd rfl (ho _ _)
      | succ n => rw [hn] at h; cases h
  refine ⟨hi.lt, fun i sh cs e => ?_, fun i s n t e => hi.grow i s n t (bk i _ (fun _ _ e => by cases e) e), fun i j b e1 e2 => ?_, hi.tabs.1, hi.tabs.2.1, hi.tabs.2.2.1, fun i m r1 E1 e1 e2 => ?_⟩
  · obtain ⟨arr, T, fr, hb, hs, hr, hn2, hz, hsh⟩ := hi.cells i sh cs (bk i _ (fun _ _ e => by cases e) e)
    exact ⟨arr, T, fr, hb, hs, fun j x v ex ev => tr (hr j x v ex ev), hn2, hz, hsh⟩
  · have hs : ∀ i b, site G (H ++ [.loop r E]) i = some b → site G H i = some b := fun i b e => by
      unfold site at e ⊢
      cases ho : (H ++ [AObj.loop r E])[i]? with
      | none => rw [ho] at e; cases e
      | some o =>
        rw [ho] at e
        cases o with
        | loop _ _ => cases e
        | gone => cases e
        | cells _ _ => rw [bk i _ (fun _ _ e => by cases e) ho]; exact e
        | grow _ _ _ => rw [bk i _ (fun _ _ e => by cases e) ho]; exact e
    exact hi.apart i j b (hs i b e1) (hs j b e2)
  · rcases Nat.lt_or_ge i H.length with hil | hil
    · rw [List.getElem?_append_left hil] at e2
      obtain ⟨h1, h2, h3⟩ := hi.tabs.2.2.2 i m r1 E1 e1 e2
      exact ⟨h1, h2, fun t => ⟨(h3 t).1, tr (h3 t).2⟩⟩
    · rw [List.getElem?_append_right hil] at e2
      cases hn : i - H.length with
      | succ n => rw [hn] at e2; cases e2
      | zero =>
        rw [hn] at e2
        cases e2
        obtain rfl : i = H.length := by omega
        rw [hl] at e1
        cases e1
        exact ⟨himm, hrec, fun t => ⟨(henv t).low, tr (henv t)⟩⟩
/-- The marks that loops have left behind: blocks of deferred calls, of which there are none. -/
def Marks (G : Gh) (w : World) (b0 : Nat) : List Deferred → Prop
  | [] => True
  | d :: r => (∃ D, d = { target := .collected D, args := #[] } ∧ b0 ≤ D ∧ (∀ off, G.imm D off) ∧ (∀ k, G.lp k ≠ some D) ∧ w.heap[D]? = some (.deferred (some [])) ∧ ∀ d' ∈ r, d' ≠ d) ∧ Marks G w b0 r
def PostM (n : Nat) (ds : List Deferred) (G : Gh) (H : List AObj) (w : World) (Q : Exit → Env → List AObj → Prop) : Exit → Act → World → Prop :=
  fun e a' w' => ∃ ms G' env' H', Sat n (ms ++ ds) G' env' H' a' w' ∧ Step G H w G' H' w' ∧ Marks G' w' w.heap.size ms ∧ Q e env' H'
/-- As AW, of code that may hold ranges over functions, in no round. -/
def AWm (P : Program) (n : Nat) (c : Code) (Q : Exit → Env → List AObj → Prop) (env : Env) (H : List AObj) : Prop :=
  ∀ N ds G a w, Sat n ds G env H a w → c.wpIn (fw none) N P (PostM n ds G H w Q) a w
section
variable {P : Program} {n : Nat} {Q : Exit → Env → List AObj → Prop} {env : Env} {H : List AObj}
theorem awm_of_aw {c : Code} (h : AW P n c Q env H) : AWm P n c Q env H := fun N ds G a w s =>
  wpIn_mono (h none N ds G a w s) fun _ _ _ ⟨G', env', H', s', st, q⟩ => ⟨[], G', env', H', s', st, trivial, q⟩
theorem Marks.step {G G' : Gh} {H H' : List AObj} {w w' : World} {b0 : Nat} (st : Step G H w G' H' w') : ∀ {ms : List Deferred}, Marks G w b0 ms → Marks G' w' b0 ms
  | [], _ => trivial
  | d :: r, ⟨⟨D, h1, h2, h3, h4, h5, h6⟩, hr⟩ => ⟨⟨D, h1, h2, fun off => st.imm _ _ (h3 off), by rw [st.lp]; exact h4, (st.whole D h3).trans h5, h6⟩, hr.step st⟩
theorem Marks.le {G : Gh} {w : World} {b0 b1 : Nat} (h : b0 ≤ b1) : ∀ {ms : List Deferred}, Marks G w b1 ms → Marks G w b0 ms
  | [], _ => trivial
  | d :: r, ⟨⟨D, h1, h2, h3⟩, hr⟩ => ⟨⟨D, h1, by omega, h3⟩, hr.le h⟩
theorem Marks.lt {G : Gh} {w : World} {b0 : Nat} : ∀ {ms : List Deferred}, Marks G w b0 ms → ∀ d ∈ ms, ∃ D, d = { target := .collected D, args := #[] } ∧ b0 ≤ D ∧ D < w.heap.size
  | [], _, d, hd => by cases hd
  | d :: r, ⟨⟨D, h1, h2, h3, h4, h5, h6⟩, hr⟩, d', hd => by
    rcases List.mem_cons.1 hd with rfl | hd
    · exact ⟨D, h1, h2, (Array.getElem?_eq_some_iff.1 h5).1⟩
    · exact hr.lt d' hd
theorem Marks.app {G : Gh} {w : World} {b0 b1 : Nat} {ms1 : List Deferred} (h1 : Marks G w b0 ms1) (hlt : ∀ d ∈ ms1, ∃ D, d = { target := .collected D, args := #[] } ∧ D < b1) (hb : b0 ≤ b1) : ∀ {ms2 : List Deferred}, Marks G w b1 ms2 → Marks G w b0 (ms2 ++ ms1)
  | [], _ => h1
  | d :: r, ⟨⟨D, e1, e2, e3, e4, e5, e6⟩, hr⟩ => ⟨⟨D, e1, by omega, e3, e4, e5, fun d' hd => by
    rcases List.mem_append.1 hd with hd | hd
    · exact e6 d' hd
    · obtain ⟨D', e7, e8⟩ := hlt d' hd
      intro e
      rw [e7, e1] at e
      injection e with e
      injection e with e
      omega⟩, h1.app hlt hb hr⟩
theorem PostM.trans {ms : List Deferred} {ds : List Deferred} {G G' : Gh} {H H' : List AObj} {w w' : World} (hs : Step G H w G' H' w') (hm : Marks G' w' w.heap.size ms) {e : Exit} {a : Act} {w'' : World} (h : PostM n (ms ++ ds) G' H' w' Q e a w'') : PostM n ds G H w Q e a w'' := by
  obtain ⟨ms2, G'', env'', H'', s, st, hm2, q⟩ := h
  exact ⟨ms2 ++ ms, G'', env'', H'', by rw [List.append_assoc]; exact s, hs.trans st, (hm.step st).app (fun d hd => let ⟨D, e1, _, e3⟩ := hm.lt d hd; ⟨D, e1, e3⟩) hs.size hm2, q⟩
theorem awm_seq {x y : Code} (h : AWm P n x (Ex (fun env H => AWm P n y Q env H) Q) env H) : AWm P n (.seq x y) Q env H := fun N ds G a w s => by
  refine wpIn_seq (wpIn_mono (h N ds G a w s) fun e a' w' ⟨ms, G', env', H', s', st, hm, q⟩ => ?_)
  cases e with
  | normal => exact wpIn_mono (q N (ms ++ ds) G' a' w' s') fun _ _ _ p => p.trans st hm
  | _ => exact ⟨ms, G', env', H', s', st, hm, q⟩
theorem awm_block {id : Nat} {c : Code} (h : AWm P n c (InB id Q) env H) : AWm P n (.block id c) Q env H := fun N ds G a w s =>
  wpIn_block (wpIn_mono (h N ds G a w s) fun e a' w' ⟨ms, G', env', H', s', st, hm, q⟩ => by
    cases e with
    | exit id' =>
      simp only [Exit.inBlock]
      simp only [InB] at q
      split <;> rename_i hid
      · exact ⟨ms, G', env', H', s', st, hm, by simpa [hid] using q⟩
      · exact ⟨ms, G', env', H', s', st, hm, by simpa [hid] using q⟩
    | _ => exact ⟨ms, G', env', H', s', st, hm, q⟩)
theorem inv_low {G : Gh} {H : List AObj} {w : World} (hi : HInv G H w) {k : Nat} {sh : Shape} {cs : List AV} (h : H[k]? = some (.cells sh cs)) : ∀ x ∈ cs, Low H.length x := fun x hx => by
  obtain ⟨arr, T, fr, _, hl, hr, _⟩ := hi.cells k sh cs h
  obtain ⟨j, hj⟩ := List.mem_iff_getElem?.1 hx
  have : j < arr.size := by have := lt_of_get hj; omega
  exact (hr j x arr[j] hj (Array.getElem?_eq_getElem this)).low
/-- **A range over a function**, whose iterator is a function of the program that may be called with the loop's record told, and leaves it. -/
theorem awm_range {g : Operand} {ps : Array Tmp} {assign body : Code} {gf : FuncId} {caps : List AV} {fn : Func} (hg : ev env g = .fn (.func gf) [] caps) (hfn : P.funcs[gf]? = some fn) (hbody : fn.body.isSome = true) (hname : (fn.name == "runtime.NumGoroutine") = false)
    (h : ∀ r : Loop, r.state = .ready → r.pending = none → r.params = ps → r.assign = assign → r.body = body → r.tmps.size = n →
      ACalls P gf (.yld H.length :: caps) (H ++ [.loop r env]) (fun _ H' => ∃ H2 M, H' = H2 ++ .loop r env :: M ∧ H2.length = H.length ∧ (∀ (k : Nat) sh cs, H2[k]? = some (.cells sh cs) → H[k]? = some (.cells sh cs) ∨ ∀ x ∈ cs, Low H.length x) ∧ Q .normal env H2)) :
    AWm P n (.rangeFunc g ps assign body) Q env H := fun N ds G a w s => by
  have hge := s.ev g
  rw [hg] at hge
  generalize hv : a.eval g = gv at hge
  cases hge with
  | fn _ _ _ fa lb hf hc hrf hrc =>
  obtain rfl : fa = #[] := Array.eq_empty_of_size_eq_zero hf
  refine wpIn_rangeFunc fun f0 _ => ?_
  -- the two blocks
  obtain ⟨rec, hrec⟩ : ∃ rec : Loop, rec = { state := .ready, pending := none, fn := f0, tmps := a.tmps, params := ps, assign, body, defers := w.heap.size } := ⟨_, rfl⟩
  obtain ⟨W1, hW1⟩ : ∃ W1, (w.alloc (.deferred (some []))).alloc (.loop rec) = W1 := ⟨_, rfl⟩
  have hL1 : W1.heap[w.heap.size + 1]? = some (.loop rec) := by
    rw [← hW1]; have := World.alloc_heap_new (w.alloc (.deferred (some []))) (.loop rec); rwa [World.size_alloc] at this
  have hK1 : W1.heap[w.heap.size]? = some (.deferred (some [])) := by
    rw [← hW1]; exact (RowKit.Below.heap_alloc _ _ _ (by simp)).trans (World.alloc_heap_new w _)
  have hm1 : More w W1 := by rw [← hW1]; exact ((More.refl w).alloc _).alloc _
  have hsz1 : W1.heap.size = w.heap.size + 2 := by rw [← hW1]; simp
  -- the ghost
  let f1 : Nat → Option Nat := fun i => if i = H.length then some (w.heap.size + 1) else if i < H.length then G.lp i else none
  have hf1 : ∀ k, k < H.length → f1 k = (addImm G w W1).lp k := fun k hk => by
    show (if k = H.length then some (w.heap.size + 1) else if k < H.length then G.lp k else none) = G.lp k
    rw [if_neg (by omega), if_pos hk]
  have hfb : ∀ k l, f1 k = some l → l < W1.heap.size := fun k l e => by
    have e : (if k = H.length then some (w.heap.size + 1) else if k < H.length then G.lp k else none) = some l := e
    split at e
    · cases e; omega
    · split at e
      · have := s.inv.tabs.2.1 k l e
        omega
      · cases e
  have hfj : ∀ k k' l, f1 k = some l → f1 k' = some l → k = k' := fun k k' l e e' => by
    have e : (if k = H.length then some (w.heap.size + 1) else if k < H.length then G.lp k else none) = some l := e
    have e' : (if k' = H.length then some (w.heap.size + 1) else if k' < H.length then G.lp k' else none) = some l := e'
    split at e
    · cases e
      split at e'
      · omega
      · split at e'
        · have := s.inv.tabs.2.1 k' _ e'
          omega
        · cases e'
    · split at e
      · split at e'
        · cases e'
          have := s.inv.tabs.2.1 k _ e
          omega
        · split at e'
          · exact s.inv.tabs.2.2.1 k k' l e e'
          · cases e'
      · cases e
  have hi1 : HInv (withLp (addImm G w W1) f1) H W1 := (hm1.inv s.inv).lp hf1 hfb hfj
  have himm : ∀ b, w.heap.size ≤ b → b < W1.heap.size → ∀ off, (withLp (addImm G w W1) f1).imm b off := fun b h1 h2 off => .inr ⟨h1, h2⟩
  have tr1 : ∀ {x v}, Rel G H w x v → Rel (withLp (addImm G w W1) f1) H W1 x v := fun r => (r.mono (hm1.step s.inv)).lp hf1
  have hlp : f1 H.length = some (w.heap.size + 1) := if_pos rfl
  have hi2 : HInv (withLp (addImm G w W1) f1) (H ++ [.loop rec env]) W1 := hi1.tell hlp (himm _ (by omega) (by omega)) hL1 (fun t => by
    rw [hrec]
    exact tr1 (s.env t))
  have tr2 : ∀ {x v}, Rel G H w x v → Rel (withLp (addImm G w W1) f1) (H ++ [.loop rec env]) W1 x v := fun r => (tr1 r).turn (fun _ => rfl) snoc_turn
  have hargs : RelAll (withLp (addImm G w W1) f1) (H ++ [.loop rec env]) W1 (.yld H.length :: caps) (#[.func (.yield (w.heap.size + 1)) #[] #[]] ++ lb) := by
    refine ⟨by simp [hc]; omega, fun j x v ex ev => ?_⟩
    cases j with
    | zero =>
      rw [Array.getElem?_append_left (by simp)] at ev
      cases ex
      cases ev
      exact .yld _ _ (.loop rec env) (by simp) hlp
    | succ j =>
      simp only [List.getElem?_cons_succ] at ex
      rw [Array.getElem?_append_right (by simp)] at ev
      exact tr2 (hrc j x v ex (by simpa using ev))
  have hcall := (h rec (by rw [hrec]) (by rw [hrec]) (by rw [hrec]) (by rw [hrec]) (by rw [hrec]) (by rw [hrec]; exact s.size)) _ W1 _ hi2 hargs
  have hcalls := hcall.calls hfn hbody hname
  have eg : ∀ args w, (callFunc gf args).run P w = .ok (.enter gf args) w := fun args w => by
    have hb' : fn.body ≠ none := by intro e; rw [e] at hbody; cases hbody
    have hn' : fn.name ≠ "runtime.NumGoroutine" := by simpa using hname
    simp [callFunc, hfn, hb', hn']
  refine ⟨w.heap.size + 1, [{ target := .collected w.heap.size, args := #[] }], W1, { target := .fn (.func gf) lb, args := #[.func (.yield (w.heap.size + 1)) #[] #[]] }, W1, gf,
    #[.func (.yield (w.heap.size + 1)) #[] #[]] ++ lb, W1, ?_, ?_, fun _ _ => trivial, ?_, fun e => ?_, ?_⟩
  · rw [← hW1, hrec]; exact run_enterLoop_outer _ _ _ _ _
  · simp only [resolve, hv]
    simp [go_sem]
  · simp only [invoke]
    exact eg _ _
  · simp [fw, Fence.wide] at e
  · refine callsIn_fw (Calls.mono hcalls ?_)
    rintro e w3 ⟨v, rfl, x, G3, H3, hi3, st3, hx3, H2, M, rfl, hlen, hlow, hq⟩
    have hst : rec.state = .ready := by rw [hrec]
    have hpd : rec.pending = none := by rw [hrec]
    have hlp3 : G3.lp H.length = some (w.heap.size + 1) := by rw [st3.lp]; exact hlp
    have hlpk : ∀ k, k < H.length → G3.lp k = G.lp k := fun k hk => by rw [st3.lp]; exact hf1 k hk
    have hk3 : (H2 ++ .loop rec env :: M)[H.length]? = some (.loop rec env) := by
      rw [List.getElem?_append_right (by omega), hlen, Nat.sub_self]; rfl
    obtain ⟨himm3, hrec3, _⟩ := hi3.tabs.2.2.2 H.length _ _ _ hlp3 hk3
    have htake : (H2 ++ AObj.loop rec env :: M).take H.length = H2 := by rw [← hlen, List.take_left]
    have hsz3 := st3.size
    refine ⟨_, _, run_endLoop hrec3 (by rw [hst]; simp), ?_⟩
    rw [hpd]
    have hne : ∀ k, G.lp k ≠ some (w.heap.size + 1) := fun k e => by have := s.inv.tabs.2.1 k _ e; omega
    have hneD : ∀ k, G.lp k ≠ some w.heap.size := fun k e => by have := s.inv.tabs.2.1 k _ e; omega
    have hc4 := fun x a => put_cell (o' := .loop x) hrec3 (nc_loop _) (nc_loop _) a
    have hcut := hi3.cut H.length (fun k sh cs hk e => by
      rw [List.getElem?_append_left (by omega)] at e
      rcases hlow k sh cs e with h | h
      · exact inv_low s.inv h
      · exact h)
    rw [htake] at hcut
    have hcut2 := hcut.lp (f := G.lp) (fun k hk => (hlpk k (by omega)).symm) (fun k l e => by have := s.inv.tabs.2.1 k l e; omega) s.inv.tabs.2.2.1
    have tr4 : ∀ {x v o}, Rel G H w x v → Rel (withLp G3 G.lp) H2 (w3.putObj (w.heap.size + 1) (.loop o)) x v := fun r => by
      have h3 := ((tr2 r).mono st3).cut H.length r.low
      rw [htake] at h3
      exact (h3.lp (f := G.lp) (fun k hk => (hlpk k (by omega)).symm)).turn (hc4 _) same_turn
    have hD3 : w3.heap[w.heap.size]? = some (.deferred (some [])) := (st3.whole _ (himm _ (Nat.le_refl _) (by omega))).trans hK1
    refine ⟨[{ target := .collected w.heap.size, args := #[] }], withLp G3 G.lp, env, H2, ⟨s.size, by rw [← s.defers], fun t => tr4 (s.env t), hcut2.put hrec3 (nc_loop _) (nc_loop _) hne⟩, ?_, ?_, hq⟩
    · refine ⟨?_, st3.tape.trans hm1.tape, st3.output.trans hm1.output, by rw [World.putObj_size]; omega, fun b off e => st3.imm _ _ (.inl e), fun b off e => ?_, fun b e => ?_, fun k => ?_⟩
      · exact congrArg (fun o => (o, G.lp)) (st3.osEq.trans hm1.os)
      · exact (hc4 _ _).trans ((st3.cell b off (.inl e)).trans (World.cell?_of_block (w := w) (hm1.old b (s.inv.lt b off e))))
      · have hlt := s.inv.lt b 0 (e 0)
        exact (World.putObj_heap_other (by omega)).trans ((st3.whole b fun off => .inl (e off)).trans (hm1.old b hlt))
      · have o3 := st3.obj k
        rcases Nat.lt_or_ge k H.length with hk | hk
        · rw [List.getElem?_append_left hk] at o3
          unfold objKept at o3 ⊢
          rw [List.getElem?_append_left (by omega)] at o3
          exact o3
        · rw [List.getElem?_eq_none hk]
          exact nl_none (List.getElem?_eq_none (by omega))
    · refine ⟨⟨w.heap.size, rfl, Nat.le_refl _, fun off => st3.imm _ _ (himm _ (Nat.le_refl _) (by omega) off), hneD, (World.putObj_heap_other (by omega)).trans hD3, fun d' hd => by cases hd⟩, trivial⟩
end
theorem fin_ends {P : Program} {L : Tab} (hL : TabOk P L) {fn : Func} {n : Nat} {rs : List ResultVar} (hrs : fn.results.toList = rs) {H H' : List AObj} {R : AV → List AObj → Prop} {G G' : Gh} {w w' : World} {env' : Env} {a : Act} (hi : HInv G H w) (s : Sat n ds G' env' H' a w') (st : Step G H w G' H' w') (hfin : Fin L rs H R env' H') :
    ∃ v, (results fn a.tmps).run P w' = .ok v w' ∧ ∃ x G'' H'', HInv G'' H'' w' ∧ Step G H w G'' H'' w' ∧ Rel G'' H'' w' x v ∧ R x H'' := by
  unfold Fin at hfin
  split at hfin
  · rename_i p xs hres
    obtain ⟨hp, x, H'', hends, hR⟩ := hfin
    obtain ⟨us, hrun, hlen, hrel⟩ := res_run (P := P) hL s rs hres hp
    have hres' : (results fn a.tmps).run P w' = .ok (if h : us.length = 1 then us[0] else .tuple us.toArray) w' := by
      rw [results_eq, Array.mapM_eq_mapM_toList, hrs]
      simp only [Sem.run_bind, Sem.run_map]
      rw [hrun]
      simp only [Result.andThen_ok, Sem.run_pure, List.size_toArray, List.getElem_toArray]
    have hrx : Rel G' H' w' (resTop xs) (if h : us.length = 1 then us[0] else .tuple us.toArray) := by
      unfold resTop
      split
      · have h1 : us.length = 1 := by simpa using hlen
        rw [dif_pos h1]
        exact hrel 0 _ _ rfl (by simp [h1])
      · rename_i hne
        have h1 : us.length ≠ 1 := by
          intro h1
          rw [hlen] at h1
          obtain ⟨y, hy⟩ := List.length_eq_one_iff.1 h1
          exact hne y hy
        rw [dif_neg h1]
        exact .tup _ _ (by simpa using hlen) fun j x v e e' => hrel j x v e (by simpa using e')
    obtain ⟨G'', hi'', st'', hrx''⟩ := hends G w G' w' _ hi s.inv st hrx
    exact ⟨_, hres', x, G'', H'', hi'', st'', hrx'', hR⟩
  · exact hfin.elim
theorem leave_marks {P : Program} {F : Fence} {N : Nat} {fn : Func} {n : Nat} {H H' : List AObj} {G G' : Gh} {w : World} {env' : Env} {a : Act} {R : Ending → World → Prop} (hi : HInv G H w)
    (hend : ∀ w', Sat n a.defers G' env' H' a w' → Step G H w G' H' w' → ∃ v, (results fn a.tmps).run P w' = .ok v w' ∧ R (.returned v) w') :
    ∀ (ms : List Deferred) (w' : World), Sat n a.defers G' env' H' a w' → Step G H w G' H' w' → Marks G' w' w.heap.size ms → LeavesInM F N P fn a.tmps R ms .returning w'
  | [], w', s, st, _ => hend w' s st
  | d :: r, w', s, st, ⟨⟨D, h1, h2, h3, h4, h5, h6⟩, hr⟩ => by
    have hnD : ¬ ∀ off, G.imm D off := fun e => by have := hi.lt D 0 (e 0); omega
    have hc := fun x => put_cell (o' := .deferred none) h5 (nc_deferred _) (nc_deferred _) x
    refine ⟨by simp, .inl ⟨D, w'.putObj D (.deferred none), by rw [h1], run_takeDeferred h5, ?_⟩⟩
    refine leave_marks hi hend r _ ⟨s.size, s.defers, fun t => (s.env t).turn hc same_turn, s.inv.put h5 (nc_deferred _) (nc_deferred _) h4⟩ (st.put h5 (nc_deferred _) (nc_deferred _) hnD) ?_
    have : ∀ (ms : List Deferred), (∀ d' ∈ ms, d' ≠ d) → Marks G' w' w.heap.size ms → Marks G' (w'.putObj D (.deferred none)) w.heap.size ms := by
      intro ms
      induction ms with
      | nil => intro _ _; trivial
      | cons d2 r2 ih =>
        rintro hne ⟨⟨D2, k1, k2, k3, k4, k5, k6⟩, hr2⟩
        refine ⟨⟨D2, k1, k2, k3, k4, ?_, k6⟩, ih (fun d' hd => hne d' (List.mem_cons_of_mem _ hd)) hr2⟩
        have : D2 ≠ D := fun e => hne d2 (List.mem_cons_self ..) (by rw [k1, h1, e])
        exact (World.putObj_heap_other this).trans k5
    exact this r h6 hr
/-- **The contract of a function whose body holds ranges over functions.** -/
theorem acalls_of_awm {P : Program} {L : Tab} (hL : TabOk P L) {f : FuncId} {fn : Func} {c : Code} {n : Nat} {rs : List ResultVar} {args : List AV} {H : List AObj} {R : AV → List AObj → Prop} (hf : P.funcs[f]? = some fn) (hb : fn.body = some c) (hname : (fn.name == "runtime.NumGoroutine") = false) (hn : fn.ntmps = n)
    (hrs : fn.results.toList = rs) (hargs : args.length ≤ n) (h : AWm P n c (BodyQ L rs H R) (initEnv 0 args) H) : ACalls P f args H R := by
  intro G w vs hi hr
  refine .inl ⟨fn, hf, by rw [hb]; rfl, hname, ?_⟩
  have hs0 : Sat n [] G (initEnv 0 args) H { tmps := vs ++ Array.replicate (fn.ntmps - vs.size) undef, defers := [] } w := by
    refine ⟨by simp [hr.1]; omega, rfl, fun t => ?_, hi⟩
    rw [get_init]
    simp only [Nat.zero_le, if_true, Nat.sub_zero]
    by_cases ht : t < args.length
    · rw [List.getElem?_eq_getElem ht]
      have hv : t < vs.size := by rw [hr.1]; exact ht
      rw [Array.getD_eq_getD_getElem?, Array.getElem?_append_left hv, Array.getElem?_eq_getElem hv]
      exact hr.2 t _ _ (List.getElem?_eq_getElem ht) (Array.getElem?_eq_getElem hv)
    · rw [List.getElem?_eq_none (by omega)]
      exact .any _
  refine (callsIn_wide (n := 0)).1 (callsIn_of_wp_marks (F := fw none) hf hb trivial (wpIn_mono (h 0 [] G _ w hs0) fun e a w' hq => ?_))
  obtain ⟨ms, G', env', H', s, st, hm, q⟩ := hq
  have hd : a.defers = ms := by rw [s.defers, List.append_nil]
  have key : Fin L rs H R env' H' → LeavesInM (fw none) 0 P fn a.tmps (fun e w' => ∃ v, e = .returned v ∧ ∃ x G' H', HInv G' H' w' ∧ Step G H w G' H' w' ∧ Rel G' H' w' x v ∧ R x H') a.defers .returning w' := fun hfin => by
    rw [hd]
    refine leave_marks hi (fun w' s st => ?_) ms w' (by rw [hd, ← List.append_nil ms]; exact s) st hm
    obtain ⟨v, h1, x, G'', H'', h2⟩ := fin_ends hL hrs hi s st hfin
    exact ⟨v, h1, v, rfl, x, G'', H'', h2⟩
  cases e with
  | normal => exact key q
  | ret => exact key q
  | exit _ => exact q.elim
  | goto _ => exact q.elim
  | panic _ => exact q.elim
  | outgrown => exact q.elim
end Go.Proofs.YtdahdbnfknmmgaaGreatDoor.V
end

section
set_option linter.unusedSimpArgs false
set_option linter.unusedVariables false
namespace Go.Proofs.YtdahdbnfknmmgaaGreatDoor
open Go V
set_option maxRecDepth 10000
set_option maxHeartbeats 4000000
theorem Chunk_c {xs : List AV} {n : Nat} {H : List AObj} (hn : 1 ≤ n) (hn2 : n ≤ 1000000) : ACalls Tryz.prog 114 [.sl .sh 1 xs, .lit (.int .i64 (n : Int))] H (fun y H' => y = .fn (.func 133) [] [.ip (.sl .sh 1 xs), .ip (.lit (.int .i64 (n : Int)))] ∧ H' = H) := by
  have h1 : ((n : Int) < 1) = False := eq_false (by omega)
  refine acalls_vc L_ok mixed [] (rs := [.tmp 4]) (n := 9) Tryz.func114 rfl rfl rfl rfl (Nat.le_of_ble_eq_true rfl) (by kernel_rfl) ?_
  repeat' (first | refine unhold ?_ | (simp -dsimp -implicitDefEqProofs (disch := (first | assumption | omega | (simp only [ll1, ll2, ll3, ll4, ll5, ll6, ll7, ll8]; omega))) only [go_sem, h1]) | refine vcI (fun _ => ?_) (fun _ => ?_) | (refine vcA ?_ ?_; focus (repeat' (first | omega | assumption | refine vcA ?_ ?_); done)) | omega | refine imp_in (fun _ => ?_))
  exact done_same ⟨rfl, rfl⟩
theorem chunks_c {k c n : Nat} (b : List UInt8) (Hs : Nat → List AObj) (hn : 1 ≤ n) (hc : b.length = c * n) (hb : b.length ≤ 1000000000) (hlen : (Hs 0).length ≤ (Hs c).length)
    (hy : ∀ i, i < c → AYields Tryz.prog k [.sl .full 1 (((b.drop (i * n)).take n).map byteAV)] (Hs i) (fun x H' => x = .lit (.bool true) ∧ H' = Hs (i + 1))) :
    ACalls Tryz.prog 133 [.yld k, .ip (.sl .sh 1 (b.map byteAV)), .ip (.lit (.int .i64 (n : Int)))] (Hs 0) (fun x H' => x = .tup [] ∧ H' = Hs c) := by
  refine acalls_vc L_ok mixed [1000003] (rs := []) (n := 31) Tryz.func133 rfl rfl rfl rfl (Nat.le_of_ble_eq_true rfl) (by kernel_rfl) ?_
  repeat' (first | refine unhold ?_ | (simp -dsimp -implicitDefEqProofs (disch := (first | assumption | omega | (simp only [ll1, ll2, ll3, ll4, ll5, ll6, ll7, ll8]; omega))) only [go_sem]) | refine vcI (fun _ => ?_) (fun _ => ?_) | (refine vcA ?_ ?_; focus (repeat' (first | omega | assumption | refine vcA ?_ ?_); done)) | omega | refine imp_in (fun _ => ?_))
  refine vc_loopk L_ok mixed [1000003] [0, 1, 2] (fun i : Nat => i ≤ c) (fun i => [(4, .lit (.int .i64 ((i * n : Nat) : Int)))]) Hs (fun i => c - i) (by kernel_rfl) ?_ 0 (by omega) env_ok rfl
  intro i hi
  by_cases hic : i < c
  · have h1 : (i + 1) * n ≤ c * n := Nat.mul_le_mul_right n (by omega)
    have h2 : (i + 1) * n = i * n + n := by rw [Nat.add_mul, Nat.one_mul]
    have hY := hy i hic
    rw [h2] at h1
    generalize hin : i * n = a at *
    have hlt : ((a : Int) < ((b.length : Nat) : Int)) = True := eq_true (by omega)
    have hm : min ((n : Int)) (((b.length - a : Nat)) : Int) = (n : Int) := by omega
    have hz : ((a : Int) + (n : Int)).toNat - a = n := by omega
    repeat' (first | refine unhold ?_ | (simp -dsimp -implicitDefEqProofs (disch := (first | assumption | omega | (simp only [ll1, ll2, ll3, ll4, ll5, ll6, ll7, ll8]; omega))) only [go_sem, hlt, hm, hz]) | refine ayields_same (hY) ?_ | refine vcI (fun _ => ?_) (fun _ => ?_) | (refine vcA ?_ ?_; focus (repeat' (first | omega | assumption | refine vcA ?_ ?_); done)) | omega | refine imp_in (fun _ => ?_))
    refine again (i + 1) ?_ ?_ ?_ env_ok
    · omega
    · omega
    · rfl
  · obtain rfl : i = c := by omega
    have hlt : (((i * n : Nat) : Int) < ((b.length : Nat) : Int)) = False := eq_false (by omega)
    repeat' (first | refine unhold ?_ | (simp -dsimp -implicitDefEqProofs (disch := (first | assumption | omega | (simp only [ll1, ll2, ll3, ll4, ll5, ll6, ll7, ll8]; omega))) only [go_sem, hlt]) | refine vcI (fun _ => ?_) (fun _ => ?_) | (refine vcA ?_ ?_; focus (repeat' (first | omega | assumption | refine vcA ?_ ?_); done)) | omega | refine imp_in (fun _ => ?_))
    exact done_keep _ (Le.refl _) hlen ⟨rfl, rfl⟩
/-- The state behind i chunks. -/
def foldS (s : Sha.St 32) (b : List UInt8) (i : Nat) : Sha.St 32 := ((chunks 64 b).take i).foldl (fun s c => sha32.take s (wordsOf 32 c)) s
theorem foldS_next {s : Sha.St 32} {b : List UInt8} {i : Nat} (h : i < b.length / 64) : foldS s b (i + 1) = sha32.take (foldS s b i) (wordsOf 32 ((b.drop (i * 64)).take 64)) := by
  have hl : (chunks 64 b).length = b.length / 64 := by simp [chunks]
  unfold foldS
  rw [List.take_succ_eq_append_getElem (by omega), List.foldl_append]
  simp [chunks]
theorem u32_shl8 (x : BitVec 32) : IntKind.u32.wrap ((x.toNat : Int) * 256) = ((x <<< 8).toNat : Int) := by
  rw [BitVec.toNat_shiftLeft, Nat.shiftLeft_eq]
  simp [IntKind.wrap, IntKind.signed, IntKind.bits]
theorem u32_orb (x : BitVec 32) (b : UInt8) : IntKind.u32.wrap (((BitVec.ofInt IntKind.u32.bits (x.toNat : Int) ||| BitVec.ofInt IntKind.u32.bits (b.toNat : Int)).toNat : Nat) : Int) = ((x ||| BitVec.ofNat 32 b.toNat).toNat : Int) := by
  have : (b.toNat : Int) = ((BitVec.ofNat 32 b.toNat).toNat : Int) := by
    rw [BitVec.toNat_ofNat, Nat.mod_eq_of_lt (by have := b.toNat_lt; omega)]
  rw [this, u32_or]
/-- The end of a round, the objects behind B dropped. -/
theorem aw_cut {P : Program} {n : Nat} {c : Code} {env : Env} {H B : List AObj} (hB : H.length ≤ B.length) (hlow : ∀ (k : Nat) sh cs, B[k]? = some (.cells sh cs) → H[k]? = some (.cells sh cs) ∨ ∀ x ∈ cs, Low B.length x) (h : AW P n c (fun e _ H2 => e = .normal ∧ ∃ M, H2 = B ++ M) env H) : AW P n c (fun e _ H2 => e = .normal ∧ H2 = B) env H := fun ro N ds G a w s => by
  refine wpIn_mono (h ro N ds G a w s) fun e a' w' ⟨G', env', H', s', st, he, M, hM⟩ => ?_
  subst hM
  have hcut := s'.inv.cut B.length (fun k sh cs hk e => by
    rw [List.getElem?_append_left hk] at e
    rcases hlow k sh cs e with h | h
    · exact fun x hx => (inv_low s.inv h x hx).mono hB
    · exact h)
  rw [List.take_left] at hcut
  refine ⟨G', [], B, ⟨s'.size, s'.defers, fun t => .any _, hcut⟩, ?_, he, rfl⟩
  refine ⟨st.os, st.tape, st.output, st.size, st.imm, st.cell, st.whole, fun k => ?_⟩
  have o := st.obj k
  rcases Nat.lt_or_ge k H.length with hk | hk
  · unfold objKept at o ⊢
    rw [List.getElem?_append_left (by omega)] at o
    exact o
  · rw [List.getElem?_eq_none hk] at o ⊢
    intro r E e
    rcases Nat.lt_or_ge k B.length with hb | hb
    · exact o r E (by rw [List.getElem?_append_left hb]; exact e)
    · rw [List.getElem?_eq_none hb] at e; cases e
theorem bytes4 (x : Nat) : bytesOf 4 x = [UInt8.ofNat (x / 16777216), UInt8.ofNat (x / 65536), UInt8.ofNat (x / 256), UInt8.ofNat x] := by
  have : bytesOf 4 x = [UInt8.ofNat (x / 256 ^ 3), UInt8.ofNat (x / 256 ^ 2), UInt8.ofNat (x / 256 ^ 1), UInt8.ofNat (x / 256 ^ 0)] := rfl
  rw [this]
  simp
theorem mapB (a : List UInt8) (n : Nat) : a.map byteAV ++ [.lit (.int .u8 (IntKind.u8.wrap (n : Int)))] = (a ++ [UInt8.ofNat n]).map byteAV := by
  rw [u8_of]
  simp [byteAV]
theorem words_set {blk : List UInt8} {j : Nat} (hb : blk.length = 64) (h : j < 64) : ((wordsOf 32 (blk.take j)).map (wAV .u32)).set (j / 4) (wAV .u32 ((wordsOf 32 (blk.take j)).getD (j / 4) 0 <<< 8 ||| BitVec.ofNat 32 (blk.getD j 0).toNat)) = (wordsOf 32 (blk.take (j + 1))).map (wAV .u32) := by
  have hl : (blk.take j).length = j := by rw [List.length_take]; omega
  have := wordsOf_snoc (w := 32) (l := blk.take j) (b := blk.getD j 0) (by decide) (by rw [hl]; show j < 16 * 4; omega)
  rw [hl] at this
  rw [← List.map_set]
  congr 1
  rw [List.take_succ_eq_append_getElem (by omega), show blk[j]'(by omega) = blk.getD j 0 by simp [List.getD, List.getElem?_eq_getElem (show j < blk.length by omega)]]
  exact this.symm
/-- A round: a chunk is taken in. -/
theorem round_c {k : Nat} {s : Sha.St 32} {H : List AObj} {r : Loop} {E : Env} {assign body : Code} (blk : List UInt8) (hkl : k < H.length) (hbl : blk.length = 64) (hE : get E 3 = .ip (.mp k 0) ∧ get E 5 = .ip (.lit (.int .i64 4)))
    (hr1 : r.state = .ready) (hr2 : r.pending = none) (hr3 : r.params = #[19]) (hr6 : r.tmps.size = 67) (hr4 : r.assign = assign) (hr5 : r.body = body)
    (hA : AW Tryz.prog 67 assign (Ex (fun env1 H1 => AW Tryz.prog 67 body (fun e _ H2 => e = .normal ∧ H2 = H.set k (rObj (sha32.take s (wordsOf 32 blk))) ++ [.loop (busy r) E]) env1 (H1.set H.length (.loop (busy r) E)) ∧ H1[H.length]? = some (.loop r E)) (fun _ _ _ => False)) ((19, .sl .full 1 (blk.map byteAV)) :: E) (H.set k (rObj s) ++ [.loop r E])) :
    AYields Tryz.prog H.length [.sl .full 1 (blk.map byteAV)] (H.set k (rObj s) ++ [.loop r E]) (fun x H' => x = .lit (.bool true) ∧ H' = H.set k (rObj (sha32.take s (wordsOf 32 blk))) ++ [.loop r E]) := by
  have hlen : ∀ o, (H.set k o).length = H.length := fun o => List.length_set
  have hat : ∀ o x, (H.set k o ++ [x])[H.length]? = some x := fun o x => by
    rw [List.getElem?_append_right (by rw [hlen]; exact Nat.le_refl _), hlen, Nat.sub_self]
    rfl
  have hst : ∀ o x y, (H.set k o ++ [x]).set H.length y = H.set k o ++ [y] := fun o x y => by
    rw [List.set_append_right _ _ (by rw [hlen]; exact Nat.le_refl _), hlen, Nat.sub_self]
    rfl
  have := ayields_of_aw (P := Tryz.prog) (k := H.length) (n := 67) (p := 19) (r := r) (E := E) (arg := .sl .full 1 (blk.map byteAV)) (H := H.set k (rObj s) ++ [.loop r E]) (B := H.set k (rObj (sha32.take s (wordsOf 32 blk))) ++ [.loop (busy r) E]) (hat _ _) hr1 hr2 hr3 hr6 (by omega) (by rw [hr4, hr5]; exact hA)
  rw [hst] at this
  exact this
theorem all_c {k : Nat} {s : Sha.St 32} {H : List AObj} (b : List UInt8) (hk : H[k]? = some (rObj s)) (hb : b.length = b.length / 64 * 64) (hb2 : b.length ≤ 1000000000) :
    ACalls Tryz.prog 87 [.mp k 0, .sl .sh 1 (b.map byteAV), .lit (.int .i64 4)] H (fun x H' => x = .sl .sh 1 (((foldS s b (b.length / 64)).list.flatMap fun x => bytesOf 4 x.toNat).map byteAV) ∧ H' = H.set k (rObj (foldS s b (b.length / 64)))) := by
  have hkl := lt_of_get hk
  refine acalls_of_awm L_ok (rs := [.tmp 6]) (n := 67) Tryz.func87 rfl rfl rfl rfl (Nat.le_of_ble_eq_true rfl) ?_
  refine awm_seq (awm_of_aw (vcC_sound L_ok mixed (mu := []) _ ?ok ?_))
  case ok => kernel_rfl
  repeat' (first | refine unhold ?_ | (simp -dsimp -implicitDefEqProofs (disch := (first | assumption | omega | (simp only [ll1, ll2, ll3, ll4, ll5, ll6, ll7, ll8]; omega))) only [go_sem]) | refine vcI (fun _ => ?_) (fun _ => ?_) | (refine vcA ?_ ?_; focus (repeat' (first | omega | assumption | refine vcA ?_ ?_); done)) | omega | refine imp_in (fun _ => ?_))
  refine awm_seq ?_
  refine awm_seq (awm_of_aw (vcC_sound L_ok mixed (mu := []) _ ?ok ?_))
  case ok => kernel_rfl
  have hch := fun H => Chunk_c (xs := b.map byteAV) (n := 64) (H := H) (by omega) (by omega)
  repeat' (first | refine unhold ?_ | (simp -dsimp -implicitDefEqProofs (disch := (first | assumption | omega | (simp only [ll1, ll2, ll3, ll4, ll5, ll6, ll7, ll8]; omega))) only [go_sem]) | refine acalls_same (hch _) ?_ | refine ⟨_, hch _, ?_⟩ | refine ⟨_, _, hch _, ?_⟩ | refine vcI (fun _ => ?_) (fun _ => ?_) | (refine vcA ?_ ?_; focus (repeat' (first | omega | assumption | refine vcA ?_ ?_); done)) | omega | refine imp_in (fun _ => ?_))
  refine awm_block ?_
  refine awm_range rfl Tryz.func133 rfl rfl ?_
  intro r hr1 hr2 hr3 hr4 hr5 hr6
  have hs0 : foldS s b 0 = s := rfl
  have h0 : H.set k (rObj (foldS s b 0)) = H := by rw [hs0]; exact setk_same hk
  generalize hE : [(18, AV.fn (.func 133) [] [.ip (.sl .sh 1 (b.map byteAV)), .ip (.lit (.int .i64 64))]), (17, .int .i64 64), (16, .lit (.int .i64 4)), (15, .sl .sh 1 (b.map byteAV)), (6, .sl .full 0 []), (5, .ip (.lit (.int .i64 4))), (3, .ip (.mp k 0)), (0, .mp k 0), (1, .sl .sh 1 (b.map byteAV)), (2, .lit (.int .i64 4))] = E
  have hE3 : get E 3 = .ip (.mp k 0) := by rw [← hE]; rfl
  have hE5 : get E 5 = .ip (.lit (.int .i64 4)) := by rw [← hE]; rfl
  have hE6 : get E 6 = .sl .full 0 [] := by rw [← hE]; rfl
  have hC := chunks_c (k := H.length) (c := b.length / 64) (n := 64) b (fun i => H.set k (rObj (foldS s b i)) ++ [.loop r E]) (by omega) hb hb2 (by simp) (fun i hi => by
    have hbl : ((b.drop (i * 64)).take 64).length = 64 := by rw [List.length_take, List.length_drop]; omega
    rw [foldS_next hi]
    generalize (b.drop (i * 64)).take 64 = blk at *
    generalize foldS s b i = st at *
    refine round_c blk hkl hbl ⟨hE3, hE5⟩ hr1 hr2 hr3 hr6 hr4 hr5 ?_
    have hlen : ∀ o, (H.set k o).length = H.length := fun o => List.length_set
    have hat : ∀ o x, (H.set k o ++ [x])[H.length]? = some x := fun o x => by
      rw [List.getElem?_append_right (by rw [hlen]; exact Nat.le_refl _), hlen, Nat.sub_self]
      rfl
    have hst : ∀ o x y, (H.set k o ++ [x]).set H.length y = H.set k o ++ [y] := fun o x y => by
      rw [List.set_append_right _ _ (by rw [hlen]; exact Nat.le_refl _), hlen, Nat.sub_self]
      rfl
    have hnl : ∀ sh cs, AObj.loop (busy r) E ≠ .cells sh cs := fun _ _ h => by cases h
    generalize AObj.loop (busy r) E = lpb at *
    generalize AObj.loop r E = lp at *
    subst hE
    refine vcC_sound L_ok mixed (mu := []) _ ?ok ?_
    case ok => kernel_rfl
    repeat' (first | refine unhold ?_ | (simp -dsimp -implicitDefEqProofs (disch := (first | assumption | omega | (simp only [ll1, ll2, ll3, ll4, ll5, ll6, ll7, ll8]; omega))) only [go_sem]) | refine vcI (fun _ => ?_) (fun _ => ?_) | (refine vcA ?_ ?_; focus (repeat' (first | omega | assumption | refine vcA ?_ ?_); done)) | omega | refine imp_in (fun _ => ?_))
    all_goals first | exact hat _ _ | rw [hst] | skip
    refine aw_cut (by simp) (fun j sh cs e => ?_) (vcC_sound L_ok mixed (mu := [1000007]) _ ?ok ?_)
    case ok => kernel_rfl
    · rcases Nat.lt_or_ge j H.length with hj | hj
      · by_cases hjk : j = k
        · subst hjk
          rw [List.getElem?_append_left (by rw [hlen]; exact hj), List.getElem?_set_self hj] at e
          exact .inr (rLow sh cs (Option.some.inj e))
        · rw [List.getElem?_append_left (by rw [hlen]; exact hj), List.getElem?_set_ne (Ne.symm hjk)] at e
          exact .inl (by rw [List.getElem?_append_left (by rw [hlen]; exact hj), List.getElem?_set_ne (Ne.symm hjk)]; exact e)
      · rw [List.getElem?_append_right (by rw [hlen]; exact hj), hlen] at e
        cases hn : j - H.length with
        | zero => rw [hn] at e; exact absurd (Option.some.inj e) (hnl _ _)
        | succ n => rw [hn] at e; cases e
    repeat' (first | refine unhold ?_ | (simp -dsimp -implicitDefEqProofs (disch := (first | assumption | omega | (simp only [ll1, ll2, ll3, ll4, ll5, ll6, ll7, ll8]; omega))) only [go_sem]) | refine vcI (fun _ => ?_) (fun _ => ?_) | (refine vcA ?_ ?_; focus (repeat' (first | omega | assumption | refine vcA ?_ ?_); done)) | omega | refine imp_in (fun _ => ?_))
    refine vc_loopk L_ok mixed [1000007] [3, 5, 8, 20, 21] (fun j : Nat => j ≤ 64) (fun j => [(22, .lit (.int .i64 j))]) (fun j => H.set k (rObj st) ++ [lpb, .cells (.one 145) ((wordsOf 32 (blk.take j)).map (wAV .u32))]) (fun j => 64 - j) (by kernel_rfl) ?_ 0 (by omega) env_ok (by rw [List.take_zero, wordsOf_nil, List.map_replicate]; rfl)
    intro j hj
    have hwl := wordsOf_len 32 (blk.take j)
    by_cases hjl : j < 64
    · have hws := words_set hbl hjl
      have hjc : ((j : Int) < 64) = True := eq_true (by omega)
      have z1 : ((j : Int) / 4).toNat = j / 4 := by omega
      have hgw := getD_w (K := .u32) (m := wordsOf 32 (blk.take j)) (i := j / 4) (by omega)
      repeat' (first | refine unhold ?_ | (simp -dsimp -implicitDefEqProofs (disch := (first | assumption | omega | (simp only [ll1, ll2, ll3, ll4, ll5, ll6, ll7, ll8]; omega))) only [go_sem, hjc, hbl, z1, hwl, hgw, u32_shl8, u32_orb, hws]) | refine vcI (fun _ => ?_) (fun _ => ?_) | (refine vcA ?_ ?_; focus (repeat' (first | omega | assumption | refine vcA ?_ ?_); done)) | omega | refine imp_in (fun _ => ?_))
      refine again (j + 1) ?_ ?_ ?_ env_ok
      · omega
      · omega
      · rfl
    · obtain rfl : j = 64 := by omega
      rw [List.take_of_length_le (by omega)] at hwl ⊢
      repeat' (first | refine unhold ?_ | (simp -dsimp -implicitDefEqProofs (disch := (first | assumption | omega | (simp only [ll1, ll2, ll3, ll4, ll5, ll6, ll7, ll8]; omega))) only [go_sem, hbl, hwl, setk_at hkl, setk_set hkl]) | refine acalls_same (take_c (s := st) (wordsOf 32 blk) (setk_at hkl) hwl) ?_ | refine ⟨_, take_c (s := st) (wordsOf 32 blk) (setk_at hkl) hwl, ?_⟩ | refine ⟨_, _, take_c (s := st) (wordsOf 32 blk) (setk_at hkl) hwl, ?_⟩ | refine vcI (fun _ => ?_) (fun _ => ?_) | (refine vcA ?_ ?_; focus (repeat' (first | omega | assumption | refine vcA ?_ ?_); done)) | omega | refine imp_in (fun _ => ?_))
      exact ⟨[.cells (.one 145) ((wordsOf 32 blk).map (wAV .u32))], by simp⟩)
  rw [h0] at hC
  refine hC.mono fun x H' ⟨_, hH⟩ => ⟨H.set k (rObj (foldS s b (b.length / 64))), [], hH, by simp, fun j sh cs e => ?_, ?_⟩
  · by_cases hjk : j = k
    · subst hjk
      rw [List.getElem?_set_self hkl] at e
      exact .inr (rLow sh cs (Option.some.inj e))
    · rw [List.getElem?_set_ne (Ne.symm hjk)] at e
      exact .inl e
  · rw [in_normal, ex_normal]
    clear hC h0 hs0 hE3 hE5 hE6
    subst hE
    generalize foldS s b (b.length / 64) = st at *
    have hro : rObj st = .cells (.one 120) (st.list.map (wAV .u32) ++ restC) := rObj_eq st
    have hlw := fun (m : Nat) => rLow (m := m) (s := st)
    rw [hro] at hlw ⊢
    have hsl : st.list.length = 8 := rfl
    generalize st.list = hl at *
    have ht8 : (hl.map (wAV .u32) ++ restC).take 8 = hl.map (wAV .u32) := List.take_left' (by rw [List.length_map]; exact hsl)
    have hat0 : (H.set k (.cells (.one 120) (hl.map (wAV .u32) ++ restC)))[k]? = some (.cells (.one 120) (hl.map (wAV .u32) ++ restC)) := List.getElem?_set_self hkl
    have hlen : ∀ o, (H.set k o).length = H.length := fun o => List.length_set
    generalize hq : (hl.map (wAV .u32) ++ restC) = qs at *
    have hql : 8 ≤ qs.length := by rw [← hq, List.length_append, List.length_map]; omega
    refine awm_of_aw (vcC_sound L_ok mixed (mu := []) _ ?ok ?_)
    case ok => kernel_rfl
    repeat' (first | refine unhold ?_ | (simp -dsimp -implicitDefEqProofs (disch := (first | assumption | omega | (simp only [ll1, ll2, ll3, ll4, ll5, ll6, ll7, ll8]; omega))) only [go_sem, hat0, ht8, hql]) | refine vcI (fun _ => ?_) (fun _ => ?_) | (refine vcA ?_ ?_; focus (repeat' (first | omega | assumption | refine vcA ?_ ?_); done)) | omega | refine imp_in (fun _ => ?_))
    refine aw_mint 11 1 rfl (by decide) (fun h => absurd rfl h) ?_
    rw [List.length_set]
    refine vc_loopk L_ok mixed [] [5, 6] (fun i : Nat => i ≤ 8) (fun i => [(47, .agg (hl.map (wAV .u32))), (48, .lit (.int .i64 i)), (11, .sl (.tok H.length) 1 (((hl.take i).flatMap fun x => bytesOf 4 x.toNat).map byteAV))]) (fun i => H.set k (.cells (.one 120) qs) ++ [.grow 1 (4 * i) none]) (fun i => 8 - i) (by kernel_rfl) ?_ 0 (by omega) env_ok rfl
    intro i hi
    have hfl : ∀ l : List (BitVec 32), (l.flatMap fun x => bytesOf 4 x.toNat).length = 4 * l.length := fun l => by
      induction l with
      | nil => rfl
      | cons x r ih => rw [List.flatMap_cons, List.length_append, ih, bytesOf_len, List.length_cons]; omega
    by_cases hi8 : i < 8
    · have hic : ((i : Int) < 8) = True := eq_true (by omega)
      have hgx := getD_w (K := .u32) (m := hl) (i := i) (by omega)
      have hnx : (hl.take (i + 1)).flatMap (fun x => bytesOf 4 x.toNat) = (hl.take i).flatMap (fun x => bytesOf 4 x.toNat) ++ bytesOf 4 (hl.getD i 0).toNat := by
        rw [List.take_succ_eq_append_getElem (by omega), List.flatMap_append, List.getD, List.getElem?_eq_getElem (by omega)]
        simp
      have hol := hfl (hl.take i)
      rw [List.length_take, Nat.min_eq_left (by omega)] at hol
      rw [bytes4] at hnx
      generalize (hl.take i).flatMap (fun x => bytesOf 4 x.toNat) = out at *
      generalize hl.getD i 0 = x at *
      obtain ⟨g, g0, g1, g2, g3, g4, gl⟩ : ∃ g : Nat → List UInt8, out = g 0 ∧ g 0 ++ [UInt8.ofNat (x.toNat / 16777216)] = g 1 ∧ g 1 ++ [UInt8.ofNat (x.toNat / 65536)] = g 2 ∧ g 2 ++ [UInt8.ofNat (x.toNat / 256)] = g 3 ∧ g 3 ++ [UInt8.ofNat x.toNat] = g 4 ∧ ∀ q, q ≤ 4 → (g q).length = 4 * i + q :=
        ⟨fun q => out ++ [UInt8.ofNat (x.toNat / 16777216), UInt8.ofNat (x.toNat / 65536), UInt8.ofNat (x.toNat / 256), UInt8.ofNat x.toNat].take q, by simp, by simp, by simp, by simp, by simp, fun q hq => by rw [List.length_append, List.length_take, hol]; simp only [List.length_cons, List.length_nil]; omega⟩
      have hnx4 : (hl.take (i + 1)).flatMap (fun x => bytesOf 4 x.toNat) = g 4 := by
        rw [hnx, g0, ← g4, ← g3, ← g2, ← g1]
        simp
      clear hnx
      subst g0
      repeat' (first | refine unhold ?_ | (simp -dsimp -implicitDefEqProofs (disch := (first | assumption | omega | (simp only [ll1, ll2, ll3, ll4, ll5, ll6, ll7, ll8]; omega))) only [go_sem, hic, hgx, hsl]) | refine vcI (fun _ => ?_) (fun _ => ?_) | (refine vcA ?_ ?_; focus (repeat' (first | omega | assumption | refine vcA ?_ ?_); done)) | omega | refine imp_in (fun _ => ?_))
      refine vc_loopk L_ok mixed [] [5, 6, 13, 47, 48] (fun q : Nat => q ≤ 4) (fun q => [(14, .lit (.int .i64 (3 - (q : Int)))), (11, .sl (.tok H.length) 1 ((g q).map byteAV))]) (fun q => H.set k (.cells (.one 120) qs) ++ [.grow 1 (4 * i + q) none]) (fun q => 4 - q) (by kernel_rfl) ?_ 0 (by omega) env_ok rfl
      intro q hq4
      have hmB := fun a n => mapB a n
      have hmB0 : ∀ a : List UInt8, a.map byteAV ++ [.lit (.int .u8 ((x.toNat / 16777216 : Nat) : Int))] = (a ++ [UInt8.ofNat (x.toNat / 16777216)]).map byteAV := fun a => by
        rw [← mapB, IntWalk.u8_in _ (by have := x.isLt; omega)]
      have hgq := gl q hq4
      have p24 : (x.toNat : Int).fdiv 16777216 = ((x.toNat / 16777216 : Nat) : Int) := fdiv_nat (by decide)
      have p16 : (x.toNat : Int).fdiv 65536 = ((x.toNat / 65536 : Nat) : Int) := fdiv_nat (by decide)
      have p8 : (x.toNat : Int).fdiv 256 = ((x.toNat / 256 : Nat) : Int) := fdiv_nat (by decide)
      rcases (by omega : q = 0 ∨ q = 1 ∨ q = 2 ∨ q = 3 ∨ q = 4) with rfl | rfl | rfl | rfl | rfl
      · repeat' (first | refine unhold ?_ | (simp -dsimp -implicitDefEqProofs (disch := (first | assumption | omega | (simp only [ll1, ll2, ll3, ll4, ll5, ll6, ll7, ll8]; omega))) only [go_sem, hmB, hmB0, g1, hgq]) | refine vcI (fun _ => ?_) (fun _ => ?_) | (refine vcA ?_ ?_; focus (repeat' (first | omega | assumption | refine vcA ?_ ?_); done)) | omega | refine imp_in (fun _ => ?_))
        refine again (1) ?_ ?_ ?_ env_ok
        · omega
        · omega
        · rfl
      · repeat' (first | refine unhold ?_ | (simp -dsimp -implicitDefEqProofs (disch := (first | assumption | omega | (simp only [ll1, ll2, ll3, ll4, ll5, ll6, ll7, ll8]; omega))) only [go_sem, hmB, hmB0, g2, hgq]) | refine vcI (fun _ => ?_) (fun _ => ?_) | (refine vcA ?_ ?_; focus (repeat' (first | omega | assumption | refine vcA ?_ ?_); done)) | omega | refine imp_in (fun _ => ?_))
        refine again (2) ?_ ?_ ?_ env_ok
        · omega
        · omega
        · rfl
      · repeat' (first | refine unhold ?_ | (simp -dsimp -implicitDefEqProofs (disch := (first | assumption | omega | (simp only [ll1, ll2, ll3, ll4, ll5, ll6, ll7, ll8]; omega))) only [go_sem, hmB, hmB0, g3, hgq]) | refine vcI (fun _ => ?_) (fun _ => ?_) | (refine vcA ?_ ?_; focus (repeat' (first | omega | assumption | refine vcA ?_ ?_); done)) | omega | refine imp_in (fun _ => ?_))
        refine again (3) ?_ ?_ ?_ env_ok
        · omega
        · omega
        · rfl
      · repeat' (first | refine unhold ?_ | (simp -dsimp -implicitDefEqProofs (disch := (first | assumption | omega | (simp only [ll1, ll2, ll3, ll4, ll5, ll6, ll7, ll8]; omega))) only [go_sem, hmB, hmB0, g4, hgq, Nat.div_one]) | refine vcI (fun _ => ?_) (fun _ => ?_) | (refine vcA ?_ ?_; focus (repeat' (first | omega | assumption | refine vcA ?_ ?_); done)) | omega | refine imp_in (fun _ => ?_))
        refine again (4) ?_ ?_ ?_ env_ok
        · omega
        · omega
        · rfl
      · repeat' (first | refine unhold ?_ | (simp -dsimp -implicitDefEqProofs (disch := (first | assumption | omega | (simp only [ll1, ll2, ll3, ll4, ll5, ll6, ll7, ll8]; omega))) only [go_sem]) | refine vcI (fun _ => ?_) (fun _ => ?_) | (refine vcA ?_ ?_; focus (repeat' (first | omega | assumption | refine vcA ?_ ?_); done)) | omega | refine imp_in (fun _ => ?_))
        rw [← hnx4]
        refine again (i + 1) ?_ ?_ ?_ env_ok
        · omega
        · omega
        · rfl
    · obtain rfl : i = 8 := by omega
      have htk : hl.take 8 = hl := List.take_of_length_le (by omega)
      rw [htk]
      repeat' (first | refine unhold ?_ | (simp -dsimp -implicitDefEqProofs (disch := (first | assumption | omega | (simp only [ll1, ll2, ll3, ll4, ll5, ll6, ll7, ll8]; omega))) only [go_sem]) | refine vcI (fun _ => ?_) (fun _ => ?_) | (refine vcA ?_ ?_; focus (repeat' (first | omega | assumption | refine vcA ?_ ?_); done)) | omega | refine imp_in (fun _ => ?_))
      exact done_cutkl (.sl .sh 1 ((hl.flatMap fun x => bytesOf 4 x.toNat).map byteAV)) le_sh (low_bytes) (hlw _) ⟨rfl, rfl⟩
def begL (i : Nat) : List (BitVec 32) := (List.range 8).map fun j => if j < i then hOf 32 j else 0
theorem begL_len (i : Nat) : (begL i).length = 8 := by simp [begL]
theorem begL_set {i : Nat} (h : i < 8) : (begL i).set i (hOf 32 i) = begL (i + 1) := by
  have hg : ∀ i j, (begL i)[j]? = if j < 8 then some (if j < i then hOf 32 j else 0) else none := fun i j => by
    unfold begL
    rw [List.getElem?_map]
    by_cases h1 : j < 8
    · rw [List.getElem?_range h1, if_pos h1]
      rfl
    · rw [List.getElem?_eq_none (by simp; omega), if_neg h1]
      rfl
  apply List.ext_getElem?
  intro j
  rw [List.getElem?_set, hg, hg, begL_len]
  by_cases h1 : j < 8
  · rw [if_pos h1, if_pos h1]
    split
    · rename_i e
      subst e
      rw [if_pos (by omega)]
    · rename_i e
      by_cases h3 : j < i
      · rw [if_pos h3, if_pos (by omega)]
      · rw [if_neg h3, if_neg (by omega)]
  · rw [if_neg h1, if_neg h1, if_neg (by omega)]
theorem hOf_int (i : Nat) : IntKind.u32.wrap ((beginsN.getD i 0 / 4294967296 : Nat) : Int) = ((hOf 32 i).toNat : Int) := by
  have h1 : hOf 32 i = BitVec.ofNat 32 (beginsN.getD i 0 / 4294967296) := rfl
  rw [h1, BitVec.toNat_ofNat]
  simp [IntKind.wrap, IntKind.signed, IntKind.bits]
theorem sum_fold (b : List UInt8) : (foldS (beginOf 32) (padded 32 b) ((padded 32 b).length / 64)).list.flatMap (fun x => bytesOf 4 x.toNat) = sum256 b := by
  have hl : (chunks 64 (padded 32 b)).length = (padded 32 b).length / 64 := by simp [chunks]
  unfold foldS
  rw [← hl, List.take_length]
  rfl
theorem padded_len (b : List UInt8) : (padded 32 b).length = padLen 32 b.length := by
  have := padT_len (w := 32) (b := b) (t := 8 * b.length) (.inl rfl)
  rw [padT_end] at this
  · exact this
  · exact Nat.div_eq_of_lt (Nat.lt_pow_self (by decide))
theorem low_aggb {m : Nat} {l : List UInt8} : Low m (.agg (l.map byteAV)) := .agg _ fun x hx => by
  obtain ⟨c, _, rfl⟩ := List.mem_map.1 hx
  exact .lit _
theorem Join_c {o o2 : Own} (l : List UInt8) (H : List AObj) (hl : l.length ≤ 1000000) : ACalls Tryz.prog 89 [.sl o 1 [.sl o2 1 (l.map byteAV)], .sl .full 0 []] H (fun y H' => y = .sl .sh 1 (l.map byteAV) ∧ H' = H) := by
  refine acalls_vc L_ok mixed [] (rs := [.tmp 4]) (n := 92) Tryz.func89 rfl rfl rfl rfl (Nat.le_of_ble_eq_true rfl) (by kernel_rfl) ?_
  repeat' (first | refine unhold ?_ | (simp -dsimp -implicitDefEqProofs (disch := (first | assumption | omega | (simp only [ll1, ll2, ll3, ll4, ll5, ll6, ll7, ll8]; omega))) only [go_sem]) | refine vcI (fun _ => ?_) (fun _ => ?_) | (refine vcA ?_ ?_; focus (repeat' (first | omega | assumption | refine vcA ?_ ?_); done)) | omega | refine imp_in (fun _ => ?_))
  all_goals exact done_cut (.sl .sh 1 (l.map byteAV)) le_sh low_bytes ⟨rfl, rfl⟩
theorem Sum256_c {o o2 : Own} (l : List UInt8) (H : List AObj) (hl : l.length ≤ 1000000) : ACalls Tryz.prog 60 [.sl o 1 [.sl o2 1 (l.map byteAV)]] H (fun y H' => y = .agg ((sum256 l).map byteAV) ∧ H' = H) := by
  have hJ := fun H => Join_c (o := o) (o2 := o2) l H hl
  have hP := fun H => padded_c (o := .sh) l H (by omega)
  have hpl := padLen_big (w := 32) (n := l.length) (.inl rfl)
  have hpd := padded_len l
  have hp64 : (padded 32 l).length = (padded 32 l).length / 64 * 64 := by
    rw [hpd]
    unfold padLen
    omega
  have hS := sum_fold l
  have hsl := sum256_len l
  generalize padded 32 l = pd at *
  have hr : ∀ H : List AObj, ∀ o1 o2 : AObj, (H ++ [o1, o2])[H.length + 1]? = some o2 := fun H o1 o2 => by
    rw [List.getElem?_append_right (by omega), Nat.add_sub_cancel_left]
    rfl
  have hA := fun (o1 : AObj) => all_c (k := H.length + 1) (s := beginOf 32) (H := H ++ [o1, .cells (.one 120) ((begL 8).map (wAV .u32) ++ restC)]) pd (by rw [hr]; rfl) hp64 (by omega)
  rw [hS] at hA
  have hset : ∀ (H : List AObj) (o1 o2 x : AObj), (H ++ [o1, o2]).set (H.length + 1) x = H ++ [o1, x] := fun H o1 o2 x => by
    rw [List.set_append_right _ _ (by omega), Nat.add_sub_cancel_left]
    rfl
  have hft : (flats ((sum256 l).map byteAV)).take 32 = (sum256 l).map byteAV := by
    rw [flats_ones byteAV (fun _ => rfl), List.take_of_length_le (by rw [List.length_map]; omega)]
  have hat : aset (List.replicate 32 (AV.lit (.int .u8 0))) 0 ((sum256 l).map byteAV) = (sum256 l).map byteAV := by
    rw [aset_eq _ _ _ (by simp; omega)]
    simp [hsl]
  have htk : ((sum256 l).map byteAV).take 32 = (sum256 l).map byteAV := List.take_of_length_le (by rw [List.length_map]; omega)
  generalize sum256 l = sm at *
  generalize foldS (beginOf 32) pd (pd.length / 64) = fs at *
  refine acalls_vc L_ok mixed [7] (rs := [.cell 2 37]) (n := 29) Tryz.func60 rfl rfl rfl rfl (Nat.le_of_ble_eq_true rfl) (by kernel_rfl) ?_
  repeat' (first | refine unhold ?_ | (simp -dsimp -implicitDefEqProofs (disch := (first | assumption | omega | (simp only [ll1, ll2, ll3, ll4, ll5, ll6, ll7, ll8]; omega))) only [go_sem]) | refine vcI (fun _ => ?_) (fun _ => ?_) | (refine vcA ?_ ?_; focus (repeat' (first | omega | assumption | refine vcA ?_ ?_); done)) | omega | refine imp_in (fun _ => ?_))
  refine vc_loopk L_ok mixed [7] [0, 2, 3, 8] (fun i : Nat => i ≤ 8) (fun i => [(9, .lit (.int .i64 i))]) (fun i => H ++ [.cells (.one 37) (List.replicate 32 (.lit (.int .u8 0))), .cells (.one 120) ((begL i).map (wAV .u32) ++ restC)]) (fun i => 8 - i) (by kernel_rfl) ?_ 0 (by omega) env_ok rfl
  intro i hi
  have hbl := begL_len i
  by_cases h : i < 8
  · have hic : ((i : Int) < 8) = True := eq_true (by omega)
    have hms := begL_set h
    have ho := hOf_int i
    have hs1 : ∀ x, ((begL i).map (wAV .u32) ++ restC).set i (wAV .u32 x) = ((begL i).set i x).map (wAV .u32) ++ restC := fun x => by
      rw [List.set_append_left _ _ (by rw [List.length_map]; omega), List.map_set]
    repeat' (first | refine unhold ?_ | (simp -dsimp -implicitDefEqProofs (disch := (first | assumption | omega | (simp only [ll1, ll2, ll3, ll4, ll5, ll6, ll7, ll8]; omega))) only [go_sem, hic, ho, hs1, hms, hbl]) | refine vcI (fun _ => ?_) (fun _ => ?_) | (refine vcA ?_ ?_; focus (repeat' (first | omega | assumption | refine vcA ?_ ?_); done)) | omega | refine imp_in (fun _ => ?_))
    refine again (i + 1) ?_ ?_ ?_ env_ok
    · omega
    · omega
    · rfl
  · obtain rfl : i = 8 := by omega
    have hal : (sm.map byteAV).all AV.scalar = true := List.all_eq_true.2 (ones_map fun _ => rfl)
    repeat' (first | refine unhold ?_ | (simp -dsimp -implicitDefEqProofs (disch := (first | assumption | omega | (simp only [ll1, ll2, ll3, ll4, ll5, ll6, ll7, ll8]; omega))) only [go_sem, hset, hft, hat, htk, hsl, hal]) | refine acalls_same (hJ _) ?_ | refine ⟨_, hJ _, ?_⟩ | refine ⟨_, _, hJ _, ?_⟩ | refine acalls_same (hP _) ?_ | refine ⟨_, hP _, ?_⟩ | refine ⟨_, _, hP _, ?_⟩ | refine acalls_same (hA _) ?_ | refine ⟨_, hA _, ?_⟩ | refine ⟨_, _, hA _, ?_⟩ | refine vcI (fun _ => ?_) (fun _ => ?_) | (refine vcA ?_ ?_; focus (repeat' (first | omega | assumption | refine vcA ?_ ?_); done)) | omega | refine imp_in (fun _ => ?_))
    exact done_cut _ (Le.refl _) low_aggb ⟨rfl, rfl⟩
end Go.Proofs.YtdahdbnfknmmgaaGreatDoor
end

section
set_option linter.unusedSimpArgs false
set_option linter.unusedVariables false
namespace Go.Proofs.YtdahdbnfknmmgaaGreatDoor
open Go V
set_option maxRecDepth 10000
set_option maxHeartbeats 4000000
/-- Three bytes in one number. -/
theorem or_group {x y z : Nat} (hx : x < 256) (hy : y < 256) (hz : z < 256) : IntKind.i64.wrap (((BitVec.ofInt IntKind.i64.bits (IntKind.i64.wrap (((BitVec.ofInt IntKind.i64.bits ((x : Int) * 65536) ||| BitVec.ofInt IntKind.i64.bits ((y : Int) * 256)).toNat : Nat) : Int)) ||| BitVec.ofInt IntKind.i64.bits (z : Int)).toNat : Nat) : Int) = ((x * 65536 + y * 256 + z : Nat) : Int) := by
  show IntKind.i64.wrap (((BitVec.ofInt 64 (IntKind.i64.wrap (((BitVec.ofInt 64 ((x : Int) * 65536) ||| BitVec.ofInt 64 ((y : Int) * 256)).toNat : Nat) : Int)) ||| BitVec.ofInt 64 (z : Int)).toNat : Nat) : Int) = _
  have h1 : x * 65536 + y * 256 = x * 65536 ||| y * 256 := by
    have := Nat.two_pow_add_eq_or_of_lt (b := y * 256) (i := 16) (by omega) x
    rw [show 2 ^ 16 * x = x * 65536 by omega] at this
    exact this
  have h2 : x * 65536 + y * 256 + z = (x * 65536 + y * 256) ||| z := by
    have := Nat.two_pow_add_eq_or_of_lt (b := z) (i := 8) (by omega) (x * 256 + y)
    rw [show 2 ^ 8 * (x * 256 + y) = x * 65536 + y * 256 by omega] at this
    exact this
  rw [show (x : Int) * 65536 = ((x * 65536 : Nat) : Int) by omega, show (y : Int) * 256 = ((y * 256 : Nat) : Int) by omega, bv_or (w := 64) (by omega) (by omega), ← h1, IntWalk.i64_in ((x * 65536 + y * 256 : Nat) : Int) (by omega), bv_or (w := 64) (by omega) (by omega), ← h2, IntWalk.i64_in _ (by omega)]
theorem and63_i64 {a : Int} (h : 0 ≤ a ∧ a < 18446744073709551616) : ((BitVec.ofInt IntKind.i64.bits a &&& BitVec.ofInt IntKind.i64.bits 63).toNat : Int) = a % 64 := and_mask_ (k := 64) (m := 6) h.1 h.2 (by omega)
/-- A builder's own address, behind its first byte. -/
def adB (k g i : Nat) : AV := if g = 0 ∧ i = 0 then .lit (.pointer none) else .mp k 0
theorem adB_ok {k g i : Nat} : bAddr k (adB k g i) := by
  unfold adB
  split
  · exact bAddr_n
  · exact bAddr_k
theorem adB_s {k g i : Nat} : adB k g (i + 1) = .mp k 0 := if_neg (by omega)
theorem adB_g {k g i : Nat} : adB k (g + 1) i = .mp k 0 := if_neg (by omega)
def eObjs (H : List AObj) (a : AV) (o : bytes) : List AObj := H ++ [bObj 50 (H.length + 1) a o, gObj o.length]
theorem eObjs_obj {H : List AObj} {a b : AV} {o p : bytes} {mm : Nat} (hb : bAddr H.length b) (hmm : H.length + 2 ≤ mm) : ∀ (j : Nat) (sh : Shape) (cs : List AV), (eObjs H b p)[j]? = some (.cells sh cs) → (eObjs H a o)[j]? = some (.cells sh cs) ∨ ∀ z ∈ cs, Low mm z := fun j sh cs e => by
  unfold eObjs at e ⊢
  rcases Nat.lt_or_ge j H.length with hj | hj
  · rw [List.getElem?_append_left hj] at e ⊢
    exact .inl e
  · right
    rw [List.getElem?_append_right hj] at e
    cases hn : j - H.length with
    | zero =>
      rw [hn] at e
      unfold bObj at e
      cases e
      intro z hz
      simp only [List.mem_cons, List.not_mem_nil, or_false] at hz
      rcases hz with rfl | rfl
      · rcases hb with rfl | rfl
        · exact .lit _
        · exact .mp _ _ (by omega)
      · refine .sl _ _ _ (fun k e => by cases e; omega) fun x hx => ?_
        rw [flats_ones byteAV (fun _ => rfl)] at hx
        obtain ⟨c, _, rfl⟩ := List.mem_map.1 hx
        exact .lit _
    | succ n =>
      rw [hn] at e
      cases n with
      | zero => unfold gObj at e; cases e
      | succ n => simp at e
/-- The letters of a group of three bytes, of which there are n. -/
def groupL (letters : bytes) (x y z n : Nat) : bytes := (List.range (n + 1)).map fun i => letters.getD ((x * 65536 + y * 256 + z) / 2 ^ (18 - 6 * i) % 64) 0
theorem enc_next {letters b : bytes} {g n : Nat} (hn : n = min 3 (b.length - 3 * g)) (h : 3 * g < b.length) : (encB letters b).take (4 * g) ++ groupL letters (b.getD (3 * g) 0).toNat (b.getD (3 * g + 1) 0).toNat (b.getD (3 * g + 2) 0).toNat n = (encB letters b).take (4 * (g + 1)) := by
  have hl := encB_len letters b
  have hk : 4 * g + (n + 1) = min (4 * (g + 1)) ((8 * b.length + 5) / 6) := by omega
  apply List.ext_getElem
  · simp only [List.length_append, List.length_take, groupL, List.length_map, List.length_range, hl]
    omega
  · intro j h1 h2
    rw [List.length_take, hl] at h2
    rw [List.getElem_take]
    have hen : ∀ i (hi : i < (encB letters b).length), (encB letters b)[i] = letters.getD (sextB b i) 0 := fun i hi => by simp [encB]
    rw [hen]
    by_cases hj : j < 4 * g
    · rw [List.getElem_append_left (by rw [List.length_take, hl]; omega), List.getElem_take, hen]
    · obtain ⟨i, rfl⟩ : ∃ i, j = 4 * g + i := ⟨j - 4 * g, by omega⟩
      have hi : i < n + 1 := by omega
      rw [List.getElem_append_right (by rw [List.length_take, hl]; omega)]
      have hlt : 4 * g + i - ((encB letters b).take (4 * g)).length = i := by rw [List.length_take, hl]; omega
      simp only [hlt, groupL, List.getElem_map, List.getElem_range]
      rw [sext_group b g i (by omega)]
theorem encode_c {o : Own} (letters b : bytes) (H : List AObj) (hL : letters.length = 64) (h : b.length ≤ 10000000) : ACalls Tryz.prog 80 [.str letters, .sl o 1 (b.map byteAV)] H (fun y H' => y = .str (encB letters b) ∧ H' = H) := by
  refine acalls_vc L_ok mixed [3000005005, 1000005] (rs := [.tmp 4]) (n := 53) Tryz.func80 rfl rfl rfl rfl (Nat.le_of_ble_eq_true rfl) (by kernel_rfl) ?_
  repeat' (first | refine unhold ?_ | (simp -dsimp -implicitDefEqProofs (disch := (first | assumption | omega | (simp only [ll1, ll2, ll3, ll4, ll5, ll6, ll7, ll8]; omega))) only [go_sem]) | refine vcI (fun _ => ?_) (fun _ => ?_) | (refine vcA ?_ ?_; focus (repeat' (first | omega | assumption | refine vcA ?_ ?_); done)) | omega | refine imp_in (fun _ => ?_))
  refine vc_loopk L_ok mixed [3000005005, 1000005] [0, 4, 5] (fun g : Nat => 3 * g ≤ b.length + 2) (fun g => [(1, .sl .sh 1 ((b.drop (3 * g)).map byteAV))]) (fun g => eObjs H (adB H.length g 0) ((encB letters b).take (4 * g))) (fun g => b.length + 3 - 3 * g) (by kernel_rfl) ?_ 0 (by omega) env_ok rfl
  intro g hg
  by_cases hlt : 3 * g < b.length
  · obtain ⟨n, hn⟩ : ∃ n, n = min 3 (b.length - 3 * g) := ⟨_, rfl⟩
    have hnx := enc_next (letters := letters) hn hlt
    have hc0 : (0 < ((b.length - 3 * g : Nat) : Int)) = True := eq_true (by omega)
    have hmin : min (3 : Int) ((b.length - 3 * g : Nat) : Int) = (n : Int) := by omega
    have hdr : (b.drop (3 * g + n)) = b.drop (3 * (g + 1)) := by
      rcases (by omega : n = 3 ∨ b.length ≤ 3 * g + n) with h | h
      · rw [h]; rfl
      · rw [List.drop_eq_nil_of_le h, List.drop_eq_nil_of_le (by omega)]
    have hcp : aset [.lit (.int .u8 0), .lit (.int .u8 0), .lit (.int .u8 0)] 0 (((b.drop (3 * g)).take (n - 0)).map byteAV) = [.lit (.int .u8 ((b.getD (3 * g) 0).toNat : Int)), .lit (.int .u8 ((b.getD (3 * g + 1) 0).toNat : Int)), .lit (.int .u8 ((b.getD (3 * g + 2) 0).toNat : Int))] := by
      rw [Nat.sub_zero]
      have g0 : b.getD (3 * g) 0 = (b.drop (3 * g)).getD 0 0 := by simp [List.getD]
      have g1 : b.getD (3 * g + 1) 0 = (b.drop (3 * g)).getD 1 0 := by simp [List.getD]
      have g2 : b.getD (3 * g + 2) 0 = (b.drop (3 * g)).getD 2 0 := by simp [List.getD]
      have hl : (b.drop (3 * g)).length = b.length - 3 * g := List.length_drop
      rw [g0, g1, g2]
      generalize b.drop (3 * g) = r at *
      rcases r with _ | ⟨x, _ | ⟨y, _ | ⟨z, r⟩⟩⟩
      · simp at hl; omega
      · obtain rfl : n = 1 := by simp at hl; omega
        rfl
      · obtain rfl : n = 2 := by simp at hl; omega
        rfl
      · obtain rfl : n = 3 := by simp at hl; omega
        rfl
    have hX : (encB letters b).length ≤ 20000000 := by rw [encB_len]; omega
    have hXl : ((encB letters b).take (4 * g)).length ≤ 20000000 := by rw [List.length_take]; omega
    have x0 := (b.getD (3 * g) 0).toNat_lt
    have x1 := (b.getD (3 * g + 1) 0).toNat_lt
    have x2 := (b.getD (3 * g + 2) 0).toNat_lt
    have hor := or_group x0 x1 x2
    generalize (encB letters b).take (4 * g) = X at *
    unfold eObjs
    repeat' (first | refine unhold ?_ | (simp -dsimp -implicitDefEqProofs (disch := (first | assumption | omega | (simp only [ll1, ll2, ll3, ll4, ll5, ll6, ll7, ll8]; omega))) only [go_sem, hc0, hmin, hdr, hcp, hor]) | refine vcI (fun _ => ?_) (fun _ => ?_) | (refine vcA ?_ ?_; focus (repeat' (first | omega | assumption | refine vcA ?_ ?_); done)) | omega | refine imp_in (fun _ => ?_))
    obtain ⟨N, hN⟩ : ∃ N, N = (b.getD (3 * g) 0).toNat * 65536 + (b.getD (3 * g + 1) 0).toNat * 256 + (b.getD (3 * g + 2) 0).toNat := ⟨_, rfl⟩
    have hNl : N < 16777216 := by omega
    obtain ⟨P, hP⟩ : ∃ P, P = groupL letters (b.getD (3 * g) 0).toNat (b.getD (3 * g + 1) 0).toNat (b.getD (3 * g + 2) 0).toNat n := ⟨_, rfl⟩
    have hPl : P.length = n + 1 := by rw [hP]; simp [groupL]
    have hPg : ∀ i, i < n + 1 → P.take (i + 1) = P.take i ++ [letters.getD (N / 2 ^ (18 - 6 * i) % 64) 0] := fun i hi => by
      rw [List.take_succ_eq_append_getElem (by omega)]
      congr 1
      subst hP
      simp [groupL, hN]
    rw [← hP] at hnx
    rw [← hN]
    generalize [AV.lit (.int .u8 ((b.getD (3 * g) 0).toNat : Int)), .lit (.int .u8 ((b.getD (3 * g + 1) 0).toNat : Int)), .lit (.int .u8 ((b.getD (3 * g + 2) 0).toNat : Int))] = gc
    refine vc_loopk L_ok mixed [3000005005, 1000005] [0, 1, 4, 5, 8, 38] (fun i : Nat => i ≤ n + 1) (fun i => [(39, .lit (.int .i64 i))]) (fun i => H ++ [bObj 50 (H.length + 1) (adB H.length g i) (X ++ P.take i), gObj (X ++ P.take i).length, .cells (.one 139) gc]) (fun i => n + 1 - i) (by kernel_rfl) ?_ 0 (by omega) env_ok (by simp)
    intro i hi
    have hB : ∀ x y z : AObj, (H ++ [x, y, z])[H.length]? = some x := fun x y z => by rw [List.getElem?_append_right (Nat.le_refl _), Nat.sub_self]; rfl
    have hG : ∀ x y z : AObj, (H ++ [x, y, z])[H.length + 1]? = some y := fun x y z => by rw [List.getElem?_append_right (by omega), Nat.add_sub_cancel_left]; rfl
    have hst : ∀ x y z u v : AObj, ((H ++ [x, y, z]).set H.length u).set (H.length + 1) v = H ++ [u, v, z] := fun x y z u v => by
      rw [List.set_append_right _ _ (Nat.le_refl _), Nat.sub_self, List.set_append_right _ _ (by omega), Nat.add_sub_cancel_left]
      rfl
    have hpl : (P.take i).length ≤ 4 := by rw [List.length_take]; omega
    by_cases hin : i < n + 1
    · have hic : ((i : Int) < (n : Int) + 1) = True := eq_true (by omega)
      have hpn := hPg i hin
      have hap : X ++ P.take i ++ [letters.getD (N / 2 ^ (18 - 6 * i) % 64) 0] = X ++ P.take (i + 1) := by rw [hpn, List.append_assoc]
      have hw := fun c => WriteByte_c (T := 50) (k := H.length) (m := H.length + 1) (a := adB H.length g i) (bs := X ++ P.take i) (c := c) (H := H ++ [bObj 50 (H.length + 1) (adB H.length g i) (X ++ P.take i), gObj (X ++ P.take i).length, .cells (.one 139) gc]) bT_self (hB _ _ _) adB_ok (hG _ _ _) (by rw [List.length_append]; omega)
      have hw2 := hw (letters.getD (N / 2 ^ (18 - 6 * i) % 64) 0)
      rw [hst, hap] at hw2
      have hlt64 : (((N / 2 ^ (18 - 6 * i) % 64 : Nat)) : Int) < 64 := by omega
      have hidx : (((N : Int).fdiv (2 ^ (18 - 6 * i)) % 64)).toNat = N / 2 ^ (18 - 6 * i) % 64 := by
        rw [fdiv_nat (Int.le_of_lt (Int.pow_pos (by decide)))]
        have : ((2 : Int) ^ (18 - 6 * i)) = ((2 ^ (18 - 6 * i) : Nat) : Int) := by simp
        rw [this, Int.toNat_natCast]
        omega
      obtain ⟨Z, hZ⟩ : ∃ Z, Z = X ++ P.take i := ⟨_, rfl⟩
      obtain ⟨Z', hZ'⟩ : ∃ Z', Z' = X ++ P.take (i + 1) := ⟨_, rfl⟩
      rw [← hZ, ← hZ'] at hw2
      rw [← hZ]
      clear hw hap hidx hpn
      rcases (by omega : i = 0 ∨ i = 1 ∨ i = 2 ∨ i = 3) with rfl | rfl | rfl | rfl
      · simp only [Nat.reduceMul, Nat.reduceSub, Nat.reducePow] at hw2
        have e1 : (((N / 262144 : Nat) : Int) % 64).toNat = N / 262144 % 64 := by omega
        have e2 : (N : Int).fdiv 262144 = ((N / 262144 : Nat) : Int) := fdiv_nat (by decide)
        repeat' (first | refine unhold ?_ | (simp -dsimp -implicitDefEqProofs (disch := (first | assumption | omega | (simp only [ll1, ll2, ll3, ll4, ll5, ll6, ll7, ll8]; omega))) only [go_sem, hic, hL, and63_i64, e1]) | refine acalls_same (hw2) ?_ | refine ⟨_, hw2, ?_⟩ | refine ⟨_, _, hw2, ?_⟩ | refine vcI (fun _ => ?_) (fun _ => ?_) | (refine vcA ?_ ?_; focus (repeat' (first | omega | assumption | refine vcA ?_ ?_); done)) | omega | refine imp_in (fun _ => ?_))
        refine again (1) ?_ ?_ ?_ env_ok
        · omega
        · omega
        · rw [hZ', adB_s]
      · simp only [Nat.reduceMul, Nat.reduceSub, Nat.reducePow] at hw2
        have e1 : (((N / 4096 : Nat) : Int) % 64).toNat = N / 4096 % 64 := by omega
        have e2 : (N : Int).fdiv 4096 = ((N / 4096 : Nat) : Int) := fdiv_nat (by decide)
        repeat' (first | refine unhold ?_ | (simp -dsimp -implicitDefEqProofs (disch := (first | assumption | omega | (simp only [ll1, ll2, ll3, ll4, ll5, ll6, ll7, ll8]; omega))) only [go_sem, hic, hL, and63_i64, e1]) | refine acalls_same (hw2) ?_ | refine ⟨_, hw2, ?_⟩ | refine ⟨_, _, hw2, ?_⟩ | refine vcI (fun _ => ?_) (fun _ => ?_) | (refine vcA ?_ ?_; focus (repeat' (first | omega | assumption | refine vcA ?_ ?_); done)) | omega | refine imp_in (fun _ => ?_))
        refine again (2) ?_ ?_ ?_ env_ok
        · omega
        · omega
        · rw [hZ', adB_s]
      · simp only [Nat.reduceMul, Nat.reduceSub, Nat.reducePow] at hw2
        have e1 : (((N / 64 : Nat) : Int) % 64).toNat = N / 64 % 64 := by omega
        have e2 : (N : Int).fdiv 64 = ((N / 64 : Nat) : Int) := fdiv_nat (by decide)
        repeat' (first | refine unhold ?_ | (simp -dsimp -implicitDefEqProofs (disch := (first | assumption | omega | (simp only [ll1, ll2, ll3, ll4, ll5, ll6, ll7, ll8]; omega))) only [go_sem, hic, hL, and63_i64, e1]) | refine acalls_same (hw2) ?_ | refine ⟨_, hw2, ?_⟩ | refine ⟨_, _, hw2, ?_⟩ | refine vcI (fun _ => ?_) (fun _ => ?_) | (refine vcA ?_ ?_; focus (repeat' (first | omega | assumption | refine vcA ?_ ?_); done)) | omega | refine imp_in (fun _ => ?_))
        refine again (3) ?_ ?_ ?_ env_ok
        · omega
        · omega
        · rw [hZ', adB_s]
      · simp only [Nat.reduceMul, Nat.reduceSub, Nat.reducePow] at hw2
        have e1 : (((N / 1 : Nat) : Int) % 64).toNat = N / 1 % 64 := by omega
        have e2 : (N : Int).fdiv 1 = ((N / 1 : Nat) : Int) := fdiv_nat (by decide)
        repeat' (first | refine unhold ?_ | (simp -dsimp -implicitDefEqProofs (disch := (first | assumption | omega | (simp only [ll1, ll2, ll3, ll4, ll5, ll6, ll7, ll8]; omega))) only [go_sem, hic, hL, and63_i64, e1]) | refine acalls_same (hw2) ?_ | refine ⟨_, hw2, ?_⟩ | refine ⟨_, _, hw2, ?_⟩ | refine vcI (fun _ => ?_) (fun _ => ?_) | (refine vcA ?_ ?_; focus (repeat' (first | omega | assumption | refine vcA ?_ ?_); done)) | omega | refine imp_in (fun _ => ?_))
        refine again (4) ?_ ?_ ?_ env_ok
        · omega
        · omega
        · rw [hZ', adB_s]
    · obtain rfl : i = n + 1 := by omega
      have htk : P.take (n + 1) = P := List.take_of_length_le (by omega)
      rw [htk, hnx, adB_s]
      have hic : (((n + 1 : Nat) : Int) < (n : Int) + 1) = False := eq_false (by omega)
      repeat' (first | refine unhold ?_ | (simp -dsimp -implicitDefEqProofs (disch := (first | assumption | omega | (simp only [ll1, ll2, ll3, ll4, ll5, ll6, ll7, ll8]; omega))) only [go_sem, hic]) | refine vcI (fun _ => ?_) (fun _ => ?_) | (refine vcA ?_ ?_; focus (repeat' (first | omega | assumption | refine vcA ?_ ?_); done)) | omega | refine imp_in (fun _ => ?_))
      refine again_drop (H.length + 2) ([.cells (.one 139) gc]) (g + 1) ?_ ?_ ?_ ?_ ?_ (by repeat (first | exact envLow_nil | (refine envLow_cons ?_ ?_; focus (first | (first | exact .lit _ | exact .str _ | exact .any | exact low_bytes | exact low_runes | exact .mp _ _ (by omega) | exact .msl _ _ _ _ (by omega) | exact low_nilsl (fun k e => by cases e) | exact low_jAV _ | exact low_jsl | exact low_ssl | exact low_fn0 | exact low_ipJ _) | (refine low_tup ?_; repeat (first | exact lowAll_nil | (refine lowAll_cons ?_ ?_; focus (first | exact .lit _ | exact .str _ | exact .any | exact low_bytes | exact low_runes | exact .mp _ _ (by omega) | exact .msl _ _ _ _ (by omega) | exact low_nilsl (fun k e => by cases e) | exact low_jAV _ | exact low_jsl | exact low_ssl | exact low_fn0 | exact low_ipJ _)))) | (refine low_agg ?_; repeat (first | exact lowAll_nil | (refine lowAll_cons ?_ ?_; focus (first | exact .lit _ | exact .str _ | exact .any | exact low_bytes | exact low_runes | exact .mp _ _ (by omega) | exact .msl _ _ _ _ (by omega) | exact low_nilsl (fun k e => by cases e) | exact low_jAV _ | exact low_jsl | exact low_ssl | exact low_fn0 | exact low_ipJ _)))))))) ?_ env_ok
      · omega
      · omega
      · simp [eObjs, adB_g]
      · simp [eObjs]
      · simp [eObjs]
      · exact eObjs_obj adB_ok (Nat.le_refl _)
  · have hc0 : (0 < ((b.length - 3 * g : Nat) : Int)) = False := eq_false (by omega)
    have htk : (encB letters b).take (4 * g) = encB letters b := List.take_of_length_le (by rw [encB_len]; omega)
    have hX : (encB letters b).length ≤ 20000000 := by rw [encB_len]; omega
    rw [htk]
    generalize encB letters b = Y at *
    unfold eObjs
    have hS := String_c (T := 50) (k := H.length) (m := H.length + 1) (a := adB H.length g 0) (bs := Y) (H := H ++ [bObj 50 (H.length + 1) (adB H.length g 0) Y, gObj Y.length]) (by rw [List.getElem?_append_right (Nat.le_refl _), Nat.sub_self]; rfl) (by rw [List.getElem?_append_right (by omega), Nat.add_sub_cancel_left]; rfl) (by omega)
    repeat' (first | refine unhold ?_ | (simp -dsimp -implicitDefEqProofs (disch := (first | assumption | omega | (simp only [ll1, ll2, ll3, ll4, ll5, ll6, ll7, ll8]; omega))) only [go_sem, hc0]) | refine acalls_same (hS) ?_ | refine ⟨_, hS, ?_⟩ | refine ⟨_, _, hS, ?_⟩ | refine vcI (fun _ => ?_) (fun _ => ?_) | (refine vcA ?_ ?_; focus (repeat' (first | omega | assumption | refine vcA ?_ ?_); done)) | omega | refine imp_in (fun _ => ?_))
    exact done_cut _ (Le.refl _) (.str _) ⟨rfl, rfl⟩
theorem Encode_c {o : Own} (b : bytes) (H : List AObj) (h : b.length ≤ 10000000) : ACalls Tryz.prog 59 [.sl o 1 (b.map byteAV)] H (fun y H' => y = .str (encB [65, 66, 67, 68, 69, 70, 71, 72, 73, 74, 75, 76, 77, 78, 79, 80, 81, 82, 83, 84, 85, 86, 87, 88, 89, 90, 97, 98, 99, 100, 101, 102, 103, 104, 105, 106, 107, 108, 109, 110, 111, 112, 113, 114, 115, 116, 117, 118, 119, 120, 121, 122, 48, 49, 50, 51, 52, 53, 54, 55, 56, 57, 43, 47] b) ∧ H' = H) := by
  have he := fun H => encode_c (o := o) [65, 66, 67, 68, 69, 70, 71, 72, 73, 74, 75, 76, 77, 78, 79, 80, 81, 82, 83, 84, 85, 86, 87, 88, 89, 90, 97, 98, 99, 100, 101, 102, 103, 104, 105, 106, 107, 108, 109, 110, 111, 112, 113, 114, 115, 116, 117, 118, 119, 120, 121, 122, 48, 49, 50, 51, 52, 53, 54, 55, 56, 57, 43, 47] b H rfl h
  refine acalls_vc L_ok mixed [] (rs := [.tmp 2]) (n := 5) Tryz.func59 rfl rfl rfl rfl (Nat.le_of_ble_eq_true rfl) (by kernel_rfl) ?_
  repeat' (first | refine unhold ?_ | (simp -dsimp -implicitDefEqProofs (disch := (first | assumption | omega | (simp only [ll1, ll2, ll3, ll4, ll5, ll6, ll7, ll8]; omega))) only [go_sem]) | refine acalls_same (he _) ?_ | refine ⟨_, he _, ?_⟩ | refine ⟨_, _, he _, ?_⟩ | refine vcI (fun _ => ?_) (fun _ => ?_) | (refine vcA ?_ ?_; focus (repeat' (first | omega | assumption | refine vcA ?_ ?_); done)) | omega | refine imp_in (fun _ => ?_))
  exact done_same ⟨rfl, rfl⟩
theorem Safe_c {o : Own} (b : bytes) (H : List AObj) (h : b.length ≤ 10000000) : ACalls Tryz.prog 62 [.sl o 1 (b.map byteAV)] H (fun y H' => y = .str (encB [65, 66, 67, 68, 69, 70, 71, 72, 73, 74, 75, 76, 77, 78, 79, 80, 81, 82, 83, 84, 85, 86, 87, 88, 89, 90, 97, 98, 99, 100, 101, 102, 103, 104, 105, 106, 107, 108, 109, 110, 111, 112, 113, 114, 115, 116, 117, 118, 119, 120, 121, 122, 48, 49, 50, 51, 52, 53, 54, 55, 56, 57, 45, 95] b) ∧ H' = H) := by
  have he := fun H => encode_c (o := o) [65, 66, 67, 68, 69, 70, 71, 72, 73, 74, 75, 76, 77, 78, 79, 80, 81, 82, 83, 84, 85, 86, 87, 88, 89, 90, 97, 98, 99, 100, 101, 102, 103, 104, 105, 106, 107, 108, 109, 110, 111, 112, 113, 114, 115, 116, 117, 118, 119, 120, 121, 122, 48, 49, 50, 51, 52, 53, 54, 55, 56, 57, 45, 95] b H rfl h
  refine acalls_vc L_ok mixed [] (rs := [.tmp 2]) (n := 5) Tryz.func62 rfl rfl rfl rfl (Nat.le_of_ble_eq_true rfl) (by kernel_rfl) ?_
  repeat' (first | refine unhold ?_ | (simp -dsimp -implicitDefEqProofs (disch := (first | assumption | omega | (simp only [ll1, ll2, ll3, ll4, ll5, ll6, ll7, ll8]; omega))) only [go_sem]) | refine acalls_same (he _) ?_ | refine ⟨_, he _, ?_⟩ | refine ⟨_, _, he _, ?_⟩ | refine vcI (fun _ => ?_) (fun _ => ?_) | (refine vcA ?_ ?_; focus (repeat' (first | omega | assumption | refine vcA ?_ ?_); done)) | omega | refine imp_in (fun _ => ?_))
  exact done_same ⟨rfl, rfl⟩
end Go.Proofs.YtdahdbnfknmmgaaGreatDoor
end

section
set_option linter.unusedSimpArgs false
set_option linter.unusedVariables false
namespace Go.Proofs.YtdahdbnfknmmgaaGreatDoor
open Go V
def spB (c : UInt8) : Bool := decide (c = 32) || decide (9 ≤ c.toNat ∧ c.toNat ≤ 13)
theorem space_sp (c : UInt8) : spaceN c.toNat = if spB c = true then 1 else 0 := by
  unfold spaceN spB
  have h : c = 32 ↔ c.toNat = 32 := ⟨fun e => by rw [e]; rfl, fun e => UInt8.toNat_inj.1 e⟩
  by_cases h1 : c = 32
  · simp [h1]
  · by_cases h2 : 9 ≤ c.toNat ∧ c.toNat ≤ 13
    · simp [h1, h2]
    · have h3 : ¬ c.toNat = 32 := fun e => h1 (h.2 e)
      rw [if_neg (by omega)]
      simp [h1, h2]
/-- The words of what is left, behind the word that has begun. -/
def fieldsGo : bytes → bytes → List bytes
  | [], cur => if cur = [] then [] else [cur]
  | c :: r, cur => if spB c = true then (if cur = [] then fieldsGo r [] else cur :: fieldsGo r []) else fieldsGo r (cur ++ [c])
def fieldsP (s : bytes) : List bytes := fieldsGo s []
/-- How many words begin. -/
def cntF : bytes → Bool → Nat
  | [], _ => 0
  | c :: r, p => (if p && !spB c then 1 else 0) + cntF r (spB c)
theorem fields_cnt : ∀ (s cur : bytes), (fieldsGo s cur).length = cntF s (decide (cur = [])) + if cur = [] then 0 else 1
  | [], cur => by
    unfold fieldsGo cntF
    split <;> rfl
  | c :: r, cur => by
    unfold fieldsGo cntF
    by_cases h : spB c = true
    · rw [if_pos h, h]
      by_cases h2 : cur = []
      · rw [if_pos h2, if_pos h2, fields_cnt r []]
        simp
      · rw [if_neg h2, if_neg h2, List.length_cons, fields_cnt r []]
        simp
    · rw [if_neg h, fields_cnt r (cur ++ [c])]
      have h0 : spB c = false := by simpa using h
      rw [h0, if_neg (by simp)]
      by_cases h2 : cur = []
      · simp [h2]; omega
      · simp [h2]
theorem fields_len (s : bytes) : (fieldsP s).length = cntF s true := by
  have := fields_cnt s []
  rw [if_pos rfl] at this
  exact this
theorem cnt_drop {s : bytes} {i : Nat} (h : i < s.length) (p : Bool) : cntF (s.drop i) p = (if p && !spB (s.getD i 0) then 1 else 0) + cntF (s.drop (i + 1)) (spB (s.getD i 0)) := by
  rw [List.drop_eq_getElem_cons h, cntF, List.getD, List.getElem?_eq_getElem h]
  rfl
theorem cntF_le : ∀ (s : bytes) (p : Bool), cntF s p ≤ s.length
  | [], _ => Nat.le_refl _
  | c :: r, p => by
    have := cntF_le r (spB c)
    unfold cntF
    split <;> simp <;> omega
/-- The rest of a text, a word of which may have begun. -/
theorem fields_drop {s : bytes} {i : Nat} (h : i < s.length) (cur : bytes) : fieldsGo (s.drop i) cur = if spB (s.getD i 0) = true then (if cur = [] then fieldsGo (s.drop (i + 1)) [] else cur :: fieldsGo (s.drop (i + 1)) []) else fieldsGo (s.drop (i + 1)) (cur ++ [s.getD i 0]) := by
  rw [List.drop_eq_getElem_cons h, fieldsGo, List.getD, List.getElem?_eq_getElem h]
  rfl
/-- A piece of a text. -/
def pieceF (s : bytes) (a b : Nat) : bytes := (s.drop a).take (b - a)
theorem piece_snoc {s : bytes} {a b : Nat} (hab : a ≤ b) (h : b < s.length) : pieceF s a b ++ [s.getD b 0] = pieceF s a (b + 1) := by
  unfold pieceF
  have e : s[a + (b - a)]'(by omega) = s[b] := by congr 1; omega
  rw [show b + 1 - a = (b - a) + 1 by omega, List.take_succ_eq_append_getElem (by rw [List.length_drop]; omega), List.getElem_drop, List.getD, List.getElem?_eq_getElem h, e]
  rfl
theorem piece_nil (s : bytes) (a : Nat) : pieceF s a a = [] := by simp [pieceF]
theorem piece_ne {s : bytes} {a b : Nat} (hab : a < b) (h : b ≤ s.length) : pieceF s a b ≠ [] := fun e => by
  have h2 := congrArg List.length e
  unfold pieceF at h2
  rw [List.length_take, List.length_drop, List.length_nil] at h2
  omega
/-- The list of the words, the first na of which are told. -/
def gF (F : List bytes) (na : Nat) : List bytes := F.take na ++ List.replicate (F.length - na) []
theorem gF_len (F : List bytes) {na : Nat} (h : na ≤ F.length) : (gF F na).length = F.length := by
  unfold gF
  rw [List.length_append, List.length_take, List.length_replicate]
  omega
theorem gF_zero (F : List bytes) : gF F 0 = List.replicate F.length [] := by simp [gF]
theorem gF_all (F : List bytes) : gF F F.length = F := by simp [gF]
theorem gF_set {F R : List bytes} {na : Nat} {p : bytes} (h : F = F.take na ++ p :: R) (hna : na ≤ F.length) : na < F.length ∧ (gF F na).set na p = gF F (na + 1) ∧ F = F.take (na + 1) ++ R := by
  have hl := congrArg List.length h
  rw [List.length_append, List.length_take, List.length_cons] at hl
  have hlt : na < F.length := by omega
  have ht : F.take (na + 1) = F.take na ++ [p] := by
    have h2 : F[na]? = some p := by
      rw [h, List.getElem?_append_right (by rw [List.length_take]; omega), List.length_take, Nat.min_eq_left (by omega), Nat.sub_self]
      rfl
    rw [List.take_succ_eq_append_getElem hlt]
    rw [List.getElem?_eq_getElem hlt] at h2
    rw [Option.some.inj h2]
  refine ⟨hlt, ?_, by rw [ht, List.append_assoc]; exact h⟩
  unfold gF
  rw [ht, List.set_append_right _ _ (by rw [List.length_take]; omega), List.length_take, Nat.min_eq_left (by omega), Nat.sub_self, show F.length - na = (F.length - (na + 1)) + 1 by omega, List.replicate_succ, List.set_cons_zero]
  simp
end Go.Proofs.YtdahdbnfknmmgaaGreatDoor
end

section
set_option linter.unusedSimpArgs false
set_option linter.unusedVariables false
namespace Go.Proofs.YtdahdbnfknmmgaaGreatDoor
open Go V
set_option maxRecDepth 10000
set_option maxHeartbeats 4000000
theorem or_u8 {x y : Nat} (hx : x < 2 ^ 8) (hy : y < 2 ^ 8) : IntKind.u8.wrap ((BitVec.ofInt IntKind.u8.bits (x : Int) ||| BitVec.ofInt IntKind.u8.bits (y : Int)).toNat : Int) = ((x ||| y : Nat) : Int) := by
  show IntKind.u8.wrap ((BitVec.ofInt 8 (x : Int) ||| BitVec.ofInt 8 (y : Int)).toNat : Int) = _
  rw [bv_or hx hy, wrap_nat_u8 (Nat.or_lt_two_pow hx hy)]
theorem i64_not0 : IntKind.i64.wrap (((BitVec.ofInt IntKind.i64.bits (if IntKind.i64.signed = true then -1 else IntKind.i64.max) ^^^ BitVec.ofInt IntKind.i64.bits 0).toNat : Nat) : Int) = -1 := by decide
theorem i64_not1 : IntKind.i64.wrap (((BitVec.ofInt IntKind.i64.bits (if IntKind.i64.signed = true then -1 else IntKind.i64.max) ^^^ BitVec.ofInt IntKind.i64.bits 1).toNat : Nat) : Int) = -2 := by decide
theorem i64_and0 : IntKind.i64.wrap (((BitVec.ofInt IntKind.i64.bits 0 &&& BitVec.ofInt IntKind.i64.bits (-1)).toNat : Nat) : Int) = 0 := by decide
theorem i64_and1 : IntKind.i64.wrap (((BitVec.ofInt IntKind.i64.bits 1 &&& BitVec.ofInt IntKind.i64.bits (-1)).toNat : Nat) : Int) = 1 := by decide
theorem i64_and2 : IntKind.i64.wrap (((BitVec.ofInt IntKind.i64.bits 0 &&& BitVec.ofInt IntKind.i64.bits (-2)).toNat : Nat) : Int) = 0 := by decide
theorem i64_and3 : IntKind.i64.wrap (((BitVec.ofInt IntKind.i64.bits 1 &&& BitVec.ofInt IntKind.i64.bits (-2)).toNat : Nat) : Int) = 0 := by decide
def wasN (b : Bool) : Int := if b then 1 else 0
theorem fields_done {H : List AObj} (F : List bytes) : Done H (fun y H' => y = .sl .sh 1 (F.map .str) ∧ H' = H) (.msl H.length 0 F.length F.length) (H ++ [.cells (.one 9) (F.map .str)]) := by
  have hfl : flats (F.map AV.str) = F.map AV.str := flats_ones AV.str (fun _ => rfl) F
  refine done_frz (.sl .sh 1 (F.map .str)) (.msl _ _ _ _ _ (.one 9) (F.map .str) _ (Nat.le_refl _) (by simp) (by simp) (fun x hx => by obtain ⟨c, _, rfl⟩ := List.mem_map.1 hx; exact ⟨rfl, rfl⟩) (by rw [hfl]; simp) fun j c y e1 e2 => ?_) ⟨rfl, rfl⟩
  rw [hfl] at e2
  rw [Nat.zero_add, e2] at e1
  cases e1
  obtain ⟨c, _, rfl⟩ := List.mem_map.1 (List.mem_of_getElem? e2)
  exact .low _ (.str _)
theorem Fields_c (s : bytes) (H : List AObj) (ha : ∀ c ∈ s, c.toNat < 128) (hl : s.length ≤ 100000) : ACalls Tryz.prog 61 [.str s] H (fun y H' => y = .sl .sh 1 ((fieldsP s).map .str) ∧ H' = H) := by
  have hN := fields_len s
  have hNl := cntF_le s true
  refine acalls_vc L_ok mixed [] (rs := [.tmp 2]) (n := 106) Tryz.func61 rfl rfl rfl rfl (Nat.le_of_ble_eq_true rfl) (by kernel_rfl) ?_
  repeat' (first | refine unhold ?_ | (simp -dsimp -implicitDefEqProofs (disch := (first | assumption | omega | (simp only [ll1, ll2, ll3, ll4, ll5, ll6, ll7, ll8]; omega))) only [go_sem]) | refine vcI (fun _ => ?_) (fun _ => ?_) | (refine vcA ?_ ?_; focus (repeat' (first | omega | assumption | refine vcA ?_ ?_); done)) | omega | refine imp_in (fun _ => ?_))
  refine vc_loopk L_ok mixed [] [0, 2] (fun p : Nat × Nat × Bool × Nat => p.1 ≤ s.length ∧ p.2.1 + cntF (s.drop p.1) p.2.2.1 = cntF s true ∧ p.2.2.2 < 128) (fun p => [(3, .lit (.int .i64 p.2.1)), (4, .lit (.int .i64 (wasN p.2.2.1))), (5, .lit (.int .u8 p.2.2.2)), (6, .lit (.int .i64 p.1))]) (fun _ => H) (fun p => s.length - p.1) (by kernel_rfl) ?_ (0, 0, true, 0) ⟨by omega, by simp, by decide⟩ env_ok rfl
  rintro ⟨i, n, w, v⟩ ⟨hi, hc, hv⟩
  dsimp only at hi hc hv ⊢
  by_cases hil : i < s.length
  · have hic : ((i : Int) < ((s.length : Nat) : Int)) = True := eq_true (by omega)
    rw [cnt_drop hil] at hc
    have hsp := space_sp (s.getD i 0)
    have hc128 : (s.getD i 0).toNat < 128 := ha _ (by rw [List.getD, List.getElem?_eq_getElem hil]; exact List.getElem_mem hil)
    have hor := or_u8 (x := v) (y := (s.getD i 0).toNat) (by omega) (by omega)
    have hvl : (v ||| (s.getD i 0).toNat) < 128 := Nat.or_lt_two_pow (n := 7) (by omega) (by omega)
    generalize (v ||| (s.getD i 0).toNat) = v' at *
    cases hb : spB (s.getD i 0) with
    | true =>
      rw [hb] at hc hsp
      rw [if_pos rfl] at hsp
      cases w with
      | true =>
        repeat' (first | refine unhold ?_ | (simp -dsimp -implicitDefEqProofs (disch := (first | assumption | omega | (simp only [ll1, ll2, ll3, ll4, ll5, ll6, ll7, ll8]; omega))) only [go_sem, hic, hor, hsp, wasN, i64_not1, i64_and3]) | refine vcI (fun _ => ?_) (fun _ => ?_) | (refine vcA ?_ ?_; focus (repeat' (first | omega | assumption | refine vcA ?_ ?_); done)) | omega | refine imp_in (fun _ => ?_))
        refine again ((i + 1, n, true, v')) ?_ ?_ rfl env_ok
        · dsimp only; omega
        · exact ⟨by dsimp only; omega, by simpa using hc, hvl⟩
      | false =>
        repeat' (first | refine unhold ?_ | (simp -dsimp -implicitDefEqProofs (disch := (first | assumption | omega | (simp only [ll1, ll2, ll3, ll4, ll5, ll6, ll7, ll8]; omega))) only [go_sem, hic, hor, hsp, wasN, i64_not1, i64_and2]) | refine vcI (fun _ => ?_) (fun _ => ?_) | (refine vcA ?_ ?_; focus (repeat' (first | omega | assumption | refine vcA ?_ ?_); done)) | omega | refine imp_in (fun _ => ?_))
        refine again ((i + 1, n, true, v')) ?_ ?_ rfl env_ok
        · dsimp only; omega
        · exact ⟨by dsimp only; omega, by simpa using hc, hvl⟩
    | false =>
      rw [hb] at hc hsp
      rw [if_neg (by decide)] at hsp
      cases w with
      | true =>
        repeat' (first | refine unhold ?_ | (simp -dsimp -implicitDefEqProofs (disch := (first | assumption | omega | (simp only [ll1, ll2, ll3, ll4, ll5, ll6, ll7, ll8]; omega))) only [go_sem, hic, hor, hsp, wasN, i64_not0, i64_and1]) | refine vcI (fun _ => ?_) (fun _ => ?_) | (refine vcA ?_ ?_; focus (repeat' (first | omega | assumption | refine vcA ?_ ?_); done)) | omega | refine imp_in (fun _ => ?_))
        refine again ((i + 1, n + 1, false, v')) ?_ ?_ rfl env_ok
        · dsimp only; omega
        · exact ⟨by dsimp only; omega, by simp at hc ⊢; omega, hvl⟩
      | false =>
        repeat' (first | refine unhold ?_ | (simp -dsimp -implicitDefEqProofs (disch := (first | assumption | omega | (simp only [ll1, ll2, ll3, ll4, ll5, ll6, ll7, ll8]; omega))) only [go_sem, hic, hor, hsp, wasN, i64_not0, i64_and0]) | refine vcI (fun _ => ?_) (fun _ => ?_) | (refine vcA ?_ ?_; focus (repeat' (first | omega | assumption | refine vcA ?_ ?_); done)) | omega | refine imp_in (fun _ => ?_))
        refine again ((i + 1, n, false, v')) ?_ ?_ rfl env_ok
        · dsimp only; omega
        · exact ⟨by dsimp only; omega, by simpa using hc, hvl⟩
  · obtain rfl : i = s.length := by omega
    have hic : (((s.length : Nat) : Int) < ((s.length : Nat) : Int)) = False := eq_false (by omega)
    rw [List.drop_length, cntF, Nat.add_zero] at hc
    have hv8 : (128 ≤ (v : Int)) = False := eq_false (by omega)
    rw [← hN] at hc hNl
    unfold fieldsP at *
    obtain ⟨F, hF⟩ : ∃ F, F = fieldsGo s [] := ⟨_, rfl⟩
    rw [← hF] at hc hNl ⊢
    subst hc
    have hz : zeroFlat [AV.str []] F.length = (gF F 0).map AV.str := by rw [zeroFlat_one, gF_zero, List.map_replicate]
    have hFl : F.length ≤ 100000 := by omega
    clear hN hNl
    repeat' (first | refine unhold ?_ | (simp -dsimp -implicitDefEqProofs (disch := (first | assumption | omega | (simp only [ll1, ll2, ll3, ll4, ll5, ll6, ll7, ll8]; omega))) only [go_sem, hic, hv8, hz]) | refine vcI (fun _ => ?_) (fun _ => ?_) | (refine vcA ?_ ?_; focus (repeat' (first | omega | assumption | refine vcA ?_ ?_); done)) | omega | refine imp_in (fun _ => ?_))
    refine vc_loopk L_ok mixed [] [0, 2, 9, 10, 11] (fun i : Nat => i ≤ s.length ∧ fieldsGo (s.drop i) [] = F) (fun i => [(12, .lit (.int .i64 i))]) (fun _ => H ++ [.cells (.one 9) ((gF F 0).map .str)]) (fun i => s.length - i) (by kernel_rfl) ?_ 0 ⟨by omega, hF.symm⟩ env_ok rfl
    rintro i ⟨hi, hd⟩
    by_cases hil : i < s.length
    · have hic : ((i : Int) < ((s.length : Nat) : Int)) = True := eq_true (by omega)
      have hsp := space_sp (s.getD i 0)
      have hc128 : (s.getD i 0).toNat < 128 := ha _ (by rw [List.getD, List.getElem?_eq_getElem hil]; exact List.getElem_mem hil)
      have hfd := fields_drop hil []
      cases hb : spB (s.getD i 0) with
      | true =>
        rw [hb, if_pos rfl] at hsp
        rw [hb, if_pos rfl, if_pos rfl] at hfd
        repeat' (first | refine unhold ?_ | (simp -dsimp -implicitDefEqProofs (disch := (first | assumption | omega | (simp only [ll1, ll2, ll3, ll4, ll5, ll6, ll7, ll8]; omega))) only [go_sem, hic, hsp]) | refine vcI (fun _ => ?_) (fun _ => ?_) | (refine vcA ?_ ?_; focus (repeat' (first | omega | assumption | refine vcA ?_ ?_); done)) | omega | refine imp_in (fun _ => ?_))
        refine again (i + 1) ?_ ?_ rfl env_ok
        · omega
        · exact ⟨by omega, by rw [← hfd]; exact hd⟩
      | false =>
        rw [hb, if_neg (by decide)] at hsp
        repeat' (first | refine unhold ?_ | (simp -dsimp -implicitDefEqProofs (disch := (first | assumption | omega | (simp only [ll1, ll2, ll3, ll4, ll5, ll6, ll7, ll8]; omega))) only [go_sem, hic, hsp]) | refine vcI (fun _ => ?_) (fun _ => ?_) | (refine vcA ?_ ?_; focus (repeat' (first | omega | assumption | refine vcA ?_ ?_); done)) | omega | refine imp_in (fun _ => ?_))
        refine vc_loopk L_ok mixed [] [0, 2, 9] (fun p : Nat × Nat × Nat => p.2.1 ≤ p.1 ∧ p.1 ≤ s.length ∧ p.2.2 ≤ F.length ∧ F = F.take p.2.2 ++ fieldsGo (s.drop p.1) (pieceF s p.2.1 p.1) ∧ (p.2.1 < s.length → spB (s.getD p.2.1 0) = false)) (fun p => [(10, .lit (.int .i64 p.2.2)), (11, .lit (.int .i64 p.2.1)), (12, .lit (.int .i64 p.1))]) (fun p => H ++ [.cells (.one 9) ((gF F p.2.2).map .str)]) (fun p => s.length - p.1) (by kernel_rfl) ?_ (i, i, 0) ⟨Nat.le_refl _, hi, Nat.zero_le _, by rw [piece_nil, hd]; simp, fun _ => hb⟩ env_ok rfl
        rintro ⟨i, fs, na⟩ ⟨hfi, hi, hna, hd, hfs⟩
        dsimp only at hfi hi hna hd hfs ⊢
        have hgl := gF_len F hna
        by_cases hil : i < s.length
        · have hic : ((i : Int) < ((s.length : Nat) : Int)) = True := eq_true (by omega)
          have hsp := space_sp (s.getD i 0)
          have hc128 : (s.getD i 0).toNat < 128 := ha _ (by rw [List.getD, List.getElem?_eq_getElem hil]; exact List.getElem_mem hil)
          have hfd := fields_drop hil (pieceF s fs i)
          cases hb : spB (s.getD i 0) with
          | false =>
            rw [hb, if_neg (by decide)] at hsp
            rw [hb, if_neg (by decide), piece_snoc hfi hil] at hfd
            repeat' (first | refine unhold ?_ | (simp -dsimp -implicitDefEqProofs (disch := (first | assumption | omega | (simp only [ll1, ll2, ll3, ll4, ll5, ll6, ll7, ll8]; omega))) only [go_sem, hic, hsp]) | refine vcI (fun _ => ?_) (fun _ => ?_) | (refine vcA ?_ ?_; focus (repeat' (first | omega | assumption | refine vcA ?_ ?_); done)) | omega | refine imp_in (fun _ => ?_))
            refine again ((i + 1, fs, na)) ?_ ?_ rfl env_ok
            · dsimp only; omega
            · exact ⟨by dsimp only; omega, by dsimp only; omega, hna, by rw [← hfd]; exact hd, hfs⟩
          | true =>
            rw [hb, if_pos rfl] at hsp
            have hlt : fs < i := by
              rcases Nat.lt_or_ge fs i with h | h
              · exact h
              · obtain rfl : fs = i := by omega
                rw [hfs hil] at hb
                cases hb
            rw [hb, if_pos rfl, if_neg (piece_ne hlt (by omega))] at hfd
            rw [hfd] at hd
            obtain ⟨hnl, hgs, hd2⟩ := gF_set hd hna
            have hst : ((gF F na).map AV.str).set na (.str ((s.drop fs).take (i - fs))) = (gF F (na + 1)).map .str := by
              rw [← hgs, List.map_set]
              rfl
            repeat' (first | refine unhold ?_ | (simp -dsimp -implicitDefEqProofs (disch := (first | assumption | omega | (simp only [ll1, ll2, ll3, ll4, ll5, ll6, ll7, ll8]; omega))) only [go_sem, hic, hsp, hgl, hst]) | refine vcI (fun _ => ?_) (fun _ => ?_) | (refine vcA ?_ ?_; focus (repeat' (first | omega | assumption | refine vcA ?_ ?_); done)) | omega | refine imp_in (fun _ => ?_))
            refine vc_loopk L_ok mixed [] [0, 2, 9, 10, 11, 57, 58, 59, 60, 61, 62, 63, 64, 65, 66, 67, 68, 69, 70, 71, 72, 73, 74, 75, 76, 77, 78, 79] (fun j : Nat => j ≤ s.length ∧ i < j ∧ F = F.take (na + 1) ++ fieldsGo (s.drop j) []) (fun j => [(12, .lit (.int .i64 j)), (10, .lit (.int .i64 ((na + 1 : Nat) : Int)))]) (fun _ => H ++ [.cells (.one 9) ((gF F (na + 1)).map .str)]) (fun j => s.length - j) (by kernel_rfl) ?_ (i + 1) ⟨by omega, by omega, hd2⟩ env_ok rfl
            rintro j ⟨hj, hij, hdj⟩
            by_cases hjl : j < s.length
            · have hjc : ((j : Int) < ((s.length : Nat) : Int)) = True := eq_true (by omega)
              have hspj := space_sp (s.getD j 0)
              have hcj : (s.getD j 0).toNat < 128 := ha _ (by rw [List.getD, List.getElem?_eq_getElem hjl]; exact List.getElem_mem hjl)
              have hfj := fields_drop hjl []
              cases hbj : spB (s.getD j 0) with
              | true =>
                rw [hbj, if_pos rfl] at hspj
                rw [hbj, if_pos rfl, if_pos rfl] at hfj
                repeat' (first | refine unhold ?_ | (simp -dsimp -implicitDefEqProofs (disch := (first | assumption | omega | (simp only [ll1, ll2, ll3, ll4, ll5, ll6, ll7, ll8]; omega))) only [go_sem, hjc, hspj]) | refine vcI (fun _ => ?_) (fun _ => ?_) | (refine vcA ?_ ?_; focus (repeat' (first | omega | assumption | refine vcA ?_ ?_); done)) | omega | refine imp_in (fun _ => ?_))
                refine again (j + 1) ?_ ?_ rfl env_ok
                · omega
                · exact ⟨by omega, by omega, by rw [← hfj]; exact hdj⟩
              | false =>
                rw [hbj, if_neg (by decide)] at hspj
                repeat' (first | refine unhold ?_ | (simp -dsimp -implicitDefEqProofs (disch := (first | assumption | omega | (simp only [ll1, ll2, ll3, ll4, ll5, ll6, ll7, ll8]; omega))) only [go_sem, hjc, hspj]) | refine vcI (fun _ => ?_) (fun _ => ?_) | (refine vcA ?_ ?_; focus (repeat' (first | omega | assumption | refine vcA ?_ ?_); done)) | omega | refine imp_in (fun _ => ?_))
                refine again ((j, j, na + 1)) ?_ ?_ rfl env_ok
                · dsimp only; omega
                · exact ⟨Nat.le_refl _, hj, by dsimp only; omega, by dsimp only; rw [piece_nil]; exact hdj, fun _ => hbj⟩
            · obtain rfl : j = s.length := by omega
              have hjc : (((s.length : Nat) : Int) < ((s.length : Nat) : Int)) = False := eq_false (by omega)
              repeat' (first | refine unhold ?_ | (simp -dsimp -implicitDefEqProofs (disch := (first | assumption | omega | (simp only [ll1, ll2, ll3, ll4, ll5, ll6, ll7, ll8]; omega))) only [go_sem, hjc]) | refine vcI (fun _ => ?_) (fun _ => ?_) | (refine vcA ?_ ?_; focus (repeat' (first | omega | assumption | refine vcA ?_ ?_); done)) | omega | refine imp_in (fun _ => ?_))
              refine again ((s.length, s.length, na + 1)) ?_ ?_ rfl env_ok
              · dsimp only; omega
              · exact ⟨Nat.le_refl _, Nat.le_refl _, by dsimp only; omega, by dsimp only; rw [piece_nil]; exact hdj, fun h => absurd h (by dsimp only; omega)⟩
        · obtain rfl : i = s.length := by omega
          have hic : (((s.length : Nat) : Int) < ((s.length : Nat) : Int)) = False := eq_false (by omega)
          rw [List.drop_length, fieldsGo] at hd
          by_cases hfl : fs < s.length
          · have hfc : ((fs : Int) < ((s.length : Nat) : Int)) = True := eq_true (by omega)
            rw [if_neg (piece_ne hfl (Nat.le_refl _))] at hd
            obtain ⟨hnl, hgs, hd2⟩ := gF_set hd hna
            have hst : ((gF F na).map AV.str).set na (.str (s.drop fs)) = F.map .str := by
              have hF1 : F.length = na + 1 := by
                have := congrArg List.length hd2
                rw [List.append_nil, List.length_take] at this
                omega
              have e : F.map AV.str = (gF F (na + 1)).map AV.str := by rw [← hF1, gF_all]
              have ep : pieceF s fs s.length = s.drop fs := List.take_of_length_le (by rw [List.length_drop]; omega)
              rw [e, ← hgs, List.map_set, ep]
            repeat' (first | refine unhold ?_ | (simp -dsimp -implicitDefEqProofs (disch := (first | assumption | omega | (simp only [ll1, ll2, ll3, ll4, ll5, ll6, ll7, ll8]; omega))) only [go_sem, hic, hfc, hgl, hst]) | refine vcI (fun _ => ?_) (fun _ => ?_) | (refine vcA ?_ ?_; focus (repeat' (first | omega | assumption | refine vcA ?_ ?_); done)) | omega | refine imp_in (fun _ => ?_))
            exact fields_done F
          · have hfc : ((fs : Int) < ((s.length : Nat) : Int)) = False := eq_false (by omega)
            obtain rfl : fs = s.length := by omega
            rw [piece_nil, if_pos rfl, List.append_nil] at hd
            have hgF : gF F na = F := by
              have := congrArg List.length hd
              rw [List.length_take] at this
              have h2 : na = F.length := by omega
              rw [h2]; exact gF_all F
            rw [hgF]
            repeat' (first | refine unhold ?_ | (simp -dsimp -implicitDefEqProofs (disch := (first | assumption | omega | (simp only [ll1, ll2, ll3, ll4, ll5, ll6, ll7, ll8]; omega))) only [go_sem, hic]) | refine vcI (fun _ => ?_) (fun _ => ?_) | (refine vcA ?_ ?_; focus (repeat' (first | omega | assumption | refine vcA ?_ ?_); done)) | omega | refine imp_in (fun _ => ?_))
            exact fields_done F
    · obtain rfl : i = s.length := by omega
      have hic : (((s.length : Nat) : Int) < ((s.length : Nat) : Int)) = False := eq_false (by omega)
      repeat' (first | refine unhold ?_ | (simp -dsimp -implicitDefEqProofs (disch := (first | assumption | omega | (simp only [ll1, ll2, ll3, ll4, ll5, ll6, ll7, ll8]; omega))) only [go_sem, hic]) | refine vcI (fun _ => ?_) (fun _ => ?_) | (refine vcA ?_ ?_; focus (repeat' (first | omega | assumption | refine vcA ?_ ?_); done)) | omega | refine imp_in (fun _ => ?_))
      refine vc_loopk L_ok mixed [] [0, 2, 9] (fun p : Nat × Nat × Nat => p.2.1 ≤ p.1 ∧ p.1 ≤ s.length ∧ p.2.2 ≤ F.length ∧ F = F.take p.2.2 ++ fieldsGo (s.drop p.1) (pieceF s p.2.1 p.1) ∧ (p.2.1 < s.length → spB (s.getD p.2.1 0) = false)) (fun p => [(10, .lit (.int .i64 p.2.2)), (11, .lit (.int .i64 p.2.1)), (12, .lit (.int .i64 p.1))]) (fun p => H ++ [.cells (.one 9) ((gF F p.2.2).map .str)]) (fun p => s.length - p.1) (by kernel_rfl) ?_ (s.length, s.length, 0) ⟨Nat.le_refl _, hi, Nat.zero_le _, by rw [piece_nil, hd]; simp, fun h => absurd h (by dsimp only; omega)⟩ env_ok rfl
      rintro ⟨i, fs, na⟩ ⟨hfi, hi, hna, hd, hfs⟩
      dsimp only at hfi hi hna hd hfs ⊢
      have hgl := gF_len F hna
      by_cases hil : i < s.length
      · have hic : ((i : Int) < ((s.length : Nat) : Int)) = True := eq_true (by omega)
        have hsp := space_sp (s.getD i 0)
        have hc128 : (s.getD i 0).toNat < 128 := ha _ (by rw [List.getD, List.getElem?_eq_getElem hil]; exact List.getElem_mem hil)
        have hfd := fields_drop hil (pieceF s fs i)
        cases hb : spB (s.getD i 0) with
        | false =>
          rw [hb, if_neg (by decide)] at hsp
          rw [hb, if_neg (by decide), piece_snoc hfi hil] at hfd
          repeat' (first | refine unhold ?_ | (simp -dsimp -implicitDefEqProofs (disch := (first | assumption | omega | (simp only [ll1, ll2, ll3, ll4, ll5, ll6, ll7, ll8]; omega))) only [go_sem, hic, hsp]) | refine vcI (fun _ => ?_) (fun _ => ?_) | (refine vcA ?_ ?_; focus (repeat' (first | omega | assumption | refine vcA ?_ ?_); done)) | omega | refine imp_in (fun _ => ?_))
          refine again ((i + 1, fs, na)) ?_ ?_ rfl env_ok
          · dsimp only; omega
          · exact ⟨by dsimp only; omega, by dsimp only; omega, hna, by rw [← hfd]; exact hd, hfs⟩
        | true =>
          rw [hb, if_pos rfl] at hsp
          have hlt : fs < i := by
            rcases Nat.lt_or_ge fs i with h | h
            · exact h
            · obtain rfl : fs = i := by omega
              rw [hfs hil] at hb
              cases hb
          rw [hb, if_pos rfl, if_neg (piece_ne hlt (by omega))] at hfd
          rw [hfd] at hd
          obtain ⟨hnl, hgs, hd2⟩ := gF_set hd hna
          have hst : ((gF F na).map AV.str).set na (.str ((s.drop fs).take (i - fs))) = (gF F (na + 1)).map .str := by
            rw [← hgs, List.map_set]
            rfl
          repeat' (first | refine unhold ?_ | (simp -dsimp -implicitDefEqProofs (disch := (first | assumption | omega | (simp only [ll1, ll2, ll3, ll4, ll5, ll6, ll7, ll8]; omega))) only [go_sem, hic, hsp, hgl, hst]) | refine vcI (fun _ => ?_) (fun _ => ?_) | (refine vcA ?_ ?_; focus (repeat' (first | omega | assumption | refine vcA ?_ ?_); done)) | omega | refine imp_in (fun _ => ?_))
          refine vc_loopk L_ok mixed [] [0, 2, 9, 10, 11, 57, 58, 59, 60, 61, 62, 63, 64, 65, 66, 67, 68, 69, 70, 71, 72, 73, 74, 75, 76, 77, 78, 79] (fun j : Nat => j ≤ s.length ∧ i < j ∧ F = F.take (na + 1) ++ fieldsGo (s.drop j) []) (fun j => [(12, .lit (.int .i64 j)), (10, .lit (.int .i64 ((na + 1 : Nat) : Int)))]) (fun _ => H ++ [.cells (.one 9) ((gF F (na + 1)).map .str)]) (fun j => s.length - j) (by kernel_rfl) ?_ (i + 1) ⟨by omega, by omega, hd2⟩ env_ok rfl
          rintro j ⟨hj, hij, hdj⟩
          by_cases hjl : j < s.length
          · have hjc : ((j : Int) < ((s.length : Nat) : Int)) = True := eq_true (by omega)
            have hspj := space_sp (s.getD j 0)
            have hcj : (s.getD j 0).toNat < 128 := ha _ (by rw [List.getD, List.getElem?_eq_getElem hjl]; exact List.getElem_mem hjl)
            have hfj := fields_drop hjl []
            cases hbj : spB (s.getD j 0) with
            | true =>
              rw [hbj, if_pos rfl] at hspj
              rw [hbj, if_pos rfl, if_pos rfl] at hfj
              repeat' (first | refine unhold ?_ | (simp -dsimp -implicitDefEqProofs (disch := (first | assumption | omega | (simp only [ll1, ll2, ll3, ll4, ll5, ll6, ll7, ll8]; omega))) only [go_sem, hjc, hspj]) | refine vcI (fun _ => ?_) (fun _ => ?_) | (refine vcA ?_ ?_; focus (repeat' (first | omega | assumption | refine vcA ?_ ?_); done)) | omega | refine imp_in (fun _ => ?_))
              refine again (j + 1) ?_ ?_ rfl env_ok
              · omega
              · exact ⟨by omega, by omega, by rw [← hfj]; exact hdj⟩
            | false =>
              rw [hbj, if_neg (by decide)] at hspj
              repeat' (first | refine unhold ?_ | (simp -dsimp -implicitDefEqProofs (disch := (first | assumption | omega | (simp only [ll1, ll2, ll3, ll4, ll5, ll6, ll7, ll8]; omega))) only [go_sem, hjc, hspj]) | refine vcI (fun _ => ?_) (fun _ => ?_) | (refine vcA ?_ ?_; focus (repeat' (first | omega | assumption | refine vcA ?_ ?_); done)) | omega | refine imp_in (fun _ => ?_))
              refine again ((j, j, na + 1)) ?_ ?_ rfl env_ok
              · dsimp only; omega
              · exact ⟨Nat.le_refl _, hj, by dsimp only; omega, by dsimp only; rw [piece_nil]; exact hdj, fun _ => hbj⟩
          · obtain rfl : j = s.length := by omega
            have hjc : (((s.length : Nat) : Int) < ((s.length : Nat) : Int)) = False := eq_false (by omega)
            repeat' (first | refine unhold ?_ | (simp -dsimp -implicitDefEqProofs (disch := (first | assumption | omega | (simp only [ll1, ll2, ll3, ll4, ll5, ll6, ll7, ll8]; omega))) only [go_sem, hjc]) | refine vcI (fun _ => ?_) (fun _ => ?_) | (refine vcA ?_ ?_; focus (repeat' (first | omega | assumption | refine vcA ?_ ?_); done)) | omega | refine imp_in (fun _ => ?_))
            refine again ((s.length, s.length, na + 1)) ?_ ?_ rfl env_ok
            · dsimp only; omega
            · exact ⟨Nat.le_refl _, Nat.le_refl _, by dsimp only; omega, by dsimp only; rw [piece_nil]; exact hdj, fun h => absurd h (by dsimp only; omega)⟩
      · obtain rfl : i = s.length := by omega
        have hic : (((s.length : Nat) : Int) < ((s.length : Nat) : Int)) = False := eq_false (by omega)
        rw [List.drop_length, fieldsGo] at hd
        by_cases hfl : fs < s.length
        · have hfc : ((fs : Int) < ((s.length : Nat) : Int)) = True := eq_true (by omega)
          rw [if_neg (piece_ne hfl (Nat.le_refl _))] at hd
          obtain ⟨hnl, hgs, hd2⟩ := gF_set hd hna
          have hst : ((gF F na).map AV.str).set na (.str (s.drop fs)) = F.map .str := by
            have hF1 : F.length = na + 1 := by
              have := congrArg List.length hd2
              rw [List.append_nil, List.length_take] at this
              omega
            have e : F.map AV.str = (gF F (na + 1)).map AV.str := by rw [← hF1, gF_all]
            have ep : pieceF s fs s.length = s.drop fs := List.take_of_length_le (by rw [List.length_drop]; omega)
            rw [e, ← hgs, List.map_set, ep]
          repeat' (first | refine unhold ?_ | (simp -dsimp -implicitDefEqProofs (disch := (first | assumption | omega | (simp only [ll1, ll2, ll3, ll4, ll5, ll6, ll7, ll8]; omega))) only [go_sem, hic, hfc, hgl, hst]) | refine vcI (fun _ => ?_) (fun _ => ?_) | (refine vcA ?_ ?_; focus (repeat' (first | omega | assumption | refine vcA ?_ ?_); done)) | omega | refine imp_in (fun _ => ?_))
          exact fields_done F
        · have hfc : ((fs : Int) < ((s.length : Nat) : Int)) = False := eq_false (by omega)
          obtain rfl : fs = s.length := by omega
          rw [piece_nil, if_pos rfl, List.append_nil] at hd
          have hgF : gF F na = F := by
            have := congrArg List.length hd
            rw [List.length_take] at this
            have h2 : na = F.length := by omega
            rw [h2]; exact gF_all F
          rw [hgF]
          repeat' (first | refine unhold ?_ | (simp -dsimp -implicitDefEqProofs (disch := (first | assumption | omega | (simp only [ll1, ll2, ll3, ll4, ll5, ll6, ll7, ll8]; omega))) only [go_sem, hic]) | refine vcI (fun _ => ?_) (fun _ => ?_) | (refine vcA ?_ ?_; focus (repeat' (first | omega | assumption | refine vcA ?_ ?_); done)) | omega | refine imp_in (fun _ => ?_))
          exact fields_done F
end Go.Proofs.YtdahdbnfknmmgaaGreatDoor
end
