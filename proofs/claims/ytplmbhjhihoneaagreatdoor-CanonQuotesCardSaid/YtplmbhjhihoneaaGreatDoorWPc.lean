/- Tokens for slices that stand in objects. -/
import Derived.Test.YtplmbhjhihoneaaGreatDoorW3
import Derived.Test.YtplmbhjhihoneaaGreatDoorWPa
section
set_option linter.unusedSimpArgs false
set_option linter.unusedVariables false
namespace Go.Proofs.YtplmbhjhihoneaaGreatDoor.V
open Go
/-- A slice in an object gets a token of its own: a step of the proof alone. -/
theorem mintC {G : Gh} {H : List AObj} {w : World} (hi : HInv G H w) {k i s z : Nat} {sh : Shape} {cs : List AV} (hk : H[k]? = some (.cells sh cs)) (hci : cs[i]? = some (.sl .full z [])) (hs : 0 < s) :
    ∃ G', HInv G' (H.set k (.cells sh (cs.set i (.sl (.tok H.length) s []))) ++ [.grow s 0 none]) w ∧ Step G H w G' (H.set k (.cells sh (cs.set i (.sl (.tok H.length) s []))) ++ [.grow s 0 none]) w := by
  have hkl := lt_of_get hk
  obtain ⟨arr, T, fr, hb, hsz, hr, hf1, hf2, hsh⟩ := hi.cells k sh cs hk
  have hil := lt_of_get hci
  obtain ⟨v, hv⟩ : ∃ v, arr[i]? = some v := ⟨_, Array.getElem?_eq_getElem (by omega)⟩
  have r := hr i _ v hci hv
  have r0 := r
  cases r with
  | sl _ _ _ ad len cap val hl hcap hs' hc hr' hf ha ho =>
    obtain ⟨hi1, st1, r1⟩ := mint none hi r0 hs (fun h => absurd rfl h) (fun h => absurd rfl h)
    have hk1 : (H ++ [AObj.grow s ([] : List AV).length none])[k]? = some (.cells sh cs) := by rw [List.getElem?_append_left hkl]; exact hk
    have hrel : RelLe (setOwn G H.length ad cap) (H ++ [AObj.grow s ([] : List AV).length none]) w (cs.set i (.sl (.tok H.length) s [])) arr := by
      refine ⟨by rw [List.length_set]; exact hsz, fun j x u e1 e2 => ?_⟩
      rcases get_set e1 with ⟨_, e1'⟩ | ⟨rfl, e1', _⟩
      · exact (hr j x u e1' e2).mono st1
      · subst e1'
        rw [hv] at e2
        cases e2
        exact r1
    have hown : (setOwn G H.length ad cap).own k = G.own k := by simp [setOwn]; intro e; omega
    obtain ⟨hi2, st2⟩ := reshape hi1 hk1 (sh' := sh) (cs' := cs.set i (.sl (.tok H.length) s [])) hb hrel (by rw [List.length_set]; exact shapeOk_own hown hsh)
    have hset : (H ++ [AObj.grow s ([] : List AV).length none]).set k (.cells sh (cs.set i (.sl (.tok H.length) s []))) = H.set k (.cells sh (cs.set i (.sl (.tok H.length) s []))) ++ [.grow s 0 none] := List.set_append_left _ _ hkl
    rw [hset] at hi2 st2
    exact ⟨_, hi2, st1.trans st2⟩
theorem aw_mintC {P : Program} {n : Nat} {c : Code} {Q : Exit → Env → List AObj → Prop} {env : Env} {H : List AObj} (k i s : Nat) {z : Nat} {sh : Shape} {cs : List AV} (hk : H[k]? = some (.cells sh cs)) (hci : cs[i]? = some (.sl .full z [])) (hs : 0 < s)
    (h : AW P n c Q env (H.set k (.cells sh (cs.set i (.sl (.tok H.length) s []))) ++ [.grow s 0 none])) : AW P n c Q env H := by
  intro G a w sat
  obtain ⟨G', hi, st⟩ := mintC sat.inv hk hci hs
  exact wp_mono (h G' a w ⟨sat.size, sat.defers, fun u => (sat.env u).mono st, hi⟩) fun _ _ _ p => p.trans st
theorem leAll_at {xs ys : List AV} (h : LeAll xs ys) {j : Nat} {y : AV} (e : ys[j]? = some y) : ∃ x, xs[j]? = some x ∧ Le x y := h.get.2 j y e
/-- An object's cells, told weaker. -/
theorem leC {G : Gh} {H : List AObj} {w : World} (hi : HInv G H w) {k : Nat} {sh : Shape} {cs cs' : List AV} (hk : H[k]? = some (.cells sh cs)) (hle : LeAll cs cs') : HInv G (H.set k (.cells sh cs')) w ∧ Step G H w G (H.set k (.cells sh cs')) w := by
  obtain ⟨arr, T, fr, hb, hsz, hr, hf1, hf2, hsh⟩ := hi.cells k sh cs hk
  have hl := hle.get.1
  have hrel : RelLe G H w cs' arr := ⟨by omega, fun j x u e1 e2 => by
    obtain ⟨z, hz, hzx⟩ := leAll_at hle e1
    exact hzx _ _ _ _ (hr j z u hz e2)⟩
  exact reshape hi hk (sh' := sh) (cs' := cs') hb hrel (by rw [← hl]; exact hsh)
theorem aw_leC {P : Program} {n : Nat} {c : Code} {Q : Exit → Env → List AObj → Prop} {env : Env} {H : List AObj} (k : Nat) {sh : Shape} {cs cs' : List AV} (hk : H[k]? = some (.cells sh cs)) (hle : LeAll cs cs')
    (h : AW P n c Q env (H.set k (.cells sh cs'))) : AW P n c Q env H := by
  intro G a w sat
  obtain ⟨hi, st⟩ := leC sat.inv hk hle
  exact wp_mono (h G a w ⟨sat.size, sat.defers, fun u => (sat.env u).mono st, hi⟩) fun _ _ _ p => p.trans st
/-- A loop's end, new objects dropped. -/
theorem shift_cut2 {H₀ H' M : List AObj} {env env' : Env} (h : EnvLe env env') (hlen : H₀.length ≤ H'.length) (hl : EnvLow H'.length env') (hobj : ∀ (k : Nat) (sh : Shape) (cs : List AV), H'[k]? = some (.cells sh cs) → H₀[k]? = some (.cells sh cs) ∨ ∀ y ∈ cs, Low H'.length y) : Shift H₀ env (H' ++ M) env' H' := fun G₀ w₀ G w vs h0 hi hs r => by
  have htk : (H' ++ M).take H'.length = H' := List.take_left
  have hc := hi.cut H'.length fun k sh cs hk e y hy => by
    rw [List.getElem?_append_left hk] at e
    rcases hobj k sh cs e with e | e
    · obtain ⟨arr, T, fr, hb', hsz, hr', _⟩ := h0.cells k sh cs e
      obtain ⟨j, hj⟩ := List.mem_iff_getElem?.1 hy
      have hja : j < arr.size := Nat.lt_of_lt_of_le (lt_of_get hj) hsz
      exact ((hr' j y _ hj (Array.getElem?_eq_getElem hja)).low).mono hlen
    · exact e y hy
  have hs' := hs.cut (m := H'.length) hlen
  rw [htk] at hc hs'
  refine ⟨G, hc, hs', fun t => ?_⟩
  have := (h t _ _ _ _ (r t)).cut H'.length (hl t)
  rwa [htk] at this
theorem again_drop {α : Type} {I : α → Prop} {E : α → Env} {Hf : α → List AObj} {m : α → Nat} {x : α} {env : Env} {H : List AObj} (mm : Nat) (M : List AObj) (y : α) (hm : m y < m x) (hI : I y) (hH : H = Hf y ++ M) (h1 : (Hf y).length = mm) (h2 : (Hf x).length ≤ mm) (hL : EnvLow mm (E y))
    (hobj : ∀ (k : Nat) (sh : Shape) (cs : List AV), (Hf y)[k]? = some (.cells sh cs) → (Hf x)[k]? = some (.cells sh cs) ∨ ∀ z ∈ cs, Low mm z) (hE : EnvLe env (E y)) : Again I E Hf m x env H := by
  subst hH
  subst h1
  exact again_shift y hm hI (shift_cut2 hE h2 hL hobj)
theorem obj_app {H L L' : List AObj} {m : Nat} (h : ∀ o ∈ L', ∀ (sh : Shape) (cs : List AV), o = .cells sh cs → ∀ z ∈ cs, Low m z) : ∀ (k : Nat) (sh : Shape) (cs : List AV), (H ++ L')[k]? = some (.cells sh cs) → (H ++ L)[k]? = some (.cells sh cs) ∨ ∀ z ∈ cs, Low m z := fun k sh cs e => by
  by_cases hk : k < H.length
  · rw [List.getElem?_append_left hk] at e
    exact .inl (by rw [List.getElem?_append_left hk]; exact e)
  · rw [List.getElem?_append_right (by omega)] at e
    exact .inr (h _ (List.mem_of_getElem? e) sh cs rfl)
end Go.Proofs.YtplmbhjhihoneaaGreatDoor.V
end

section
set_option linter.unusedSimpArgs false
set_option linter.unusedVariables false
namespace Go.Proofs.YtplmbhjhihoneaaGreatDoor
open Go V
set_option maxRecDepth 10000
set_option maxHeartbeats 4000000
theorem ins_skip {s : bytes} {x : JV} {r : Prs} : ∀ {a : Prs}, (∀ p ∈ a, lessB p.1 s = true) → insP s x (a ++ r) = a ++ insP s x r
  | [], _ => rfl
  | p :: a, h => by
    rw [List.cons_append, insP, if_pos (h p (List.mem_cons_self ..)), ins_skip fun q hq => h q (List.mem_cons_of_mem _ hq)]
    rfl
theorem ins_all {s : bytes} {x : JV} {a : Prs} (h : ∀ p ∈ a, lessB p.1 s = true) : insP s x a = a ++ [(s, x)] := by
  have := ins_skip (r := []) (x := x) h
  rw [List.append_nil] at this
  exact this
theorem prs_len {v : JV} (h : v.names.length = v.items.length) : (prs v).length = v.names.length := by
  unfold prs; rw [List.length_zip]; omega
theorem prs_get {v : JV} (h : v.names.length = v.items.length) {i : Nat} (hi : i < v.names.length) : (prs v)[i]? = some (v.names.getD i [], v.items.getD i zeroJ) := by
  unfold prs
  rw [List.getElem?_zip_eq_some]
  exact ⟨get_getD [] hi, get_getD zeroJ (by omega)⟩
theorem take_put {α : Type} {l : List α} {i : Nat} {a : α} (h : l[i]? = some a) : l.take (i + 1) = l.take i ++ [a] := by
  rw [List.take_add_one, h]
  rfl
theorem drop_put {α : Type} {l : List α} {i : Nat} {a : α} (h : l[i]? = some a) : l.drop i = a :: l.drop (i + 1) := by
  have hi := lt_of_get h
  rw [List.drop_eq_getElem_cons hi]
  rw [List.getElem?_eq_getElem hi] at h
  cases h
  rfl
theorem prs_up {v : JV} {s : bytes} {i : Nat} (h : v.names.length = v.items.length) (hs : srt v.names = true) (hi : i < v.names.length) (c : lessB (v.names.getD i []) s = false) : ∀ p ∈ (prs v).drop (i + 1), lessB s p.1 = true := fun p hp => by
  obtain ⟨m, hm⟩ := List.mem_iff_getElem?.1 hp
  rw [List.getElem?_drop] at hm
  have hl := lt_of_get hm
  rw [prs_len h] at hl
  rw [prs_get h hl] at hm
  cases hm
  have h1 := srt_lt hs (i := i) (j := i + 1 + m) (by omega) (get_getD [] hi) (get_getD [] hl)
  cases h2 : lessB s (v.names.getD i []) with
  | true => exact lessB_trans h2 h1
  | false => rw [lessB_tri h2 c]; exact h1
/-- The state of put's loop: the place, whether it is put, what is made. -/
structure PS where
  i : Nat
  d : Bool
  o : Prs
def pInv (s : bytes) (x : JV) (l : Prs) (y : PS) : Prop := y.i ≤ l.length ∧ y.o.length ≤ y.i + 1 ∧ ((y.d = false ∧ y.o = l.take y.i ∧ ∀ p ∈ l.take y.i, lessB p.1 s = true) ∨ (y.d = true ∧ y.o ++ l.drop y.i = insP s x l ∧ ∀ p ∈ l.drop y.i, lessB s p.1 = true))
abbrev oCells (m m2 : Nat) (o : Prs) : List AV := [.lit (.int .i64 6), .lit (.int .i64 0), .str [], .sl (.tok m) 1 ((o.map (·.1)).map .str), .sl (.tok m2) 5 ((o.map (·.2)).map jAV)]
def oObjs (H : List AObj) (o : Prs) : List AObj := H ++ [.cells (.one 27) zCells, .cells (.one 27) (oCells (H.length + 2) (H.length + 3) o), .grow 1 o.length none, .grow 5 o.length none]
theorem put_r (v : JV) (s : bytes) (x : JV) (H : List AObj) (hv : objOk v) : ACalls Tryz.prog 59 [jAV v, .str s, jAV x] H (fun y H' => y = jAV (ofP objJ (insP s x (prs v))) ∧ H' = H) := by
  obtain ⟨hv1, hv2, hv3⟩ := hv
  have hpl := prs_len hv1
  have hpg := fun i hi => prs_get (v := v) (i := i) hv1 hi
  generalize hq : insP s x (prs v) = q
  refine acalls_vc L_ok mixed [1000011, 1000012] (rs := [.cell 6 27]) (n := 83) Tryz.func59 rfl rfl rfl rfl (Nat.le_of_ble_eq_true rfl) (by kernel_rfl) ?_
  repeat' (first | refine unhold ?_ | (simp -dsimp -implicitDefEqProofs (disch := (first | assumption | omega | (simp only [ll1, ll2, ll3, ll4, ll5, ll6, ll7, ll8]; omega))) only [go_sem]) | refine vcI (fun _ => ?_) (fun _ => ?_) | (refine vcA ?_ ?_; focus (repeat' (first | omega | assumption | refine vcA ?_ ?_); done)) | omega | refine imp_in (fun _ => ?_))
  refine aw_mintC (H.length + 1) 3 1 (by simp; exact ⟨rfl, rfl⟩) rfl (by decide) ?_
  refine aw_mintC (H.length + 1) 4 5 (by simp; exact ⟨rfl, rfl⟩) rfl (by decide) ?_
  refine vc_loopk L_ok mixed [1000011, 1000012] [1, 3, 5, 6, 7] (pInv s x (prs v)) (fun y => [(8, .bool y.d), (9, .int .i64 y.i)]) (fun y => oObjs H y.o) (fun y => v.names.length - y.i) (by kernel_rfl) ?_ ⟨0, false, []⟩ ⟨by simp, by simp, .inl ⟨rfl, rfl, fun p hp => by cases hp⟩⟩ env_ok (by simp [oObjs])
  rintro ⟨i, d, o⟩ ⟨hi, hol, hst⟩
  dsimp only at hi hol hst ⊢
  unfold oObjs
  dsimp only [oCells, zCells]
  by_cases hil : i < v.names.length
  · have hg := hpg i hil
    have t1 := take_put hg
    have t2 := drop_put hg
    have mS : ∀ (a : List bytes) (b : bytes), a.map AV.str ++ [.str b] = (a ++ [b]).map AV.str := fun a b => by simp
    have mJ : ∀ (a : List JV) (b : JV), a.map jAV ++ [jAV b] = (a ++ [b]).map jAV := fun a b => by simp
    rcases hst with ⟨rfl, ho, hless⟩ | ⟨rfl, ho, hgr⟩
    · by_cases c1 : lessB (v.names.getD i []) s = true
      · have c2 : ¬ v.names.getD i [] = s := less_ne c1
        have cb : Op.bytesLess (v.names.getD i []) s = true := c1
        repeat' (first | refine unhold ?_ | (simp -dsimp -implicitDefEqProofs (disch := (first | assumption | omega | (simp only [ll1, ll2, ll3, ll4, ll5, ll6, ll7, ll8]; omega))) only [go_sem, cb, c2, mS, mJ]) | refine vcI (fun _ => ?_) (fun _ => ?_) | (refine vcA ?_ ?_; focus (repeat' (first | omega | assumption | refine vcA ?_ ?_); done)) | omega | refine imp_in (fun _ => ?_))
        refine again (⟨i + 1, false, o ++ [(v.names.getD i [], v.items.getD i zeroJ)]⟩) ?_ ?_ ?_ env_ok
        · dsimp only; omega
        · refine ⟨by dsimp only; omega, by simp; omega, .inl ⟨rfl, ?_, ?_⟩⟩
          · show _ = (prs v).take (i + 1)
            rw [t1, ho]
          · show ∀ p ∈ (prs v).take (i + 1), _
            rw [t1]
            intro p hp
            rcases List.mem_append.1 hp with hp | hp
            · exact hless p hp
            · simp at hp; subst hp; exact c1
        · simp
      · have cb : Op.bytesLess (v.names.getD i []) s = false := by have : ¬ Op.bytesLess (v.names.getD i []) s = true := c1; simpa using this
        have hup := prs_up hv1 hv2 hil (s := s) (by simpa using c1)
        have hoL : o.length ≤ i := by rw [ho, List.length_take]; omega
        have hq2 : insP s x (prs v) = o ++ insP s x ((prs v).drop i) := by rw [ho, ← ins_skip hless, List.take_append_drop]
        by_cases c2 : v.names.getD i [] = s
        · have cb2 : Op.bytesLess s s = false := lessB_irrefl s
          have h1 : (o ++ [(s, x)]) ++ (prs v).drop (i + 1) = q := by rw [← hq, hq2, t2, insP, if_neg (by simpa using c1), if_pos c2]; simp
          repeat' (first | refine unhold ?_ | (simp -dsimp -implicitDefEqProofs (disch := (first | assumption | omega | (simp only [ll1, ll2, ll3, ll4, ll5, ll6, ll7, ll8]; omega))) only [go_sem, cb2, c2, mS, mJ]) | refine vcI (fun _ => ?_) (fun _ => ?_) | (refine vcA ?_ ?_; focus (repeat' (first | omega | assumption | refine vcA ?_ ?_); done)) | omega | refine imp_in (fun _ => ?_))
          refine again (⟨i + 1, true, o ++ [(s, x)]⟩) ?_ ?_ ?_ env_ok
          · dsimp only; omega
          · exact ⟨by dsimp only; omega, by simp; omega, .inr ⟨rfl, by rw [hq]; exact h1, hup⟩⟩
          · simp
        · have h1 : (o ++ [(s, x), (v.names.getD i [], v.items.getD i zeroJ)]) ++ (prs v).drop (i + 1) = q := by rw [← hq, hq2, t2, insP, if_neg (by simpa using c1), if_neg c2]; simp
          repeat' (first | refine unhold ?_ | (simp -dsimp -implicitDefEqProofs (disch := (first | assumption | omega | (simp only [ll1, ll2, ll3, ll4, ll5, ll6, ll7, ll8]; omega))) only [go_sem, cb, c2, mS, mJ]) | refine vcI (fun _ => ?_) (fun _ => ?_) | (refine vcA ?_ ?_; focus (repeat' (first | omega | assumption | refine vcA ?_ ?_); done)) | omega | refine imp_in (fun _ => ?_))
          refine again (⟨i + 1, true, o ++ [(s, x), (v.names.getD i [], v.items.getD i zeroJ)]⟩) ?_ ?_ ?_ env_ok
          · dsimp only; omega
          · exact ⟨by dsimp only; omega, by simp; omega, .inr ⟨rfl, by rw [hq]; exact h1, hup⟩⟩
          · simp
    · have hn : ¬ v.names.getD i [] = s := by
        have := hgr (v.names.getD i [], v.items.getD i zeroJ) (by rw [t2]; exact List.mem_cons_self ..)
        exact fun e => less_ne this e.symm
      rw [t2] at ho hgr
      repeat' (first | refine unhold ?_ | (simp -dsimp -implicitDefEqProofs (disch := (first | assumption | omega | (simp only [ll1, ll2, ll3, ll4, ll5, ll6, ll7, ll8]; omega))) only [go_sem, hn, mS, mJ]) | refine vcI (fun _ => ?_) (fun _ => ?_) | (refine vcA ?_ ?_; focus (repeat' (first | omega | assumption | refine vcA ?_ ?_); done)) | omega | refine imp_in (fun _ => ?_))
      refine again (⟨i + 1, true, o ++ [(v.names.getD i [], v.items.getD i zeroJ)]⟩) ?_ ?_ ?_ env_ok
      · dsimp only; omega
      · exact ⟨by dsimp only; omega, by simp; omega, .inr ⟨rfl, by rw [← ho]; simp, fun p hp => hgr p (List.mem_cons_of_mem _ hp)⟩⟩
      · simp
  · obtain rfl : i = v.names.length := by omega
    rcases hst with ⟨rfl, ho, hless⟩ | ⟨rfl, ho, hgr⟩
    · rw [← hpl, List.take_length] at ho hless
      have hqo : q = o ++ [(s, x)] := by rw [← hq, ho, ins_all hless]
      rw [hqo]
      repeat' (first | refine unhold ?_ | (simp -dsimp -implicitDefEqProofs (disch := (first | assumption | omega | (simp only [ll1, ll2, ll3, ll4, ll5, ll6, ll7, ll8]; omega))) only [go_sem]) | refine vcI (fun _ => ?_) (fun _ => ?_) | (refine vcA ?_ ?_; focus (repeat' (first | omega | assumption | refine vcA ?_ ?_); done)) | omega | refine imp_in (fun _ => ?_))
      exact done_weak (le_j (ns := (o ++ [(s, x)]).map (·.1)) (is := (o ++ [(s, x)]).map (·.2)) (by rw [List.map_append, List.map_append]; exact le_sh) (by rw [List.map_append, List.map_append]; exact le_sh)) (done_cut (jAV (ofP objJ (o ++ [(s, x)]))) (Le.refl _) (low_jAV _) ⟨rfl, rfl⟩)
    · rw [← hpl, List.drop_length, List.append_nil, hq] at ho
      rw [← ho]
      repeat' (first | refine unhold ?_ | (simp -dsimp -implicitDefEqProofs (disch := (first | assumption | omega | (simp only [ll1, ll2, ll3, ll4, ll5, ll6, ll7, ll8]; omega))) only [go_sem]) | refine vcI (fun _ => ?_) (fun _ => ?_) | (refine vcA ?_ ?_; focus (repeat' (first | omega | assumption | refine vcA ?_ ?_); done)) | omega | refine imp_in (fun _ => ?_))
      exact done_weak (le_j le_sh le_sh) (done_cut (jAV (ofP objJ o)) (Le.refl _) (low_jAV _) ⟨rfl, rfl⟩)
end Go.Proofs.YtplmbhjhihoneaaGreatDoor
end
