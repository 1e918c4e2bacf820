/- An object that is written no more; a row whose capacity is told. -/
import Derived.Test.YtdahdbnfknmmgaaGreatDoorW3
import Derived.Laws.Externs
import Derived.Lib.Overlaps
import Derived.Lib.ValidLaws
import Derived.Lib.MapLaws
import Derived.Lib.ValidAsc
import Derived.Lib.EndianMore
import Derived.Sort.Walk0
section
set_option linter.unusedSimpArgs false
set_option linter.unusedVariables false
namespace Go.Proofs.YtdahdbnfknmmgaaGreatDoor.V
open Go

/-- Values in which the object k is written no more. -/
inductive Frz1 (H : List AObj) (k : Nat) : AV → AV → Prop
  | keep (x : AV) : Frz1 H k x x
  | any (x : AV) : Frz1 H k x .any
  | row (len s : Nat) (sh : Shape) (cs xs : List AV) (ho : H[k]? = some (.cells sh cs)) (hx : xs.length = len) (hs : ∀ x ∈ xs, x.flat.length = s ∧ x.okv = true) (hl : (flats xs).length ≤ cs.length)
      (h : ∀ (j : Nat) c y, cs[j]? = some c → (flats xs)[j]? = some y → Frz1 H k c y) : Frz1 H k (.mrow k len) (.sl .sh s xs)
  | msl (off len cap s : Nat) (sh : Shape) (cs xs : List AV) (ho : H[k]? = some (.cells sh cs)) (hx : xs.length = len) (hs : ∀ x ∈ xs, x.flat.length = s ∧ x.okv = true) (hl : off + (flats xs).length ≤ cs.length)
      (h : ∀ (j : Nat) c y, cs[off + j]? = some c → (flats xs)[j]? = some y → Frz1 H k c y) : Frz1 H k (.msl k off len cap) (.sl .sh s xs)
  | mp (off : Nat) (sh : Shape) (cs : List AV) (x : AV) (ho : H[k]? = some (.cells sh cs)) (hl : off + x.flat.length ≤ cs.length)
      (h : ∀ (j : Nat) c y, cs[off + j]? = some c → x.flat[j]? = some y → Frz1 H k c y) : Frz1 H k (.mp k off) (.ip x)
  | agg (cs ds : List AV) (hl : ds.length = cs.length) (h : ∀ (j : Nat) c d, cs[j]? = some c → ds[j]? = some d → Frz1 H k c d) : Frz1 H k (.agg cs) (.agg ds)
  | tup (cs ds : List AV) (hl : ds.length = cs.length) (h : ∀ (j : Nat) c d, cs[j]? = some c → ds[j]? = some d → Frz1 H k c d) : Frz1 H k (.tup cs) (.tup ds)
  | ifc (t : TypeId) (x y : AV) (h : Frz1 H k x y) : Frz1 H k (.ifc t x) (.ifc t y)
def fr1G (G : Gh) (k : Nat) : Gh := { G with imm := fun b off => G.imm b off ∨ b = G.blk k }
theorem fr1_inv {G : Gh} {H : List AObj} {w : World} (hi : HInv G H w) {k : Nat} {sh : Shape} {cs : List AV} (hk : H[k]? = some (.cells sh cs)) : HInv (fr1G G k) (H.set k .gone) w ∧ Step G H w (fr1G G k) (H.set k .gone) w := by
  obtain ⟨hi1, st1⟩ := retire hi hk
  have st2 : Step G (H.set k .gone) w (fr1G G k) (H.set k .gone) w := ⟨rfl, rfl, rfl, Nat.le_refl _, fun _ _ h => .inl h, fun _ _ _ => rfl, fun _ _ => rfl, fun i => by
    cases e : (H.set k AObj.gone)[i]? with
    | none => exact nl_none e
    | some o =>
      cases o with
      | cells t c => exact ⟨⟨_, e, rfl⟩, rfl, rfl⟩
      | gone => exact ⟨e, rfl, rfl⟩
      | loop r E => exact ⟨e, rfl, rfl⟩
      | grow s n t => exact ⟨n, e, Nat.le_refl _, fun _ => rfl⟩⟩
  have hsk : site G H k = some (G.blk k) := shape_of hi hk
  refine ⟨⟨fun b off h => ?_, fun i sh1 c ei => ?_, fun i s n t ei => ?_, hi1.apart, hi1.tabs.step st2⟩, st1.trans st2⟩
  · rcases h with h | h
    · exact hi.lt b off h
    · have h : b = G.blk k := h
      rw [h]
      exact hi.site_lt hsk
  · obtain ⟨arr, T, fr, hb, hs, hr, hf1, hf2⟩ := hi1.cells i sh1 c ei
    refine ⟨arr, T, fr, hb, hs, fun j x v ex ev => (hr j x v ex ev).mono st2, fun off h => ?_, hf2⟩
    rcases h with h | h
    · exact hf1 off h
    · have h : G.blk i = G.blk k := h
      rcases get_set ei with ⟨hik, ei'⟩ | ⟨_, ei', _⟩
      · exact hik (hi.apart i k (G.blk k) (by simp [site, ei', h]) hsk)
      · cases ei'
  · rcases get_set ei with ⟨hik, ei'⟩ | ⟨_, ei', _⟩
    · obtain ⟨h0, h1, h2, h3⟩ := hi1.grow i s n t ei
      have hne : ∀ b off, (G.own i).1 = some ⟨b, off, none⟩ → (n < (G.own i).2 ∨ t.isSome = true ∧ 0 < (G.own i).2) → b ≠ G.blk k := fun b off ea hc e => by
        refine hik (hi.apart i k (G.blk k) ?_ hsk)
        unfold site
        rw [ei', show G.own i = (some ⟨b, off, none⟩, (G.own i).2) by rw [← ea]]
        simp only
        rw [if_pos hc, e]
      refine ⟨h0, h1, fun hn => ?_, typedOk_keep h3 rfl (Nat.le_refl _) (fun b arr e fr hb => ⟨arr, hb, rfl⟩) fun b off arr e fr hb ea hc ht hx _ => ?_⟩
      · obtain ⟨b, off, arr, T, fr, ea, hb, hsz, hj⟩ := h2 hn
        refine ⟨b, off, arr, T, fr, ea, hb, hsz, fun j h4 h5 => ⟨?_, (hj j h4 h5).2⟩⟩
        rintro (h | h)
        · exact (hj j h4 h5).1 h
        · exact hne b off ea (.inl hn) h
      · rcases hx with hx | hx
        · exact hx
        · exact absurd hx (hne b 0 ea (.inr ⟨ht, hc⟩))
    · cases ei'
theorem fr1_rel {G : Gh} {H : List AObj} {w : World} (hi : HInv G H w) {k : Nat} {sh : Shape} {cs : List AV} (hk : H[k]? = some (.cells sh cs)) {x y : AV} (f : Frz1 H k x y) : ∀ v, Rel G H w x v → Rel (fr1G G k) (H.set k .gone) w y v := by
  obtain ⟨_, st⟩ := fr1_inv hi hk
  have cell : ∀ sh cs, H[k]? = some (.cells sh cs) → ∃ arr : Array Value, cs.length ≤ arr.size ∧ (∀ (j : Nat) x v, cs[j]? = some x → arr[j]? = some v → Rel G H w x v) ∧ ∀ j, (fr1G G k).imm (G.blk k) j ∧ w.cell? ⟨G.blk k, j, none⟩ = arr[j]? := fun sh cs ho => by
    obtain ⟨arr, T, fr, hb, hsz, hr, _⟩ := hi.cells k sh cs ho
    exact ⟨arr, hsz, hr, fun j => ⟨.inr rfl, cell_row hb⟩⟩
  induction f with
  | keep x => intro v r; exact r.mono st
  | any x => intro v r; exact .any v
  | row len s sh cs xs ho hx hs hl h ih =>
    intro v r
    obtain ⟨arr, hsz, hr, hc⟩ := cell _ cs ho
    cases r with
    | mrow _ _ o h1 h2 hcap =>
      refine .sl .sh s xs _ _ _ (fun j => (arr[j]?).getD undef) hx.symm hcap hs (fun j y e => ?_) (fun j y e => ?_) (fun e => by cases e) (fun _ => rfl) (fun k e => by cases e)
      · have hj := lt_of_get e
        have ha : arr[j]? = some (arr[j]'(by omega)) := Array.getElem?_eq_getElem _
        refine ⟨G.blk k, 0, rfl, ?_, ?_⟩
        · rw [Nat.zero_add]; exact (hc j).1
        · rw [Nat.zero_add, (hc j).2, ha]; rfl
      · have hj := lt_of_get e
        have ha : arr[j]? = some (arr[j]'(by omega)) := Array.getElem?_eq_getElem _
        have hcj : cs[j]? = some (cs[j]'(by omega)) := List.getElem?_eq_getElem _
        have := ih j _ y hcj e _ (hr j _ _ hcj ha)
        rw [ha]
        exact this
  | msl off len cap s sh cs xs ho hx hs hl h ih =>
    intro v r
    obtain ⟨arr, hsz, hr, hc⟩ := cell _ cs ho
    cases r with
    | msl _ _ _ _ o h1 h2 hcap =>
      refine .sl .sh s xs _ _ _ (fun j => (arr[off + j]?).getD undef) hx.symm hcap hs (fun j y e => ?_) (fun j y e => ?_) (fun e => by cases e) (fun _ => rfl) (fun k e => by cases e)
      · have hj := lt_of_get e
        have ha : arr[off + j]? = some (arr[off + j]'(by omega)) := Array.getElem?_eq_getElem _
        refine ⟨G.blk k, off, rfl, (hc _).1, ?_⟩
        rw [(hc _).2, ha]; rfl
      · have hj := lt_of_get e
        have ha : arr[off + j]? = some (arr[off + j]'(by omega)) := Array.getElem?_eq_getElem _
        have hcj : cs[off + j]? = some (cs[off + j]'(by omega)) := List.getElem?_eq_getElem _
        have := ih j _ y hcj e _ (hr _ _ _ hcj ha)
        rw [ha]
        exact this
  | mp off sh cs x ho hl h ih =>
    intro v r
    obtain ⟨arr, hsz, hr, hc⟩ := cell _ cs ho
    cases r with
    | mp _ _ o h1 h2 =>
      refine .ip x _ _ (fun j => (arr[off + j]?).getD undef) (fun j y e => ?_) (fun j y e => ?_)
      · have hj := lt_of_get e
        have ha : arr[off + j]? = some (arr[off + j]'(by omega)) := Array.getElem?_eq_getElem _
        refine ⟨(hc _).1, ?_⟩
        rw [(hc _).2, ha]; rfl
      · have hj := lt_of_get e
        have ha : arr[off + j]? = some (arr[off + j]'(by omega)) := Array.getElem?_eq_getElem _
        have hcj : cs[off + j]? = some (cs[off + j]'(by omega)) := List.getElem?_eq_getElem _
        have := ih j _ y hcj e _ (hr _ _ _ hcj ha)
        rw [ha]
        exact this
  | agg cs ds hl h ih =>
    intro v r
    cases r with
    | agg _ arr ha hr =>
      refine .agg ds arr (ha.trans hl.symm) fun j y u e e' => ?_
      have hj := lt_of_get e
      have hcj : cs[j]? = some (cs[j]'(by omega)) := List.getElem?_eq_getElem _
      exact ih j _ y hcj e _ (hr j _ u hcj e')
  | tup cs ds hl h ih =>
    intro v r
    cases r with
    | tup _ arr ha hr =>
      refine .tup ds arr (ha.trans hl.symm) fun j y u e e' => ?_
      have hj := lt_of_get e
      have hcj : cs[j]? = some (cs[j]'(by omega)) := List.getElem?_eq_getElem _
      exact ih j _ y hcj e _ (hr j _ u hcj e')
  | ifc t x y h ih =>
    intro v r
    cases r with
    | ifc _ _ u hr => exact .ifc t y u (ih u hr)
theorem ends_fr1 {H₀ H : List AObj} {x x' y : AV} {k : Nat} {sh : Shape} {cs : List AV} (hle : Le x x') (hk : H[k]? = some (.cells sh cs)) (f : Frz1 H k x' y) : Ends H₀ x H y (H.set k .gone) := fun G₀ w₀ G w v h0 hi hs r => by
  obtain ⟨hi', st⟩ := fr1_inv hi hk
  exact ⟨_, hi', hs.trans st, fr1_rel hi hk f v (hle _ _ _ _ r)⟩
/-- An object's cells, told anew. -/
theorem reshape {G : Gh} {H : List AObj} {w : World} (hi : HInv G H w) {k : Nat} {sh : Shape} {cs : List AV} (hk : H[k]? = some (.cells sh cs)) {cs' : List AV} {sh' : Shape} {arr : Array Value} {T : TypeId} {fr : Nat × Nat}
    (hb : w.heap[G.blk k]? = some (.cells arr T fr)) (hr : RelLe G H w cs' arr) (hsh : shapeOk G k sh' cs'.length T arr.size fr) :
    HInv G (H.set k (.cells sh' cs')) w ∧ Step G H w G (H.set k (.cells sh' cs')) w := by
  have hkl := lt_of_get hk
  obtain ⟨arr0, T0, fr0, hb0, hs0, hr0, hf1, hf2, _⟩ := hi.cells k sh cs hk
  rw [hb] at hb0
  cases hb0
  have st : Step G H w G (H.set k (.cells sh' cs')) w := by
    refine ⟨rfl, rfl, rfl, Nat.le_refl _, fun _ _ h => h, fun _ _ _ => rfl, fun _ _ => rfl, fun i => ?_⟩
    cases ei : H[i]? with
    | none => exact nl_set ei
    | some o =>
      by_cases hik : i = k
      · subst hik
        rw [hk] at ei
        cases ei
        exact ⟨⟨_, by simp [hkl]; rfl, rfl⟩, rfl, rfl⟩
      · have ea : (H.set k (.cells sh' cs'))[i]? = some o := by rw [List.getElem?_set_ne (fun h => hik h.symm)]; exact ei
        cases o with
        | cells t c => exact ⟨⟨_, ea, rfl⟩, rfl, rfl⟩
        | gone => exact ⟨ea, rfl, rfl⟩
        | loop r E => exact ⟨ea, rfl, rfl⟩
        | grow s n t => exact ⟨n, ea, Nat.le_refl _, fun _ => rfl⟩
  refine ⟨⟨hi.lt, fun i sh1 c ei => ?_, fun i s n t ei => ?_, fun i j b e1 e2 => ?_, hi.tabs.step st⟩, st⟩
  · rcases get_set ei with ⟨hik, ei'⟩ | ⟨rfl, ei', _⟩
    · obtain ⟨arr1, T1, fr1, hb1, hs1, hr1, hg⟩ := hi.cells i sh1 c ei'
      exact ⟨arr1, T1, fr1, hb1, hs1, fun j x v ex ev => (hr1 j x v ex ev).mono st, hg⟩
    · cases ei'
      exact ⟨arr, T, fr, hb, hr.1, fun j x v ex ev => (hr.2 j x v ex ev).mono st, hf1, hf2, hsh⟩
  · rcases get_set ei with ⟨hik, ei'⟩ | ⟨_, ei', _⟩
    · exact hi.grow i s n t ei'
    · cases ei'
  · have hs : ∀ i b, site G (H.set k (.cells sh' cs')) i = some b → site G H i = some b := fun i b e => by
      unfold site at e ⊢
      cases ei : (H.set k (AObj.cells sh' cs'))[i]? with
      | none => rw [ei] at e; cases e
      | some o =>
        rw [ei] at e
        rcases get_set ei with ⟨_, ei'⟩ | ⟨rfl, ei', _⟩
        · rw [ei']; exact e
        · subst ei'; rw [hk]; exact e
    exact hi.apart i j b (hs i b e1) (hs j b e2)
/-- A row, with its capacity told. -/
theorem open_row {G : Gh} {H : List AObj} {w : World} (hi : HInv G H w) {k n s : Nat} {cs : List AV} (hk : H[k]? = some (.cells (.prow s) cs)) (hl : cs.length = n * s) {v : Value} (r : Rel G H w (.mrow k n) v) :
    ∃ T cap, n ≤ cap ∧ HInv G (H.set k (.cells (.one T) (cs ++ List.replicate ((cap - n) * s) .any))) w ∧ Step G H w G (H.set k (.cells (.one T) (cs ++ List.replicate ((cap - n) * s) .any))) w ∧ Rel G (H.set k (.cells (.one T) (cs ++ List.replicate ((cap - n) * s) .any))) w (.msl k 0 n cap) v := by
  have hkl := lt_of_get hk
  obtain ⟨arr, T, fr, hb, hsz, hr, hf1, hf2, hf3⟩ := hi.cells k _ cs hk
  have hasz : arr.size = (G.own k).2 * s := hf3.2.1
  cases r with
  | mrow _ _ o0 hk0 hb0 hcap =>
  have hsz' : (cs ++ List.replicate (((G.own k).2 - n) * s) AV.any).length = arr.size := by
    rw [List.length_append, List.length_replicate, hl, hasz, ← Nat.add_mul]
    congr 1
    omega
  have hrel : RelLe G H w (cs ++ List.replicate (((G.own k).2 - n) * s) .any) arr := by
    refine ⟨Nat.le_of_eq hsz', fun j x v e1 e2 => ?_⟩
    by_cases hj : j < cs.length
    · rw [List.getElem?_append_left hj] at e1
      exact hr j x v e1 e2
    · rw [List.getElem?_append_right (by omega), List.getElem?_replicate] at e1
      split at e1
      · cases e1; exact .any _
      · cases e1
  obtain ⟨hi', st⟩ := reshape hi hk hb hrel (sh' := .one T) ⟨rfl, hsz'.symm, hf3.2.2⟩
  exact ⟨T, (G.own k).2, hcap, hi', st, .msl k 0 n _ _ (by simp [hkl]; rfl) rfl hcap⟩
theorem acalls_open {P : Program} {f : FuncId} {xs1 bs : List AV} {H : List AObj} {R : AV → List AObj → Prop} {k n s : Nat} {cs : List AV} (hk : H[k]? = some (.cells (.prow s) cs)) (hl : cs.length = n * s)
    (h : ∀ T cap, n ≤ cap → ACalls P f (xs1 ++ .msl k 0 n cap :: bs) (H.set k (.cells (.one T) (cs ++ List.replicate ((cap - n) * s) .any))) R) : ACalls P f (xs1 ++ .mrow k n :: bs) H R := fun G w vs hi ha => by
  obtain ⟨v, hv⟩ : ∃ v, vs[xs1.length]? = some v := ⟨_, Array.getElem?_eq_getElem (by rw [ha.1]; simp)⟩
  obtain ⟨T, cap, hc, hi', st, r⟩ := open_row hi hk hl (ha.2 xs1.length _ v (by simp) hv)
  refine (h T cap hc G w vs hi' ⟨by rw [ha.1]; simp, fun j y u ey ev => ?_⟩).mono ?_
  · rcases Nat.lt_trichotomy j xs1.length with hj | rfl | hj
    · rw [List.getElem?_append_left hj] at ey
      exact (ha.2 j y u (by rw [List.getElem?_append_left hj]; exact ey) ev).mono st
    · rw [List.getElem?_append_right (Nat.le_refl _), Nat.sub_self] at ey
      simp at ey
      subst ey
      rw [hv] at ev
      cases ev
      exact r
    · obtain ⟨i, rfl⟩ : ∃ i, j = xs1.length + (i + 1) := ⟨j - xs1.length - 1, by omega⟩
      rw [List.getElem?_append_right (by omega), Nat.add_sub_cancel_left, List.getElem?_cons_succ] at ey
      exact (ha.2 _ y u (by rw [List.getElem?_append_right (by omega), Nat.add_sub_cancel_left, List.getElem?_cons_succ]; exact ey) ev).mono st
  · rintro v w' ⟨x, G', H', h1, h2, h3, h4⟩
    exact ⟨x, G', H', h1, st.trans h2, h3, h4⟩
/-- The end of a function that leaves an object which is written no more. -/
theorem done_fr1 {H₀ H H' : List AObj} {R : AV → List AObj → Prop} {x y : AV} {k : Nat} {sh : Shape} {cs : List AV} (hk : H[k]? = some (.cells sh cs)) (f : Frz1 H k x y) (hr : Done H₀ R y (H.set k .gone)) : Done H₀ R x H := by
  unfold Done at hr ⊢
  obtain ⟨z, H'', he, hR⟩ := hr
  exact ⟨z, H'', ends_trans (ends_fr1 (Le.refl x) hk f) he, hR⟩
end Go.Proofs.YtdahdbnfknmmgaaGreatDoor.V
end

section
set_option linter.unusedSimpArgs false
set_option linter.unusedVariables false
namespace Go.Proofs.YtdahdbnfknmmgaaGreatDoor.V
open Go
section
variable {H M : List AObj} {o : AObj} {n k i : Nat}
theorem hg0 (h : n = H.length) : (H ++ M)[n]? = M[0]? := by subst h; exact h_at0
theorem hg1 (h : n = H.length + 1) : (H ++ M)[n]? = M[1]? := by subst h; exact h_atk
theorem hg2 (h : n = H.length + 2) : (H ++ M)[n]? = M[2]? := by subst h; exact h_atk
theorem hs0 (h : n = H.length) : (H ++ M).set n o = H ++ M.set 0 o := by subst h; exact h_set0
theorem hs1 (h : n = H.length + 1) : (H ++ M).set n o = H ++ M.set 1 o := by subst h; exact h_setk
theorem hs2 (h : n = H.length + 2) : (H ++ M).set n o = H ++ M.set 2 o := by subst h; exact h_setk
theorem hss (h : k < H.length) : (H.set k o)[k]? = some o := by simp [h]
theorem hsn (h : k ≠ i) : (H.set k o)[i]? = H[i]? := List.getElem?_set_ne h
theorem set_same (h : H[k]? = some o) : H.set k o = H := by
  refine List.ext_getElem? fun i => ?_
  rw [List.getElem?_set]
  split
  · rename_i e; subst e; split
    · exact h.symm
    · rename_i hl; rw [List.getElem?_eq_none (by omega)]
  · rfl
end
attribute [go_sem] List.set_set hss List.length_set
/-- A function that the model knows by itself. -/
theorem acalls_extern {P : Program} {f : FuncId} {fn : Func} {e : Array Value → Sem Value} {args : List AV} {H : List AObj} {R : AV → List AObj → Prop} (hf : P.funcs[f]? = some fn) (hname : (fn.name == "runtime.NumGoroutine") = false) (hb : fn.body.isNone = true) (hn : Extern.findNext fn = none) (he : Extern.find fn = some e)
    (h : ∀ G w vs, HInv G H w → RelAll G H w args vs → ∃ v w' x G' H', (e vs).run P w = .ok v w' ∧ HInv G' H' w' ∧ Step G H w G' H' w' ∧ Rel G' H' w' x v ∧ R x H') : ACalls P f args H R := fun G w vs hi ha => by
  obtain ⟨v, w', x, G', H', hr, h1, h2, h3, h4⟩ := h G w vs hi ha
  refine .inr ⟨v, w', ?_, x, G', H', h1, h2, h3, h4⟩
  rw [run_callFunc_extern hf hname hb hn he, hr]
  rfl
theorem relAll_1 {G : Gh} {H : List AObj} {w : World} {x : AV} {vs : Array Value} (h : RelAll G H w [x] vs) : ∃ v, vs = #[v] ∧ Rel G H w x v := by
  obtain ⟨hs, hr⟩ := h
  obtain ⟨l⟩ := vs
  match l, hs with
  | [v], _ => exact ⟨v, rfl, hr 0 x v rfl rfl⟩
theorem relAll_2 {G : Gh} {H : List AObj} {w : World} {x y : AV} {vs : Array Value} (h : RelAll G H w [x, y] vs) : ∃ v u, vs = #[v, u] ∧ Rel G H w x v ∧ Rel G H w y u := by
  obtain ⟨hs, hr⟩ := h
  obtain ⟨l⟩ := vs
  match l, hs with
  | [v, u], _ => exact ⟨v, u, rfl, hr 0 x v rfl rfl, hr 1 y u rfl rfl⟩
theorem NoEscape_c (x : AV) (H : List AObj) : ACalls Tryz.prog 102 [x] H (fun y H' => y = x ∧ H' = H) :=
  acalls_extern (e := Extern.AbiNoEscape.same) Tryz.func102 (by kernel_rfl) (by kernel_rfl) (by kernel_rfl) (by kernel_rfl) fun G w vs hi ha => by
    obtain ⟨v, rfl, hv⟩ := relAll_1 ha
    exact ⟨v, w, x, G, H, Lib.run_noEscape w v, hi, .refl _ _ _, hv, rfl, rfl⟩
def idxB (l : List UInt8) (c : UInt8) : Int := if l.idxOf c < l.length then (l.idxOf c : Nat) else -1
theorem firstIdx_eq (l : List UInt8) (c : UInt8) : firstIdx ⟨l.toArray⟩ c = idxB l c := by
  have hsz : (ByteArray.mk l.toArray).size = l.length := by simp [ByteArray.size]
  have hget : ∀ i, i < l.length → (ByteArray.mk l.toArray)[i]! = l.getD i 0 := fun i hi => by
    rw [getElem!_pos (ByteArray.mk l.toArray) i (by rw [hsz]; exact hi)]
    simp [List.getD, hi]
    rfl
  unfold firstIdx idxB
  rw [hsz]
  by_cases h : l.idxOf c < l.length
  · rw [if_pos h]
    have : (List.range l.length).find? (fun i => (ByteArray.mk l.toArray)[i]! == c) = some (l.idxOf c) := by
      rw [List.find?_eq_some_iff_getElem]
      refine ⟨?_, l.idxOf c, by simpa using h, by simp, fun j hj => ?_⟩
      · rw [hget _ h, List.getD, List.getElem?_eq_getElem h]
        simp [List.getElem_idxOf h]
      · rw [List.getElem_range, hget j (by omega), List.getD, List.getElem?_eq_getElem (by omega)]
        have := List.not_of_lt_findIdx (xs := l) (p := (· == c)) hj
        simpa using this
    rw [this]
  · rw [if_neg h]
    have hn : c ∉ l := fun hc => h (List.idxOf_lt_length_of_mem hc)
    have : (List.range l.length).find? (fun i => (ByteArray.mk l.toArray)[i]! == c) = none := by
      rw [List.find?_eq_none]
      intro i hi
      rw [List.mem_range] at hi
      rw [hget i hi, List.getD, List.getElem?_eq_getElem hi]
      simp only [Option.getD_some, beq_iff_eq]
      intro e
      exact hn (e ▸ List.getElem_mem hi)
    rw [this]
theorem IndexByteString_c (l : List UInt8) (c : UInt8) (H : List AObj) : ACalls Tryz.prog 103 [.str l, byteAV c] H (fun y H' => y = .int .i64 (idxB l c) ∧ H' = H) :=
  acalls_extern (e := Extern.BytealgIndexByte.indexByte) Tryz.func103 (by kernel_rfl) (by kernel_rfl) (by kernel_rfl) (by kernel_rfl) fun G w vs hi ha => by
    obtain ⟨v, u, rfl, hv, hu⟩ := relAll_2 ha
    rw [rel_str_inv hv, rel_lit_inv hu]
    refine ⟨_, w, _, G, H, run_indexByte_string _ _ w, hi, .refl _ _ _, .lit _, ?_, rfl⟩
    have : ((c.toNat : Int).toNat).toUInt8 = c := by simp
    rw [this, firstIdx_eq]
end Go.Proofs.YtdahdbnfknmmgaaGreatDoor.V
end

section
set_option linter.unusedSimpArgs false
set_option linter.unusedVariables false
namespace Go.Proofs.YtdahdbnfknmmgaaGreatDoor
open Go V
set_option maxRecDepth 10000
theorem take_snoc {l : List UInt8} {i : Nat} (h : i < l.length) : l.take (i + 1) = l.take i ++ [l.getD i 0] := by
  rw [List.take_add_one]
  simp [List.getD, List.getElem?_eq_getElem h]
end Go.Proofs.YtdahdbnfknmmgaaGreatDoor
end

section
set_option linter.unusedSimpArgs false
set_option linter.unusedVariables false
namespace Go.Proofs.YtdahdbnfknmmgaaGreatDoor
open Go V
set_option maxRecDepth 10000
set_option maxHeartbeats 4000000
def isRune (r : Int) : Bool := decide (0 ≤ r ∧ r ≤ 1114111 ∧ (r < 55296 ∨ 57343 < r))
def byteOf (i : Int) : UInt8 := UInt8.ofNat i.toNat
theorem byteOf_nat {i : Int} (h : 0 ≤ i ∧ i < 256) : ((byteOf i).toNat : Int) = i := by
  unfold byteOf
  have : (UInt8.ofNat i.toNat).toNat = i.toNat := by simp; omega
  omega
theorem lit_byte {a b : Int} (h : 0 ≤ b ∧ b < 256) (e : a = b) : AV.lit (.int .u8 a) = byteAV (byteOf b) := by
  subst e
  unfold byteAV
  rw [byteOf_nat h]
def enc1 (r : Int) : List UInt8 :=
  if r < 128 then [byteOf r]
  else if r < 2048 then [byteOf (192 + r / 64), byteOf (128 + r % 64)]
  else if r < 65536 then [byteOf (224 + r / 4096), byteOf (128 + r / 64 % 64), byteOf (128 + r % 64)]
  else [byteOf (240 + r / 262144), byteOf (128 + r / 4096 % 64), byteOf (128 + r / 64 % 64), byteOf (128 + r % 64)]
theorem enc1_len (r : Int) : (enc1 r).length ≤ 4 := by
  unfold enc1
  repeat' split
  all_goals simp
theorem list1 {a a' : AV} (h : a = a') : [a] = [a'] := by rw [h]
theorem list2 {a a' b b' : AV} (h : a = a') (h2 : b = b') : [a, b] = [a', b'] := by rw [h, h2]
theorem list3 {a a' b b' c c' : AV} (h : a = a') (h2 : b = b') (h3 : c = c') : [a, b, c] = [a', b', c'] := by rw [h, h2, h3]
theorem list4 {a a' b b' c c' d d' : AV} (h : a = a') (h2 : b = b') (h3 : c = c') (h4 : d = d') : [a, b, c, d] = [a', b', c', d'] := by rw [h, h2, h3, h4]
theorem one_c1 {r : Int} (h1 : r < 128) : enc1 r = [byteOf r] := if_pos h1
theorem one_c2 {r : Int} (h1 : 128 ≤ r) (h2 : r < 2048) : enc1 r = [byteOf (192 + r / 64), byteOf (128 + r % 64)] := by rw [enc1, if_neg (by omega), if_pos h2]
theorem one_c3 {r : Int} (h1 : 2048 ≤ r) (h2 : r < 65536) : enc1 r = [byteOf (224 + r / 4096), byteOf (128 + r / 64 % 64), byteOf (128 + r % 64)] := by rw [enc1, if_neg (by omega), if_neg (by omega), if_pos h2]
theorem one_c4 {r : Int} (h1 : 65536 ≤ r) : enc1 r = [byteOf (240 + r / 262144), byteOf (128 + r / 4096 % 64), byteOf (128 + r / 64 % 64), byteOf (128 + r % 64)] := by rw [enc1, if_neg (by omega), if_neg (by omega), if_neg (by omega)]
theorem sl_eq {o : Own} {s : Nat} {xs ys : List AV} (h : xs = ys) : AV.sl o s xs = AV.sl o s ys := by rw [h]
theorem app_list {l : List UInt8} {r : Int} {xs : List AV} (h : xs = (enc1 r).map byteAV) : l.map byteAV ++ xs = (l ++ enc1 r).map byteAV := by rw [h, List.map_append]
theorem appendNA_c (l : List UInt8) (r : Int) (k : Nat) (H : List AObj) {t : Option TypeId} (hk : H[k]? = some (.grow 1 l.length t)) (ht : okTy t 5) (hr : isRune r = true) (h1 : 128 ≤ r) (hl : l.length ≤ 100000) :
    ACalls Tryz.prog 150 [.sl (.tok k) 1 (l.map byteAV), .lit (.int .i32 r)] H (fun x H' => x = .sl (.tok k) 1 ((l ++ enc1 r).map byteAV) ∧ H' = H.set k (.grow 1 (l.length + (enc1 r).length) t)) := by
  have hr' := of_decide_eq_true hr
  refine acalls_vc L_ok mixed [] (rs := [.tmp 4]) (n := 78) Tryz.func150 rfl rfl rfl rfl (Nat.le_of_ble_eq_true rfl) (by kernel_rfl) ?_
  repeat' (first | refine unhold ?_ | (simp -dsimp -implicitDefEqProofs (disch := (first | assumption | omega | (simp only [ll1, ll2, ll3, ll4, ll5, ll6, ll7, ll8]; omega))) only [go_sem, u8_wrap, ht, hk]) | refine vcI (fun _ => ?_) (fun _ => ?_) | (refine vcA ?_ ?_; focus (repeat' (first | omega | assumption | refine vcA ?_ ?_); done)) | omega | refine imp_in (fun _ => ?_))
  · refine done_keep _ (Le.refl _) (by simp) ⟨sl_eq (app_list ?_), by rw [one_c2 (by omega) (by omega)]; rfl⟩
    rw [one_c2 (by omega) (by omega)]; exact list2 (lit_byte (by omega) (by omega)) (lit_byte (by omega) (by omega))
  · refine done_keep _ (Le.refl _) (by simp) ⟨sl_eq (app_list ?_), by rw [one_c3 (by omega) (by omega)]; rfl⟩
    rw [one_c3 (by omega) (by omega)]; exact list3 (lit_byte (by omega) (by omega)) (lit_byte (by omega) (by omega)) (lit_byte (by omega) (by omega))
  · refine done_keep _ (Le.refl _) (by simp) ⟨sl_eq (app_list ?_), by rw [one_c3 (by omega) (by omega)]; rfl⟩
    rw [one_c3 (by omega) (by omega)]; exact list3 (lit_byte (by omega) (by omega)) (lit_byte (by omega) (by omega)) (lit_byte (by omega) (by omega))
  · refine done_keep _ (Le.refl _) (by simp) ⟨sl_eq (app_list ?_), by rw [one_c4 (by omega)]; rfl⟩
    rw [one_c4 (by omega)]; exact list4 (lit_byte (by omega) (by omega)) (lit_byte (by omega) (by omega)) (lit_byte (by omega) (by omega)) (lit_byte (by omega) (by omega))
theorem AppendRune_c (l : List UInt8) (r : Int) (k : Nat) (H : List AObj) {t : Option TypeId} (hk : H[k]? = some (.grow 1 l.length t)) (ht : okTy t 5) (hr : isRune r = true) (hl : l.length ≤ 100000) :
    ACalls Tryz.prog 127 [.sl (.tok k) 1 (l.map byteAV), .lit (.int .i32 r)] H (fun x H' => x = .sl (.tok k) 1 ((l ++ enc1 r).map byteAV) ∧ H' = H.set k (.grow 1 (l.length + (enc1 r).length) t)) := by
  have hr' := of_decide_eq_true hr
  refine acalls_vc L_ok mixed [] (rs := [.tmp 4]) (n := 16) Tryz.func127 rfl rfl rfl rfl (Nat.le_of_ble_eq_true rfl) (by kernel_rfl) ?_
  repeat' (first | refine unhold ?_ | (simp -dsimp -implicitDefEqProofs (disch := (first | assumption | omega | (simp only [ll1, ll2, ll3, ll4, ll5, ll6, ll7, ll8]; omega))) only [go_sem, u8_wrap, ht, hk]) | refine acalls_same (appendNA_c _ _ _ _ (by assumption) (by assumption) (by assumption) (by omega) (by omega)) ?_ | refine ⟨_, appendNA_c _ _ _ _ (by assumption) (by assumption) (by assumption) (by omega) (by omega), ?_⟩ | refine ⟨_, _, appendNA_c _ _ _ _ (by assumption) (by assumption) (by assumption) (by omega) (by omega), ?_⟩ | refine vcI (fun _ => ?_) (fun _ => ?_) | (refine vcA ?_ ?_; focus (repeat' (first | omega | assumption | refine vcA ?_ ?_); done)) | omega | refine imp_in (fun _ => ?_))
  · refine done_keep _ (Le.refl _) (by simp) ⟨sl_eq (app_list ?_), by rw [one_c1 (by omega)]; rfl⟩
    rw [one_c1 (by omega)]; exact list1 (lit_byte (by omega) (by omega))
  · exact done_keep _ (Le.refl _) (by simp) ⟨rfl, rfl⟩
end Go.Proofs.YtdahdbnfknmmgaaGreatDoor
end

section
set_option linter.unusedSimpArgs false
set_option linter.unusedVariables false
namespace Go.Proofs.YtdahdbnfknmmgaaGreatDoor.V
open Go
set_option maxRecDepth 10000
set_option maxHeartbeats 4000000
theorem set_swap {H : List AObj} {k m : Nat} {a b c : AObj} (h : k ≠ m) : ((H.set k a).set m b).set k c = (H.set k c).set m b := by
  rw [List.set_comm _ _ (Ne.symm h), List.set_set]
/-- A builder, of a block of type T, with its buffer's token m. -/
def bObj (T : TypeId) (m : Nat) (a : AV) (bs : List UInt8) : AObj := .cells (.one T) [a, .sl (.tok m) 1 (bs.map byteAV)]
def gObj (n : Nat) : AObj := .grow 1 n (some 5)
def bAddr (k : Nat) (a : AV) : Prop := a = .lit (.pointer none) ∨ a = .mp k 0
theorem bAddr_k {k : Nat} : bAddr k (.mp k 0) := .inr rfl
theorem bAddr_n {k : Nat} : bAddr k (.lit (.pointer none)) := .inl rfl
def bT (T : TypeId) : Prop := liesAt Tryz.prog Tryz.prog.depth T (2 / Tryz.prog.cellsOf T) 0 50 1 = true
theorem bT_self : bT 50 := by unfold bT; kernel_rfl
theorem tup2_eq' {k : IntKind} {a a' : Int} {v : AV} (h : a = a') : AV.tup [.lit (.int k a), v] = .tup [.lit (.int k a'), v] := by rw [h]
theorem list_one (c : UInt8) : [AV.lit (.int .u8 (c.toNat : Int))] = [c].map byteAV := rfl
theorem copyCheck_c {T k m : Nat} {a : AV} {bs : List UInt8} {H : List AObj} (hT : bT T) (hk : H[k]? = some (bObj T m a bs)) (ha : bAddr k a) :
    ACalls Tryz.prog 72 [.mp k 0] H (fun x H' => x = .tup [] ∧ H' = H.set k (bObj T m (.mp k 0) bs)) := by
  unfold bObj bT at *
  have hkl := lt_of_get hk
  rcases ha with rfl | rfl
  · refine acalls_vc L_ok mixed [] (rs := []) (n := 20) Tryz.func72 rfl rfl rfl rfl (Nat.le_of_ble_eq_true rfl) (by kernel_rfl) ?_
    repeat' (first | refine unhold ?_ | (simp -dsimp -implicitDefEqProofs (disch := (first | assumption | omega | (simp only [ll1, ll2, ll3, ll4, ll5, ll6, ll7, ll8]; omega))) only [go_sem, hk, hT]) | refine acalls_same (NoEscape_c _ _) ?_ | refine ⟨_, NoEscape_c _ _, ?_⟩ | refine ⟨_, _, NoEscape_c _ _, ?_⟩ | refine vcI (fun _ => ?_) (fun _ => ?_) | (refine vcA ?_ ?_; focus (repeat' (first | omega | assumption | refine vcA ?_ ?_); done)) | omega | refine imp_in (fun _ => ?_))
    exact done_keep _ (Le.refl _) (by simp) ⟨rfl, rfl⟩
  · refine acalls_vc L_ok mixed [] (rs := []) (n := 20) Tryz.func72 rfl rfl rfl rfl (Nat.le_of_ble_eq_true rfl) (by kernel_rfl) ?_
    repeat' (first | refine unhold ?_ | (simp -dsimp -implicitDefEqProofs (disch := (first | assumption | omega | (simp only [ll1, ll2, ll3, ll4, ll5, ll6, ll7, ll8]; omega))) only [go_sem, hk, hT]) | refine vcI (fun _ => ?_) (fun _ => ?_) | (refine vcA ?_ ?_; focus (repeat' (first | omega | assumption | refine vcA ?_ ?_); done)) | omega | refine imp_in (fun _ => ?_))
    exact done_keep _ (Le.refl _) (by simp) ⟨rfl, (set_same hk).symm⟩
theorem WriteByte_c {T k m : Nat} {a : AV} {bs : List UInt8} {c : UInt8} {H : List AObj} (hT : bT T) (hk : H[k]? = some (bObj T m a bs)) (ha : bAddr k a) (hm : H[m]? = some (gObj bs.length)) (hl : bs.length ≤ 100000000) :
    ACalls Tryz.prog 50 [.mp k 0, .lit (.int .u8 c.toNat)] H (fun x H' => x = .lit .nilIface ∧ H' = (H.set k (bObj T m (.mp k 0) (bs ++ [c]))).set m (gObj (bs ++ [c]).length)) := by
  have hkl := lt_of_get hk
  have hml := lt_of_get hm
  have hkm : k ≠ m := by intro e; subst e; rw [hk] at hm; cases hm
  have hmk := hkm.symm
  refine acalls_vc L_ok mixed [] (rs := [.tmp 4]) (n := 17) Tryz.func50 rfl rfl rfl rfl (Nat.le_of_ble_eq_true rfl) (by kernel_rfl) ?_
  repeat' (first | refine unhold ?_ | (simp -dsimp -implicitDefEqProofs (disch := (first | assumption | omega | (simp only [ll1, ll2, ll3, ll4, ll5, ll6, ll7, ll8]; omega))) only [go_sem, hsn, hm]) | refine acalls_same (copyCheck_c hT hk ha) ?_ | refine ⟨_, copyCheck_c hT hk ha, ?_⟩ | refine ⟨_, _, copyCheck_c hT hk ha, ?_⟩ | refine vcI (fun _ => ?_) (fun _ => ?_) | (refine vcA ?_ ?_; focus (repeat' (first | omega | assumption | refine vcA ?_ ?_); done)) | omega | refine imp_in (fun _ => ?_))
  all_goals unfold bObj gObj at *
  all_goals repeat' (first | refine unhold ?_ | (simp -dsimp -implicitDefEqProofs (disch := (first | assumption | omega | (simp only [ll1, ll2, ll3, ll4, ll5, ll6, ll7, ll8]; omega))) only [go_sem, hsn, hm, List.getElem?_set_ne hkm, List.getElem?_set_ne hmk, list_one, set_swap hkm]) | refine vcI (fun _ => ?_) (fun _ => ?_) | (refine vcA ?_ ?_; focus (repeat' (first | omega | assumption | refine vcA ?_ ?_); done)) | omega | refine imp_in (fun _ => ?_))
  all_goals exact done_keep _ (Le.refl _) (by simp) ⟨rfl, by simp⟩
theorem WriteString_c {T k m : Nat} {a : AV} {bs l : List UInt8} {H : List AObj} (hT : bT T) (hk : H[k]? = some (bObj T m a bs)) (ha : bAddr k a) (hm : H[m]? = some (gObj bs.length)) (hl : bs.length ≤ 100000000) (hl2 : l.length ≤ 100000000) :
    ACalls Tryz.prog 52 [.mp k 0, .str l] H (fun x H' => x = .tup [.int .i64 l.length, .lit .nilIface] ∧ H' = (H.set k (bObj T m (.mp k 0) (bs ++ l))).set m (gObj (bs ++ l).length)) := by
  have hkl := lt_of_get hk
  have hml := lt_of_get hm
  have hkm : k ≠ m := by intro e; subst e; rw [hk] at hm; cases hm
  have hmk := hkm.symm
  refine acalls_vc L_ok mixed [] (rs := [.tmp 4, .tmp 5]) (n := 19) Tryz.func52 rfl rfl rfl rfl (Nat.le_of_ble_eq_true rfl) (by kernel_rfl) ?_
  repeat' (first | refine unhold ?_ | (simp -dsimp -implicitDefEqProofs (disch := (first | assumption | omega | (simp only [ll1, ll2, ll3, ll4, ll5, ll6, ll7, ll8]; omega))) only [go_sem, hsn, hm]) | refine acalls_same (copyCheck_c hT hk ha) ?_ | refine ⟨_, copyCheck_c hT hk ha, ?_⟩ | refine ⟨_, _, copyCheck_c hT hk ha, ?_⟩ | refine vcI (fun _ => ?_) (fun _ => ?_) | (refine vcA ?_ ?_; focus (repeat' (first | omega | assumption | refine vcA ?_ ?_); done)) | omega | refine imp_in (fun _ => ?_))
  all_goals unfold bObj gObj at *
  all_goals repeat' (first | refine unhold ?_ | (simp -dsimp -implicitDefEqProofs (disch := (first | assumption | omega | (simp only [ll1, ll2, ll3, ll4, ll5, ll6, ll7, ll8]; omega))) only [go_sem, hsn, hm, List.getElem?_set_ne hkm, List.getElem?_set_ne hmk, list_one, set_swap hkm]) | refine vcI (fun _ => ?_) (fun _ => ?_) | (refine vcA ?_ ?_; focus (repeat' (first | omega | assumption | refine vcA ?_ ?_); done)) | omega | refine imp_in (fun _ => ?_))
  all_goals exact done_keep _ (Le.refl _) (by simp) ⟨rfl, by simp⟩
theorem WriteRune_c {T k m : Nat} {a : AV} {bs : List UInt8} {r : Int} {H : List AObj} (hT : bT T) (hk : H[k]? = some (bObj T m a bs)) (ha : bAddr k a) (hm : H[m]? = some (gObj bs.length)) (hr : isRune r = true) (hl : bs.length ≤ 100000) :
    ACalls Tryz.prog 108 [.mp k 0, .lit (.int .i32 r)] H (fun x H' => x = .tup [.int .i64 (enc1 r).length, .lit .nilIface] ∧ H' = (H.set k (bObj T m (.mp k 0) (bs ++ enc1 r))).set m (gObj (bs ++ enc1 r).length)) := by
  have hkl := lt_of_get hk
  have hml := lt_of_get hm
  have hkm : k ≠ m := by intro e; subst e; rw [hk] at hm; cases hm
  have hmk := hkm.symm
  have he := enc1_len r
  refine acalls_vc L_ok mixed [] (rs := [.tmp 4, .tmp 5]) (n := 30) Tryz.func108 rfl rfl rfl rfl (Nat.le_of_ble_eq_true rfl) (by kernel_rfl) ?_
  repeat' (first | refine unhold ?_ | (simp -dsimp -implicitDefEqProofs (disch := (first | assumption | omega | (simp only [ll1, ll2, ll3, ll4, ll5, ll6, ll7, ll8]; omega))) only [go_sem, hsn, hm]) | refine acalls_same (copyCheck_c hT hk ha) ?_ | refine ⟨_, copyCheck_c hT hk ha, ?_⟩ | refine ⟨_, _, copyCheck_c hT hk ha, ?_⟩ | refine vcI (fun _ => ?_) (fun _ => ?_) | (refine vcA ?_ ?_; focus (repeat' (first | omega | assumption | refine vcA ?_ ?_); done)) | omega | refine imp_in (fun _ => ?_))
  all_goals unfold bObj gObj at *
  all_goals repeat' (first | refine unhold ?_ | (simp -dsimp -implicitDefEqProofs (disch := (first | assumption | omega | (simp only [ll1, ll2, ll3, ll4, ll5, ll6, ll7, ll8]; omega))) only [go_sem, hsn, hm, List.getElem?_set_ne hkm, List.getElem?_set_ne hmk, list_one, set_swap hkm]) | refine acalls_same (AppendRune_c (t := some 5) bs r m _ (by rw [List.getElem?_set_ne hkm]; exact hm) rfl hr (by omega)) ?_ | refine ⟨_, AppendRune_c (t := some 5) bs r m _ (by rw [List.getElem?_set_ne hkm]; exact hm) rfl hr (by omega), ?_⟩ | refine ⟨_, _, AppendRune_c (t := some 5) bs r m _ (by rw [List.getElem?_set_ne hkm]; exact hm) rfl hr (by omega), ?_⟩ | refine vcI (fun _ => ?_) (fun _ => ?_) | (refine vcA ?_ ?_; focus (repeat' (first | omega | assumption | refine vcA ?_ ?_); done)) | omega | refine imp_in (fun _ => ?_))
  all_goals exact done_keep _ (Le.refl _) (by simp) ⟨tup2_eq' (by omega), by simp⟩
theorem Len_c {T k m : Nat} {a : AV} {bs : List UInt8} {H : List AObj} (hk : H[k]? = some (bObj T m a bs)) :
    ACalls Tryz.prog 48 [.mp k 0] H (fun x H' => x = .int .i64 bs.length ∧ H' = H) := by
  unfold bObj at *
  refine acalls_vc L_ok mixed [] (rs := [.tmp 2]) (n := 8) Tryz.func48 rfl rfl rfl rfl (Nat.le_of_ble_eq_true rfl) (by kernel_rfl) ?_
  repeat' (first | refine unhold ?_ | (simp -dsimp -implicitDefEqProofs (disch := (first | assumption | omega | (simp only [ll1, ll2, ll3, ll4, ll5, ll6, ll7, ll8]; omega))) only [go_sem, hk]) | refine vcI (fun _ => ?_) (fun _ => ?_) | (refine vcA ?_ ?_; focus (repeat' (first | omega | assumption | refine vcA ?_ ?_); done)) | omega | refine imp_in (fun _ => ?_))
  exact done_same ⟨rfl, rfl⟩
theorem String_c {T k m : Nat} {a : AV} {bs : List UInt8} {H : List AObj} (hk : H[k]? = some (bObj T m a bs)) (hm : H[m]? = some (gObj bs.length)) (hl : bs.length ≤ 100000000) :
    ACalls Tryz.prog 27 [.mp k 0] H (fun x H' => x = .str bs ∧ H' = H) := by
  unfold bObj gObj at *
  refine acalls_vc L_ok mixed [1000001] (rs := [.tmp 2]) (n := 14) Tryz.func27 rfl rfl rfl rfl (Nat.le_of_ble_eq_true rfl) (by kernel_rfl) ?_
  repeat' (first | refine unhold ?_ | (simp -dsimp -implicitDefEqProofs (disch := (first | assumption | omega | (simp only [ll1, ll2, ll3, ll4, ll5, ll6, ll7, ll8]; omega))) only [go_sem, hk, hm]) | refine vcI (fun _ => ?_) (fun _ => ?_) | (refine vcA ?_ ?_; focus (repeat' (first | omega | assumption | refine vcA ?_ ?_); done)) | omega | refine imp_in (fun _ => ?_))
  exact done_same ⟨rfl, rfl⟩
end Go.Proofs.YtdahdbnfknmmgaaGreatDoor.V
end

section
set_option linter.unusedSimpArgs false
set_option linter.unusedVariables false
namespace Go.Proofs.YtdahdbnfknmmgaaGreatDoor
open Go V
set_option maxRecDepth 10000
set_option maxHeartbeats 4000000
theorem prefix_dec (w l : List UInt8) : w.isPrefixOf l = decide (w.length ≤ l.length ∧ l.take w.length = w) := by
  rw [Bool.eq_iff_iff, List.isPrefixOf_iff_prefix, decide_eq_true_eq, List.prefix_iff_eq_take]
  constructor
  · intro h
    refine ⟨?_, h.symm⟩
    have := congrArg List.length h
    rw [List.length_take] at this
    omega
  · rintro ⟨_, h⟩
    exact h.symm
theorem HasPrefix_l (l w : List UInt8) (H : List AObj) (hl : l.length ≤ 100000000) : ACalls Tryz.prog 104 [.str l, .str w] H (fun x H' => x = .bool (w.isPrefixOf l) ∧ H' = H) := by
  refine acalls_vc L_ok mixed [] (rs := [.tmp 4]) (n := 18) Tryz.func104 rfl rfl rfl rfl (Nat.le_of_ble_eq_true rfl) (by kernel_rfl) ?_
  repeat' (first | refine unhold ?_ | (simp -dsimp -implicitDefEqProofs (disch := (first | assumption | omega | (simp only [ll1, ll2, ll3, ll4, ll5, ll6, ll7, ll8]; omega))) only [go_sem]) | refine vcI (fun _ => ?_) (fun _ => ?_) | (refine vcA ?_ ?_; focus (repeat' (first | omega | assumption | refine vcA ?_ ?_); done)) | omega | refine imp_in (fun _ => ?_))
  · rename_i h
    refine done_same ⟨bool_eq ?_, rfl⟩
    rw [prefix_dec, decide_eq_decide]
    constructor
    · intro h2; exact ⟨by omega, h2⟩
    · intro h2; exact h2.2
  · rename_i h
    refine done_same ⟨bool_eq ?_, rfl⟩
    rw [prefix_dec, decide_eq_false]
    omega
theorem HasPrefix_c (l w : List UInt8) (H : List AObj) (hl : l.length ≤ 100000000) : ACalls Tryz.prog 74 [.str l, .str w] H (fun x H' => x = .bool (w.isPrefixOf l) ∧ H' = H) := by
  refine acalls_vc L_ok mixed [] (rs := [.tmp 4]) (n := 8) Tryz.func74 rfl rfl rfl rfl (Nat.le_of_ble_eq_true rfl) (by kernel_rfl) ?_
  repeat' (first | refine unhold ?_ | (simp -dsimp -implicitDefEqProofs (disch := (first | assumption | omega | (simp only [ll1, ll2, ll3, ll4, ll5, ll6, ll7, ll8]; omega))) only [go_sem]) | refine acalls_same (HasPrefix_l _ _ _ hl) ?_ | refine ⟨_, HasPrefix_l _ _ _ hl, ?_⟩ | refine ⟨_, _, HasPrefix_l _ _ _ hl, ?_⟩ | refine vcI (fun _ => ?_) (fun _ => ?_) | (refine vcA ?_ ?_; focus (repeat' (first | omega | assumption | refine vcA ?_ ?_); done)) | omega | refine imp_in (fun _ => ?_))
  exact done_same ⟨rfl, rfl⟩
theorem IndexByte_l (l : List UInt8) (c : UInt8) (H : List AObj) : ACalls Tryz.prog 73 [.str l, .lit (.int .u8 c.toNat)] H (fun x H' => x = .int .i64 (idxB l c) ∧ H' = H) := by
  refine acalls_vc L_ok mixed [] (rs := [.tmp 4]) (n := 8) Tryz.func73 rfl rfl rfl rfl (Nat.le_of_ble_eq_true rfl) (by kernel_rfl) ?_
  repeat' (first | refine unhold ?_ | (simp -dsimp -implicitDefEqProofs (disch := (first | assumption | omega | (simp only [ll1, ll2, ll3, ll4, ll5, ll6, ll7, ll8]; omega))) only [go_sem]) | refine acalls_same (IndexByteString_c _ _ _) ?_ | refine ⟨_, IndexByteString_c _ _ _, ?_⟩ | refine ⟨_, _, IndexByteString_c _ _ _, ?_⟩ | refine vcI (fun _ => ?_) (fun _ => ?_) | (refine vcA ?_ ?_; focus (repeat' (first | omega | assumption | refine vcA ?_ ?_); done)) | omega | refine imp_in (fun _ => ?_))
  exact done_same ⟨rfl, rfl⟩
theorem IndexByte_c (l : List UInt8) (c : UInt8) (H : List AObj) : ACalls Tryz.prog 51 [.str l, .lit (.int .u8 c.toNat)] H (fun x H' => x = .int .i64 (idxB l c) ∧ H' = H) := by
  refine acalls_vc L_ok mixed [] (rs := [.tmp 4]) (n := 8) Tryz.func51 rfl rfl rfl rfl (Nat.le_of_ble_eq_true rfl) (by kernel_rfl) ?_
  repeat' (first | refine unhold ?_ | (simp -dsimp -implicitDefEqProofs (disch := (first | assumption | omega | (simp only [ll1, ll2, ll3, ll4, ll5, ll6, ll7, ll8]; omega))) only [go_sem]) | refine acalls_same (IndexByte_l _ _ _) ?_ | refine ⟨_, IndexByte_l _ _ _, ?_⟩ | refine ⟨_, _, IndexByte_l _ _ _, ?_⟩ | refine vcI (fun _ => ?_) (fun _ => ?_) | (refine vcA ?_ ?_; focus (repeat' (first | omega | assumption | refine vcA ?_ ?_); done)) | omega | refine imp_in (fun _ => ?_))
  exact done_same ⟨rfl, rfl⟩
end Go.Proofs.YtdahdbnfknmmgaaGreatDoor
end

section
set_option linter.unusedSimpArgs false
set_option linter.unusedVariables false
namespace Go.Proofs.YtdahdbnfknmmgaaGreatDoor
open Go
end Go.Proofs.YtdahdbnfknmmgaaGreatDoor
end

section
set_option linter.unusedSimpArgs false
set_option linter.unusedVariables false
namespace Go.Proofs.YtdahdbnfknmmgaaGreatDoor.V
open Go
theorem ofInt_nat {w x : Nat} (hx : x < 2 ^ w) : (BitVec.ofInt w (x : Int)).toNat = x := by
  rw [BitVec.ofInt_natCast, BitVec.toNat_ofNat, Nat.mod_eq_of_lt hx]
theorem bv_or {w x y : Nat} (hx : x < 2 ^ w) (hy : y < 2 ^ w) : (BitVec.ofInt w (x : Int) ||| BitVec.ofInt w (y : Int)).toNat = x ||| y := by
  rw [BitVec.toNat_or, ofInt_nat hx, ofInt_nat hy]
theorem bv_and {w x y : Nat} (hx : x < 2 ^ w) (hy : y < 2 ^ w) : (BitVec.ofInt w (x : Int) &&& BitVec.ofInt w (y : Int)).toNat = x &&& y := by
  rw [BitVec.toNat_and, ofInt_nat hx, ofInt_nat hy]
theorem wrap_nat_u64 {x : Nat} (hx : x < 2 ^ 64) : IntKind.u64.wrap (x : Int) = x := IntWalk.u64_in _ (by omega)
theorem wrap_nat_u32 {x : Nat} (hx : x < 2 ^ 32) : IntKind.u32.wrap (x : Int) = x := IntWalk.u32_in _ (by omega)
theorem wrap_nat_u8 {x : Nat} (hx : x < 2 ^ 8) : IntKind.u8.wrap (x : Int) = x := IntWalk.u8_in _ (by omega)
theorem or_u64 {x y : Nat} (hx : x < 2 ^ 64) (hy : y < 2 ^ 64) : IntKind.u64.wrap ((BitVec.ofInt IntKind.u64.bits (x : Int) ||| BitVec.ofInt IntKind.u64.bits (y : Int)).toNat : Int) = ((x ||| y : Nat) : Int) := by
  show IntKind.u64.wrap ((BitVec.ofInt 64 (x : Int) ||| BitVec.ofInt 64 (y : Int)).toNat : Int) = _
  rw [bv_or hx hy, wrap_nat_u64 (Nat.or_lt_two_pow hx hy)]
theorem and_u64 {x y : Nat} (hx : x < 2 ^ 64) (hy : y < 2 ^ 64) : IntKind.u64.wrap ((BitVec.ofInt IntKind.u64.bits (x : Int) &&& BitVec.ofInt IntKind.u64.bits (y : Int)).toNat : Int) = ((x &&& y : Nat) : Int) := by
  show IntKind.u64.wrap ((BitVec.ofInt 64 (x : Int) &&& BitVec.ofInt 64 (y : Int)).toNat : Int) = _
  rw [bv_and hx hy, wrap_nat_u64 (Nat.and_lt_two_pow _ hy)]
end Go.Proofs.YtdahdbnfknmmgaaGreatDoor.V
end

section
set_option linter.unusedSimpArgs false
set_option linter.unusedVariables false
namespace Go.Proofs.YtdahdbnfknmmgaaGreatDoor
open Go V
set_option maxRecDepth 10000
set_option maxHeartbeats 4000000
theorem le_step {xs ys : List UInt8} {b : UInt8} {k : Nat} {c : Int} (hy : xs ++ [b] = ys) (hc : c = 2 ^ k) (hx : 8 * xs.length = k) (hk : k ≤ 56) : IntKind.u64.wrap ((BitVec.ofInt IntKind.u64.bits ((Lib.leNat xs : Nat) : Int) ||| BitVec.ofInt IntKind.u64.bits (IntKind.u64.wrap ((b.toNat : Int) * c))).toNat : Int) = ((Lib.leNat ys : Nat) : Int) := by
  subst hy
  subst hc
  have hb := b.toNat_lt
  have hlt : Lib.leNat xs < 2 ^ k := by
    have := Lib.leNat_lt xs
    rwa [show (256 : Nat) = 2 ^ 8 from rfl, ← Nat.pow_mul, hx] at this
  have hp : (2 : Nat) ^ k ≤ 2 ^ 56 := Nat.pow_le_pow_right (by omega) hk
  have h1 : b.toNat * 2 ^ k < 2 ^ 64 := by
    have : b.toNat * 2 ^ k ≤ 255 * 2 ^ 56 := Nat.mul_le_mul (by omega) hp
    omega
  have h2 : (b.toNat : Int) * 2 ^ k = ((b.toNat * 2 ^ k : Nat) : Int) := by simp
  rw [h2, wrap_nat_u64 h1, or_u64 (by omega) h1, Lib.leNat_append, show (256 : Nat) = 2 ^ 8 from rfl, ← Nat.pow_mul, hx]
  congr 1
  have := Nat.two_pow_add_eq_or_of_lt hlt b.toNat
  rw [Nat.or_comm, Nat.mul_comm, ← this]
  simp [Lib.leNat]
  omega
theorem leNat_one (b : UInt8) : (b.toNat : Int) = ((Lib.leNat [b] : Nat) : Int) := by simp [Lib.leNat]
theorem take8' {l : List UInt8} (h : 8 ≤ l.length) : l.take 8 = [l.getD 0 0, l.getD 1 0, l.getD 2 0, l.getD 3 0, l.getD 4 0, l.getD 5 0, l.getD 6 0, l.getD 7 0] := by
  match l, h with
  | a0 :: a1 :: a2 :: a3 :: a4 :: a5 :: a6 :: a7 :: r, _ => simp
theorem word_c {o : Own} (l : List UInt8) (H : List AObj) (hl : 8 ≤ l.length) : ACalls Tryz.prog 71 [.sl o 1 (l.map byteAV)] H (fun x H' => x = .int .u64 (Lib.leNat (l.take 8)) ∧ H' = H) := by
  refine acalls_vc L_ok mixed [1000001, 1000002] (rs := [.tmp 2]) (n := 71) Tryz.func71 rfl rfl rfl rfl (Nat.le_of_ble_eq_true rfl) (by kernel_rfl) ?_
  repeat' (first | refine unhold ?_ | (simp -dsimp -implicitDefEqProofs (disch := (first | assumption | omega | (simp only [ll1, ll2, ll3, ll4, ll5, ll6, ll7, ll8]; omega))) only [go_sem]) | refine vcI (fun _ => ?_) (fun _ => ?_) | (refine vcA ?_ ?_; focus (repeat' (first | omega | assumption | refine vcA ?_ ?_); done)) | omega | refine imp_in (fun _ => ?_))
  refine done_same ⟨?_, rfl⟩
  rw [leNat_one (l.getD 0 0), le_step (xs := [l.getD 0 0]) (ys := [l.getD 0 0, l.getD 1 0]) (b := l.getD 1 0) (k := 8) (c := 256) rfl (by decide) rfl (by decide), le_step (xs := [l.getD 0 0, l.getD 1 0]) (ys := [l.getD 0 0, l.getD 1 0, l.getD 2 0]) (b := l.getD 2 0) (k := 16) (c := 65536) rfl (by decide) rfl (by decide), le_step (xs := [l.getD 0 0, l.getD 1 0, l.getD 2 0]) (ys := [l.getD 0 0, l.getD 1 0, l.getD 2 0, l.getD 3 0]) (b := l.getD 3 0) (k := 24) (c := 16777216) rfl (by decide) rfl (by decide), le_step (xs := [l.getD 0 0, l.getD 1 0, l.getD 2 0, l.getD 3 0]) (ys := [l.getD 0 0, l.getD 1 0, l.getD 2 0, l.getD 3 0, l.getD 4 0]) (b := l.getD 4 0) (k := 32) (c := 4294967296) rfl (by decide) rfl (by decide), le_step (xs := [l.getD 0 0, l.getD 1 0, l.getD 2 0, l.getD 3 0, l.getD 4 0]) (ys := [l.getD 0 0, l.getD 1 0, l.getD 2 0, l.getD 3 0, l.getD 4 0, l.getD 5 0]) (b := l.getD 5 0) (k := 40) (c := 1099511627776) rfl (by decide) rfl (by decide), le_step (xs := [l.getD 0 0, l.getD 1 0, l.getD 2 0, l.getD 3 0, l.getD 4 0, l.getD 5 0]) (ys := [l.getD 0 0, l.getD 1 0, l.getD 2 0, l.getD 3 0, l.getD 4 0, l.getD 5 0, l.getD 6 0]) (b := l.getD 6 0) (k := 48) (c := 281474976710656) rfl (by decide) rfl (by decide), le_step (xs := [l.getD 0 0, l.getD 1 0, l.getD 2 0, l.getD 3 0, l.getD 4 0, l.getD 5 0, l.getD 6 0]) (ys := [l.getD 0 0, l.getD 1 0, l.getD 2 0, l.getD 3 0, l.getD 4 0, l.getD 5 0, l.getD 6 0, l.getD 7 0]) (b := l.getD 7 0) (k := 56) (c := 72057594037927936) rfl (by decide) rfl (by decide), take8' hl]
theorem and7 {x : Nat} (h : x < 256) : IntKind.u8.wrap ((BitVec.ofInt IntKind.u8.bits (x : Int) &&& BitVec.ofInt IntKind.u8.bits 7).toNat : Int) = ((x % 8 : Nat) : Int) := by
  show IntKind.u8.wrap ((BitVec.ofInt 8 (x : Int) &&& BitVec.ofInt 8 ((7 : Nat) : Int)).toNat : Int) = _
  rw [bv_and (by omega) (by decide), show (7 : Nat) = 2 ^ 3 - 1 from rfl, Nat.and_two_pow_sub_one_eq_mod, wrap_nat_u8 (by omega)]
theorem firstT_lt (n : Nat) : Lib.firstT n < 256 := by unfold Lib.firstT; (repeat' split) <;> omega
theorem and7_first (n : Nat) : IntKind.u8.wrap ((BitVec.ofInt IntKind.u8.bits ((Lib.firstT n : Nat) : Int) &&& BitVec.ofInt IntKind.u8.bits 7).toNat : Int) = ((Lib.firstT n % 8 : Nat) : Int) := and7 (firstT_lt n)
theorem first_div (n : Nat) : (Lib.firstT n / 16 < 16) = True := eq_true (by have := firstT_lt n; omega)
theorem first_div' (n : Nat) : (((Lib.firstT n / 16 : Nat) : Int) < 16) = True := eq_true (by have := firstT_lt n; omega)
theorem accept_first (n : Nat) : (acceptAV.drop (Lib.firstT n / 16 * 2)).take 2 = [.lit (.int .u8 (Lib.accLo (Lib.firstT n / 16))), .lit (.int .u8 (Lib.accHi (Lib.firstT n / 16)))] := accept_at (by have := firstT_lt n; omega)
theorem lead_false {m : List UInt8} (h0 : 0 < (m.length : Int)) (h1 : 128 ≤ ((m.getD 0 0).toNat : Int)) (h : (Lib.firstT (m.getD 0 0).toNat % 8 = 2 ∧ (m.length < 2 ∨ (m.getD 1 0).toNat < Lib.accLo (Lib.firstT (m.getD 0 0).toNat / 16) ∨ Lib.accHi (Lib.firstT (m.getD 0 0).toNat / 16) < (m.getD 1 0).toNat)) ∨
    (Lib.firstT (m.getD 0 0).toNat % 8 = 3 ∧ (m.length < 3 ∨ (m.getD 1 0).toNat < Lib.accLo (Lib.firstT (m.getD 0 0).toNat / 16) ∨ Lib.accHi (Lib.firstT (m.getD 0 0).toNat / 16) < (m.getD 1 0).toNat ∨ (m.getD 2 0).toNat < 128 ∨ 191 < (m.getD 2 0).toNat)) ∨
    (Lib.firstT (m.getD 0 0).toNat % 8 = 4 ∧ (m.length < 4 ∨ (m.getD 1 0).toNat < Lib.accLo (Lib.firstT (m.getD 0 0).toNat / 16) ∨ Lib.accHi (Lib.firstT (m.getD 0 0).toNat / 16) < (m.getD 1 0).toNat ∨ (m.getD 2 0).toNat < 128 ∨ 191 < (m.getD 2 0).toNat ∨ (m.getD 3 0).toNat < 128 ∨ 191 < (m.getD 3 0).toNat)) ∨
    (Lib.firstT (m.getD 0 0).toNat % 8 ≠ 2 ∧ Lib.firstT (m.getD 0 0).toNat % 8 ≠ 3 ∧ Lib.firstT (m.getD 0 0).toNat % 8 ≠ 4)) : Lib.validD m = false := by
  rw [Lib.validD_lead m (List.length_pos_iff.1 (by omega)) (by omega), Lib.checkN]
  rcases h with ⟨h, h'⟩ | ⟨h, h'⟩ | ⟨h, h'⟩ | ⟨h, h', h''⟩
  · rw [if_pos h, if_pos h']
  · rw [if_neg (by omega), if_pos h, if_pos h']
  · rw [if_neg (by omega), if_neg (by omega), if_pos h, if_pos h']
  · rw [if_neg h, if_neg h', if_neg h'']
theorem lead_some {m : List UInt8} {k : Nat} (hk : k = Lib.firstT (m.getD 0 0).toNat % 8) (h0 : k ≤ m.length) (h1 : 128 ≤ ((m.getD 0 0).toNat : Int)) (h2 : Lib.accLo (Lib.firstT (m.getD 0 0).toNat / 16) ≤ (m.getD 1 0).toNat) (h3 : (m.getD 1 0).toNat ≤ Lib.accHi (Lib.firstT (m.getD 0 0).toNat / 16))
    (h : k = 2 ∨ (k = 3 ∧ 128 ≤ (m.getD 2 0).toNat ∧ (m.getD 2 0).toNat ≤ 191) ∨ (k = 4 ∧ 128 ≤ (m.getD 2 0).toNat ∧ (m.getD 2 0).toNat ≤ 191 ∧ 128 ≤ (m.getD 3 0).toNat ∧ (m.getD 3 0).toNat ≤ 191)) : Lib.validD (m.drop k) = Lib.validD m := by
  rw [Lib.validD_lead m (List.length_pos_iff.1 (by omega)) (by omega), Lib.checkN]
  rcases h with h | ⟨h, h'⟩ | ⟨h, h'⟩
  · rw [if_pos (by omega), if_neg (by omega), h]
  · rw [if_neg (by omega), if_pos (by omega), if_neg (by omega), h]
  · rw [if_neg (by omega), if_neg (by omega), if_pos (by omega), if_neg (by omega), h]
theorem skip {m : List UInt8} {n k : Nat} (h : ∀ b ∈ (m.drop n).take k, b.toNat < 128) {x : Bool} (hx : Lib.validD (m.drop n) = x) : Lib.validD (m.drop (n + k)) = x := by
  rw [← hx, Lib.validD_ascii k _ h, List.drop_drop]
theorem skip1 {m : List UInt8} (h0 : 0 < (m.length : Int)) (h : ((m.getD 0 0).toNat : Int) < 128) {x : Bool} (hx : Lib.validD m = x) : Lib.validD (m.drop 1) = x := by
  refine skip (n := 0) (k := 1) ?_ hx
  match m, h0, h with
  | a :: r, _, h =>
    intro b hb
    simp at hb
    subst hb
    simp at h
    omega
theorem lt8 (w : List UInt8) : Lib.leNat (w.take 8) < 2 ^ 64 := by
  have h1 := Lib.leNat_lt (w.take 8)
  have h2 : (w.take 8).length ≤ 8 := List.length_take_le ..
  exact Nat.lt_of_lt_of_le h1 (show 256 ^ (w.take 8).length ≤ 256 ^ 8 from Nat.pow_le_pow_right (by omega) h2)
theorem mask_zero {x : Nat} (hx : x < 2 ^ 64) (h : IntKind.u64.wrap ((BitVec.ofInt IntKind.u64.bits (x : Int) &&& BitVec.ofInt IntKind.u64.bits 9259542123273814144).toNat : Int) = 0) : x &&& Lib.maskN 8 = 0 := by
  have e : (9259542123273814144 : Int) = ((9259542123273814144 : Nat) : Int) := rfl
  rw [e, and_u64 hx (by decide)] at h
  rw [Lib.maskN8]
  omega
theorem asc_of {w : List UInt8} (hw : 8 ≤ w.length) (h : Lib.leNat (w.take 8) &&& Lib.maskN 8 = 0) : ∀ b ∈ w.take 8, b.toNat < 128 := by
  refine (Lib.leNat_mask (w.take 8)).1 ?_
  rwa [show (w.take 8).length = 8 by rw [List.length_take]; omega]
theorem asc1 {w : List UInt8} (hw : 8 ≤ w.length) (h : IntKind.u64.wrap ((BitVec.ofInt IntKind.u64.bits ((Lib.leNat (w.take 8) : Nat) : Int) &&& BitVec.ofInt IntKind.u64.bits 9259542123273814144).toNat : Int) = 0) : ∀ b ∈ w.take 8, b.toNat < 128 :=
  asc_of hw (mask_zero (lt8 w) h)
theorem asc2 {w v : List UInt8} (hw : 8 ≤ w.length) (hv : 8 ≤ v.length) (h : IntKind.u64.wrap ((BitVec.ofInt IntKind.u64.bits (IntKind.u64.wrap ((BitVec.ofInt IntKind.u64.bits ((Lib.leNat (w.take 8) : Nat) : Int) ||| BitVec.ofInt IntKind.u64.bits ((Lib.leNat (v.take 8) : Nat) : Int)).toNat : Int)) &&& BitVec.ofInt IntKind.u64.bits 9259542123273814144).toNat : Int) = 0) :
    (∀ b ∈ w.take 8, b.toNat < 128) ∧ (∀ b ∈ v.take 8, b.toNat < 128) := by
  rw [or_u64 (lt8 w) (lt8 v)] at h
  have := mask_zero (Nat.or_lt_two_pow (lt8 w) (lt8 v)) h
  rw [Lib.or_mask] at this
  exact ⟨asc_of hw this.1, asc_of hv this.2⟩
theorem asc4 {w v u t : List UInt8} (hw : 8 ≤ w.length) (hv : 8 ≤ v.length) (hu : 8 ≤ u.length) (ht : 8 ≤ t.length) (h : IntKind.u64.wrap ((BitVec.ofInt IntKind.u64.bits (IntKind.u64.wrap ((BitVec.ofInt IntKind.u64.bits (IntKind.u64.wrap ((BitVec.ofInt IntKind.u64.bits ((Lib.leNat (w.take 8) : Nat) : Int) ||| BitVec.ofInt IntKind.u64.bits ((Lib.leNat (v.take 8) : Nat) : Int)).toNat : Int)) ||| BitVec.ofInt IntKind.u64.bits (IntKind.u64.wrap ((BitVec.ofInt IntKind.u64.bits ((Lib.leNat (u.take 8) : Nat) : Int) ||| BitVec.ofInt IntKind.u64.bits ((Lib.leNat (t.take 8) : Nat) : Int)).toNat : Int))).toNat : Int)) &&& BitVec.ofInt IntKind.u64.bits 9259542123273814144).toNat : Int) = 0) :
    (∀ b ∈ w.take 8, b.toNat < 128) ∧ (∀ b ∈ v.take 8, b.toNat < 128) ∧ (∀ b ∈ u.take 8, b.toNat < 128) ∧ (∀ b ∈ t.take 8, b.toNat < 128) := by
  have l1 := Nat.or_lt_two_pow (lt8 w) (lt8 v)
  have l2 := Nat.or_lt_two_pow (lt8 u) (lt8 t)
  rw [or_u64 (lt8 w) (lt8 v), or_u64 (lt8 u) (lt8 t), or_u64 l1 l2] at h
  have := mask_zero (Nat.or_lt_two_pow l1 l2) h
  rw [Lib.or_mask, Lib.or_mask, Lib.or_mask] at this
  exact ⟨asc_of hw this.1.1, asc_of hv this.1.2, asc_of hu this.2.1, asc_of ht this.2.2⟩
theorem Valid_c {o : Own} (l : List UInt8) (H : List AObj) (hl : l.length ≤ 100000) : ACalls Tryz.prog 49 [.sl o 1 (l.map byteAV)] H (fun x H' => x = .bool (Lib.validD l) ∧ H' = H) := by
  refine acalls_vc L_ok mixed [1000008, 1000010, 1000018, 1000022, 1000026] (rs := [.tmp 2]) (n := 188) Tryz.func49 rfl rfl rfl rfl (Nat.le_of_ble_eq_true rfl) (by kernel_rfl) ?_
  repeat' (first | refine unhold ?_ | (simp -dsimp -implicitDefEqProofs (disch := (first | assumption | omega | (simp only [ll1, ll2, ll3, ll4, ll5, ll6, ll7, ll8]; omega))) only [go_sem]) | refine vcI (fun _ => ?_) (fun _ => ?_) | (refine vcA ?_ ?_; focus (repeat' (first | omega | assumption | refine vcA ?_ ?_); done)) | omega | refine imp_in (fun _ => ?_))
  refine vc_loop L_ok mixed [] (fun m : List UInt8 => m.length ≤ l.length ∧ Lib.validD m = Lib.validD l) (fun m => [(0, .sl .sh 1 (m.map byteAV))]) (fun _ => H) (fun m => m.length) (by kernel_rfl) ?_ l ⟨Nat.le_refl _, rfl⟩ env_ok rfl
  intro m ⟨hm, hv⟩
  have hF := firstT_lt (m.getD 0 0).toNat
  repeat' (first | refine unhold ?_ | (simp -dsimp -implicitDefEqProofs (disch := (first | assumption | omega | (simp only [ll1, ll2, ll3, ll4, ll5, ll6, ll7, ll8]; omega))) only [go_sem, and7_first, first_div, first_div', accept_first]) | refine acalls_same (word_c _ _ ?_) ?_ | refine ⟨_, word_c _ _ ?_, ?_⟩ | refine ⟨_, _, word_c _ _ ?_, ?_⟩ | refine vcI (fun _ => ?_) (fun _ => ?_) | (refine vcA ?_ ?_; focus (repeat' (first | omega | assumption | refine vcA ?_ ?_); done)) | omega | refine imp_in (fun _ => ?_))
  · rename_i h1 h2 h3 h4 h5 h6
    have v1 := skip1 h1 h2 hv
    have v9 := skip (asc1 (by rw [List.length_drop]; omega) h4) v1
    have a2 := asc2 (w := m.drop 9) (v := m.drop 17) (by rw [List.length_drop]; omega) (by rw [List.length_drop]; omega) h6
    have v17 := skip a2.1 v9
    have v25 := skip a2.2 v17
    refine vc_loop L_ok mixed [] (fun q : List UInt8 => q.length < m.length ∧ Lib.validD q = Lib.validD l) (fun q => [(0, .sl .sh 1 (q.map byteAV))]) (fun _ => H) (fun q => q.length) (by kernel_rfl) ?_ (m.drop 25) ⟨by rw [List.length_drop]; omega, v25⟩ env_ok rfl
    intro q ⟨hq, hvq⟩
    repeat' (first | refine unhold ?_ | (simp -dsimp -implicitDefEqProofs (disch := (first | assumption | omega | (simp only [ll1, ll2, ll3, ll4, ll5, ll6, ll7, ll8]; omega))) only [go_sem]) | refine acalls_same (word_c _ _ ?_) ?_ | refine ⟨_, word_c _ _ ?_, ?_⟩ | refine ⟨_, _, word_c _ _ ?_, ?_⟩ | refine vcI (fun _ => ?_) (fun _ => ?_) | (refine vcA ?_ ?_; focus (repeat' (first | omega | assumption | refine vcA ?_ ?_); done)) | omega | refine imp_in (fun _ => ?_))
    · rename_i k1 k2
      have a4 := asc4 (w := q) (v := q.drop 8) (u := q.drop 16) (t := q.drop 24) (by omega) (by rw [List.length_drop]; omega) (by rw [List.length_drop]; omega) (by rw [List.length_drop]; omega) k2
      refine again (q.drop 32) ?_ ?_ rfl env_ok
      · simp only [List.length_drop]; omega
      · exact ⟨by simp only [List.length_drop]; omega, skip (n := 24) a4.2.2.2 (skip (n := 16) a4.2.2.1 (skip (n := 8) a4.2.1 (skip (n := 0) a4.1 hvq)))⟩
    · refine again (q) ?_ ?_ rfl env_ok
      · omega
      · exact ⟨by omega, hvq⟩
    · refine again (q) ?_ ?_ rfl env_ok
      · omega
      · exact ⟨by omega, hvq⟩
  · rename_i h1 h2 h3 h4 h5 h6
    have v1 := skip1 h1 h2 hv
    refine again (m.drop 9) ?_ ?_ rfl env_ok
    · simp only [List.length_drop]; omega
    · exact ⟨by simp only [List.length_drop]; omega, skip (asc1 (by rw [List.length_drop]; omega) h4) v1⟩
  · rename_i h1 h2 h3 h4 h5
    have v1 := skip1 h1 h2 hv
    refine again (m.drop 9) ?_ ?_ rfl env_ok
    · simp only [List.length_drop]; omega
    · exact ⟨by simp only [List.length_drop]; omega, skip (asc1 (by rw [List.length_drop]; omega) h4) v1⟩
  · rename_i h1 h2 h3 h4
    refine again (m.drop 1) ?_ ?_ rfl env_ok
    · simp only [List.length_drop]; omega
    · exact ⟨by simp only [List.length_drop]; omega, skip1 h1 h2 hv⟩
  · rename_i h1 h2 h3
    refine again (m.drop 1) ?_ ?_ rfl env_ok
    · simp only [List.length_drop]; omega
    · exact ⟨by simp only [List.length_drop]; omega, skip1 h1 h2 hv⟩
  · exact done_drop (.lit _) ⟨bool_eq (by rw [← hv, lead_false (by omega) (by omega) (by omega)]), rfl⟩
  · exact done_drop (.lit _) ⟨bool_eq (by rw [← hv, lead_false (by omega) (by omega) (by omega)]), rfl⟩
  · exact done_drop (.lit _) ⟨bool_eq (by rw [← hv, lead_false (by omega) (by omega) (by omega)]), rfl⟩
  · refine again_cut (m.drop 2) ?_ ?_ (by repeat (first | exact envLow_nil | (refine envLow_cons ?_ ?_; focus (first | (first | exact .lit _ | exact .str _ | exact .any | exact low_bytes | exact low_runes | exact .mp _ _ (by omega) | exact .msl _ _ _ _ (by omega) | exact low_nilsl (fun k e => by cases e) | exact low_jAV _ | exact low_jsl | exact low_ssl | exact low_fn0 | exact low_ipJ _) | (refine low_tup ?_; repeat (first | exact lowAll_nil | (refine lowAll_cons ?_ ?_; focus (first | exact .lit _ | exact .str _ | exact .any | exact low_bytes | exact low_runes | exact .mp _ _ (by omega) | exact .msl _ _ _ _ (by omega) | exact low_nilsl (fun k e => by cases e) | exact low_jAV _ | exact low_jsl | exact low_ssl | exact low_fn0 | exact low_ipJ _)))) | (refine low_agg ?_; repeat (first | exact lowAll_nil | (refine lowAll_cons ?_ ?_; focus (first | exact .lit _ | exact .str _ | exact .any | exact low_bytes | exact low_runes | exact .mp _ _ (by omega) | exact .msl _ _ _ _ (by omega) | exact low_nilsl (fun k e => by cases e) | exact low_jAV _ | exact low_jsl | exact low_ssl | exact low_fn0 | exact low_ipJ _)))))))) env_ok
    · simp only [List.length_drop]; omega
    · exact ⟨by simp only [List.length_drop]; omega, (lead_some (by omega) (by omega) (by omega) (by omega) (by omega) (by omega)).trans hv⟩
  · exact done_drop (.lit _) ⟨bool_eq (by rw [← hv, lead_false (by omega) (by omega) (by omega)]), rfl⟩
  · exact done_drop (.lit _) ⟨bool_eq (by rw [← hv, lead_false (by omega) (by omega) (by omega)]), rfl⟩
  · exact done_drop (.lit _) ⟨bool_eq (by rw [← hv, lead_false (by omega) (by omega) (by omega)]), rfl⟩
  · exact done_drop (.lit _) ⟨bool_eq (by rw [← hv, lead_false (by omega) (by omega) (by omega)]), rfl⟩
  · exact done_drop (.lit _) ⟨bool_eq (by rw [← hv, lead_false (by omega) (by omega) (by omega)]), rfl⟩
  · refine again_cut (m.drop 3) ?_ ?_ (by repeat (first | exact envLow_nil | (refine envLow_cons ?_ ?_; focus (first | (first | exact .lit _ | exact .str _ | exact .any | exact low_bytes | exact low_runes | exact .mp _ _ (by omega) | exact .msl _ _ _ _ (by omega) | exact low_nilsl (fun k e => by cases e) | exact low_jAV _ | exact low_jsl | exact low_ssl | exact low_fn0 | exact low_ipJ _) | (refine low_tup ?_; repeat (first | exact lowAll_nil | (refine lowAll_cons ?_ ?_; focus (first | exact .lit _ | exact .str _ | exact .any | exact low_bytes | exact low_runes | exact .mp _ _ (by omega) | exact .msl _ _ _ _ (by omega) | exact low_nilsl (fun k e => by cases e) | exact low_jAV _ | exact low_jsl | exact low_ssl | exact low_fn0 | exact low_ipJ _)))) | (refine low_agg ?_; repeat (first | exact lowAll_nil | (refine lowAll_cons ?_ ?_; focus (first | exact .lit _ | exact .str _ | exact .any | exact low_bytes | exact low_runes | exact .mp _ _ (by omega) | exact .msl _ _ _ _ (by omega) | exact low_nilsl (fun k e => by cases e) | exact low_jAV _ | exact low_jsl | exact low_ssl | exact low_fn0 | exact low_ipJ _)))))))) env_ok
    · simp only [List.length_drop]; omega
    · exact ⟨by simp only [List.length_drop]; omega, (lead_some (by omega) (by omega) (by omega) (by omega) (by omega) (by omega)).trans hv⟩
  · exact done_drop (.lit _) ⟨bool_eq (by rw [← hv, lead_false (by omega) (by omega) (by omega)]), rfl⟩
  · exact done_drop (.lit _) ⟨bool_eq (by rw [← hv, lead_false (by omega) (by omega) (by omega)]), rfl⟩
  · exact done_drop (.lit _) ⟨bool_eq (by rw [← hv, lead_false (by omega) (by omega) (by omega)]), rfl⟩
  · exact done_drop (.lit _) ⟨bool_eq (by rw [← hv, lead_false (by omega) (by omega) (by omega)]), rfl⟩
  · exact done_drop (.lit _) ⟨bool_eq (by rw [← hv, lead_false (by omega) (by omega) (by omega)]), rfl⟩
  · exact done_drop (.lit _) ⟨bool_eq (by rw [← hv, lead_false (by omega) (by omega) (by omega)]), rfl⟩
  · exact done_drop (.lit _) ⟨bool_eq (by rw [← hv, lead_false (by omega) (by omega) (by omega)]), rfl⟩
  · refine again_cut (m.drop 4) ?_ ?_ (by repeat (first | exact envLow_nil | (refine envLow_cons ?_ ?_; focus (first | (first | exact .lit _ | exact .str _ | exact .any | exact low_bytes | exact low_runes | exact .mp _ _ (by omega) | exact .msl _ _ _ _ (by omega) | exact low_nilsl (fun k e => by cases e) | exact low_jAV _ | exact low_jsl | exact low_ssl | exact low_fn0 | exact low_ipJ _) | (refine low_tup ?_; repeat (first | exact lowAll_nil | (refine lowAll_cons ?_ ?_; focus (first | exact .lit _ | exact .str _ | exact .any | exact low_bytes | exact low_runes | exact .mp _ _ (by omega) | exact .msl _ _ _ _ (by omega) | exact low_nilsl (fun k e => by cases e) | exact low_jAV _ | exact low_jsl | exact low_ssl | exact low_fn0 | exact low_ipJ _)))) | (refine low_agg ?_; repeat (first | exact lowAll_nil | (refine lowAll_cons ?_ ?_; focus (first | exact .lit _ | exact .str _ | exact .any | exact low_bytes | exact low_runes | exact .mp _ _ (by omega) | exact .msl _ _ _ _ (by omega) | exact low_nilsl (fun k e => by cases e) | exact low_jAV _ | exact low_jsl | exact low_ssl | exact low_fn0 | exact low_ipJ _)))))))) env_ok
    · simp only [List.length_drop]; omega
    · exact ⟨by simp only [List.length_drop]; omega, (lead_some (by omega) (by omega) (by omega) (by omega) (by omega) (by omega)).trans hv⟩
  · exact done_drop (.lit _) ⟨bool_eq (by rw [← hv, lead_false (by omega) (by omega) (by omega)]), rfl⟩
  · have : m = [] := List.eq_nil_of_length_eq_zero (by omega)
    subst this
    exact done_same ⟨bool_eq hv, rfl⟩
end Go.Proofs.YtdahdbnfknmmgaaGreatDoor
end

section
set_option linter.unusedSimpArgs false
set_option linter.unusedVariables false
namespace Go.Proofs.YtdahdbnfknmmgaaGreatDoor
open Go V
set_option maxRecDepth 10000

inductive JV where
  | mk (kind num : Int) (text : List UInt8) (names : List (List UInt8)) (items : List JV)
instance : Inhabited JV := ⟨.mk 0 0 [] [] []⟩
def JV.kind : JV → Int | .mk k _ _ _ _ => k
def JV.num : JV → Int | .mk _ n _ _ _ => n
def JV.text : JV → List UInt8 | .mk _ _ t _ _ => t
def JV.names : JV → List (List UInt8) | .mk _ _ _ ns _ => ns
def JV.items : JV → List JV | .mk _ _ _ _ is => is
def zeroJ : JV := .mk 0 0 [] [] []
mutual
def jAV : JV → AV
  | .mk k n t ns is => .agg [.lit (.int .i64 k), .lit (.int .i64 n), .str t, .sl .sh 1 (ns.map .str), .sl .sh 5 (jAVs is)]
def jAVs : List JV → List AV
  | [] => []
  | v :: r => jAV v :: jAVs r
end
theorem jAVs_eq : ∀ l, jAVs l = l.map jAV
  | [] => by unfold jAVs; rfl
  | v :: r => by unfold jAVs; rw [jAVs_eq r]; rfl
theorem jAV_mk (k n : Int) (t : List UInt8) (ns : List (List UInt8)) (is : List JV) : jAV (.mk k n t ns is) = .agg [.lit (.int .i64 k), .lit (.int .i64 n), .str t, .sl .sh 1 (ns.map .str), .sl .sh 5 (is.map jAV)] := by
  rw [← jAVs_eq]; unfold jAV; rfl
theorem jAV_eq (v : JV) : jAV v = .agg [.lit (.int .i64 v.kind), .lit (.int .i64 v.num), .str v.text, .sl .sh 1 (v.names.map .str), .sl .sh 5 (v.items.map jAV)] := by
  cases v; exact jAV_mk ..
theorem JV.induct {p : JV → Prop} (h : ∀ k n t ns is, (∀ x ∈ is, p x) → p (.mk k n t ns is)) : ∀ v, p v := by
  intro v
  refine JV.rec (motive_1 := p) (motive_2 := fun l => ∀ x ∈ l, p x) (fun k n t ns is ih => h k n t ns is ih) (fun x hx => by cases hx) (fun v r hv hr x hx => ?_) v
  rcases List.mem_cons.1 hx with rfl | hx
  · exact hv
  · exact hr x hx

/-! Order of names -/
abbrev bytes := List UInt8
def lessB (a b : bytes) : Bool := Op.bytesLess a b
def srt : List bytes → Bool
  | a :: b :: r => lessB a b && srt (b :: r)
  | _ => true
def pos (ns : List bytes) (s : bytes) : Nat := (ns.takeWhile (lessB · s)).length
def jput (v : JV) (s : bytes) (x : JV) : JV :=
  if v.names[pos v.names s]? = some s then .mk v.kind v.num v.text v.names (v.items.set (pos v.names s) x)
  else .mk v.kind v.num v.text (v.names.insertIdx (pos v.names s) s) (v.items.insertIdx (pos v.names s) x)
def jget (v : JV) (s : bytes) : Option JV :=
  if v.kind = 6 then (match v.names.findIdx? (fun n => n == s) with | some i => v.items[i]? | none => none) else none

/-! Right, deep -/
def bareJ (v : JV) : Bool := decide (v.num = 0) && decide (v.text = [])
def leafJ (v : JV) : Bool := decide (v.names = []) && decide (v.items = [])
def namedJ (v : JV) : Bool := decide (v.names.length = v.items.length) && v.names.all Lib.validD && srt v.names
def oneJ (v : JV) : Bool :=
  if v.kind = 0 ∨ v.kind = 1 ∨ v.kind = 2 then bareJ v && leafJ v
  else if v.kind = 3 then leafJ v && decide (v.text = []) && decide (-9007199254740991 ≤ v.num ∧ v.num ≤ 9007199254740991)
  else if v.kind = 4 then leafJ v && decide (v.num = 0) && Lib.validD v.text
  else false
def manyJ (v : JV) : Bool :=
  if v.kind = 5 then bareJ v && decide (v.names = [])
  else if v.kind = 6 then bareJ v && namedJ v
  else false
def rightJ : Nat → JV → Bool
  | 0, v => oneJ v
  | n + 1, v => oneJ v || (manyJ v && v.items.all (rightJ n))
def deepJ : Nat → JV → Nat
  | 0, _ => 0
  | n + 1, v => if v.kind = 5 ∨ v.kind = 6 then (v.items.map (deepJ n)).foldl max 0 + 1 else 0

/-! Parsing -/
def isBlank (c : UInt8) : Bool := c == 32 || c == 9 || c == 10 || c == 13
def isDigit (c : UInt8) : Bool := decide (48 ≤ c.toNat ∧ c.toNat ≤ 57)
def blanks (r : bytes) : bytes := r.dropWhile isBlank
def skipW (w r : bytes) : Option bytes := if w.isPrefixOf r then some (r.drop w.length) else none
def peek (r : bytes) : UInt8 := r.headD 0
def hexV (c : UInt8) : Option Nat :=
  if 48 ≤ c.toNat ∧ c.toNat ≤ 57 then some (c.toNat - 48) else if 97 ≤ c.toNat ∧ c.toNat ≤ 102 then some (c.toNat - 87) else if 65 ≤ c.toNat ∧ c.toNat ≤ 70 then some (c.toNat - 55) else none
def isHex (c : UInt8) : Bool := (hexV c).isSome
def hexNum (l : bytes) : Nat := l.foldl (fun n c => n * 16 + (hexV c).getD 0) 0
def unitP (r : bytes) : Int × Bool × bytes :=
  if r.length < 4 then (0, false, r) else if (r.take 4).all isHex then (hexNum (r.take 4), true, r.drop 4) else (0, false, r)
def joined (h l : Int) : Int × Bool := if h < 55296 ∨ 56319 < h ∨ l < 56320 ∨ 57343 < l then (0, false) else (65536 + (h - 55296) * 1024 + (l - 56320), true)
def halfR (r : Int) : Bool := decide (55296 ≤ r ∧ r ≤ 57343)
def lowP (h : Int) (r : bytes) : Int × Bool × bytes :=
  match skipW [92, 117] r with
  | none => (0, false, r)
  | some r2 => ((joined h (unitP r2).1).1, (unitP r2).2.1 && (joined h (unitP r2).1).2, (unitP r2).2.2)
def escSigns : bytes := [34, 92, 47, 98, 102, 110, 114, 116]
def escBytes : bytes := [34, 92, 47, 8, 12, 10, 13, 9]
/-- Behind the first byte of an escape: what it stands for, the error, what is left. -/
def escU (u : Int × Bool × bytes) : bytes × Int × bytes := if u.2.1 then (enc1 u.1, 0, u.2.2) else ([], 2, u.2.2)
def escP (r : bytes) : bytes × Int × bytes :=
  if escSigns.idxOf (peek r) < 8 then ([escBytes.getD (escSigns.idxOf (peek r)) 0], 0, r.drop 1)
  else match skipW [117] r with
    | none => ([], 2, r)
    | some r2 => escU (if (unitP r2).2.1 && halfR (unitP r2).1 then lowP (unitP r2).1 (unitP r2).2.2 else unitP r2)
def quotedGo : Nat → bytes → bytes → bytes × bytes × Int
  | 0, r, _ => ([], r, 2)
  | n + 1, r, out =>
    if (peek r).toNat < 32 then ([], r, 2)
    else if peek r = 34 then (out, r.drop 1, 0)
    else if peek r = 92 then
      if (escP (r.drop 1)).2.1 ≠ 0 then ([], (escP (r.drop 1)).2.2, (escP (r.drop 1)).2.1) else quotedGo n (escP (r.drop 1)).2.2 (out ++ (escP (r.drop 1)).1)
    else quotedGo n (r.drop 1) (out ++ [peek r])
/-- A text: itself, what is left, the error. -/
def quotedP (r : bytes) : bytes × bytes × Int :=
  match skipW [34] r with
  | none => ([], r, 2)
  | some r2 => quotedGo (r2.length + 1) r2 []
def decVal (l : bytes) : Nat := l.foldl (fun n c => n * 10 + (c.toNat - 48)) 0
def numLen (r : bytes) : Nat := if peek r = 48 then 1 else (r.takeWhile isDigit).length
def numGo (below : Bool) (r : bytes) : Int × bytes × Int :=
  if numLen r = 0 ∨ (below = true ∧ peek r = 48) then (0, r, 2)
  else if 9007199254740991 < decVal (r.take (numLen r)) then (0, r.drop (numLen r), 5)
  else (if below then -(decVal (r.take (numLen r)) : Int) else decVal (r.take (numLen r)), r.drop (numLen r), 0)
def numP (r : bytes) : Int × bytes × Int :=
  match skipW [45] r with
  | none => numGo false r
  | some r2 => numGo true r2
/-- The name of an object's item, with its colon. -/
def nameP (v : JV) (r : bytes) : bytes × bytes × Int :=
  let q := quotedP (blanks r)
  let e := if (jget v q.1).isSome ∧ q.2.2 = 0 then 6 else q.2.2
  match skipW [58] (blanks q.2.1) with
  | none => (q.1, blanks q.2.1, if e = 0 then 2 else e)
  | some r4 => (q.1, r4, e)
def treeEnd (k : JV → bytes → JV × bytes × Int) (e : UInt8) (v : JV) (r : bytes) (err : Int) : JV × bytes × Int :=
  if err ≠ 0 then (zeroJ, blanks r, err)
  else match skipW [e] (blanks r) with
    | some r4 => (v, r4, 0)
    | none => match skipW [44] (blanks r) with
      | some r4 => k v r4
      | none => (zeroJ, blanks r, 2)
def addJ (v x : JV) : JV := .mk v.kind v.num v.text v.names (v.items ++ [x])
def treeGo (f : bytes → JV × bytes × Int) (e : UInt8) : Nat → JV → bytes → JV × bytes × Int
  | 0, _, r => (zeroJ, r, 2)
  | n + 1, v, r =>
    if v.kind = 6 then
      if (nameP v r).2.2 ≠ 0 then (zeroJ, (nameP v r).2.1, (nameP v r).2.2)
      else treeEnd (treeGo f e n) e (jput v (nameP v r).1 (f (nameP v r).2.1).1) (f (nameP v r).2.1).2.1 (f (nameP v r).2.1).2.2
    else treeEnd (treeGo f e n) e (addJ v (f r).1) (f r).2.1 (f r).2.2
def treeP (f : bytes → JV × bytes × Int) (e : UInt8) (v : JV) (r : bytes) : JV × bytes × Int :=
  match skipW [e] (blanks r) with
  | some r2 => (v, r2, 0)
  | none => treeGo f e ((blanks r).length + 1) v (blanks r)
def listJ : JV := .mk 5 0 [] [] []
def objJ : JV := .mk 6 0 [] [] []
def wNull : bytes := [110, 117, 108, 108]
def wTrue : bytes := [116, 114, 117, 101]
def wFalse : bytes := [102, 97, 108, 115, 101]
/-- What doesn't begin with a bracket. -/
def leafP (r : bytes) : Option (JV × bytes × Int) :=
  match skipW wNull r with
  | some r2 => some (zeroJ, r2, 0)
  | none => match skipW wTrue r with
    | some r2 => some (.mk 1 0 [] [] [], r2, 0)
    | none => match skipW wFalse r with
      | some r2 => some (.mk 2 0 [] [] [], r2, 0)
      | none =>
        if peek r = 34 then some (.mk 4 0 (quotedP r).1 [] [], (quotedP r).2.1, (quotedP r).2.2)
        else if peek r = 45 ∨ isDigit (peek r) = true then some (.mk 3 (numP r).1 [] [] [], (numP r).2.1, (numP r).2.2)
        else if peek r ≠ 91 ∧ peek r ≠ 123 then some (zeroJ, r, 2)
        else none
def valueP : Nat → bytes → JV × bytes × Int
  | 0, r => (leafP (blanks r)).getD (zeroJ, blanks r, 4)
  | n + 1, r => (leafP (blanks r)).getD (if peek (blanks r) = 91 then treeP (valueP n) 93 listJ ((blanks r).drop 1) else treeP (valueP n) 125 objJ ((blanks r).drop 1))
def parseP (s : bytes) : JV × Int :=
  if 8192 < s.length then (zeroJ, 3)
  else if Lib.validD s = false then (zeroJ, 2)
  else if (valueP 12 s).2.2 ≠ 0 then (zeroJ, (valueP 12 s).2.2)
  else if blanks (valueP 12 s).2.1 ≠ [] then (zeroJ, 2)
  else ((valueP 12 s).1, 0)
end Go.Proofs.YtdahdbnfknmmgaaGreatDoor
end

section
set_option linter.unusedSimpArgs false
set_option linter.unusedVariables false
namespace Go.Proofs.YtdahdbnfknmmgaaGreatDoor
open Go V
set_option maxRecDepth 10000
theorem lessB_eq (a b : bytes) : lessB a b = decide (a < b) := Proofs.bytesLess_eq a b
theorem lessB_irrefl (a : bytes) : lessB a a = false := by
  rw [lessB_eq, decide_eq_false_iff_not]; exact List.lt_irrefl a
theorem lessB_trans {a b c : bytes} (h : lessB a b = true) (k : lessB b c = true) : lessB a c = true := by
  rw [lessB_eq, decide_eq_true_eq] at *; exact List.lt_trans h k
theorem lessB_asymm {a b : bytes} (h : lessB a b = true) : lessB b a = false := by
  cases e : lessB b a with
  | false => rfl
  | true => have := lessB_trans h e; rw [lessB_irrefl] at this; cases this
theorem lessB_tri {a b : bytes} (h : lessB a b = false) (k : lessB b a = false) : a = b := by
  rw [lessB_eq, decide_eq_false_iff_not] at *
  exact List.le_antisymm k h
theorem lessB_ne {a b : bytes} (h : lessB a b = true) : a ≠ b := by
  intro e; subst e; rw [lessB_irrefl] at h; cases h
theorem srt_tail {a : bytes} {l : List bytes} (h : srt (a :: l) = true) : srt l = true := by
  cases l with
  | nil => rfl
  | cons b r => simp only [srt, Bool.and_eq_true] at h; exact h.2
theorem srt_head : ∀ {l : List bytes} {a : bytes}, srt (a :: l) = true → ∀ b ∈ l, lessB a b = true
  | [], a, _, b, hb => by cases hb
  | c :: r, a, h, b, hb => by
    simp only [srt, Bool.and_eq_true] at h
    rcases List.mem_cons.1 hb with rfl | hb
    · exact h.1
    · exact lessB_trans h.1 (srt_head h.2 b hb)
theorem srt_cons {a : bytes} {l : List bytes} (h : ∀ b ∈ l, lessB a b = true) (k : srt l = true) : srt (a :: l) = true := by
  cases l with
  | nil => rfl
  | cons b r => simp only [srt, Bool.and_eq_true]; exact ⟨h b (List.mem_cons_self ..), k⟩
theorem srt_pair {l : List bytes} (h : srt l = true) : l.Pairwise (fun a b => lessB a b = true) := by
  induction l with
  | nil => exact .nil
  | cons a l ih => exact .cons (srt_head h) (ih (srt_tail h))
theorem srt_of_pair {l : List bytes} (h : l.Pairwise (fun a b => lessB a b = true)) : srt l = true := by
  induction l with
  | nil => rfl
  | cons a l ih =>
    rw [List.pairwise_cons] at h
    exact srt_cons h.1 (ih h.2)
theorem srt_lt {l : List bytes} (h : srt l = true) {i j : Nat} {a b : bytes} (hij : i < j) (hi : l[i]? = some a) (hj : l[j]? = some b) : lessB a b = true := by
  have hjl := lt_of_get hj
  have hil := lt_of_get hi
  have := List.pairwise_iff_getElem.1 (srt_pair h) i j hil hjl hij
  rw [List.getElem?_eq_getElem hil] at hi
  rw [List.getElem?_eq_getElem hjl] at hj
  cases hi
  cases hj
  exact this
theorem pos_le (l : List bytes) (s : bytes) : pos l s ≤ l.length := (List.takeWhile_sublist _).length_le
theorem pos_cons (a : bytes) (l : List bytes) (s : bytes) : pos (a :: l) s = if lessB a s = true then pos l s + 1 else 0 := by
  unfold pos
  rw [List.takeWhile_cons]
  split <;> rfl
theorem pos_below : ∀ {l : List bytes} {s : bytes} {i : Nat} {a : bytes}, i < pos l s → l[i]? = some a → lessB a s = true
  | [], s, i, a, h, e => by simp at e
  | b :: l, s, i, a, h, e => by
    rw [pos_cons] at h
    split at h
    · rename_i hb
      cases i with
      | zero => simp at e; subst e; exact hb
      | succ i => exact pos_below (l := l) (i := i) (by omega) (by simpa using e)
    · omega
theorem pos_at : ∀ {l : List bytes} {s a : bytes}, l[pos l s]? = some a → lessB a s = false
  | [], s, a, e => by simp at e
  | b :: l, s, a, e => by
    rw [pos_cons] at e
    split at e
    · exact pos_at (l := l) (by simpa using e)
    · rename_i hb
      simp at e; subst e; simpa using hb
theorem pos_unique {l : List bytes} {s : bytes} {i : Nat} (hi : i ≤ l.length) (h1 : ∀ j a, j < i → l[j]? = some a → lessB a s = true) (h2 : ∀ a, l[i]? = some a → lessB a s = false) : pos l s = i := by
  rcases Nat.lt_trichotomy (pos l s) i with h | h | h
  · have hil : pos l s < l.length := by omega
    obtain ⟨a, ha⟩ : ∃ a, l[pos l s]? = some a := ⟨_, List.getElem?_eq_getElem hil⟩
    have := h1 _ a h ha
    rw [pos_at ha] at this
    cases this
  · exact h
  · have hp := pos_le l s
    have hil : i < l.length := by omega
    obtain ⟨a, ha⟩ : ∃ a, l[i]? = some a := ⟨_, List.getElem?_eq_getElem hil⟩
    have h3 := pos_below h ha
    rw [h2 a ha] at h3
    cases h3
theorem srt_insert : ∀ {l : List bytes}, srt l = true → ∀ {s : bytes}, l[pos l s]? ≠ some s → srt (l.insertIdx (pos l s) s) = true
  | [], _, s, _ => rfl
  | a :: l, hl, s, hs => by
    rw [pos_cons] at hs ⊢
    split
    · rename_i h
      rw [if_pos h, List.getElem?_cons_succ] at hs
      rw [List.insertIdx_succ_cons]
      refine srt_cons (fun b hb => ?_) (srt_insert (srt_tail hl) hs)
      rcases (List.mem_insertIdx (pos_le l s)).1 hb with rfl | hb
      · exact h
      · exact srt_head hl b hb
    · rename_i h
      rw [if_neg h, List.getElem?_cons_zero] at hs
      rw [List.insertIdx_zero]
      have h1 : lessB s a = true := by
        cases e : lessB s a with
        | true => rfl
        | false => exact absurd (congrArg some (lessB_tri (by simpa using h) e)) hs
      exact srt_cons (fun b hb => by
        rcases List.mem_cons.1 hb with rfl | hb
        · exact h1
        · exact lessB_trans h1 (srt_head hl b hb)) hl
end Go.Proofs.YtdahdbnfknmmgaaGreatDoor
end

section
set_option linter.unusedSimpArgs false
set_option linter.unusedVariables false
namespace Go.Proofs.YtdahdbnfknmmgaaGreatDoor
open Go V
set_option maxRecDepth 10000
set_option maxHeartbeats 4000000
/-- A parser at what is left of its text. -/
def pObj (t r : bytes) (e : Int) : AObj := .cells (.one 59) [.str t, .lit (.int .i64 ((t.length - r.length : Nat) : Int)), .lit (.int .i64 e)]
theorem suf_len {r t : bytes} (h : r <:+ t) : r.length ≤ t.length := h.length_le
theorem suf_drop {r t : bytes} (h : r <:+ t) : t.drop (t.length - r.length) = r := (List.suffix_iff_eq_drop.1 h).symm
theorem suf_drop_n {r t : bytes} (h : r <:+ t) (n : Nat) : r.drop n <:+ t := (List.drop_suffix n r).trans h
theorem suf_blanks {r t : bytes} (h : r <:+ t) : blanks r <:+ t := (List.dropWhile_suffix _).trans h
theorem suf_skip {r t w r2 : bytes} (h : r <:+ t) (k : skipW w r = some r2) : r2 <:+ t := by
  unfold skipW at k
  split at k
  · cases k; exact suf_drop_n h _
  · cases k
theorem skip_len {r w r2 : bytes} (k : skipW w r = some r2) : r2.length + w.length = r.length := by
  unfold skipW at k
  split at k
  · rename_i hp
    cases k
    rw [prefix_dec, decide_eq_true_eq] at hp
    rw [List.length_drop]
    omega
  · cases k
theorem peek_at {r t : bytes} (h : r <:+ t) (hp : t.length - r.length < t.length) : t.getD (t.length - r.length) 0 = peek r := by
  obtain ⟨p, rfl⟩ := h
  have : (p ++ r).length - r.length = p.length := by simp
  rw [this, List.getD, List.getElem?_append_right (Nat.le_refl _), Nat.sub_self]
  cases r <;> simp [peek]
theorem peek_end {r : bytes} (h : r.length = 0) : peek r = 0 := by
  rw [List.eq_nil_of_length_eq_zero h]; rfl
theorem pObj_eq {t r' : bytes} {e e' : Int} {n : Int} (h : n = ((t.length - r'.length : Nat) : Int)) (he : e = e') : AObj.cells (.one 59) [.str t, .lit (.int .i64 n), .lit (.int .i64 e)] = AObj.cells (.one 59) [.str t, .lit (.int .i64 ((t.length - r'.length : Nat) : Int)), .lit (.int .i64 e')] := by rw [h, he]
theorem len_set {H : List AObj} {k : Nat} {o : AObj} : H.length ≤ (H.set k o).length := by simp
theorem peek_c {k : Nat} {t r : bytes} {e : Int} {H : List AObj} (hk : H[k]? = some (pObj t r e)) (hs : r <:+ t) (hl : t.length ≤ 10000) : ACalls Tryz.prog 53 [.mp k 0] H (fun x H' => x = .lit (.int .u8 (peek r).toNat) ∧ H' = H) := by
  have h1 := suf_len hs
  unfold pObj at *
  refine acalls_vc L_ok mixed [1000001, 1000003] (rs := [.tmp 2]) (n := 22) Tryz.func53 rfl rfl rfl rfl (Nat.le_of_ble_eq_true rfl) (by kernel_rfl) ?_
  repeat' (first | refine unhold ?_ | (simp -dsimp -implicitDefEqProofs (disch := (first | assumption | omega | (simp only [ll1, ll2, ll3, ll4, ll5, ll6, ll7, ll8]; omega))) only [go_sem, hk]) | refine vcI (fun _ => ?_) (fun _ => ?_) | (refine vcA ?_ ?_; focus (repeat' (first | omega | assumption | refine vcA ?_ ?_); done)) | omega | refine imp_in (fun _ => ?_))
  · exact done_same ⟨by rw [peek_end (r := r) (by omega)]; rfl, rfl⟩
  · exact done_same ⟨by rw [peek_at hs (by omega)], rfl⟩
theorem skip_c {k : Nat} {t r w : bytes} {e : Int} {H : List AObj} (hk : H[k]? = some (pObj t r e)) (hs : r <:+ t) (hl : t.length ≤ 10000) (hw : w.length ≤ 100) : ACalls Tryz.prog 54 [.mp k 0, .str w] H (fun x H' => x = .bool (skipW w r).isSome ∧ H' = H.set k (pObj t ((skipW w r).getD r) e)) := by
  have h1 := suf_len hs
  have h2 := suf_drop hs
  unfold pObj at *
  refine acalls_vc L_ok mixed [1000001] (rs := [.tmp 4]) (n := 26) Tryz.func54 rfl rfl rfl rfl (Nat.le_of_ble_eq_true rfl) (by kernel_rfl) ?_
  repeat' (first | refine unhold ?_ | (simp -dsimp -implicitDefEqProofs (disch := (first | assumption | omega | (simp only [ll1, ll2, ll3, ll4, ll5, ll6, ll7, ll8]; omega))) only [go_sem, hk, h2]) | refine acalls_same (HasPrefix_c _ _ _ (by omega)) ?_ | refine ⟨_, HasPrefix_c _ _ _ (by omega), ?_⟩ | refine ⟨_, _, HasPrefix_c _ _ _ (by omega), ?_⟩ | refine vcI (fun _ => ?_) (fun _ => ?_) | (refine vcA ?_ ?_; focus (repeat' (first | omega | assumption | refine vcA ?_ ?_); done)) | omega | refine imp_in (fun _ => ?_))
  · rename_i h
    refine done_same ⟨?_, ?_⟩
    · rw [skipW, h]; rfl
    · rw [skipW, h]; exact (set_same hk).symm
  · rename_i h
    refine done_keep _ (Le.refl _) len_set ⟨?_, ?_⟩
    · rw [skipW, h]; rfl
    · have e : skipW w r = some (r.drop w.length) := by rw [skipW, if_pos h]
      have := skip_len e
      rw [e, Option.getD_some]
      refine congrArg _ (pObj_eq ?_ rfl)
      omega
theorem blank_idx (c : UInt8) : (0 ≤ idxB [32, 9, 10, 13] c) = (isBlank c = true) := by
  unfold idxB isBlank
  simp only [List.idxOf_cons, List.idxOf_nil, List.length_cons, List.length_nil]
  by_cases h1 : c = 32
  · subst h1; decide
  by_cases h2 : c = 9
  · subst h2; decide
  by_cases h3 : c = 10
  · subst h3; decide
  by_cases h4 : c = 13
  · subst h4; decide
  have b1 : (32 == c) = false := beq_eq_false_iff_ne.2 (Ne.symm h1)
  have b2 : (9 == c) = false := beq_eq_false_iff_ne.2 (Ne.symm h2)
  have b3 : (10 == c) = false := beq_eq_false_iff_ne.2 (Ne.symm h3)
  have b4 : (13 == c) = false := beq_eq_false_iff_ne.2 (Ne.symm h4)
  simp [b1, b2, b3, b4, h1, h2, h3, h4]
theorem peek_ne {r t : bytes} (h : r <:+ t) (hp : t.length - r.length < t.length) : r ≠ [] ∧ 1 ≤ r.length := by
  cases r with
  | nil => simp at hp
  | cons c r => exact ⟨by simp, by simp⟩
theorem blanks_step {r : bytes} (h : r ≠ []) (hb : isBlank (peek r) = true) : blanks r = blanks (r.drop 1) := by
  cases r with
  | nil => exact absurd rfl h
  | cons c r => simp only [peek, List.headD_cons] at hb; simp [blanks, hb]
theorem blanks_stop {r : bytes} (hb : isBlank (peek r) = false) : blanks r = r := by
  cases r with
  | nil => rfl
  | cons c r => simp only [peek, List.headD_cons] at hb; simp [blanks, hb]
theorem blanks_c {k : Nat} {t r : bytes} {e : Int} {H : List AObj} (hk : H[k]? = some (pObj t r e)) (hs : r <:+ t) (hl : t.length ≤ 10000) : ACalls Tryz.prog 29 [.mp k 0] H (fun x H' => x = .tup [] ∧ H' = H.set k (pObj t (blanks r) e)) := by
  have hkl := lt_of_get hk
  refine acalls_vc L_ok mixed [1000000] (rs := []) (n := 32) Tryz.func29 rfl rfl rfl rfl (Nat.le_of_ble_eq_true rfl) (by kernel_rfl) ?_
  repeat' (first | refine unhold ?_ | (simp -dsimp -implicitDefEqProofs (disch := (first | assumption | omega | (simp only [ll1, ll2, ll3, ll4, ll5, ll6, ll7, ll8]; omega))) only [go_sem]) | refine vcI (fun _ => ?_) (fun _ => ?_) | (refine vcA ?_ ?_; focus (repeat' (first | omega | assumption | refine vcA ?_ ?_); done)) | omega | refine imp_in (fun _ => ?_))
  refine vc_loopk L_ok mixed [1000000] [0] (fun r' : bytes => r' <:+ t ∧ blanks r' = blanks r) (fun _ => []) (fun r' => H.set k (pObj t r' e)) (fun r' => r'.length) (by kernel_rfl) ?_ r ⟨hs, rfl⟩ env_ok (set_same hk).symm
  rintro r' ⟨hs', hb⟩
  have h1 := suf_len hs'
  unfold pObj at *
  repeat' (first | refine unhold ?_ | (simp -dsimp -implicitDefEqProofs (disch := (first | assumption | omega | (simp only [ll1, ll2, ll3, ll4, ll5, ll6, ll7, ll8]; omega))) only [go_sem]) | refine acalls_same (IndexByte_c _ _ _) ?_ | refine ⟨_, IndexByte_c _ _ _, ?_⟩ | refine ⟨_, _, IndexByte_c _ _ _, ?_⟩ | refine vcI (fun _ => ?_) (fun _ => ?_) | (refine vcA ?_ ?_; focus (repeat' (first | omega | assumption | refine vcA ?_ ?_); done)) | omega | refine imp_in (fun _ => ?_))
  · rename_i h2 h3
    obtain ⟨hne, h4⟩ := peek_ne hs' (by omega)
    rw [peek_at hs' (by omega), blank_idx] at h3
    refine again (r'.drop 1) ?_ ?_ ?_ env_ok
    · rw [List.length_drop]; omega
    · exact ⟨suf_drop_n hs' 1, by rw [← blanks_step hne h3]; exact hb⟩
    · refine congrArg _ (pObj_eq ?_ rfl)
      rw [List.length_drop]; omega
  · rename_i h2 h3
    rw [peek_at hs' (by omega)] at h3
    have h4 := blank_idx (peek r')
    rw [← hb, blanks_stop (by rw [Bool.eq_false_iff]; intro hc; rw [hc] at h4; have := h4.mpr rfl; omega)]
    exact done_keep _ (Le.refl _) len_set ⟨rfl, rfl⟩
  · rename_i h2
    have h4 : r' = [] := List.eq_nil_of_length_eq_zero (by omega)
    subst h4
    exact done_keep _ (Le.refl _) len_set ⟨rfl, by rw [← hb]; rfl⟩
theorem fail_c {k : Nat} {t r : bytes} {e e' : Int} {H : List AObj} (hk : H[k]? = some (pObj t r e)) : ACalls Tryz.prog 30 [.mp k 0, .lit (.int .i64 e')] H (fun x H' => x = .tup [] ∧ H' = H.set k (pObj t r (if e = 0 then e' else e))) := by
  unfold pObj at *
  refine acalls_vc L_ok mixed [] (rs := []) (n := 13) Tryz.func30 rfl rfl rfl rfl (Nat.le_of_ble_eq_true rfl) (by kernel_rfl) ?_
  repeat' (first | refine unhold ?_ | (simp -dsimp -implicitDefEqProofs (disch := (first | assumption | omega | (simp only [ll1, ll2, ll3, ll4, ll5, ll6, ll7, ll8]; omega))) only [go_sem, hk]) | refine vcI (fun _ => ?_) (fun _ => ?_) | (refine vcA ?_ ?_; focus (repeat' (first | omega | assumption | refine vcA ?_ ?_); done)) | omega | refine imp_in (fun _ => ?_))
  · rename_i h
    exact done_keep _ (Le.refl _) len_set ⟨rfl, by rw [if_pos h]⟩
  · rename_i h
    exact done_same ⟨rfl, by rw [if_neg h]; exact (set_same hk).symm⟩
end Go.Proofs.YtdahdbnfknmmgaaGreatDoor
end

section
set_option linter.unusedSimpArgs false
set_option linter.unusedVariables false
namespace Go.Proofs.YtdahdbnfknmmgaaGreatDoor
open Go V
set_option maxRecDepth 10000
set_option maxHeartbeats 4000000
theorem decVal_snoc (l : bytes) (c : UInt8) : decVal (l ++ [c]) = decVal l * 10 + (c.toNat - 48) := by simp [decVal]
theorem decVal_take {l : bytes} {i : Nat} (h : i < l.length) : decVal (l.take (i + 1)) = decVal (l.take i) * 10 + ((l.getD i 0).toNat - 48) := by rw [take_snoc h, decVal_snoc]
theorem decVal_mono (l : bytes) : ∀ (i j : Nat), i ≤ j → j ≤ l.length → decVal (l.take i) ≤ decVal (l.take j) := by
  intro i j hij
  induction j with
  | zero => intro _; obtain rfl : i = 0 := by omega
            exact Nat.le_refl _
  | succ j ih =>
    intro hj
    rcases Nat.lt_or_ge i (j + 1) with h | h
    · have := ih (by omega) (by omega)
      rw [decVal_take (by omega)]
      omega
    · have : i = j + 1 := by omega
      subst this; exact Nat.le_refl _
theorem u64_wrap (a : Int) : IntKind.u64.wrap a = a % 18446744073709551616 := by
  simp [IntKind.wrap, IntKind.signed, IntKind.bits]
def errRange : AV := .ifc 161 (.lit (.int .i64 1))
def uintR (n : Nat) : AV := if n < 18446744073709551616 then .tup [.lit (.int .u64 n), .lit .nilIface] else .tup [.lit (.int .u64 18446744073709551615), errRange]
theorem uintR_big {l : bytes} {i : Nat} (h : i < l.length) (hb : 18446744073709551616 ≤ decVal (l.take i) * 10 + ((l.getD i 0).toNat - 48)) : uintR (decVal l) = .tup [.lit (.int .u64 18446744073709551615), errRange] := by
  have := decVal_mono l (i + 1) l.length (by omega) (Nat.le_refl _)
  rw [decVal_take h, List.take_length] at this
  unfold uintR
  rw [if_neg (by omega)]
theorem ParseUint10_c (l : bytes) (H : List AObj) (hne : l ≠ []) (hl : l.length ≤ 10000) (hd : ∀ i, i < l.length → 48 ≤ (l.getD i 0).toNat ∧ (l.getD i 0).toNat ≤ 57) :
    ACalls Tryz.prog 128 [.str l, .lit (.int .i64 10), .lit (.int .i64 64)] H (fun x H' => x = uintR (decVal l) ∧ H' = H) := by
  refine acalls_vc L_ok mixed [] (rs := [.tmp 6, .tmp 7]) (n := 172) Tryz.func128 rfl rfl rfl rfl (Nat.le_of_ble_eq_true rfl) (by kernel_rfl) ?_
  repeat' (first | refine unhold ?_ | (simp -dsimp -implicitDefEqProofs (disch := (first | assumption | omega | (simp only [ll1, ll2, ll3, ll4, ll5, ll6, ll7, ll8]; omega))) only [go_sem, hne, u64_wrap]) | refine vcI (fun _ => ?_) (fun _ => ?_) | (refine vcA ?_ ?_; focus (repeat' (first | omega | assumption | refine vcA ?_ ?_); done)) | omega | refine imp_in (fun _ => ?_))
  refine vc_loopk L_ok mixed [] [1, 8, 9, 10, 11, 99, 100] (fun i : Nat => i ≤ l.length ∧ decVal (l.take i) < 18446744073709551616) (fun i => [(101, .int .i64 i), (13, .int .u64 (decVal (l.take i))), (12, .bool false)]) (fun _ => H) (fun i => l.length - i) (by kernel_rfl) ?_ 0 ⟨by omega, Nat.lt_of_le_of_lt (Nat.le_refl 0) (by omega)⟩ env_ok rfl
  rintro i ⟨hi, hv⟩
  have hdi := hd i
  have hb1 := @uintR_big l i
  have hb2 := @decVal_take l i
  repeat' (first | refine unhold ?_ | (simp -dsimp -implicitDefEqProofs (disch := (first | assumption | omega | (simp only [ll1, ll2, ll3, ll4, ll5, ll6, ll7, ll8]; omega))) only [go_sem, u8_wrap, u64_wrap]) | refine vcI (fun _ => ?_) (fun _ => ?_) | (refine vcA ?_ ?_; focus (repeat' (first | omega | assumption | refine vcA ?_ ?_); done)) | omega | refine imp_in (fun _ => ?_))
  · exact done_same ⟨(hb1 (by omega) (by omega)).symm, rfl⟩
  · exact done_same ⟨(hb1 (by omega) (by omega)).symm, rfl⟩
  · have hb3 := hb2 (by omega)
    refine again (i + 1) ?_ ?_ rfl env_ok
    · omega
    · exact ⟨by omega, by omega⟩
  · obtain rfl : i = l.length := by omega
    rw [List.take_length] at hv
    exact done_same ⟨by rw [uintR, if_pos hv], rfl⟩
/-- What ParseInt gives: a number, and an error where it is too great. -/
def intR (n : Nat) : AV := if n < 9223372036854775808 then .tup [.lit (.int .i64 n), .lit .nilIface] else .tup [.lit (.int .i64 9223372036854775807), errRange]
theorem ParseInt10_i (l : bytes) (H : List AObj) (hne : l ≠ []) (hl : l.length ≤ 10000) (hd : ∀ i, i < l.length → 48 ≤ (l.getD i 0).toNat ∧ (l.getD i 0).toNat ≤ 57) :
    ACalls Tryz.prog 109 [.str l, .lit (.int .i64 10), .lit (.int .i64 64)] H (fun x H' => x = intR (decVal l) ∧ H' = H) := by
  have h0 := hd 0
  have hpos : 0 < l.length := List.length_pos_iff.2 hne
  by_cases hv : decVal l < 18446744073709551616
  · have hu : uintR (decVal l) = .tup [.lit (.int .u64 (decVal l)), .lit .nilIface] := if_pos hv
    have hc := ParseUint10_c l H hne hl hd
    rw [hu] at hc
    refine acalls_vc L_ok mixed [] (rs := [.tmp 6, .tmp 7]) (n := 73) Tryz.func109 rfl rfl rfl rfl (Nat.le_of_ble_eq_true rfl) (by kernel_rfl) ?_
    repeat' (first | refine unhold ?_ | (simp -dsimp -implicitDefEqProofs (disch := (first | assumption | omega | (simp only [ll1, ll2, ll3, ll4, ll5, ll6, ll7, ll8]; omega))) only [go_sem, hne, u64_wrap]) | refine acalls_same (hc) ?_ | refine ⟨_, hc, ?_⟩ | refine ⟨_, _, hc, ?_⟩ | refine vcI (fun _ => ?_) (fun _ => ?_) | (refine vcA ?_ ?_; focus (repeat' (first | omega | assumption | refine vcA ?_ ?_); done)) | omega | refine imp_in (fun _ => ?_))
    · exact done_same ⟨by rw [intR, if_neg (by omega)]; rfl, rfl⟩
    · exact done_same ⟨by rw [intR, if_pos (by omega)], rfl⟩
  · have hu : uintR (decVal l) = .tup [.lit (.int .u64 18446744073709551615), .ifc 161 (.lit (.int .i64 1))] := if_neg hv
    have hc := ParseUint10_c l H hne hl hd
    rw [hu] at hc
    refine acalls_vc L_ok mixed [] (rs := [.tmp 6, .tmp 7]) (n := 73) Tryz.func109 rfl rfl rfl rfl (Nat.le_of_ble_eq_true rfl) (by kernel_rfl) ?_
    repeat' (first | refine unhold ?_ | (simp -dsimp -implicitDefEqProofs (disch := (first | assumption | omega | (simp only [ll1, ll2, ll3, ll4, ll5, ll6, ll7, ll8]; omega))) only [go_sem, hne, u64_wrap]) | refine acalls_same (hc) ?_ | refine ⟨_, hc, ?_⟩ | refine ⟨_, _, hc, ?_⟩ | refine vcI (fun _ => ?_) (fun _ => ?_) | (refine vcA ?_ ?_; focus (repeat' (first | omega | assumption | refine vcA ?_ ?_); done)) | omega | refine imp_in (fun _ => ?_))
    · exact done_same ⟨by rw [intR, if_neg (by omega)]; rfl, rfl⟩
end Go.Proofs.YtdahdbnfknmmgaaGreatDoor
end

section
set_option linter.unusedSimpArgs false
set_option linter.unusedVariables false
namespace Go.Proofs.YtdahdbnfknmmgaaGreatDoor
open Go V
set_option maxRecDepth 10000
set_option maxHeartbeats 4000000
def setAV (l : List UInt8) : List AV := (List.range 256).map fun i => .lit (.bool (l.any fun c => c.toNat == i))
theorem setAV_len (l : List UInt8) : (setAV l).length = 256 := by simp [setAV]
theorem setAV_nil : List.replicate 256 (AV.lit (.bool false)) = setAV [] := by
  unfold setAV
  simp only [List.any_nil]
  rw [List.map_const', List.length_range]
theorem setAV_get (l : List UInt8) (c : UInt8) : (setAV l).getD c.toNat .any = .lit (.bool (l.any fun d => d.toNat == c.toNat)) := by
  have := c.toNat_lt
  unfold setAV
  rw [List.getD, List.getElem?_map, List.getElem?_range (by omega)]
  rfl
theorem any_toNat (l : List UInt8) (c : UInt8) : (l.any fun d => d.toNat == c.toNat) = l.contains c := by
  rw [Bool.eq_iff_iff, List.any_eq_true]
  simp only [beq_iff_eq, List.contains_iff_mem]
  constructor
  · rintro ⟨d, hd, e⟩
    rwa [← UInt8.toNat_inj.1 e]
  · intro h
    exact ⟨c, h, rfl⟩
theorem setAV_set (l : List UInt8) (c : UInt8) : (setAV l).set c.toNat (.lit (.bool true)) = setAV (l ++ [c]) := by
  refine List.ext_getElem? fun i => ?_
  rw [List.getElem?_set]
  unfold setAV
  simp only [List.getElem?_map, List.length_map, List.length_range]
  have := c.toNat_lt
  by_cases hi : i < 256
  · rw [List.getElem?_range hi]
    by_cases h : c.toNat = i
    · subst h
      simp
      omega
    · simp [h]
  · rw [List.getElem?_eq_none (by simpa using hi)]
    simp
    omega
theorem aset_self {cs xs : List AV} (h : cs.length = xs.length) : aset cs 0 xs = xs := by
  refine List.ext_getElem? fun k => ?_
  rw [aset_get]
  by_cases hk : k < xs.length
  · rw [if_pos ⟨by omega, by omega, by omega⟩, Nat.sub_zero]
  · rw [if_neg (by omega), List.getElem?_eq_none (by omega), List.getElem?_eq_none (by omega)]
theorem setAV_ok (l : List UInt8) : (setAV l).all AV.scalar = true := by
  rw [List.all_eq_true]
  intro x hx
  obtain ⟨i, _, rfl⟩ := List.mem_map.1 hx
  rfl
theorem setAV_take (l : List UInt8) : (setAV l).take 256 = setAV l := List.take_of_length_le (by rw [setAV_len]; omega)
theorem setAV_aset (l m : List UInt8) : aset (setAV l) 0 (setAV m) = setAV m := aset_self (by rw [setAV_len, setAV_len])
theorem low_setAV {m : Nat} {l : List UInt8} : Low m (.agg (setAV l)) := .agg _ fun x hx => by
  obtain ⟨i, _, rfl⟩ := List.mem_map.1 hx
  exact .lit _
theorem makeSet_c (l : List UInt8) (H : List AObj) (hl : l.length ≤ 1000) (ha : ∀ i, i < l.length → (l.getD i 0).toNat < 128) : ACalls Tryz.prog 145 [.str l] H (fun x H' => x = .tup [.agg (setAV l), .bool true] ∧ H' = H) := by
  refine acalls_vc L_ok mixed [] (rs := [.cell 2 187, .tmp 3]) (n := 21) Tryz.func145 rfl rfl rfl rfl (Nat.le_of_ble_eq_true rfl) (by kernel_rfl) ?_
  repeat' (first | refine unhold ?_ | (simp -dsimp -implicitDefEqProofs (disch := (first | assumption | omega | (simp only [ll1, ll2, ll3, ll4, ll5, ll6, ll7, ll8]; omega))) only [go_sem]) | refine vcI (fun _ => ?_) (fun _ => ?_) | (refine vcA ?_ ?_; focus (repeat' (first | omega | assumption | refine vcA ?_ ?_); done)) | omega | refine imp_in (fun _ => ?_))
  refine vc_loopk L_ok mixed [] [0, 2] (fun i : Nat => i ≤ l.length) (fun i => [(4, .int .i64 i)]) (fun i => H ++ [.cells (.one 187) (setAV (l.take i))]) (fun i => l.length - i) (by kernel_rfl) ?_ 0 (by omega) env_ok (by rw [List.take_zero, ← setAV_nil])
  intro i hi
  have hai := ha i
  repeat' (first | refine unhold ?_ | (simp -dsimp -implicitDefEqProofs (disch := (first | assumption | omega | (simp only [ll1, ll2, ll3, ll4, ll5, ll6, ll7, ll8]; omega))) only [go_sem, setAV_len, setAV_ok, setAV_take, setAV_aset]) | refine vcI (fun _ => ?_) (fun _ => ?_) | (refine vcA ?_ ?_; focus (repeat' (first | omega | assumption | refine vcA ?_ ?_); done)) | omega | refine imp_in (fun _ => ?_))
  · refine again (i + 1) ?_ ?_ ?_ env_ok
    · omega
    · omega
    · rw [setAV_set, take_snoc (by omega)]
  · obtain rfl : i = l.length := by omega
    exact done_cut _ (Le.refl _) (low_tup (lowAll_cons low_setAV (lowAll_cons (.lit _) lowAll_nil))) ⟨rfl, rfl⟩
theorem setHas_c (l : List UInt8) (c : UInt8) {k : Nat} {H : List AObj} (hk : H[k]? = some (.cells (.one 187) (setAV l))) : ACalls Tryz.prog 160 [.mp k 0, .lit (.int .u8 c.toNat)] H (fun x H' => x = .bool (l.contains c) ∧ H' = H) := by
  refine acalls_vc L_ok mixed [] (rs := [.tmp 4]) (n := 10) Tryz.func160 rfl rfl rfl rfl (Nat.le_of_ble_eq_true rfl) (by kernel_rfl) ?_
  repeat' (first | refine unhold ?_ | (simp -dsimp -implicitDefEqProofs (disch := (first | assumption | omega | (simp only [ll1, ll2, ll3, ll4, ll5, ll6, ll7, ll8]; omega))) only [go_sem, hk, setAV_len, setAV_get, any_toNat]) | refine vcI (fun _ => ?_) (fun _ => ?_) | (refine vcA ?_ ?_; focus (repeat' (first | omega | assumption | refine vcA ?_ ?_); done)) | omega | refine imp_in (fun _ => ?_))
  exact done_same ⟨rfl, rfl⟩
def trimL (p : UInt8 → Bool) (l : List UInt8) : List UInt8 := l.dropWhile p
def trimR (p : UInt8 → Bool) (l : List UInt8) : List UInt8 := (l.reverse.dropWhile p).reverse
theorem trimR_stop {p : UInt8 → Bool} {l : List UInt8} (h : 0 < l.length) (hp : p (l.getD (l.length - 1) 0) = false) : trimR p l = l := by
  obtain ⟨m, c, rfl⟩ : ∃ m c, l = m ++ [c] := ⟨l.dropLast, l.getLast (List.ne_nil_of_length_pos h), (List.dropLast_concat_getLast _).symm⟩
  unfold trimR
  have : (m ++ [c]).getD ((m ++ [c]).length - 1) 0 = c := by simp [List.getD]
  rw [this] at hp
  simp [hp]
theorem trimR_step {p : UInt8 → Bool} {l : List UInt8} (h : 0 < l.length) (hp : p (l.getD (l.length - 1) 0) = true) : trimR p l = trimR p (l.take (l.length - 1)) := by
  obtain ⟨m, c, rfl⟩ : ∃ m c, l = m ++ [c] := ⟨l.dropLast, l.getLast (List.ne_nil_of_length_pos h), (List.dropLast_concat_getLast _).symm⟩
  unfold trimR
  have : (m ++ [c]).getD ((m ++ [c]).length - 1) 0 = c := by simp [List.getD]
  rw [this] at hp
  simp [hp]
theorem trimL_stop {p : UInt8 → Bool} {l : List UInt8} (h : 0 < l.length) (hp : p (l.getD 0 0) = false) : trimL p l = l := by
  cases l with
  | nil => simp at h
  | cons c l => simp at hp; simp [trimL, hp]
theorem trimL_step {p : UInt8 → Bool} {l : List UInt8} (h : 0 < l.length) (hp : p (l.getD 0 0) = true) : trimL p l = trimL p (l.drop 1) := by
  cases l with
  | nil => simp at h
  | cons c l => simp at hp; simp [trimL, hp]
theorem trimRight_c (l s : List UInt8) {k : Nat} {H : List AObj} (hk : H[k]? = some (.cells (.one 187) (setAV s))) (hl : l.length ≤ 100000) : ACalls Tryz.prog 147 [.str l, .mp k 0] H (fun x H' => x = .str (trimR s.contains l) ∧ H' = H) := by
  refine acalls_vc L_ok mixed [] (rs := [.tmp 4]) (n := 22) Tryz.func147 rfl rfl rfl rfl (Nat.le_of_ble_eq_true rfl) (by kernel_rfl) ?_
  repeat' (first | refine unhold ?_ | (simp -dsimp -implicitDefEqProofs (disch := (first | assumption | omega | (simp only [ll1, ll2, ll3, ll4, ll5, ll6, ll7, ll8]; omega))) only [go_sem]) | refine vcI (fun _ => ?_) (fun _ => ?_) | (refine vcA ?_ ?_; focus (repeat' (first | omega | assumption | refine vcA ?_ ?_); done)) | omega | refine imp_in (fun _ => ?_))
  refine vc_loopk L_ok mixed [] [1, 4] (fun r : List UInt8 => trimR s.contains r = trimR s.contains l ∧ r.length ≤ l.length) (fun r => [(0, .str r)]) (fun _ => H) (fun r => r.length) (by kernel_rfl) ?_ l ⟨rfl, Nat.le_refl _⟩ env_ok rfl
  rintro r ⟨hr, hrl⟩
  repeat' (first | refine unhold ?_ | (simp -dsimp -implicitDefEqProofs (disch := (first | assumption | omega | (simp only [ll1, ll2, ll3, ll4, ll5, ll6, ll7, ll8]; omega))) only [go_sem]) | refine acalls_same (setHas_c s _ hk) ?_ | refine ⟨_, setHas_c s _ hk, ?_⟩ | refine ⟨_, _, setHas_c s _ hk, ?_⟩ | refine vcI (fun _ => ?_) (fun _ => ?_) | (refine vcA ?_ ?_; focus (repeat' (first | omega | assumption | refine vcA ?_ ?_); done)) | omega | refine imp_in (fun _ => ?_))
  · rename_i h1 h2
    rw [show ((r.length : Int) - 1).toNat = r.length - 1 by omega] at h2
    exact done_same ⟨by rw [← hr, trimR_stop (by omega) h2], rfl⟩
  · rename_i h1 h2
    rw [show ((r.length : Int) - 1).toNat = r.length - 1 by omega] at h2
    refine again (r.take (((r.length : Int) - 1).toNat - 0)) ?_ ?_ rfl env_ok
    · rw [List.length_take]; omega
    · rw [show ((r.length : Int) - 1).toNat - 0 = r.length - 1 by omega, List.length_take]
      exact ⟨by rw [← hr, trimR_step (l := r) (by omega) h2], by omega⟩
  · have : r = [] := List.eq_nil_of_length_eq_zero (by omega)
    subst this
    exact done_same ⟨by rw [← hr]; rfl, rfl⟩
theorem trimLeft_c (l s : List UInt8) {k : Nat} {H : List AObj} (hk : H[k]? = some (.cells (.one 187) (setAV s))) (hl : l.length ≤ 100000) : ACalls Tryz.prog 146 [.str l, .mp k 0] H (fun x H' => x = .str (trimL s.contains l) ∧ H' = H) := by
  refine acalls_vc L_ok mixed [] (rs := [.tmp 4]) (n := 16) Tryz.func146 rfl rfl rfl rfl (Nat.le_of_ble_eq_true rfl) (by kernel_rfl) ?_
  repeat' (first | refine unhold ?_ | (simp -dsimp -implicitDefEqProofs (disch := (first | assumption | omega | (simp only [ll1, ll2, ll3, ll4, ll5, ll6, ll7, ll8]; omega))) only [go_sem]) | refine vcI (fun _ => ?_) (fun _ => ?_) | (refine vcA ?_ ?_; focus (repeat' (first | omega | assumption | refine vcA ?_ ?_); done)) | omega | refine imp_in (fun _ => ?_))
  refine vc_loopk L_ok mixed [] [1, 4] (fun r : List UInt8 => trimL s.contains r = trimL s.contains l ∧ r.length ≤ l.length) (fun r => [(0, .str r)]) (fun _ => H) (fun r => r.length) (by kernel_rfl) ?_ l ⟨rfl, Nat.le_refl _⟩ env_ok rfl
  rintro r ⟨hr, hrl⟩
  repeat' (first | refine unhold ?_ | (simp -dsimp -implicitDefEqProofs (disch := (first | assumption | omega | (simp only [ll1, ll2, ll3, ll4, ll5, ll6, ll7, ll8]; omega))) only [go_sem]) | refine acalls_same (setHas_c s _ hk) ?_ | refine ⟨_, setHas_c s _ hk, ?_⟩ | refine ⟨_, _, setHas_c s _ hk, ?_⟩ | refine vcI (fun _ => ?_) (fun _ => ?_) | (refine vcA ?_ ?_; focus (repeat' (first | omega | assumption | refine vcA ?_ ?_); done)) | omega | refine imp_in (fun _ => ?_))
  · rename_i h1 h2
    exact done_same ⟨by rw [← hr, trimL_stop (by omega) h2], rfl⟩
  · rename_i h1 h2
    refine again (r.drop 1) ?_ ?_ rfl env_ok
    · rw [List.length_drop]; omega
    · rw [List.length_drop]
      exact ⟨by rw [← hr, trimL_step (l := r) (by omega) h2], by omega⟩
  · have : r = [] := List.eq_nil_of_length_eq_zero (by omega)
    subst this
    exact done_same ⟨by rw [← hr]; rfl, rfl⟩
theorem dw_nil {p : UInt8 → Bool} : ∀ {l : List UInt8}, l.dropWhile p = [] ↔ ∀ x ∈ l, p x = true
  | [] => by simp
  | c :: l => by
    rw [List.dropWhile_cons]
    split
    · rename_i h
      rw [dw_nil]
      simp [h]
    · rename_i h
      simp
      intro h2
      exact absurd h2 h
theorem trim_none {p : UInt8 → Bool} {l : List UInt8} : trimL p (trimR p l) = [] ↔ l.all p = true := by
  constructor
  · intro h
    unfold trimL trimR at h
    rw [dw_nil] at h
    rw [List.all_eq_true]
    intro x hx
    have h2 : ∀ m : List UInt8, (∀ y ∈ (m.dropWhile p), p y = true) → ∀ y ∈ m, p y = true := fun m hm y hy => by
      rw [← List.takeWhile_append_dropWhile (p := p) (l := m)] at hy
      rcases List.mem_append.1 hy with hy | hy
      · exact List.all_eq_true.1 (List.all_takeWhile) y hy
      · exact hm y hy
    exact h2 l.reverse (fun y hy => h y (List.mem_reverse.2 hy)) x (List.mem_reverse.2 hx)
  · intro h
    rw [List.all_eq_true] at h
    unfold trimL trimR
    rw [dw_nil]
    intro x hx
    exact h x (List.mem_reverse.1 ((List.dropWhile_sublist _).subset (List.mem_reverse.1 hx)))
theorem Trim_c (l s : List UInt8) (H : List AObj) (hl : l.length ≤ 100000) (hs : 1 < s.length) (hs2 : s.length ≤ 1000) (ha : ∀ i, i < s.length → (s.getD i 0).toNat < 128) : ACalls Tryz.prog 124 [.str l, .str s] H (fun x H' => x = .str (trimL s.contains (trimR s.contains l)) ∧ H' = H) := by
  have h1 : s ≠ [] := by intro e; subst e; simp at hs
  have h2 : (trimR s.contains l).length ≤ 100000 := by
    unfold trimR
    have := (List.dropWhile_sublist s.contains (l := l.reverse)).length_le
    rw [List.length_reverse] at this ⊢
    omega
  refine acalls_vc L_ok mixed [1000004] (rs := [.tmp 4]) (n := 43) Tryz.func124 rfl rfl rfl rfl (Nat.le_of_ble_eq_true rfl) (by kernel_rfl) ?_
  repeat' (first | refine unhold ?_ | (simp -dsimp -implicitDefEqProofs (disch := (first | assumption | omega | (simp only [ll1, ll2, ll3, ll4, ll5, ll6, ll7, ll8]; omega))) only [go_sem, setAV_len, setAV_ok, setAV_take, setAV_aset, setAV_nil, h1]) | refine acalls_same (makeSet_c s _ hs2 ha) ?_ | refine ⟨_, makeSet_c s _ hs2 ha, ?_⟩ | refine ⟨_, _, makeSet_c s _ hs2 ha, ?_⟩ | refine acalls_same (trimRight_c l s h_at0 hl) ?_ | refine ⟨_, trimRight_c l s h_at0 hl, ?_⟩ | refine ⟨_, _, trimRight_c l s h_at0 hl, ?_⟩ | refine acalls_same (trimLeft_c _ s h_at0 h2) ?_ | refine ⟨_, trimLeft_c _ s h_at0 h2, ?_⟩ | refine ⟨_, _, trimLeft_c _ s h_at0 h2, ?_⟩ | refine vcI (fun _ => ?_) (fun _ => ?_) | (refine vcA ?_ ?_; focus (repeat' (first | omega | assumption | refine vcA ?_ ?_); done)) | omega | refine imp_in (fun _ => ?_))
  · rename_i h
    subst h
    exact done_same ⟨rfl, rfl⟩
  · exact done_cut _ (Le.refl _) (.str _) ⟨rfl, rfl⟩
end Go.Proofs.YtdahdbnfknmmgaaGreatDoor
end

section
set_option linter.unusedSimpArgs false
set_option linter.unusedVariables false
namespace Go.Proofs.YtdahdbnfknmmgaaGreatDoor
open Go V
set_option maxRecDepth 10000
set_option maxHeartbeats 4000000
theorem zero_range {z : AV} {n : Nat} : (List.range n).map (fun i => [z].getD (i % 1) .any) = List.replicate n z := zeroFlat_one
theorem flats_bytes (l : List UInt8) : flats (l.map byteAV) = l.map byteAV := flats_ones byteAV (fun _ => rfl) l
theorem flats_strs (l : List bytes) : flats (l.map .str) = l.map .str := by
  induction l with
  | nil => rfl
  | cons a l ih => rw [List.map_cons, flats_cons, ih]; rfl
theorem aset_bytes {z : AV} {n : Nat} {l : List UInt8} (h : n = l.length) : aset (List.replicate n z) 0 (l.map byteAV) = l.map byteAV := aset_self (by simp [h])
attribute [go_sem] zero_range List.length_range flats_bytes flats_strs aset_bytes
theorem done_gone {H₀ M : List AObj} {R : AV → List AObj → Prop} {v : List UInt8} (hr : R (.str v) H₀) : Done H₀ R (.str v) (H₀ ++ M) := done_cut _ (Le.refl _) (.str _) hr
theorem CloneStr_c (l : bytes) (H : List AObj) (hl : l.length ≤ 100000) : ACalls Tryz.prog 153 [.str l] H (fun x H' => x = .str l ∧ H' = H) := by
  by_cases hne : l = []
  · subst hne
    refine acalls_vc L_ok mixed [] (rs := [.tmp 2]) (n := 18) Tryz.func153 rfl rfl rfl rfl (Nat.le_of_ble_eq_true rfl) (by kernel_rfl) ?_
    repeat' (first | refine unhold ?_ | (simp -dsimp -implicitDefEqProofs (disch := (first | assumption | omega | (simp only [ll1, ll2, ll3, ll4, ll5, ll6, ll7, ll8]; omega))) only [go_sem]) | refine vcI (fun _ => ?_) (fun _ => ?_) | (refine vcA ?_ ?_; focus (repeat' (first | omega | assumption | refine vcA ?_ ?_); done)) | omega | refine imp_in (fun _ => ?_))
    exact done_same ⟨rfl, rfl⟩
  · have hpos := List.length_pos_iff.2 hne
    refine acalls_vc L_ok mixed [] (rs := [.tmp 2]) (n := 18) Tryz.func153 rfl rfl rfl rfl (Nat.le_of_ble_eq_true rfl) (by kernel_rfl) ?_
    repeat' (first | refine unhold ?_ | (simp -dsimp -implicitDefEqProofs (disch := (first | assumption | omega | (simp only [ll1, ll2, ll3, ll4, ll5, ll6, ll7, ll8]; omega))) only [go_sem, hne]) | refine vcI (fun _ => ?_) (fun _ => ?_) | (refine vcA ?_ ?_; focus (repeat' (first | omega | assumption | refine vcA ?_ ?_); done)) | omega | refine imp_in (fun _ => ?_))
    exact done_gone ⟨rfl, rfl⟩
theorem le_ifc {t : TypeId} {x y : AV} (h : Le x y) : Le (.ifc t x) (.ifc t y) := fun _ _ _ _ r => by
  cases r with
  | ifc _ _ v hr => exact .ifc t y v (h _ _ _ _ hr)
theorem rangeError_c (fn l : bytes) (H : List AObj) (hl : l.length ≤ 100000) : ACalls Tryz.prog 130 [.str fn, .str l] H (fun x H' => x = .ip (.agg [.str fn, .str l, .err]) ∧ H' = H) := by
  refine acalls_vc L_ok mixed [1000001, 1000001003002] (rs := [.tmp 4]) (n := 11) Tryz.func130 rfl rfl rfl rfl (Nat.le_of_ble_eq_true rfl) (by kernel_rfl) ?_
  repeat' (first | refine unhold ?_ | (simp -dsimp -implicitDefEqProofs (disch := (first | assumption | omega | (simp only [ll1, ll2, ll3, ll4, ll5, ll6, ll7, ll8]; omega))) only [go_sem]) | refine acalls_same (CloneStr_c _ _ hl) ?_ | refine ⟨_, CloneStr_c _ _ hl, ?_⟩ | refine ⟨_, _, CloneStr_c _ _ hl, ?_⟩ | refine vcI (fun _ => ?_) (fun _ => ?_) | (refine vcA ?_ ?_; focus (repeat' (first | omega | assumption | refine vcA ?_ ?_); done)) | omega | refine imp_in (fun _ => ?_))
  all_goals exact done_same ⟨rfl, rfl⟩
def numErr : AV := .ifc 162 .any
theorem toError_c (fn l : bytes) (b z : Int) (H : List AObj) (hl : l.length ≤ 100000) : ACalls Tryz.prog 110 [.str fn, .str l, .lit (.int .i64 b), .lit (.int .i64 z), .ifc 161 (.lit (.int .i64 1))] H (fun x H' => x = numErr ∧ H' = H) := by
  refine acalls_vc L_ok mixed [] (rs := [.tmp 10]) (n := 43) Tryz.func110 rfl rfl rfl rfl (Nat.le_of_ble_eq_true rfl) (by kernel_rfl) ?_
  repeat' (first | refine unhold ?_ | (simp -dsimp -implicitDefEqProofs (disch := (first | assumption | omega | (simp only [ll1, ll2, ll3, ll4, ll5, ll6, ll7, ll8]; omega))) only [go_sem]) | refine acalls_same (rangeError_c _ _ _ hl) ?_ | refine ⟨_, rangeError_c _ _ _ hl, ?_⟩ | refine ⟨_, _, rangeError_c _ _ _ hl, ?_⟩ | refine vcI (fun _ => ?_) (fun _ => ?_) | (refine vcA ?_ ?_; focus (repeat' (first | omega | assumption | refine vcA ?_ ?_); done)) | omega | refine imp_in (fun _ => ?_))
  all_goals exact done_le _ (le_ifc (Le.any _)) ⟨rfl, rfl⟩
def intE (n : Nat) : AV := if n < 9223372036854775808 then .tup [.lit (.int .i64 n), .lit .nilIface] else .tup [.lit (.int .i64 9223372036854775807), numErr]
theorem ParseInt10_c (l : bytes) (H : List AObj) (hne : l ≠ []) (hl : l.length ≤ 10000) (hd : ∀ i, i < l.length → 48 ≤ (l.getD i 0).toNat ∧ (l.getD i 0).toNat ≤ 57) :
    ACalls Tryz.prog 77 [.str l, .lit (.int .i64 10), .lit (.int .i64 64)] H (fun x H' => x = intE (decVal l) ∧ H' = H) := by
  have hc := ParseInt10_i l H hne hl hd
  by_cases hv : decVal l < 9223372036854775808
  · have hu : intR (decVal l) = .tup [.lit (.int .i64 (decVal l)), .lit .nilIface] := if_pos hv
    rw [hu] at hc
    refine acalls_vc L_ok mixed [] (rs := [.tmp 6, .tmp 7]) (n := 25) Tryz.func77 rfl rfl rfl rfl (Nat.le_of_ble_eq_true rfl) (by kernel_rfl) ?_
    repeat' (first | refine unhold ?_ | (simp -dsimp -implicitDefEqProofs (disch := (first | assumption | omega | (simp only [ll1, ll2, ll3, ll4, ll5, ll6, ll7, ll8]; omega))) only [go_sem]) | refine acalls_same (hc) ?_ | refine ⟨_, hc, ?_⟩ | refine ⟨_, _, hc, ?_⟩ | refine vcI (fun _ => ?_) (fun _ => ?_) | (refine vcA ?_ ?_; focus (repeat' (first | omega | assumption | refine vcA ?_ ?_); done)) | omega | refine imp_in (fun _ => ?_))
    exact done_same ⟨by rw [intE, if_pos hv], rfl⟩
  · have hu : intR (decVal l) = .tup [.lit (.int .i64 9223372036854775807), .ifc 161 (.lit (.int .i64 1))] := if_neg hv
    rw [hu] at hc
    refine acalls_vc L_ok mixed [] (rs := [.tmp 6, .tmp 7]) (n := 25) Tryz.func77 rfl rfl rfl rfl (Nat.le_of_ble_eq_true rfl) (by kernel_rfl) ?_
    repeat' (first | refine unhold ?_ | (simp -dsimp -implicitDefEqProofs (disch := (first | assumption | omega | (simp only [ll1, ll2, ll3, ll4, ll5, ll6, ll7, ll8]; omega))) only [go_sem]) | refine acalls_same (hc) ?_ | refine ⟨_, hc, ?_⟩ | refine ⟨_, _, hc, ?_⟩ | refine acalls_same (toError_c _ _ _ _ _ (by omega)) ?_ | refine ⟨_, toError_c _ _ _ _ _ (by omega), ?_⟩ | refine ⟨_, _, toError_c _ _ _ _ _ (by omega), ?_⟩ | refine vcI (fun _ => ?_) (fun _ => ?_) | (refine vcA ?_ ?_; focus (repeat' (first | omega | assumption | refine vcA ?_ ?_); done)) | omega | refine imp_in (fun _ => ?_))
    all_goals exact done_same ⟨by rw [intE, if_neg hv], rfl⟩
end Go.Proofs.YtdahdbnfknmmgaaGreatDoor
end

section
set_option linter.unusedSimpArgs false
set_option linter.unusedVariables false
namespace Go.Proofs.YtdahdbnfknmmgaaGreatDoor
open Go V
set_option maxRecDepth 10000
set_option maxHeartbeats 4000000
/-! rules -/
theorem flat_j {v : JV} : (jAV v).flat = [.lit (.int .i64 v.kind), .lit (.int .i64 v.num), .str v.text, .sl .sh 1 (v.names.map .str), .sl .sh 5 (v.items.map jAV)] := by rw [jAV_eq]; rfl
theorem okv_j {v : JV} : (jAV v).okv = true := by rw [jAV_eq]; rfl
theorem fold_j {v : JV} : AV.agg [.lit (.int .i64 v.kind), .lit (.int .i64 v.num), .str v.text, .sl .sh 1 (v.names.map .str), .sl .sh 5 (v.items.map jAV)] = jAV v := (jAV_eq v).symm
theorem getD_j {l : List JV} {i : Nat} (h : i < l.length) : (l.map jAV).getD i .any = jAV (l.getD i zeroJ) := by
  rw [List.getD, List.getElem?_map, List.getElem?_eq_getElem h, List.getD, List.getElem?_eq_getElem h]; rfl
theorem getD_s {l : List bytes} {i : Nat} (h : i < l.length) : (l.map AV.str).getD i .any = .str (l.getD i []) := by
  rw [List.getD, List.getElem?_map, List.getElem?_eq_getElem h, List.getD, List.getElem?_eq_getElem h]; rfl
attribute [go_sem] flat_j okv_j fold_j getD_j getD_s
theorem mem_getD {α : Type} {l : List α} {i : Nat} {d : α} (h : i < l.length) : l.getD i d ∈ l := by
  rw [List.getD, List.getElem?_eq_getElem h]
  exact List.getElem_mem h
theorem low_jAV {m : Nat} : ∀ v : JV, Low m (jAV v) := by
  refine JV.induct fun k n t ns is ih => ?_
  rw [jAV_mk]
  refine low_agg (lowAll_cons (.lit _) (lowAll_cons (.lit _) (lowAll_cons (.str _) (lowAll_cons ?_ (lowAll_cons ?_ lowAll_nil)))))
  · refine .sl _ _ _ (fun k e => by cases e) fun x hx => ?_
    rw [flats_strs] at hx
    obtain ⟨s, _, rfl⟩ := List.mem_map.1 hx
    exact .str _
  · refine .sl _ _ _ (fun k e => by cases e) fun x hx => ?_
    unfold flats at hx
    obtain ⟨y, hy, hx⟩ := List.mem_flatMap.1 hx
    obtain ⟨v, hv, rfl⟩ := List.mem_map.1 hy
    have := ih v hv
    rw [jAV_eq] at this
    cases this with
    | agg _ h =>
      rw [flat_j] at hx
      exact h x hx
theorem le_agg5 {a b c d e a' b' c' d' e' : AV} (h1 : Le a a') (h2 : Le b b') (h3 : Le c c') (h4 : Le d d') (h5 : Le e e') : Le (.agg [a, b, c, d, e]) (.agg [a', b', c', d', e']) :=
  le_agg (.cons h1 (.cons h2 (.cons h3 (.cons h4 (.cons h5 .nil)))))
/-- Cells that say what a tree says. -/
theorem le_j {k n : Int} {t : bytes} {ns : List bytes} {is : List JV} {x y : AV} (h1 : Le x (.sl .sh 1 (ns.map .str))) (h2 : Le y (.sl .sh 5 (is.map jAV))) : Le (.agg [.lit (.int .i64 k), .lit (.int .i64 n), .str t, x, y]) (jAV (.mk k n t ns is)) := by
  rw [jAV_mk]
  exact le_agg5 (Le.refl _) (Le.refl _) (Le.refl _) h1 h2
theorem le_j0 {k n : Int} {t : bytes} {o o' : Own} {s s' : Nat} : Le (.agg [.lit (.int .i64 k), .lit (.int .i64 n), .str t, .sl o s [], .sl o' s' []]) (jAV (.mk k n t [] [])) := le_j le_nil le_nil
/-! sizes -/
def nameW (n : List UInt8) : Nat := 1 + n.length
mutual
def sizeJ : JV → Nat
  | .mk _ _ t ns is => 1 + t.length + (ns.map nameW).sum + sizesJ is
def sizesJ : List JV → Nat
  | [] => 0
  | v :: r => sizeJ v + sizesJ r
end
theorem sizeJ_eq (v : JV) : sizeJ v = 1 + v.text.length + (v.names.map nameW).sum + sizesJ v.items := by cases v; rw [sizeJ]; rfl
theorem sizesJ_eq : ∀ l, sizesJ l = (l.map sizeJ).sum
  | [] => by rw [sizesJ]; rfl
  | v :: r => by rw [sizesJ, sizesJ_eq r]; simp
theorem sizeJ_pos (v : JV) : 1 ≤ sizeJ v := by rw [sizeJ_eq]; omega
theorem sum_mem {α : Type} {f : α → Nat} : ∀ {l : List α} {x : α}, x ∈ l → f x ≤ (l.map f).sum
  | a :: l, x, h => by
    rw [List.map_cons, List.sum_cons]
    rcases List.mem_cons.1 h with rfl | h
    · omega
    · have := sum_mem (f := f) h; omega
theorem sum_len {α : Type} {f : α → Nat} (h : ∀ x, 1 ≤ f x) : ∀ (l : List α), l.length ≤ (l.map f).sum
  | [] => by simp
  | a :: l => by
    have := sum_len h l
    have := h a
    rw [List.map_cons, List.sum_cons, List.length_cons]
    omega
theorem size_text (v : JV) : v.text.length < sizeJ v := by rw [sizeJ_eq]; omega
theorem size_name {v : JV} {n : bytes} (h : n ∈ v.names) : n.length < sizeJ v := by
  have := sum_mem (f := nameW) h
  rw [sizeJ_eq v]; unfold nameW at *; omega
theorem size_item {v x : JV} (h : x ∈ v.items) : sizeJ x < sizeJ v := by
  have := sum_mem (f := sizeJ) h
  rw [sizeJ_eq v, sizesJ_eq]; omega
theorem size_names (v : JV) : v.names.length < sizeJ v := by
  have := sum_len (f := nameW) (fun n => by unfold nameW; omega) v.names
  rw [sizeJ_eq v]; omega
theorem size_items (v : JV) : v.items.length < sizeJ v := by
  have := sum_len sizeJ_pos v.items
  rw [sizeJ_eq v, sizesJ_eq]; omega
theorem size_both (v : JV) : v.names.length + v.items.length < sizeJ v := by
  have h1 := sum_len (f := nameW) (fun n => by unfold nameW; omega) v.names
  have h2 := sum_len sizeJ_pos v.items
  rw [sizeJ_eq v, sizesJ_eq]; omega
/-! the slices' functions -/
def idxS (ns : List bytes) (s : bytes) : Int := match ns.findIdx? (fun n => n == s) with | some i => (i : Nat) | none => -1
theorem find_at {α : Type} {p : α → Bool} {l : List α} {i : Nat} {d : α} (hi : i < l.length) (h1 : ∀ j, j < i → p (l.getD j d) = false) (h2 : p (l.getD i d) = true) : l.findIdx? p = some i := by
  rw [List.findIdx?_eq_some_iff_getElem]
  refine ⟨hi, ?_, fun j hj => ?_⟩
  · rw [List.getD, List.getElem?_eq_getElem hi] at h2
    exact h2
  · have := h1 j hj
    rw [List.getD, List.getElem?_eq_getElem (by omega)] at this
    simpa using this
theorem find_no {α : Type} {p : α → Bool} {l : List α} {d : α} (h1 : ∀ j, j < l.length → p (l.getD j d) = false) : l.findIdx? p = none := by
  rw [List.findIdx?_eq_none_iff]
  intro x hx
  obtain ⟨j, hj, rfl⟩ := List.mem_iff_getElem.1 hx
  have := h1 j hj
  rwa [List.getD, List.getElem?_eq_getElem hj] at this
theorem upto_succ {p : Nat → Prop} {i : Nat} (h : ∀ j, j < i → p j) (k : p i) : ∀ j, j < i + 1 → p j := fun j hj => by
  rcases Nat.lt_or_ge j i with h1 | h1
  · exact h j h1
  · obtain rfl : j = i := by omega
    exact k
theorem Index_c {o : Own} (ns : List bytes) (s : bytes) (H : List AObj) (hl : ns.length ≤ 100000) : ACalls Tryz.prog 40 [.sl o 1 (ns.map .str), .str s] H (fun x H' => x = .int .i64 (idxS ns s) ∧ H' = H) := by
  refine acalls_vc L_ok mixed [] (rs := [.tmp 4]) (n := 19) Tryz.func40 rfl rfl rfl rfl (Nat.le_of_ble_eq_true rfl) (by kernel_rfl) ?_
  repeat' (first | refine unhold ?_ | (simp -dsimp -implicitDefEqProofs (disch := (first | assumption | omega | (simp only [ll1, ll2, ll3, ll4, ll5, ll6, ll7, ll8]; omega))) only [go_sem]) | refine vcI (fun _ => ?_) (fun _ => ?_) | (refine vcA ?_ ?_; focus (repeat' (first | omega | assumption | refine vcA ?_ ?_); done)) | omega | refine imp_in (fun _ => ?_))
  refine vc_loopk L_ok mixed [] [0, 1, 7] (fun i : Nat => i ≤ ns.length ∧ ∀ j, j < i → (ns.getD j [] == s) = false) (fun i => [(8, .int .i64 i)]) (fun _ => H) (fun i => ns.length - i) (by kernel_rfl) ?_ 0 ⟨by omega, fun j hj => by omega⟩ env_ok rfl
  rintro i ⟨hi, hp⟩
  repeat' (first | refine unhold ?_ | (simp -dsimp -implicitDefEqProofs (disch := (first | assumption | omega | (simp only [ll1, ll2, ll3, ll4, ll5, ll6, ll7, ll8]; omega))) only [go_sem]) | refine vcI (fun _ => ?_) (fun _ => ?_) | (refine vcA ?_ ?_; focus (repeat' (first | omega | assumption | refine vcA ?_ ?_); done)) | omega | refine imp_in (fun _ => ?_))
  · rename_i h1 h2
    refine done_same ⟨int_eq ?_, rfl⟩
    rw [idxS, find_at (d := []) (by omega) hp (by rw [← h2]; simp)]
  · rename_i h1 h2
    refine again (i + 1) ?_ ?_ rfl env_ok
    · omega
    · exact ⟨by omega, upto_succ hp (by rw [beq_eq_false_iff_ne]; exact fun e => h2 e.symm)⟩
  · obtain rfl : i = ns.length := by omega
    refine done_same ⟨int_eq ?_, rfl⟩
    rw [idxS, find_no (d := []) hp]
def idxP (l : List JV) (p : JV → Bool) : Int := match l.findIdx? p with | some i => (i : Nat) | none => -1
theorem IndexFunc_c {o : Own} (g : FuncId) (cs : List AV) (p : JV → Bool) (l : List JV) (H : List AObj) (hl : l.length ≤ 100000) (hp : ∀ x ∈ l, ACalls Tryz.prog g (jAV x :: cs) H (fun y H' => y = .bool (p x) ∧ H' = H)) :
    ACalls Tryz.prog 119 [.sl o 5 (l.map jAV), .fn (.func g) [] cs] H (fun x H' => x = .int .i64 (idxP l p) ∧ H' = H) := by
  refine acalls_vc L_ok mixed [] (rs := [.tmp 4]) (n := 19) Tryz.func119 rfl rfl rfl rfl (Nat.le_of_ble_eq_true rfl) (by kernel_rfl) ?_
  repeat' (first | refine unhold ?_ | (simp -dsimp -implicitDefEqProofs (disch := (first | assumption | omega | (simp only [ll1, ll2, ll3, ll4, ll5, ll6, ll7, ll8]; omega))) only [go_sem]) | refine vcI (fun _ => ?_) (fun _ => ?_) | (refine vcA ?_ ?_; focus (repeat' (first | omega | assumption | refine vcA ?_ ?_); done)) | omega | refine imp_in (fun _ => ?_))
  refine vc_loopk L_ok mixed [] [0, 1, 7] (fun i : Nat => i ≤ l.length ∧ ∀ j, j < i → p (l.getD j zeroJ) = false) (fun i => [(8, .int .i64 i)]) (fun _ => H) (fun i => l.length - i) (by kernel_rfl) ?_ 0 ⟨by omega, fun j hj => by omega⟩ env_ok rfl
  rintro i ⟨hi, hq⟩
  repeat' (first | refine unhold ?_ | (simp -dsimp -implicitDefEqProofs (disch := (first | assumption | omega | (simp only [ll1, ll2, ll3, ll4, ll5, ll6, ll7, ll8]; omega))) only [go_sem]) | refine acalls_same (hp _ (mem_getD (by omega))) ?_ | refine ⟨_, hp _ (mem_getD (by omega)), ?_⟩ | refine ⟨_, _, hp _ (mem_getD (by omega)), ?_⟩ | refine vcI (fun _ => ?_) (fun _ => ?_) | (refine vcA ?_ ?_; focus (repeat' (first | omega | assumption | refine vcA ?_ ?_); done)) | omega | refine imp_in (fun _ => ?_))
  · rename_i h1 h2
    refine done_same ⟨int_eq ?_, rfl⟩
    rw [idxP, find_at (d := zeroJ) (by omega) hq h2]
  · rename_i h1 h2
    refine again (i + 1) ?_ ?_ rfl env_ok
    · omega
    · exact ⟨by omega, upto_succ hq h2⟩
  · obtain rfl : i = l.length := by omega
    refine done_same ⟨int_eq ?_, rfl⟩
    rw [idxP, find_no (d := zeroJ) hq]
theorem idxP_ge (l : List JV) (p : JV → Bool) : (0 ≤ idxP l p) = (l.any p = true) := by
  unfold idxP
  cases h : l.findIdx? p with
  | some i =>
    have h2 := List.findIdx?_eq_some_iff_getElem.1 h
    obtain ⟨hi, hp, _⟩ := h2
    exact propext ⟨fun _ => List.any_eq_true.2 ⟨l[i], List.getElem_mem hi, hp⟩, fun _ => Int.natCast_nonneg _⟩
  | none =>
    have h2 := List.findIdx?_eq_none_iff.1 h
    have : l.any p = false := by
      rw [List.any_eq_false]
      intro x hx
      simp [h2 x hx]
    rw [this]
    simp
theorem ContainsFunc_c {o : Own} (g : FuncId) (cs : List AV) (p : JV → Bool) (l : List JV) (H : List AObj) (hl : l.length ≤ 100000) (hp : ∀ x ∈ l, ACalls Tryz.prog g (jAV x :: cs) H (fun y H' => y = .bool (p x) ∧ H' = H)) :
    ACalls Tryz.prog 93 [.sl o 5 (l.map jAV), .fn (.func g) [] cs] H (fun x H' => x = .bool (l.any p) ∧ H' = H) := by
  refine acalls_vc L_ok mixed [] (rs := [.tmp 4]) (n := 9) Tryz.func93 rfl rfl rfl rfl (Nat.le_of_ble_eq_true rfl) (by kernel_rfl) ?_
  repeat' (first | refine unhold ?_ | (simp -dsimp -implicitDefEqProofs (disch := (first | assumption | omega | (simp only [ll1, ll2, ll3, ll4, ll5, ll6, ll7, ll8]; omega))) only [go_sem]) | refine acalls_same (IndexFunc_c g cs p l H hl hp) ?_ | refine ⟨_, IndexFunc_c g cs p l H hl hp, ?_⟩ | refine ⟨_, _, IndexFunc_c g cs p l H hl hp, ?_⟩ | refine vcI (fun _ => ?_) (fun _ => ?_) | (refine vcA ?_ ?_; focus (repeat' (first | omega | assumption | refine vcA ?_ ?_); done)) | omega | refine imp_in (fun _ => ?_))
  refine done_same ⟨bool_eq ?_, rfl⟩
  rw [Bool.eq_iff_iff, decide_eq_true_eq, idxP_ge]
theorem Contains_c {o : Own} (ns : List bytes) (s : bytes) (H : List AObj) (hl : ns.length ≤ 100000) : ACalls Tryz.prog 46 [.sl o 1 (ns.map .str), .str s] H (fun x H' => x = .bool (decide (0 ≤ idxS ns s)) ∧ H' = H) := by
  refine acalls_vc L_ok mixed [] (rs := [.tmp 4]) (n := 9) Tryz.func46 rfl rfl rfl rfl (Nat.le_of_ble_eq_true rfl) (by kernel_rfl) ?_
  repeat' (first | refine unhold ?_ | (simp -dsimp -implicitDefEqProofs (disch := (first | assumption | omega | (simp only [ll1, ll2, ll3, ll4, ll5, ll6, ll7, ll8]; omega))) only [go_sem]) | refine acalls_same (Index_c ns s H hl) ?_ | refine ⟨_, Index_c ns s H hl, ?_⟩ | refine ⟨_, _, Index_c ns s H hl, ?_⟩ | refine vcI (fun _ => ?_) (fun _ => ?_) | (refine vcA ?_ ?_; focus (repeat' (first | omega | assumption | refine vcA ?_ ?_); done)) | omega | refine imp_in (fun _ => ?_))
  exact done_same ⟨rfl, rfl⟩
theorem upto_eq {α : Type} {l m : List α} {d : α} (hl : l.length = m.length) (h : ∀ j, j < l.length → l.getD j d = m.getD j d) : l = m := by
  refine List.ext_getElem hl fun j h1 h2 => ?_
  have := h j h1
  rwa [List.getD, List.getElem?_eq_getElem h1, List.getD, List.getElem?_eq_getElem h2] at this
theorem Equal_c {o o' : Own} (l m : List bytes) (H : List AObj) (hl : l.length ≤ 100000) : ACalls Tryz.prog 111 [.sl o 1 (l.map .str), .sl o' 1 (m.map .str)] H (fun x H' => x = .bool (decide (l = m)) ∧ H' = H) := by
  refine acalls_vc L_ok mixed [1000006] (rs := [.tmp 4]) (n := 26) Tryz.func111 rfl rfl rfl rfl (Nat.le_of_ble_eq_true rfl) (by kernel_rfl) ?_
  repeat' (first | refine unhold ?_ | (simp -dsimp -implicitDefEqProofs (disch := (first | assumption | omega | (simp only [ll1, ll2, ll3, ll4, ll5, ll6, ll7, ll8]; omega))) only [go_sem]) | refine vcI (fun _ => ?_) (fun _ => ?_) | (refine vcA ?_ ?_; focus (repeat' (first | omega | assumption | refine vcA ?_ ?_); done)) | omega | refine imp_in (fun _ => ?_))
  · rename_i h
    exact done_same ⟨bool_eq (decide_eq_false fun e => h (by rw [e])).symm, rfl⟩
  · refine vc_loopk L_ok mixed [1000006] [0, 1, 12] (fun i : Nat => i ≤ l.length ∧ ∀ j, j < i → l.getD j [] = m.getD j []) (fun i => [(13, .int .i64 i)]) (fun _ => H) (fun i => l.length - i) (by kernel_rfl) ?_ 0 ⟨by omega, fun j hj => by omega⟩ env_ok rfl
    rintro i ⟨hi, hp⟩
    repeat' (first | refine unhold ?_ | (simp -dsimp -implicitDefEqProofs (disch := (first | assumption | omega | (simp only [ll1, ll2, ll3, ll4, ll5, ll6, ll7, ll8]; omega))) only [go_sem]) | refine vcI (fun _ => ?_) (fun _ => ?_) | (refine vcA ?_ ?_; focus (repeat' (first | omega | assumption | refine vcA ?_ ?_); done)) | omega | refine imp_in (fun _ => ?_))
    · rename_i h1 h2
      exact done_same ⟨bool_eq (decide_eq_false fun e => h2 (by rw [e])).symm, rfl⟩
    · rename_i h1 h2
      refine again (i + 1) ?_ ?_ rfl env_ok
      · omega
      · exact ⟨by omega, upto_succ hp h2⟩
    · obtain rfl : i = l.length := by omega
      exact done_same ⟨bool_eq (decide_eq_true (upto_eq (d := []) (by omega) hp)).symm, rfl⟩
theorem low_jsl {m : Nat} {l : List JV} : Low m (.sl .sh 5 (l.map jAV)) := .sl _ _ _ (fun k e => by cases e) fun x hx => by
  unfold flats at hx
  obtain ⟨y, hy, hx⟩ := List.mem_flatMap.1 hx
  obtain ⟨v, hv, rfl⟩ := List.mem_map.1 hy
  have := low_jAV (m := m) v
  rw [jAV_eq] at this
  cases this with
  | agg _ h =>
    rw [flat_j] at hx
    exact h x hx
theorem low_ssl {m s : Nat} {l : List bytes} : Low m (.sl .sh s (l.map .str)) := .sl _ _ _ (fun k e => by cases e) fun x hx => by
  rw [flats_strs] at hx
  obtain ⟨s, _, rfl⟩ := List.mem_map.1 hx
  exact .str _
theorem low_fn0 {m : Nat} {f : Fn} : Low m (.fn f [] []) := .fn _ _ _ (fun x hx => by cases hx) (fun x hx => by cases hx)
open Classical in
theorem EqualFunc_c (g : FuncId) (l m : List JV) (H : List AObj) (hl : l.length ≤ 100000) (hp : ∀ x ∈ l, ∀ (y : JV) (M : List AObj), ACalls Tryz.prog g [jAV x, jAV y] (H ++ M) (fun z H' => z = .bool (decide (x = y)) ∧ H' = H ++ M)) :
    ACalls Tryz.prog 112 [.sl .sh 5 (l.map jAV), .sl .sh 5 (m.map jAV), .fn (.func g) [] []] H (fun x H' => x = .bool (decide (l = m)) ∧ H' = H) := by
  refine acalls_vc L_ok mixed [] (rs := [.tmp 6]) (n := 32) Tryz.func112 rfl rfl rfl rfl (Nat.le_of_ble_eq_true rfl) (by kernel_rfl) ?_
  repeat' (first | refine unhold ?_ | (simp -dsimp -implicitDefEqProofs (disch := (first | assumption | omega | (simp only [ll1, ll2, ll3, ll4, ll5, ll6, ll7, ll8]; omega))) only [go_sem]) | refine vcI (fun _ => ?_) (fun _ => ?_) | (refine vcA ?_ ?_; focus (repeat' (first | omega | assumption | refine vcA ?_ ?_); done)) | omega | refine imp_in (fun _ => ?_))
  · rename_i h
    exact done_same ⟨bool_eq (decide_eq_false fun e => h (by rw [e])).symm, rfl⟩
  · refine vc_loopk L_ok mixed [] [1, 2, 15, 16] (fun i : Nat => i ≤ l.length ∧ ∀ j, j < i → l.getD j zeroJ = m.getD j zeroJ) (fun i => [(17, .int .i64 i)]) (fun _ => H) (fun i => l.length - i) (by kernel_rfl) ?_ 0 ⟨by omega, fun j hj => by omega⟩ env_ok rfl
    rintro i ⟨hi, hq⟩
    repeat' (first | refine unhold ?_ | (simp -dsimp -implicitDefEqProofs (disch := (first | assumption | omega | (simp only [ll1, ll2, ll3, ll4, ll5, ll6, ll7, ll8]; omega))) only [go_sem]) | refine acalls_same (hp _ (mem_getD (by omega)) _ _) ?_ | refine ⟨_, hp _ (mem_getD (by omega)) _ _, ?_⟩ | refine ⟨_, _, hp _ (mem_getD (by omega)) _ _, ?_⟩ | refine vcI (fun _ => ?_) (fun _ => ?_) | (refine vcA ?_ ?_; focus (repeat' (first | omega | assumption | refine vcA ?_ ?_); done)) | omega | refine imp_in (fun _ => ?_))
    · rename_i h1 h2
      exact done_lit ⟨bool_eq (decide_eq_false fun e => h2 (by rw [e])).symm, rfl⟩
    · rename_i h1 h2
      refine again_cut (i + 1) ?_ ?_ (by repeat (first | exact envLow_nil | (refine envLow_cons ?_ ?_; focus (first | (first | exact .lit _ | exact .str _ | exact .any | exact low_bytes | exact low_runes | exact .mp _ _ (by omega) | exact .msl _ _ _ _ (by omega) | exact low_nilsl (fun k e => by cases e) | exact low_jAV _ | exact low_jsl | exact low_ssl | exact low_fn0 | exact low_ipJ _) | (refine low_tup ?_; repeat (first | exact lowAll_nil | (refine lowAll_cons ?_ ?_; focus (first | exact .lit _ | exact .str _ | exact .any | exact low_bytes | exact low_runes | exact .mp _ _ (by omega) | exact .msl _ _ _ _ (by omega) | exact low_nilsl (fun k e => by cases e) | exact low_jAV _ | exact low_jsl | exact low_ssl | exact low_fn0 | exact low_ipJ _)))) | (refine low_agg ?_; repeat (first | exact lowAll_nil | (refine lowAll_cons ?_ ?_; focus (first | exact .lit _ | exact .str _ | exact .any | exact low_bytes | exact low_runes | exact .mp _ _ (by omega) | exact .msl _ _ _ _ (by omega) | exact low_nilsl (fun k e => by cases e) | exact low_jAV _ | exact low_jsl | exact low_ssl | exact low_fn0 | exact low_ipJ _)))))))) env_ok
      · omega
      · exact ⟨by omega, upto_succ hq h2⟩
    · obtain rfl : i = l.length := by omega
      exact done_same ⟨bool_eq (decide_eq_true (upto_eq (d := zeroJ) (by omega) hq)).symm, rfl⟩
end Go.Proofs.YtdahdbnfknmmgaaGreatDoor
end

section
set_option linter.unusedSimpArgs false
set_option linter.unusedVariables false
namespace Go.Proofs.YtdahdbnfknmmgaaGreatDoor
open Go V
set_option maxRecDepth 10000
set_option maxHeartbeats 4000000
theorem isNaN_c (s : bytes) (H : List AObj) : ACalls Tryz.prog 120 [.str s] H (fun x H' => x = .bool false ∧ H' = H) := by
  refine acalls_vc L_ok mixed [] (rs := [.tmp 2]) (n := 6) Tryz.func120 rfl rfl rfl rfl (Nat.le_of_ble_eq_true rfl) (by kernel_rfl) ?_
  repeat' (first | refine unhold ?_ | (simp -dsimp -implicitDefEqProofs (disch := (first | assumption | omega | (simp only [ll1, ll2, ll3, ll4, ll5, ll6, ll7, ll8]; omega))) only [go_sem]) | refine vcI (fun _ => ?_) (fun _ => ?_) | (refine vcA ?_ ?_; focus (repeat' (first | omega | assumption | refine vcA ?_ ?_); done)) | omega | refine imp_in (fun _ => ?_))
  exact done_same ⟨rfl, rfl⟩
theorem isNaN_s (s : bytes) (H : List AObj) : ACalls Tryz.prog 96 [.str s] H (fun x H' => x = .bool false ∧ H' = H) := by
  refine acalls_vc L_ok mixed [] (rs := [.tmp 2]) (n := 6) Tryz.func96 rfl rfl rfl rfl (Nat.le_of_ble_eq_true rfl) (by kernel_rfl) ?_
  repeat' (first | refine unhold ?_ | (simp -dsimp -implicitDefEqProofs (disch := (first | assumption | omega | (simp only [ll1, ll2, ll3, ll4, ll5, ll6, ll7, ll8]; omega))) only [go_sem]) | refine vcI (fun _ => ?_) (fun _ => ?_) | (refine vcA ?_ ?_; focus (repeat' (first | omega | assumption | refine vcA ?_ ?_); done)) | omega | refine imp_in (fun _ => ?_))
  exact done_same ⟨rfl, rfl⟩
theorem Less_c (a b : bytes) (H : List AObj) : ACalls Tryz.prog 95 [.str a, .str b] H (fun x H' => x = .bool (lessB a b) ∧ H' = H) := by
  refine acalls_vc L_ok mixed [] (rs := [.tmp 4]) (n := 17) Tryz.func95 rfl rfl rfl rfl (Nat.le_of_ble_eq_true rfl) (by kernel_rfl) ?_
  repeat' (first | refine unhold ?_ | (simp -dsimp -implicitDefEqProofs (disch := (first | assumption | omega | (simp only [ll1, ll2, ll3, ll4, ll5, ll6, ll7, ll8]; omega))) only [go_sem]) | refine acalls_same (isNaN_c _ _) ?_ | refine ⟨_, isNaN_c _ _, ?_⟩ | refine ⟨_, _, isNaN_c _ _, ?_⟩ | refine vcI (fun _ => ?_) (fun _ => ?_) | (refine vcA ?_ ?_; focus (repeat' (first | omega | assumption | refine vcA ?_ ?_); done)) | omega | refine imp_in (fun _ => ?_))
  all_goals exact done_same ⟨rfl, rfl⟩
theorem getD_get {α : Type} {l : List α} {i : Nat} {d x : α} (h : l[i]? = some x) : l.getD i d = x := by rw [List.getD, h]; rfl
theorem get_getD {α : Type} {l : List α} {i : Nat} (d : α) (h : i < l.length) : l[i]? = some (l.getD i d) := by rw [List.getD, List.getElem?_eq_getElem h]; rfl
theorem Search_c {o : Own} (ns : List bytes) (s : bytes) (H : List AObj) (hl : ns.length ≤ 100000) (hsrt : srt ns = true) : ACalls Tryz.prog 64 [.sl o 1 (ns.map .str), .str s] H (fun x H' => x = .tup [.int .i64 (pos ns s), .bool (decide (ns[pos ns s]? = some s))] ∧ H' = H) := by
  refine acalls_vc L_ok mixed [] (rs := [.tmp 4, .tmp 5]) (n := 54) Tryz.func64 rfl rfl rfl rfl (Nat.le_of_ble_eq_true rfl) (by kernel_rfl) ?_
  repeat' (first | refine unhold ?_ | (simp -dsimp -implicitDefEqProofs (disch := (first | assumption | omega | (simp only [ll1, ll2, ll3, ll4, ll5, ll6, ll7, ll8]; omega))) only [go_sem]) | refine vcI (fun _ => ?_) (fun _ => ?_) | (refine vcA ?_ ?_; focus (repeat' (first | omega | assumption | refine vcA ?_ ?_); done)) | omega | refine imp_in (fun _ => ?_))
  refine vc_loopk L_ok mixed [] [0, 1, 4, 5, 6] (fun p : Nat × Nat => p.1 ≤ p.2 ∧ p.2 ≤ ns.length ∧ (∀ j, j < p.1 → lessB (ns.getD j []) s = true) ∧ (p.2 < ns.length → lessB (ns.getD p.2 []) s = false)) (fun p => [(7, .int .i64 p.1), (8, .int .i64 p.2)]) (fun _ => H) (fun p => p.2 - p.1) (by kernel_rfl) ?_ (0, ns.length) ⟨by simp, by simp, fun j hj => by omega, fun h => by omega⟩ env_ok rfl
  rintro ⟨i, j⟩ ⟨h1, h2, h3, h4⟩
  dsimp only at h1 h2 h3 h4 ⊢
  repeat' (first | refine unhold ?_ | (simp -dsimp -implicitDefEqProofs (disch := (first | assumption | omega | (simp only [ll1, ll2, ll3, ll4, ll5, ll6, ll7, ll8]; omega))) only [go_sem]) | refine acalls_same (Less_c _ _ _) ?_ | refine ⟨_, Less_c _ _ _, ?_⟩ | refine ⟨_, _, Less_c _ _ _, ?_⟩ | refine acalls_same (isNaN_s _ _) ?_ | refine ⟨_, isNaN_s _ _, ?_⟩ | refine ⟨_, _, isNaN_s _ _, ?_⟩ | refine vcI (fun _ => ?_) (fun _ => ?_) | (refine vcA ?_ ?_; focus (repeat' (first | omega | assumption | refine vcA ?_ ?_); done)) | omega | refine imp_in (fun _ => ?_))
  · rename_i e1 e2
    rw [show (((i : Int) + (j : Int)) / 2).toNat = (i + j) / 2 by omega] at e2
    refine again (((i + j) / 2 + 1, j)) ?_ ?_ rfl env_ok
    · dsimp only; omega
    · dsimp only
      refine ⟨by omega, h2, fun m hm => ?_, h4⟩
      rcases Nat.lt_or_ge m ((i + j) / 2) with h | h
      · exact lessB_trans (srt_lt hsrt h (get_getD [] (by omega)) (get_getD [] (by omega))) e2
      · obtain rfl : m = (i + j) / 2 := by omega
        exact e2
  · rename_i e1 e2
    rw [show (((i : Int) + (j : Int)) / 2).toNat = (i + j) / 2 by omega] at e2
    refine again ((i, (i + j) / 2)) ?_ ?_ rfl env_ok
    · dsimp only; omega
    · dsimp only
      exact ⟨by omega, by omega, h3, fun _ => e2⟩
  all_goals
    obtain rfl : i = j := by omega
    have hp : pos ns s = i := pos_unique h2 (fun m a hm ha => by rw [← getD_get (d := []) ha]; exact h3 m hm) (fun a ha => by rw [← getD_get (d := []) ha]; exact h4 (lt_of_get ha))
    rw [hp]
  · have e3 : ns.getD i [] = s := by assumption
    have : (decide (ns[i]? = some s)) = true := decide_eq_true (by rw [get_getD [] (by omega), e3])
    rw [this]
    exact done_same ⟨rfl, rfl⟩
  · have e3 : ¬ ns.getD i [] = s := by assumption
    have : (decide (ns[i]? = some s)) = false := decide_eq_false (by rw [get_getD [] (by omega)]; exact fun e => e3 (Option.some.inj e))
    rw [this]
    exact done_same ⟨rfl, rfl⟩
  · have : (decide (ns[i]? = some s)) = false := decide_eq_false (by rw [List.getElem?_eq_none (by omega)]; simp)
    rw [this]
    exact done_same ⟨rfl, rfl⟩
end Go.Proofs.YtdahdbnfknmmgaaGreatDoor
end

section
set_option linter.unusedSimpArgs false
set_option linter.unusedVariables false
namespace Go.Proofs.YtdahdbnfknmmgaaGreatDoor
open Go V
set_option maxRecDepth 10000
set_option maxHeartbeats 4000000
def hexD (c : UInt8) : Nat := (hexV c).getD 0
theorem hexNum_snoc (l : bytes) (c : UInt8) : hexNum (l ++ [c]) = hexNum l * 16 + hexD c := by simp [hexNum, hexD]
theorem hexNum_take {l : bytes} {i : Nat} (h : i < l.length) : hexNum (l.take (i + 1)) = hexNum (l.take i) * 16 + hexD (l.getD i 0) := by rw [take_snoc h, hexNum_snoc]
theorem lower_all : ∀ n : Fin 256, isHex (UInt8.ofNat n.val) = true → (48 ≤ n.val ∧ n.val ≤ 57 ∧ hexD (UInt8.ofNat n.val) = n.val - 48) ∨ (65 ≤ n.val ∧ n.val ≠ 95 ∧ 97 ≤ (BitVec.ofInt 8 (n.val : Int) ||| BitVec.ofInt 8 32).toNat ∧ (BitVec.ofInt 8 (n.val : Int) ||| BitVec.ofInt 8 32).toNat ≤ 102 ∧ hexD (UInt8.ofNat n.val) + 87 = (BitVec.ofInt 8 (n.val : Int) ||| BitVec.ofInt 8 32).toNat) := by decide +kernel
def lowC (c : UInt8) : Nat := (BitVec.ofInt 8 (c.toNat : Int) ||| BitVec.ofInt 8 32).toNat
theorem hex_cases {c : UInt8} (h : isHex c = true) : (48 ≤ c.toNat ∧ c.toNat ≤ 57 ∧ hexD c = c.toNat - 48) ∨ (65 ≤ c.toNat ∧ c.toNat ≠ 95 ∧ 97 ≤ lowC c ∧ lowC c ≤ 102 ∧ hexD c + 87 = lowC c) := by
  have := lower_all ⟨c.toNat, c.toNat_lt⟩
  simp only [UInt8.ofNat_toNat] at this
  exact this h
theorem lowC_lt (c : UInt8) : lowC c < 256 := (BitVec.ofInt 8 (c.toNat : Int) ||| BitVec.ofInt 8 32).isLt
theorem lower_c (c : UInt8) (H : List AObj) : ACalls Tryz.prog 151 [.lit (.int .u8 c.toNat)] H (fun x H' => x = .lit (.int .u8 (lowC c : Nat)) ∧ H' = H) := by
  have := lowC_lt c
  refine acalls_vc L_ok mixed [] (rs := [.tmp 2]) (n := 5) Tryz.func151 rfl rfl rfl rfl (Nat.le_of_ble_eq_true rfl) (by kernel_rfl) ?_
  repeat' (first | refine unhold ?_ | (simp -dsimp -implicitDefEqProofs (disch := (first | assumption | omega | (simp only [ll1, ll2, ll3, ll4, ll5, ll6, ll7, ll8]; omega))) only [go_sem]) | refine vcI (fun _ => ?_) (fun _ => ?_) | (refine vcA ?_ ?_; focus (repeat' (first | omega | assumption | refine vcA ?_ ?_); done)) | omega | refine imp_in (fun _ => ?_))
  refine done_same ⟨int_eq ?_, rfl⟩
  show IntKind.u8.wrap ((lowC c : Nat) : Int) = _
  rw [IntWalk.u8_in _ (by omega)]
theorem hexNum_lt : ∀ (l : bytes) (i : Nat), i ≤ l.length → (∀ j, j < l.length → isHex (l.getD j 0) = true) → hexNum (l.take i) < 16 ^ i
  | l, 0, _, _ => by simp [hexNum]
  | l, i + 1, hi, h => by
    have h1 := hexNum_lt l i (by omega) h
    have h2 := hex_cases (h i (by omega))
    rw [hexNum_take (by omega), Nat.pow_succ]
    have : hexD (l.getD i 0) < 16 := by omega
    omega
theorem ParseUint16_i (l : bytes) (H : List AObj) (hl : l.length = 4) (hd : ∀ i, i < l.length → isHex (l.getD i 0) = true) :
    ACalls Tryz.prog 128 [.str l, .lit (.int .i64 16), .lit (.int .i64 16)] H (fun x H' => x = .tup [.lit (.int .u64 (hexNum l)), .lit .nilIface] ∧ H' = H) := by
  have hne : l ≠ [] := by intro e; subst e; simp at hl
  refine acalls_vc L_ok mixed [] (rs := [.tmp 6, .tmp 7]) (n := 172) Tryz.func128 rfl rfl rfl rfl (Nat.le_of_ble_eq_true rfl) (by kernel_rfl) ?_
  repeat' (first | refine unhold ?_ | (simp -dsimp -implicitDefEqProofs (disch := (first | assumption | omega | (simp only [ll1, ll2, ll3, ll4, ll5, ll6, ll7, ll8]; omega))) only [go_sem, hne, u64_wrap]) | refine vcI (fun _ => ?_) (fun _ => ?_) | (refine vcA ?_ ?_; focus (repeat' (first | omega | assumption | refine vcA ?_ ?_); done)) | omega | refine imp_in (fun _ => ?_))
  refine vc_loopk L_ok mixed [] [1, 8, 9, 10, 11, 99, 100] (fun i : Nat => i ≤ l.length) (fun i => [(101, .int .i64 i), (13, .int .u64 (hexNum (l.take i))), (12, .bool false)]) (fun _ => H) (fun i => l.length - i) (by kernel_rfl) ?_ 0 (by omega) env_ok rfl
  rintro i hi
  have hdi := fun h => hex_cases (hd i h)
  have hb := @hexNum_take l i
  have h4 := hexNum_lt l i hi hd
  have h5 : (16 : Nat) ^ i ≤ 16 ^ 4 := Nat.pow_le_pow_right (by omega) (by omega)
  have h6 := lowC_lt (l.getD i 0)
  have h7 : i < l.length → hexNum (l.take (i + 1)) < 16 ^ 4 := fun h => by
    have := hexNum_lt l (i + 1) h hd
    have : (16 : Nat) ^ (i + 1) ≤ 16 ^ 4 := Nat.pow_le_pow_right (by omega) (by omega)
    omega
  have h8 : (16 : Nat) ^ 4 = 65536 := rfl
  rw [h8] at h5 h7
  have h9 : hexNum (l.take i) < 65536 := by omega
  clear h4 h5 h8
  repeat' (first | refine unhold ?_ | (simp -dsimp -implicitDefEqProofs (disch := (first | assumption | omega | (simp only [ll1, ll2, ll3, ll4, ll5, ll6, ll7, ll8]; omega))) only [go_sem, u8_wrap, u64_wrap]) | refine acalls_same (lower_c _ _) ?_ | refine ⟨_, lower_c _ _, ?_⟩ | refine ⟨_, _, lower_c _ _, ?_⟩ | refine vcI (fun _ => ?_) (fun _ => ?_) | (refine vcA ?_ ?_; focus (repeat' (first | omega | assumption | refine vcA ?_ ?_); done)) | omega | refine imp_in (fun _ => ?_))
  · have hb' := hb (by omega)
    refine again (i + 1) ?_ ?_ rfl env_ok
    · omega
    · omega
  · have hb' := hb (by omega)
    refine again (i + 1) ?_ ?_ rfl env_ok
    · omega
    · omega
  · obtain rfl : i = l.length := by omega
    exact done_same ⟨rfl, rfl⟩
theorem ParseUint16_c (l : bytes) (H : List AObj) (hl : l.length = 4) (hd : ∀ i, i < l.length → isHex (l.getD i 0) = true) :
    ACalls Tryz.prog 125 [.str l, .lit (.int .i64 16), .lit (.int .i64 16)] H (fun x H' => x = .tup [.lit (.int .u64 (hexNum l)), .lit .nilIface] ∧ H' = H) := by
  refine acalls_vc L_ok mixed [] (rs := [.tmp 6, .tmp 7]) (n := 26) Tryz.func125 rfl rfl rfl rfl (Nat.le_of_ble_eq_true rfl) (by kernel_rfl) ?_
  repeat' (first | refine unhold ?_ | (simp -dsimp -implicitDefEqProofs (disch := (first | assumption | omega | (simp only [ll1, ll2, ll3, ll4, ll5, ll6, ll7, ll8]; omega))) only [go_sem]) | refine acalls_same (ParseUint16_i l H hl hd) ?_ | refine ⟨_, ParseUint16_i l H hl hd, ?_⟩ | refine ⟨_, _, ParseUint16_i l H hl hd, ?_⟩ | refine vcI (fun _ => ?_) (fun _ => ?_) | (refine vcA ?_ ?_; focus (repeat' (first | omega | assumption | refine vcA ?_ ?_); done)) | omega | refine imp_in (fun _ => ?_))
  exact done_same ⟨rfl, rfl⟩
end Go.Proofs.YtdahdbnfknmmgaaGreatDoor
end

section
set_option linter.unusedSimpArgs false
set_option linter.unusedVariables false
namespace Go.Proofs.YtdahdbnfknmmgaaGreatDoor
open Go V
set_option maxRecDepth 10000
set_option maxHeartbeats 4000000
def hexSet : bytes := [48, 49, 50, 51, 52, 53, 54, 55, 56, 57, 97, 98, 99, 100, 101, 102, 65, 66, 67, 68, 69, 70]
theorem hexSet_all : ∀ n : Fin 256, hexSet.contains (UInt8.ofNat n.val) = isHex (UInt8.ofNat n.val) := by decide +kernel
theorem hexSet_eq : hexSet.contains = isHex := by
  funext c
  have := hexSet_all ⟨c.toNat, c.toNat_lt⟩
  simpa only [UInt8.ofNat_toNat] using this
theorem all_getD {l : bytes} {p : UInt8 → Bool} (h : l.all p = true) : ∀ i, i < l.length → p (l.getD i 0) = true := fun i hi => by
  rw [List.getD, List.getElem?_eq_getElem hi]
  exact List.all_eq_true.1 h _ (List.getElem_mem hi)
theorem pc {t : bytes} {a b e : Int} (h : a = b) : AObj.cells (.one 59) [.str t, .lit (.int .i64 a), .lit (.int .i64 e)] = AObj.cells (.one 59) [.str t, .lit (.int .i64 b), .lit (.int .i64 e)] := by rw [h]
theorem unit_c {k : Nat} {t r : bytes} {e : Int} {H : List AObj} (hk : H[k]? = some (pObj t r e)) (hs : r <:+ t) (hl : t.length ≤ 10000) : ACalls Tryz.prog 105 [.mp k 0] H (fun x H' => x = .tup [.int .i32 (unitP r).1, .bool (unitP r).2.1] ∧ H' = H.set k (pObj t (unitP r).2.2 e)) := by
  have h1 := suf_len hs
  have h2 := suf_drop hs
  unfold pObj at *
  by_cases h4 : r.length < 4
  · have hu : unitP r = (0, false, r) := if_pos h4
    rw [hu]
    refine acalls_vc L_ok mixed [1000001, 1000003, 1000008] (rs := [.tmp 2, .tmp 3]) (n := 58) Tryz.func105 rfl rfl rfl rfl (Nat.le_of_ble_eq_true rfl) (by kernel_rfl) ?_
    repeat' (first | refine unhold ?_ | (simp -dsimp -implicitDefEqProofs (disch := (first | assumption | omega | (simp only [ll1, ll2, ll3, ll4, ll5, ll6, ll7, ll8]; omega))) only [go_sem, hk]) | refine vcI (fun _ => ?_) (fun _ => ?_) | (refine vcA ?_ ?_; focus (repeat' (first | omega | assumption | refine vcA ?_ ?_); done)) | omega | refine imp_in (fun _ => ?_))
    all_goals first | exact done_same ⟨rfl, (set_same hk).symm⟩ | omega
  · have ht : ((t.length - r.length : Nat) + 4 : Int).toNat - (t.length - r.length) = 4 := by omega
    by_cases h5 : (r.take 4).all isHex = true
    · have hu : unitP r = ((hexNum (r.take 4) : Int), true, r.drop 4) := by rw [unitP, if_neg h4, if_pos h5]
      have hx := hexNum_lt (r.take 4) 4 (by rw [List.length_take]; omega) (all_getD h5)
      rw [List.take_take, show (16 : Nat) ^ 4 = 65536 from rfl] at hx
      have hx' : hexNum (r.take 4) < 65536 := hx
      rw [hu]
      refine acalls_vc L_ok mixed [1000001, 1000003, 1000008] (rs := [.tmp 2, .tmp 3]) (n := 58) Tryz.func105 rfl rfl rfl rfl (Nat.le_of_ble_eq_true rfl) (by kernel_rfl) ?_
      repeat' (first | refine unhold ?_ | (simp -dsimp -implicitDefEqProofs (disch := (first | assumption | omega | (simp only [ll1, ll2, ll3, ll4, ll5, ll6, ll7, ll8]; omega))) only [go_sem, hk, h2, ht]) | refine acalls_same (Trim_c _ hexSet _ (by simp; omega) (by decide) (by decide) (by decide)) ?_ | refine ⟨_, Trim_c _ hexSet _ (by simp; omega) (by decide) (by decide) (by decide), ?_⟩ | refine ⟨_, _, Trim_c _ hexSet _ (by simp; omega) (by decide) (by decide) (by decide), ?_⟩ | refine acalls_same (ParseUint16_c (r.take 4) _ (by rw [List.length_take]; omega) (all_getD h5)) ?_ | refine ⟨_, ParseUint16_c (r.take 4) _ (by rw [List.length_take]; omega) (all_getD h5), ?_⟩ | refine ⟨_, _, ParseUint16_c (r.take 4) _ (by rw [List.length_take]; omega) (all_getD h5), ?_⟩ | refine vcI (fun _ => ?_) (fun _ => ?_) | (refine vcA ?_ ?_; focus (repeat' (first | omega | assumption | refine vcA ?_ ?_); done)) | omega | refine imp_in (fun _ => ?_))
      · rename_i h6
        rw [hexSet_eq, trim_none] at h6
        exact absurd h5 h6
      · refine done_keep _ (Le.refl _) len_set ⟨rfl, ?_⟩
        exact congrArg _ (pc (by omega))
    · have hu : unitP r = (0, false, r) := by rw [unitP, if_neg h4, if_neg h5]
      rw [hu]
      refine acalls_vc L_ok mixed [1000001, 1000003, 1000008] (rs := [.tmp 2, .tmp 3]) (n := 58) Tryz.func105 rfl rfl rfl rfl (Nat.le_of_ble_eq_true rfl) (by kernel_rfl) ?_
      repeat' (first | refine unhold ?_ | (simp -dsimp -implicitDefEqProofs (disch := (first | assumption | omega | (simp only [ll1, ll2, ll3, ll4, ll5, ll6, ll7, ll8]; omega))) only [go_sem, hk, h2, ht]) | refine acalls_same (Trim_c _ hexSet _ (by simp; omega) (by decide) (by decide) (by decide)) ?_ | refine ⟨_, Trim_c _ hexSet _ (by simp; omega) (by decide) (by decide) (by decide), ?_⟩ | refine ⟨_, _, Trim_c _ hexSet _ (by simp; omega) (by decide) (by decide) (by decide), ?_⟩ | refine vcI (fun _ => ?_) (fun _ => ?_) | (refine vcA ?_ ?_; focus (repeat' (first | omega | assumption | refine vcA ?_ ?_); done)) | omega | refine imp_in (fun _ => ?_))
      · exact done_same ⟨rfl, (set_same hk).symm⟩
      · rename_i h6
        rw [hexSet_eq, trim_none] at h6
        exact absurd h6 h5
theorem unit_lt (r : bytes) : 0 ≤ (unitP r).1 ∧ (unitP r).1 < 65536 := by
  unfold unitP
  split
  · exact ⟨Int.le_refl _, by show (0 : Int) < 65536; decide⟩
  · rename_i h4
    split
    · rename_i h5
      have hx := hexNum_lt (r.take 4) 4 (by rw [List.length_take]; omega) (all_getD h5)
      rw [List.take_take, show (16 : Nat) ^ 4 = 65536 from rfl] at hx
      have hx' : hexNum (r.take 4) < 65536 := hx
      simp only
      omega
    · exact ⟨Int.le_refl _, by show (0 : Int) < 65536; decide⟩
theorem suf_unit {r t : bytes} (h : r <:+ t) : (unitP r).2.2 <:+ t := by
  unfold unitP
  split
  · exact h
  · split
    · exact suf_drop_n h 4
    · exact h
theorem half_c (r : Int) (H : List AObj) : ACalls Tryz.prog 106 [.lit (.int .i32 r)] H (fun x H' => x = .bool (halfR r) ∧ H' = H) := by
  refine acalls_vc L_ok mixed [] (rs := [.tmp 2]) (n := 9) Tryz.func106 rfl rfl rfl rfl (Nat.le_of_ble_eq_true rfl) (by kernel_rfl) ?_
  repeat' (first | refine unhold ?_ | (simp -dsimp -implicitDefEqProofs (disch := (first | assumption | omega | (simp only [ll1, ll2, ll3, ll4, ll5, ll6, ll7, ll8]; omega))) only [go_sem]) | refine vcI (fun _ => ?_) (fun _ => ?_) | (refine vcA ?_ ?_; focus (repeat' (first | omega | assumption | refine vcA ?_ ?_); done)) | omega | refine imp_in (fun _ => ?_))
  all_goals
    refine done_same ⟨bool_eq ?_, rfl⟩
    unfold halfR
    simp_all
    try omega
theorem joined_c (h l : Int) (H : List AObj) : ACalls Tryz.prog 126 [.lit (.int .i32 h), .lit (.int .i32 l)] H (fun x H' => x = .tup [.int .i32 (joined h l).1, .bool (joined h l).2] ∧ H' = H) := by
  refine acalls_vc L_ok mixed [] (rs := [.tmp 4, .tmp 5]) (n := 27) Tryz.func126 rfl rfl rfl rfl (Nat.le_of_ble_eq_true rfl) (by kernel_rfl) ?_
  repeat' (first | refine unhold ?_ | (simp -dsimp -implicitDefEqProofs (disch := (first | assumption | omega | (simp only [ll1, ll2, ll3, ll4, ll5, ll6, ll7, ll8]; omega))) only [go_sem]) | refine vcI (fun _ => ?_) (fun _ => ?_) | (refine vcA ?_ ?_; focus (repeat' (first | omega | assumption | refine vcA ?_ ?_); done)) | omega | refine imp_in (fun _ => ?_))
  all_goals
    first
      | (have hj : joined h l = (0, false) := if_pos (by omega)
         exact done_same ⟨by rw [hj], rfl⟩)
      | (have hj : joined h l = (65536 + (h - 55296) * 1024 + (l - 56320), true) := if_neg (by omega)
         exact done_same ⟨by rw [hj], rfl⟩)
theorem low_c {k : Nat} {t r : bytes} {e h : Int} {H : List AObj} (hk : H[k]? = some (pObj t r e)) (hs : r <:+ t) (hl : t.length ≤ 10000) : ACalls Tryz.prog 107 [.mp k 0, .lit (.int .i32 h)] H (fun x H' => x = .tup [.int .i32 (lowP h r).1, .bool (lowP h r).2.1] ∧ H' = H.set k (pObj t (lowP h r).2.2 e)) := by
  have hkl := lt_of_get hk
  cases hw : skipW [92, 117] r with
  | none =>
    have hp : lowP h r = (0, false, r) := by rw [lowP, hw]
    have hc := skip_c (w := [92, 117]) hk hs hl (by decide)
    rw [hw] at hc
    rw [hp]
    refine acalls_vc L_ok mixed [] (rs := [.tmp 4, .tmp 5]) (n := 31) Tryz.func107 rfl rfl rfl rfl (Nat.le_of_ble_eq_true rfl) (by kernel_rfl) ?_
    repeat' (first | refine unhold ?_ | (simp -dsimp -implicitDefEqProofs (disch := (first | assumption | omega | (simp only [ll1, ll2, ll3, ll4, ll5, ll6, ll7, ll8]; omega))) only [go_sem]) | refine acalls_same (hc) ?_ | refine ⟨_, hc, ?_⟩ | refine ⟨_, _, hc, ?_⟩ | refine vcI (fun _ => ?_) (fun _ => ?_) | (refine vcA ?_ ?_; focus (repeat' (first | omega | assumption | refine vcA ?_ ?_); done)) | omega | refine imp_in (fun _ => ?_))
    exact done_keep _ (Le.refl _) len_set ⟨rfl, rfl⟩
  | some r2 =>
    have hp : lowP h r = ((joined h (unitP r2).1).1, (unitP r2).2.1 && (joined h (unitP r2).1).2, (unitP r2).2.2) := by rw [lowP, hw]
    have hc := skip_c (w := [92, 117]) hk hs hl (by decide)
    rw [hw] at hc
    rw [hp]
    refine acalls_vc L_ok mixed [] (rs := [.tmp 4, .tmp 5]) (n := 31) Tryz.func107 rfl rfl rfl rfl (Nat.le_of_ble_eq_true rfl) (by kernel_rfl) ?_
    repeat' (first | refine unhold ?_ | (simp -dsimp -implicitDefEqProofs (disch := (first | assumption | omega | (simp only [ll1, ll2, ll3, ll4, ll5, ll6, ll7, ll8]; omega))) only [go_sem]) | refine acalls_same (hc) ?_ | refine ⟨_, hc, ?_⟩ | refine ⟨_, _, hc, ?_⟩ | refine acalls_same (unit_c (hss hkl) (suf_skip hs hw) hl) ?_ | refine ⟨_, unit_c (hss hkl) (suf_skip hs hw) hl, ?_⟩ | refine ⟨_, _, unit_c (hss hkl) (suf_skip hs hw) hl, ?_⟩ | refine acalls_same (joined_c _ _ _) ?_ | refine ⟨_, joined_c _ _ _, ?_⟩ | refine ⟨_, _, joined_c _ _ _, ?_⟩ | refine vcI (fun _ => ?_) (fun _ => ?_) | (refine vcA ?_ ?_; focus (repeat' (first | omega | assumption | refine vcA ?_ ?_); done)) | omega | refine imp_in (fun _ => ?_))
    · rename_i h1
      exact done_keep _ (Le.refl _) len_set ⟨by rw [h1, Bool.true_and], rfl⟩
    · rename_i h1
      exact done_keep _ (Le.refl _) len_set ⟨by rw [h1, Bool.false_and], rfl⟩
theorem suf_low {h : Int} {r t : bytes} (hs : r <:+ t) : (lowP h r).2.2 <:+ t := by
  unfold lowP
  split
  · exact hs
  · rename_i r2 e
    exact suf_unit (suf_skip hs e)
theorem low_rune {h : Int} {r : bytes} (ok : (lowP h r).2.1 = true) : isRune (lowP h r).1 = true := by
  unfold lowP at *
  split at ok
  · cases ok
  · rename_i r2 e
    simp only [Bool.and_eq_true] at ok
    have h2 := ok.2
    unfold joined at h2 ⊢
    split at h2
    · cases h2
    · rename_i hc
      rw [if_neg hc]
      exact decide_eq_true (by simp only; omega)
/-- The rune of an escape by its number. -/
def runeP (r : bytes) : Int × Bool × bytes := if (unitP r).2.1 && halfR (unitP r).1 then lowP (unitP r).1 (unitP r).2.2 else unitP r
theorem rune_ok {r : bytes} (ok : (runeP r).2.1 = true) : isRune (runeP r).1 = true := by
  unfold runeP at *
  split at ok
  · rename_i hc
    rw [if_pos hc]
    exact low_rune ok
  · rename_i hc
    rw [if_neg hc]
    rw [ok, Bool.true_and] at hc
    have := unit_lt r
    unfold halfR at hc
    exact decide_eq_true (by simp only [decide_eq_true_eq] at hc; omega)
theorem suf_rune {r t : bytes} (hs : r <:+ t) : (runeP r).2.2 <:+ t := by
  unfold runeP
  split
  · exact suf_low (suf_unit hs)
  · exact suf_unit hs
theorem escP_eq (r : bytes) : escP r = if escSigns.idxOf (peek r) < 8 then ([escBytes.getD (escSigns.idxOf (peek r)) 0], 0, r.drop 1) else (match skipW [117] r with | none => ([], 2, r) | some r2 => escU (runeP r2)) := rfl
theorem idx_signs (c : UInt8) : idxB escSigns c = if escSigns.idxOf c < 8 then ((escSigns.idxOf c : Nat) : Int) else -1 := rfl
theorem signs_ne {r : bytes} (h : escSigns.idxOf (peek r) < 8) : r ≠ [] := by
  intro e; subst e; revert h; decide
theorem set3 {H : List AObj} {k b m : Nat} {x y z : AObj} (h1 : k ≠ b) (h2 : k ≠ m) : ((H.set b x).set m y).set k z = ((H.set k z).set b x).set m y := by
  rw [List.set_comm _ _ h2.symm, List.set_comm _ _ h1.symm]
theorem cong3 {H : List AObj} {k b m : Nat} {x y z x' y' z' : AObj} (h1 : x = x') (h2 : y = y') (h3 : z = z') : ((H.set k x).set b y).set m z = ((H.set k x').set b y').set m z' := by rw [h1, h2, h3]
theorem escU_ok {u : Int × Bool × bytes} {o r' : bytes} (h : escU u = (o, 0, r')) : u.2.1 = true ∧ o = enc1 u.1 ∧ r' = u.2.2 := by
  unfold escU at h
  split at h
  · rename_i hu
    simp only [Prod.mk.injEq, true_and] at h
    exact ⟨hu, h.1.symm, h.2.symm⟩
  · simp at h
theorem escU_no {u : Int × Bool × bytes} {o r' : bytes} {e : Int} (h : escU u = (o, e, r')) (he : e ≠ 0) : u.2.1 = false ∧ e = 2 ∧ r' = u.2.2 := by
  unfold escU at h
  split at h
  · rename_i hu
    simp only [Prod.mk.injEq] at h
    exact absurd h.2.1.symm he
  · rename_i hu
    simp only [Prod.mk.injEq] at h
    exact ⟨by simpa using hu, h.2.1.symm, h.2.2.symm⟩
theorem escape_ok {k b m : Nat} {t r r' bs o : bytes} {a : AV} {H : List AObj} (he : escP r = (o, 0, r')) (hk : H[k]? = some (pObj t r 0)) (hb : H[b]? = some (bObj 50 m a bs)) (ha : bAddr b a) (hm : H[m]? = some (gObj bs.length)) (hs : r <:+ t) (hl : t.length ≤ 10000) (hbl : bs.length ≤ 50000) :
    ACalls Tryz.prog 75 [.mp k 0, .mp b 0] H (fun x H' => x = .tup [] ∧ H' = ((H.set k (pObj t r' 0)).set b (bObj 50 m (.mp b 0) (bs ++ o))).set m (gObj (bs ++ o).length)) := by
  have hkl := lt_of_get hk
  have hbl' := lt_of_get hb
  have hml := lt_of_get hm
  have hkb : k ≠ b := by intro e; subst e; rw [hk] at hb; simp [pObj, bObj] at hb
  have hkm : k ≠ m := by intro e; subst e; rw [hk] at hm; cases hm
  have hbm : b ≠ m := by intro e; subst e; rw [hb] at hm; cases hm
  have hbk := hkb.symm
  have hmk := hkm.symm
  have hpk := peek_c hk hs hl
  have hsl := suf_len hs
  by_cases hi : escSigns.idxOf (peek r) < 8
  · rw [escP_eq, if_pos hi] at he
    simp only [Prod.mk.injEq, true_and] at he
    obtain ⟨rfl, rfl⟩ := he
    have hx : idxB escSigns (peek r) = (escSigns.idxOf (peek r) : Nat) := by rw [idx_signs, if_pos hi]
    have hr1 := List.length_pos_iff.2 (signs_ne hi)
    unfold escSigns at *
    generalize hj : List.idxOf (peek r) [34, 92, 47, 98, 102, 110, 114, 116] = j at *
    refine acalls_vc L_ok mixed [] (rs := []) (n := 57) Tryz.func75 rfl rfl rfl rfl (Nat.le_of_ble_eq_true rfl) (by kernel_rfl) ?_
    repeat' (first | refine unhold ?_ | (simp -dsimp -implicitDefEqProofs (disch := (first | assumption | omega | (simp only [ll1, ll2, ll3, ll4, ll5, ll6, ll7, ll8]; omega))) only [go_sem, hx, hsn, hk, pObj]) | refine acalls_same (hpk) ?_ | refine ⟨_, hpk, ?_⟩ | refine ⟨_, _, hpk, ?_⟩ | refine acalls_same (IndexByte_c _ _ _) ?_ | refine ⟨_, IndexByte_c _ _ _, ?_⟩ | refine ⟨_, _, IndexByte_c _ _ _, ?_⟩ | refine acalls_same (WriteByte_c bT_self hb ha hm (by omega)) ?_ | refine ⟨_, WriteByte_c bT_self hb ha hm (by omega), ?_⟩ | refine ⟨_, _, WriteByte_c bT_self hb ha hm (by omega), ?_⟩ | refine vcI (fun _ => ?_) (fun _ => ?_) | (refine vcA ?_ ?_; focus (repeat' (first | omega | assumption | refine vcA ?_ ?_); done)) | omega | refine imp_in (fun _ => ?_))
    refine done_keep _ (Le.refl _) (by simp) ⟨rfl, ?_⟩
    rw [set3 hkb hkm]
    exact cong3 (pc (by omega)) rfl (by simp)
  · rw [escP_eq, if_neg hi] at he
    have hx : idxB escSigns (peek r) = -1 := by rw [idx_signs, if_neg hi]
    cases hw : skipW [117] r with
    | none => rw [hw] at he; simp at he
    | some r2 =>
      rw [hw] at he
      have hc := skip_c (w := [117]) hk hs hl (by decide)
      rw [hw] at hc
      have hs2 := suf_skip hs hw
      obtain ⟨h1, h2, h3⟩ := escU_ok he
      have hr := rune_ok h1
      have hu := unit_c (hss hkl) hs2 hl (e := 0)
      unfold escSigns at hx
      by_cases hh : ((unitP r2).2.1 && halfR (unitP r2).1) = true
      · have e1 : runeP r2 = lowP (unitP r2).1 (unitP r2).2.2 := if_pos hh
        rw [Bool.and_eq_true] at hh
        have hlo := low_c (h := (unitP r2).1) (hss hkl) (suf_unit hs2) hl (e := 0)
        rw [e1] at h1 h2 h3 hr
        rw [hh.1] at hu
        rw [h1] at hlo
        subst h2
        subst h3
        refine acalls_vc L_ok mixed [] (rs := []) (n := 57) Tryz.func75 rfl rfl rfl rfl (Nat.le_of_ble_eq_true rfl) (by kernel_rfl) ?_
        repeat' (first | refine unhold ?_ | (simp -dsimp -implicitDefEqProofs (disch := (first | assumption | omega | (simp only [ll1, ll2, ll3, ll4, ll5, ll6, ll7, ll8]; omega))) only [go_sem, hx, hsn, hh.2]) | refine acalls_same (hpk) ?_ | refine ⟨_, hpk, ?_⟩ | refine ⟨_, _, hpk, ?_⟩ | refine acalls_same (IndexByte_c _ _ _) ?_ | refine ⟨_, IndexByte_c _ _ _, ?_⟩ | refine ⟨_, _, IndexByte_c _ _ _, ?_⟩ | refine acalls_same (hc) ?_ | refine ⟨_, hc, ?_⟩ | refine ⟨_, _, hc, ?_⟩ | refine acalls_same (hu) ?_ | refine ⟨_, hu, ?_⟩ | refine ⟨_, _, hu, ?_⟩ | refine acalls_same (half_c _ _) ?_ | refine ⟨_, half_c _ _, ?_⟩ | refine ⟨_, _, half_c _ _, ?_⟩ | refine acalls_same (hlo) ?_ | refine ⟨_, hlo, ?_⟩ | refine ⟨_, _, hlo, ?_⟩ | refine acalls_same (WriteRune_c bT_self (by rw [hsn hkb]; exact hb) ha (by rw [hsn hkm]; exact hm) hr (by omega)) ?_ | refine ⟨_, WriteRune_c bT_self (by rw [hsn hkb]; exact hb) ha (by rw [hsn hkm]; exact hm) hr (by omega), ?_⟩ | refine ⟨_, _, WriteRune_c bT_self (by rw [hsn hkb]; exact hb) ha (by rw [hsn hkm]; exact hm) hr (by omega), ?_⟩ | refine vcI (fun _ => ?_) (fun _ => ?_) | (refine vcA ?_ ?_; focus (repeat' (first | omega | assumption | refine vcA ?_ ?_); done)) | omega | refine imp_in (fun _ => ?_))
        exact done_keep _ (Le.refl _) (by simp) ⟨rfl, cong3 rfl rfl (by simp)⟩
      · have e1 : runeP r2 = unitP r2 := if_neg hh
        rw [e1] at h1 h2 h3 hr
        rw [h1, Bool.true_and] at hh
        rw [h1] at hu
        subst h2
        subst h3
        refine acalls_vc L_ok mixed [] (rs := []) (n := 57) Tryz.func75 rfl rfl rfl rfl (Nat.le_of_ble_eq_true rfl) (by kernel_rfl) ?_
        repeat' (first | refine unhold ?_ | (simp -dsimp -implicitDefEqProofs (disch := (first | assumption | omega | (simp only [ll1, ll2, ll3, ll4, ll5, ll6, ll7, ll8]; omega))) only [go_sem, hx, hsn, hh]) | refine acalls_same (hpk) ?_ | refine ⟨_, hpk, ?_⟩ | refine ⟨_, _, hpk, ?_⟩ | refine acalls_same (IndexByte_c _ _ _) ?_ | refine ⟨_, IndexByte_c _ _ _, ?_⟩ | refine ⟨_, _, IndexByte_c _ _ _, ?_⟩ | refine acalls_same (hc) ?_ | refine ⟨_, hc, ?_⟩ | refine ⟨_, _, hc, ?_⟩ | refine acalls_same (hu) ?_ | refine ⟨_, hu, ?_⟩ | refine ⟨_, _, hu, ?_⟩ | refine acalls_same (half_c _ _) ?_ | refine ⟨_, half_c _ _, ?_⟩ | refine ⟨_, _, half_c _ _, ?_⟩ | refine acalls_same (WriteRune_c bT_self (by rw [hsn hkb]; exact hb) ha (by rw [hsn hkm]; exact hm) hr (by omega)) ?_ | refine ⟨_, WriteRune_c bT_self (by rw [hsn hkb]; exact hb) ha (by rw [hsn hkm]; exact hm) hr (by omega), ?_⟩ | refine ⟨_, _, WriteRune_c bT_self (by rw [hsn hkb]; exact hb) ha (by rw [hsn hkm]; exact hm) hr (by omega), ?_⟩ | refine vcI (fun _ => ?_) (fun _ => ?_) | (refine vcA ?_ ?_; focus (repeat' (first | omega | assumption | refine vcA ?_ ?_); done)) | omega | refine imp_in (fun _ => ?_))
        exact done_keep _ (Le.refl _) (by simp) ⟨rfl, cong3 rfl rfl (by simp)⟩
theorem escape_no {k b : Nat} {t r r' o : bytes} {e : Int} {H : List AObj} (he : escP r = (o, e, r')) (hne : e ≠ 0) (hk : H[k]? = some (pObj t r 0)) (hs : r <:+ t) (hl : t.length ≤ 10000) :
    ACalls Tryz.prog 75 [.mp k 0, .mp b 0] H (fun x H' => x = .tup [] ∧ H' = H.set k (pObj t r' e)) := by
  have hkl := lt_of_get hk
  have hpk := peek_c hk hs hl
  by_cases hi : escSigns.idxOf (peek r) < 8
  · rw [escP_eq, if_pos hi] at he
    simp only [Prod.mk.injEq] at he
    exact absurd he.2.1.symm hne
  · rw [escP_eq, if_neg hi] at he
    have hx : idxB escSigns (peek r) = -1 := by rw [idx_signs, if_neg hi]
    have hc := skip_c (w := [117]) hk hs hl (by decide)
    cases hw : skipW [117] r with
    | none =>
      rw [hw] at he hc
      simp only [Prod.mk.injEq] at he
      obtain ⟨_, rfl, rfl⟩ := he
      unfold escSigns at hx
      refine acalls_vc L_ok mixed [] (rs := []) (n := 57) Tryz.func75 rfl rfl rfl rfl (Nat.le_of_ble_eq_true rfl) (by kernel_rfl) ?_
      repeat' (first | refine unhold ?_ | (simp -dsimp -implicitDefEqProofs (disch := (first | assumption | omega | (simp only [ll1, ll2, ll3, ll4, ll5, ll6, ll7, ll8]; omega))) only [go_sem, hx, hsn]) | refine acalls_same (hpk) ?_ | refine ⟨_, hpk, ?_⟩ | refine ⟨_, _, hpk, ?_⟩ | refine acalls_same (IndexByte_c _ _ _) ?_ | refine ⟨_, IndexByte_c _ _ _, ?_⟩ | refine ⟨_, _, IndexByte_c _ _ _, ?_⟩ | refine acalls_same (hc) ?_ | refine ⟨_, hc, ?_⟩ | refine ⟨_, _, hc, ?_⟩ | refine acalls_same (fail_c (hss hkl)) ?_ | refine ⟨_, fail_c (hss hkl), ?_⟩ | refine ⟨_, _, fail_c (hss hkl), ?_⟩ | refine vcI (fun _ => ?_) (fun _ => ?_) | (refine vcA ?_ ?_; focus (repeat' (first | omega | assumption | refine vcA ?_ ?_); done)) | omega | refine imp_in (fun _ => ?_))
      exact done_keep _ (Le.refl _) len_set ⟨rfl, rfl⟩
    | some r2 =>
      rw [hw] at he hc
      have hs2 := suf_skip hs hw
      obtain ⟨h1, h2, h3⟩ := escU_no he hne
      subst h2
      have hu := unit_c (hss hkl) hs2 hl (e := 0)
      unfold escSigns at hx
      by_cases hh : ((unitP r2).2.1 && halfR (unitP r2).1) = true
      · have e1 : runeP r2 = lowP (unitP r2).1 (unitP r2).2.2 := if_pos hh
        rw [Bool.and_eq_true] at hh
        have hlo := low_c (h := (unitP r2).1) (hss hkl) (suf_unit hs2) hl (e := 0)
        rw [e1] at h1 h3
        rw [hh.1] at hu
        rw [h1] at hlo
        subst h3
        refine acalls_vc L_ok mixed [] (rs := []) (n := 57) Tryz.func75 rfl rfl rfl rfl (Nat.le_of_ble_eq_true rfl) (by kernel_rfl) ?_
        repeat' (first | refine unhold ?_ | (simp -dsimp -implicitDefEqProofs (disch := (first | assumption | omega | (simp only [ll1, ll2, ll3, ll4, ll5, ll6, ll7, ll8]; omega))) only [go_sem, hx, hsn, hh.2]) | refine acalls_same (hpk) ?_ | refine ⟨_, hpk, ?_⟩ | refine ⟨_, _, hpk, ?_⟩ | refine acalls_same (IndexByte_c _ _ _) ?_ | refine ⟨_, IndexByte_c _ _ _, ?_⟩ | refine ⟨_, _, IndexByte_c _ _ _, ?_⟩ | refine acalls_same (hc) ?_ | refine ⟨_, hc, ?_⟩ | refine ⟨_, _, hc, ?_⟩ | refine acalls_same (hu) ?_ | refine ⟨_, hu, ?_⟩ | refine ⟨_, _, hu, ?_⟩ | refine acalls_same (half_c _ _) ?_ | refine ⟨_, half_c _ _, ?_⟩ | refine ⟨_, _, half_c _ _, ?_⟩ | refine acalls_same (hlo) ?_ | refine ⟨_, hlo, ?_⟩ | refine ⟨_, _, hlo, ?_⟩ | refine acalls_same (fail_c (hss hkl)) ?_ | refine ⟨_, fail_c (hss hkl), ?_⟩ | refine ⟨_, _, fail_c (hss hkl), ?_⟩ | refine vcI (fun _ => ?_) (fun _ => ?_) | (refine vcA ?_ ?_; focus (repeat' (first | omega | assumption | refine vcA ?_ ?_); done)) | omega | refine imp_in (fun _ => ?_))
        exact done_keep _ (Le.refl _) len_set ⟨rfl, rfl⟩
      · have e1 : runeP r2 = unitP r2 := if_neg hh
        rw [e1] at h1 h3
        rw [h1] at hu
        subst h3
        refine acalls_vc L_ok mixed [] (rs := []) (n := 57) Tryz.func75 rfl rfl rfl rfl (Nat.le_of_ble_eq_true rfl) (by kernel_rfl) ?_
        repeat' (first | refine unhold ?_ | (simp -dsimp -implicitDefEqProofs (disch := (first | assumption | omega | (simp only [ll1, ll2, ll3, ll4, ll5, ll6, ll7, ll8]; omega))) only [go_sem, hx, hsn]) | refine acalls_same (hpk) ?_ | refine ⟨_, hpk, ?_⟩ | refine ⟨_, _, hpk, ?_⟩ | refine acalls_same (IndexByte_c _ _ _) ?_ | refine ⟨_, IndexByte_c _ _ _, ?_⟩ | refine ⟨_, _, IndexByte_c _ _ _, ?_⟩ | refine acalls_same (hc) ?_ | refine ⟨_, hc, ?_⟩ | refine ⟨_, _, hc, ?_⟩ | refine acalls_same (hu) ?_ | refine ⟨_, hu, ?_⟩ | refine ⟨_, _, hu, ?_⟩ | refine acalls_same (half_c _ _) ?_ | refine ⟨_, half_c _ _, ?_⟩ | refine ⟨_, _, half_c _ _, ?_⟩ | refine acalls_same (fail_c (hss hkl)) ?_ | refine ⟨_, fail_c (hss hkl), ?_⟩ | refine ⟨_, _, fail_c (hss hkl), ?_⟩ | refine vcI (fun _ => ?_) (fun _ => ?_) | (refine vcA ?_ ?_; focus (repeat' (first | omega | assumption | refine vcA ?_ ?_); done)) | omega | refine imp_in (fun _ => ?_))
        exact done_keep _ (Le.refl _) len_set ⟨rfl, rfl⟩
end Go.Proofs.YtdahdbnfknmmgaaGreatDoor
end

section
set_option linter.unusedSimpArgs false
set_option linter.unusedVariables false
namespace Go.Proofs.YtdahdbnfknmmgaaGreatDoor
open Go V
set_option maxRecDepth 10000
set_option maxHeartbeats 4000000
def maxTo (f : JV → Nat) (l : List JV) (i : Nat) : Nat := ((l.take i).map f).foldl max 0
theorem maxTo_succ {f : JV → Nat} {l : List JV} {i : Nat} (h : i < l.length) : maxTo f l (i + 1) = max (maxTo f l i) (f (l.getD i zeroJ)) := by
  unfold maxTo
  rw [List.take_add_one, List.getElem?_eq_getElem h, List.getD, List.getElem?_eq_getElem h, List.map_append, List.foldl_append]
  rfl
theorem maxTo_all {f : JV → Nat} {l : List JV} : maxTo f l l.length = (l.map f).foldl max 0 := by unfold maxTo; rw [List.take_length]
theorem foldl_max_le {m : Nat} : ∀ (l : List Nat) (a : Nat), a ≤ m → (∀ x ∈ l, x ≤ m) → l.foldl max a ≤ m
  | [], a, h, _ => h
  | b :: l, a, h, k => foldl_max_le l (max a b) (Nat.max_le.2 ⟨h, k b (List.mem_cons_self ..)⟩) fun x hx => k x (List.mem_cons_of_mem _ hx)
theorem deepJ_le : ∀ (d : Nat) (v : JV), deepJ d v ≤ d
  | 0, v => by simp [deepJ]
  | d + 1, v => by
    rw [deepJ]
    split
    · have := foldl_max_le (m := d) (v.items.map (deepJ d)) 0 (Nat.zero_le _) fun x hx => by
        obtain ⟨y, _, rfl⟩ := List.mem_map.1 hx
        exact deepJ_le d y
      omega
    · omega
theorem maxTo_le (d : Nat) (l : List JV) (i : Nat) : maxTo (deepJ d) l i ≤ d := foldl_max_le _ _ (Nat.zero_le _) fun x hx => by
  obtain ⟨y, _, rfl⟩ := List.mem_map.1 hx
  exact deepJ_le d y
theorem deep_c : ∀ (d : Nat) (v : JV) (w : Int) (H : List AObj), w = (d : Int) → d ≤ 13 → sizeJ v ≤ 40000 → ACalls Tryz.prog 32 [jAV v, .lit (.int .i64 w)] H (fun x H' => x = .int .i64 (deepJ d v : Nat) ∧ H' = H) := by
  intro d
  induction d with
  | zero =>
    intro v w H hw hd hs
    subst hw
    refine acalls_vc L_ok mixed [] (rs := [.tmp 4]) (n := 36) Tryz.func32 rfl rfl rfl rfl (Nat.le_of_ble_eq_true rfl) (by kernel_rfl) ?_
    repeat' (first | refine unhold ?_ | (simp -dsimp -implicitDefEqProofs (disch := (first | assumption | omega | (simp only [ll1, ll2, ll3, ll4, ll5, ll6, ll7, ll8]; omega))) only [go_sem]) | refine vcI (fun _ => ?_) (fun _ => ?_) | (refine vcA ?_ ?_; focus (repeat' (first | omega | assumption | refine vcA ?_ ?_); done)) | omega | refine imp_in (fun _ => ?_))
    exact done_same ⟨rfl, rfl⟩
  | succ d ih =>
    intro v w H hw hd hs
    subst hw
    have h2 := size_items v
    have h3 : ∀ i, i < v.items.length → sizeJ (v.items.getD i zeroJ) ≤ 40000 := fun i hi => by have := size_item (v := v) (mem_getD (d := zeroJ) hi); omega
    refine acalls_vc L_ok mixed [] (rs := [.tmp 4]) (n := 36) Tryz.func32 rfl rfl rfl rfl (Nat.le_of_ble_eq_true rfl) (by kernel_rfl) ?_
    repeat' (first | refine unhold ?_ | (simp -dsimp -implicitDefEqProofs (disch := (first | assumption | omega | (simp only [ll1, ll2, ll3, ll4, ll5, ll6, ll7, ll8]; omega))) only [go_sem]) | refine vcI (fun _ => ?_) (fun _ => ?_) | (refine vcA ?_ ?_; focus (repeat' (first | omega | assumption | refine vcA ?_ ?_); done)) | omega | refine imp_in (fun _ => ?_))
    · rename_i h4 h5 h6
      exact done_same ⟨by rw [deepJ, if_neg (by omega)]; rfl, rfl⟩
    all_goals
      have hk : v.kind = 5 ∨ v.kind = 6 := by omega
      refine vc_loopk L_ok mixed [] [1, 4, 21, 22] (fun i : Nat => i ≤ v.items.length) (fun i => [(23, .int .i64 i), (5, .int .i64 (maxTo (deepJ d) v.items i : Nat))]) (fun _ => H) (fun i => v.items.length - i) (by kernel_rfl) ?_ 0 (by omega) env_ok rfl
      rintro i hi
      have h4 := h3 i
      have h5 := maxTo_le d v.items i
      have h6 := @maxTo_succ (deepJ d) v.items i
      repeat' (first | refine unhold ?_ | (simp -dsimp -implicitDefEqProofs (disch := (first | assumption | omega | (simp only [ll1, ll2, ll3, ll4, ll5, ll6, ll7, ll8]; omega))) only [go_sem]) | refine acalls_same (ih _ _ _ (by omega) (by omega) (h4 (by omega))) ?_ | refine ⟨_, ih _ _ _ (by omega) (by omega) (h4 (by omega)), ?_⟩ | refine ⟨_, _, ih _ _ _ (by omega) (by omega) (h4 (by omega)), ?_⟩ | refine vcI (fun _ => ?_) (fun _ => ?_) | (refine vcA ?_ ?_; focus (repeat' (first | omega | assumption | refine vcA ?_ ?_); done)) | omega | refine imp_in (fun _ => ?_))
      · have h7 := h6 (by omega)
        refine again_cut (i + 1) ?_ ?_ (by repeat (first | exact envLow_nil | (refine envLow_cons ?_ ?_; focus (first | (first | exact .lit _ | exact .str _ | exact .any | exact low_bytes | exact low_runes | exact .mp _ _ (by omega) | exact .msl _ _ _ _ (by omega) | exact low_nilsl (fun k e => by cases e) | exact low_jAV _ | exact low_jsl | exact low_ssl | exact low_fn0 | exact low_ipJ _) | (refine low_tup ?_; repeat (first | exact lowAll_nil | (refine lowAll_cons ?_ ?_; focus (first | exact .lit _ | exact .str _ | exact .any | exact low_bytes | exact low_runes | exact .mp _ _ (by omega) | exact .msl _ _ _ _ (by omega) | exact low_nilsl (fun k e => by cases e) | exact low_jAV _ | exact low_jsl | exact low_ssl | exact low_fn0 | exact low_ipJ _)))) | (refine low_agg ?_; repeat (first | exact lowAll_nil | (refine lowAll_cons ?_ ?_; focus (first | exact .lit _ | exact .str _ | exact .any | exact low_bytes | exact low_runes | exact .mp _ _ (by omega) | exact .msl _ _ _ _ (by omega) | exact low_nilsl (fun k e => by cases e) | exact low_jAV _ | exact low_jsl | exact low_ssl | exact low_fn0 | exact low_ipJ _)))))))) env_ok
        · omega
        · omega
      · obtain rfl : i = v.items.length := by omega
        refine done_same ⟨int_eq ?_, rfl⟩
        rw [deepJ, if_pos hk, ← maxTo_all]
        omega
theorem jget_idx {v : JV} {s : bytes} (hk : v.kind = 6) : (idxS v.names s < 0 → jget v s = none) ∧ (0 ≤ idxS v.names s → (v.items.length : Int) ≤ idxS v.names s → jget v s = none) ∧ (0 ≤ idxS v.names s → idxS v.names s < (v.items.length : Int) → jget v s = some (v.items.getD (idxS v.names s).toNat zeroJ)) := by
  unfold jget idxS
  rw [if_pos hk]
  cases h : v.names.findIdx? (fun n => n == s) with
  | none => exact ⟨fun _ => rfl, fun h => absurd h (by decide), fun h => absurd h (by decide)⟩
  | some i =>
    refine ⟨fun h => absurd h (by simp only; omega), fun _ h => ?_, fun _ h => ?_⟩
    · simp only at h ⊢
      exact List.getElem?_eq_none (by omega)
    · simp only at h ⊢
      rw [Int.toNat_natCast, List.getD, List.getElem?_eq_getElem (by omega)]
      rfl
def getAV (v : JV) (s : bytes) : AV := .tup [jAV ((jget v s).getD zeroJ), .bool (jget v s).isSome]
theorem Get_c (v : JV) (s : bytes) (H : List AObj) (h1 : v.names.length ≤ 100000) (h2 : v.items.length ≤ 100000) : ACalls Tryz.prog 19 [jAV v, .str s] H (fun x H' => x = getAV v s ∧ H' = H) := by
  refine acalls_vc L_ok mixed [] (rs := [.cell 4 29, .tmp 5]) (n := 30) Tryz.func19 rfl rfl rfl rfl (Nat.le_of_ble_eq_true rfl) (by kernel_rfl) ?_
  repeat' (first | refine unhold ?_ | (simp -dsimp -implicitDefEqProofs (disch := (first | assumption | omega | (simp only [ll1, ll2, ll3, ll4, ll5, ll6, ll7, ll8]; omega))) only [go_sem]) | refine acalls_same (Index_c v.names s _ (by omega)) ?_ | refine ⟨_, Index_c v.names s _ (by omega), ?_⟩ | refine ⟨_, _, Index_c v.names s _ (by omega), ?_⟩ | refine vcI (fun _ => ?_) (fun _ => ?_) | (refine vcA ?_ ?_; focus (repeat' (first | omega | assumption | refine vcA ?_ ?_); done)) | omega | refine imp_in (fun _ => ?_))
  · rename_i h3
    refine done_cut (.tup [jAV zeroJ, .bool false]) (le_tup (.cons le_j0 (.cons (Le.refl _) .nil))) (low_tup (lowAll_cons (low_jAV _) (lowAll_cons (.lit _) lowAll_nil))) ⟨?_, rfl⟩
    rw [getAV, jget, if_neg h3]; rfl
  · rename_i h3 h4
    refine done_cut (.tup [jAV zeroJ, .bool false]) (le_tup (.cons le_j0 (.cons (Le.refl _) .nil))) (low_tup (lowAll_cons (low_jAV _) (lowAll_cons (.lit _) lowAll_nil))) ⟨?_, rfl⟩
    rw [getAV, (jget_idx h3).1 h4]; rfl
  · rename_i h3 h4 h5
    refine done_cut (.tup [jAV zeroJ, .bool false]) (le_tup (.cons le_j0 (.cons (Le.refl _) .nil))) (low_tup (lowAll_cons (low_jAV _) (lowAll_cons (.lit _) lowAll_nil))) ⟨?_, rfl⟩
    rw [getAV, (jget_idx h3).2.1 h4 h5]; rfl
  · rename_i h3 h4 h5
    refine done_cut _ (Le.refl _) (low_tup (lowAll_cons (low_jAV _) (lowAll_cons (.lit _) lowAll_nil))) ⟨?_, rfl⟩
    rw [getAV, (jget_idx h3).2.2 h4 h5]; rfl
open Classical in
theorem equal_c : ∀ (v w : JV) (H : List AObj), sizeJ v ≤ 40000 → ACalls Tryz.prog 79 [jAV v, jAV w] H (fun x H' => x = .bool (decide (v = w)) ∧ H' = H) := by
  refine JV.induct fun k n t ns is ih w H hs => ?_
  obtain ⟨k', n', t', ns', is'⟩ := w
  have h1 := size_names (.mk k n t ns is)
  have h2 := size_items (.mk k n t ns is)
  have h3 : ∀ x ∈ is, sizeJ x ≤ 40000 := fun x hx => by have := size_item (v := .mk k n t ns is) hx; omega
  refine acalls_vc L_ok mixed [] (rs := [.tmp 4]) (n := 38) Tryz.func79 rfl rfl rfl rfl (Nat.le_of_ble_eq_true rfl) (by kernel_rfl) ?_
  repeat' (first | refine unhold ?_ | (simp -dsimp -implicitDefEqProofs (disch := (first | assumption | omega | (simp only [ll1, ll2, ll3, ll4, ll5, ll6, ll7, ll8]; omega))) only [go_sem]) | refine acalls_same (Equal_c _ _ _ (by omega)) ?_ | refine ⟨_, Equal_c _ _ _ (by omega), ?_⟩ | refine ⟨_, _, Equal_c _ _ _ (by omega), ?_⟩ | refine acalls_same (EqualFunc_c _ _ _ _ (by omega) (fun x hx y M => ih x hx y _ (h3 x hx))) ?_ | refine ⟨_, EqualFunc_c _ _ _ _ (by omega) (fun x hx y M => ih x hx y _ (h3 x hx)), ?_⟩ | refine ⟨_, _, EqualFunc_c _ _ _ _ (by omega) (fun x hx y M => ih x hx y _ (h3 x hx)), ?_⟩ | refine vcI (fun _ => ?_) (fun _ => ?_) | (refine vcA ?_ ?_; focus (repeat' (first | omega | assumption | refine vcA ?_ ?_); done)) | omega | refine imp_in (fun _ => ?_))
  all_goals
    refine done_same ⟨bool_eq ?_, rfl⟩
    clear ih h1 h2 h3 hs
    rw [Bool.eq_iff_iff]
    simp_all [JV.kind, JV.num, JV.text, JV.names, JV.items]
    try exact decide_eq_true_iff
theorem Deep_c (v : JV) (H : List AObj) (hs : sizeJ v ≤ 40000) : ACalls Tryz.prog 13 [jAV v] H (fun x H' => x = .int .i64 (deepJ 13 v : Nat) ∧ H' = H) := by
  refine acalls_vc L_ok mixed [] (rs := [.tmp 2]) (n := 5) Tryz.func13 rfl rfl rfl rfl (Nat.le_of_ble_eq_true rfl) (by kernel_rfl) ?_
  repeat' (first | refine unhold ?_ | (simp -dsimp -implicitDefEqProofs (disch := (first | assumption | omega | (simp only [ll1, ll2, ll3, ll4, ll5, ll6, ll7, ll8]; omega))) only [go_sem]) | refine acalls_same (deep_c 13 v _ _ (by omega) (by omega) hs) ?_ | refine ⟨_, deep_c 13 v _ _ (by omega) (by omega) hs, ?_⟩ | refine ⟨_, _, deep_c 13 v _ _ (by omega) (by omega) hs, ?_⟩ | refine vcI (fun _ => ?_) (fun _ => ?_) | (refine vcA ?_ ?_; focus (repeat' (first | omega | assumption | refine vcA ?_ ?_); done)) | omega | refine imp_in (fun _ => ?_))
  exact done_same ⟨rfl, rfl⟩
end Go.Proofs.YtdahdbnfknmmgaaGreatDoor
end
