/- From contracts over abstract values to what a row asks. -/
import Derived.Test.YthaicajgfioogaaDoorTab
import Derived.Deep.DeepHandedRow
import Derived.Lib.LaidTab
import Derived.Lib.LaidU8
import Derived.ChangeSame
import Derived.ChangeStays
import Derived.ChangeMaps5
import Derived.OpenShut
set_option linter.unusedSimpArgs false
set_option linter.unusedVariables false
namespace Go.Proofs.YthaicajgfioogaaDoor.V
open Go Go.ChangeShapes Go.WideShapes Go.RowKit

/-- All memory that there is when the call begins stays as it is. -/
def G₀ (W : World) : Gh := { imm := fun b _ => b < W.heap.size, blk := fun _ => 0, own := fun _ => (none, 0) }
theorem inv₀ {W : World} (h : ∀ g j v, (gtab g)[j]? = some v → W.cell? ⟨g, j, none⟩ = some v) : HInv (G₀ W) [] W := by
  refine ⟨fun b off h => h, fun k cs e => by simp at e, fun k s n e => by simp at e, fun k k' b e => by simp [site] at e, fun g j v e => ⟨?_, h g j v e⟩⟩
  have := h g j v e
  show g < W.heap.size
  rcases Nat.lt_or_ge g W.heap.size with hl | hl
  · exact hl
  · simp [World.cell?, Array.getElem?_eq_none hl] at this
theorem law_calls {P : Program} {f : FuncId} {fn : Func} {W : World} {xs : List AV} {args : Array Value} (hf : P.funcs[f]? = some fn) (hb : fn.body.isSome = true) (hn : (fn.name == "runtime.NumGoroutine") = false) (ht : ∀ g j v, (gtab g)[j]? = some v → W.cell? ⟨g, j, none⟩ = some v) (hr : RelAll (G₀ W) [] W xs args)
    (hA : ACalls P f xs [] (fun x H' => x = .bool true ∧ H' = [])) : Calls P f args W fun e W' => e = .returned (.bool true) ∧ Below W.heap.size W W' := by
  refine ((hA (G₀ W) W args (inv₀ ht) hr).calls hf hb hn).mono ?_
  rintro e w' ⟨v, rfl, x, G', H', hi, hs, hx, rfl, rfl⟩
  have := rel_lit_inv hx
  subst this
  exact ⟨rfl, hs.os, hs.tape, hs.output, hs.size, fun b hb => hs.whole b fun off => hb⟩

/-- A contract over worlds, of a call that leaves all old memory as it was. -/
theorem acalls_of_more {P : Program} {f : FuncId} {fn : Func} {args : List AV} {H : List AObj} {R : AV → List AObj → Prop} (hf : P.funcs[f]? = some fn) (hb : fn.body.isSome = true) (hn : (fn.name == "runtime.NumGoroutine") = false)
    (h : ∀ G w vs, HInv G H w → RelAll G H w args vs → Calls P f vs w fun e w' => ∃ v x, e = .returned v ∧ More w w' ∧ (∀ G' , HInv G' H w' → Step G H w G' H w' → Rel G' H w' x v) ∧ R x H) : ACalls P f args H R := fun G w vs hi ha =>
  .inl ⟨fn, hf, hb, hn, (h G w vs hi ha).mono fun _ _ ⟨v, x, e, hm, hx, r⟩ => ⟨v, e, x, _, H, hm.inv hi, hm.step hi, hx _ (hm.inv hi) (hm.step hi), r⟩⟩
theorem relAll_str {G : Gh} {H : List AObj} {w : World} {l : List UInt8} {vs : Array Value} (h : RelAll G H w [.str l] vs) : vs = #[.string ⟨l.toArray⟩] := by
  obtain ⟨vl⟩ := vs
  match vl, h with
  | [v], h =>
    have := rel_str_inv (h.2 0 _ v rfl rfl)
    rw [this]
  | [], h => exact absurd h.1 (by simp)
  | _ :: _ :: _, h => exact absurd h.1 (by simp)
section
variable {H : Type} {enc : TypeId × Value → H} {P : Program} {W W' : World}
theorem trod_below (K : Kids P (· < P.types.size)) (hsz : ∀ {t e : TypeId}, t < P.types.size → P.underlying t = some (.slice e) → 0 < P.cellsOf e) (hb : Below W.heap.size W W') {sp : Nat → Bool} :
    ∀ {ts : List TypeId} {vs : List Value} {ds : List (DataW H)} {ps : List MemPlace}, (∀ t ∈ ts, t < P.types.size) → DataW.TrodAll enc P W 0 (fun _ => true) true ts vs ds ps → (∀ p ∈ ps, sp p.block = true) → DataW.TrodAll enc P W' 0 sp true ts vs ds ps
  | [], vs, ds, ps, _, h, _ => by
    obtain ⟨rfl, rfl, rfl⟩ := trodAll_nil h
    exact trodAll_mk0
  | t :: ts, vs, ds, ps, hT, h, hs => by
    obtain ⟨v, vs1, d, ds1, a, b, rfl, rfl, rfl, ⟨n, h1⟩, h2⟩ := trodAll_cons h
    refine ⟨a, b, ⟨n, DataW.trod_stays K hsz (fun h => by cases h) (hT t (List.mem_cons_self ..)) h1 (fun p hp => hb.same (DataW.trod_lt n t _ _ h1 p hp)) fun p hp => hs p (List.mem_append_left _ hp)⟩, ?_, rfl⟩
    exact trod_below K hsz hb (fun t ht => hT t (List.mem_cons_of_mem _ ht)) h2 fun p hp => hs p (List.mem_append_right _ hp)
theorem law_post (K : Kids P (· < P.types.size)) (hsz : ∀ {t e : TypeId}, t < P.types.size → P.underlying t = some (.slice e) → 0 < P.cellsOf e) {f : Func} {s : ChangeSpec} {apart fresh handsOn again : Bool} {args : Array Value} {ds gs : List (DataW H)} {before : List MemPlace}
    (hT : ∀ t ∈ f.params.toList, t < P.types.size) {tb : TypeId} (hres : f.resultTypes = #[tb]) (htb : P.underlying tb = some .bool) (hv : s.vars = [])
    (hspec : ∀ ds : List (DataW H), ds.length = f.params.size → s.fn H ds = { results := [.lit (.bool true)], args := ds })
    (hW : DataW.Whole enc P f.params.toList s.vars apart W args.toList ds gs before) (hb : Below W.heap.size W W') : s.post enc P f apart fresh handsOn again W args (.bool true) W' := by
  have hW' := hW
  obtain ⟨p, q, hA, hV, rfl, hfz, hnd⟩ := hW
  rw [hv] at hV
  obtain ⟨rfl, rfl⟩ := trodVars_none hV
  have hlen : ∀ {ts : List TypeId} {vs : List Value} {ds : List (DataW H)} {ps : List MemPlace}, DataW.TrodAll enc P W 0 (fun _ => true) true ts vs ds ps → ds.length = ts.length := by
    intro ts
    induction ts with
    | nil => intro vs ds ps h; obtain ⟨_, rfl, _⟩ := trodAll_nil h; rfl
    | cons t ts ih =>
      intro vs ds ps h
      obtain ⟨v, vs1, d, ds1, a, b, rfl, rfl, rfl, _, h2⟩ := trodAll_cons h
      simp [ih h2]
  have hs := hspec (ds ++ []) (by rw [List.append_nil, hlen hA]; simp)
  have hold : ∀ p' ∈ p ++ [], (fun b => decide (b < W.heap.size)) p'.block = true := fun p' hp => by simpa using hW'.lt p' hp
  have hres' : ∀ (b : Nat) (sp : Nat → Bool) (hd : Bool), DataW.TrodAll enc P W' b sp hd f.resultTypes.toList ((Value.bool true).resultList f.resultTypes.size) (s.fn H (ds ++ [])).results [] := fun b sp hd => by
    rw [hs, hres]
    exact trodAll_mk1 (shut_bool htb true)
  have hargs : ∀ sp : Nat → Bool, (∀ p' ∈ p, sp p'.block = true) → DataW.TrodAll enc P W' 0 sp true f.params.toList args.toList (s.fn H (ds ++ [])).args p := fun sp hsp => by
    rw [hs, List.append_nil]
    exact trod_below K hsz hb hT hA hsp
  have hvars : ∀ sp : Nat → Bool, DataW.TrodVars enc P W' sp s.vars (s.fn H (ds ++ [])).vars [] := fun sp => by
    rw [hs, hv]
    rfl
  refine ⟨ds, [], p ++ [], [], p, [], hW', hres' _ _ _, hargs _ (fun p' hp => hold p' (List.mem_append_left _ hp)), hvars _, World.keptBut_mono (fun p' hp => ⟨hp, ?_⟩) (hb.frame (· ∈ p ++ [])), fun _ => ?_⟩
  · exact Or.inr (by simpa using hp)
  · refine ⟨fun j t r h1 h2 => ?_, _, _, ([] ++ p) ++ [], ⟨[] ++ p, [], trodAll_append (hargs _ (fun _ _ => rfl)) (hres' _ _ _), hvars _, rfl, ?_, ?_⟩, ?_⟩
    · rw [hres] at h1 h2
      match j, h1, h2 with
      | 0, h1, h2 =>
        simp at h1
        have : r = .bool true := by simpa [Value.resultList] using h2.symm
        subst h1
        subst this
        exact okWide_bool_mk htb true
      | j + 1, h1, _ => simp at h1
    · intro b off hp
      have hlt : b < W.heap.size := hW'.lt (.cell b off) (by simpa using hp)
      rw [hb.frozen (p := ⟨b, off, none⟩) hlt]
      exact hfz b off (by simpa using hp)
    · intro ha
      have := hnd ha
      simpa using this
    · intro p' hp _
      simpa using hp
end
end Go.Proofs.YthaicajgfioogaaDoor.V
