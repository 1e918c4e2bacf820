/- 'vouchsafelaw03.CanonPrints' returns true, and its input reads as before. -/
import Derived.Test.YtplmbhjhihoneaaGreatDoorWPq
import Derived.Test.YtplmbhjhihoneaaGreatDoorW8
section
set_option linter.unusedSimpArgs false
set_option linter.unusedVariables false
namespace Go.Proofs.YtplmbhjhihoneaaGreatDoor.canonPrints
open Go V Go.ChangeShapes Go.WideShapes Go.ChangeAt Go.RowKit
set_option maxRecDepth 100000
theorem contract (H : Type) (enc : TypeId × Value → H) (W : World) (base : Nat) (args : Array Value) (ds gs : List (DataW H)) (before : List MemPlace)
    (hval : ∀ (j : Nat) t v, Tryz.f15.params[j]? = some t → args[j]? = some v → Value.okWide Tryz.prog W .any base t v)
    (hW : DataW.Whole enc Tryz.prog Tryz.f15.params.toList Rows.canonPrintsSpec.vars false W args.toList ds gs before) (hL : laidMetH Tryz.prog Rows.canonPrintsRow.laid W) :
    Calls Tryz.prog 15 args W fun e W' => ∃ v, e = .returned v ∧ Rows.canonPrintsSpec.post enc Tryz.prog Tryz.f15 false true false false W args v W' := by
  have hW' := hW
  obtain ⟨p, q, hA0, hV, rfl, hfz, hnd⟩ := hW
  have hA : DataW.TrodAll enc Tryz.prog W 0 (fun _ => true) true Tryz.f15.params.toList args.toList ds p := hA0
  rw [Tryz.params15] at hA hval
  obtain ⟨v0, vs0, d0, ds0, pl0, q0, hargs, rfl, rfl, ⟨fu0, h0⟩, r0⟩ := trodAll_cons hA
  obtain ⟨v1, vs1, d1, ds1, pl1, q1, rfl, rfl, rfl, ⟨fu1, h1⟩, r1⟩ := trodAll_cons r0
  obtain ⟨rfl, rfl, rfl⟩ := trodAll_nil r1
  obtain rfl : args = #[v0, v1] := by cases args; simp_all
  obtain ⟨a0, p0, c0⟩ := (opens_jv _) fu0 _ _ (Nat.le_succ _) h0
  have k0 := hval 0 27 v0 rfl rfl
  obtain ⟨cs0, rfl⟩ := agg_of Tryz.underlying27 k0
  have R0 := rel_of_j c0
  obtain ⟨a1, p1, c1⟩ := (opens_string _ Tryz.underlying9) fu1 _ _ (Nat.le_succ _) h1
  have R1 := rel_of_cells rfl (fun cs e => by have := hval 1 9 v1 rfl rfl; rw [e] at this; exact no_agg Tryz.underlying9 rfl this) c1
  refine (law_calls Tryz.func15 rfl rfl (tabsH hL) (relAll_cons R0 (relAll_cons R1 relAll_nil)) (CanonPrints_c a0 a1 [])).mono ?_
  rintro e W' ⟨rfl, hb⟩
  exact ⟨_, rfl, law_post kids hsz (by decide) rfl Tryz.underlying4 rfl (fun ds hd => by
    match ds, hd with
    | [d0, d1], _ => rfl) hW' hb⟩
theorem laid_met (os : Os) : laidMetH Tryz.prog Rows.canonPrintsRow.laid ((laidWorld os).forCall (fun _ _ => 0) ⟨#[], #[.agg #[.int .i64 0, .int .i64 0, .string ⟨#[]⟩, .slice none 0 0, .slice none 0 0], .string ⟨#[]⟩], []⟩).memory :=
  laid_plain.symm ▸ laidMet_of_run' (l := laidL) 8 (by kernel_rfl) (by kernel_rfl)
theorem reads (os : Os) {H : Type} (enc : TypeId × Value → H) : ∃ places, DataW.whole enc Tryz.prog ((laidWorld os).forCall (fun _ _ => 0) ⟨#[], #[.agg #[.int .i64 0, .int .i64 0, .string ⟨#[]⟩, .slice none 0 0, .slice none 0 0], .string ⟨#[]⟩], []⟩).memory Tryz.f15.params.toList Rows.canonPrintsSpec.vars false (#[.agg #[.int .i64 0, .int .i64 0, .string ⟨#[]⟩, .slice none 0 0, .slice none 0 0], .string ⟨#[]⟩] : Array Value).toList 8 = some ([.agg [.lit (.int .i64 0), .lit (.int .i64 0), .lit (.string []), .nil, .nil], .lit (.string [])], [], places) :=
  ⟨[], by kernel_rfl⟩
set_option maxRecDepth 100000 in
theorem lifted (os : Os) (started : os.Started) (H : Type) (enc : TypeId × Value → H) (F : Stop.Interp) :
    ReturnsInHanded {} Tryz.checked os 15 .any ((OpenSpec.ofChange Rows.canonPrintsSpec).preRow enc Tryz.prog Tryz.f15 Rows.canonPrintsRow.domain false Rows.canonPrintsRow.laid) (((OpenSpec.ofChange Rows.canonPrintsSpec).at F).post enc Tryz.prog Tryz.f15 false true false false) := by
  obtain ⟨places, hx⟩ := reads os enc
  refine returnsInHanded_of_row (C := Tryz.checked) (s := OpenSpec.ofChange Rows.canonPrintsSpec) own started (by kernel_rfl) Tryz.func15
    (witness_row_at (enc := enc) (C := Tryz.checked) false (laidWorld os) #[.agg #[.int .i64 0, .int .i64 0, .string ⟨#[]⟩, .slice none 0 0, .slice none 0 0], .string ⟨#[]⟩] rfl (by kernel_rfl) (by kernel_rfl) (by kernel_rfl)
      (OpenSpec.preRow_of_cond 8 hx (by kernel_rfl) (fun k hk => by cases hk) (by kernel_rfl) (laid_met os))) ?_
  intro W base args ds gs before hval hW _ _ _ hL _ _
  exact contract H enc W base args ds gs before hval hW hL
theorem jf_wf : Rows.canonPrintsRow.wf (OpenSpec.ofChange Rows.canonPrintsSpec) = true := by kernel_rfl
theorem jf_params : Tryz.f15.params.all (Tryz.prog.readableRec ·) = true := by kernel_rfl
theorem jf_tie : namedTie Tryz.prog Rows.canonPrintsRow.named Rows.canonPrintsSpec.vars = true := by kernel_rfl
theorem jf_place : (Rows.canonPrintsRow.inPlace == Tryz.prog.inPlace 15) = true := by kernel_rfl
theorem jf_unf : (Rows.canonPrintsRow.unfollowed == Tryz.prog.unfollowed 15) = true := by kernel_rfl
theorem jf_rec : (Rows.canonPrintsRow.recurses == Tryz.prog.recurses 15) = true := by kernel_rfl
theorem jf_named : (Rows.canonPrintsRow.named == Tryz.prog.varsNamed 15) = true := by kernel_rfl
theorem jf_maps : ((Rows.canonPrintsRow.maps == (Tryz.f15.params.toList ++ Rows.canonPrintsSpec.plain.varTypes Tryz.prog).any (Tryz.prog.mapsRec ·)) && (Rows.canonPrintsRow.ifaces == (Tryz.f15.params.toList ++ Rows.canonPrintsSpec.plain.varTypes Tryz.prog).any (Tryz.prog.ifacesRec ·)) && (Rows.canonPrintsRow.mapsOut == Tryz.prog.mapsAmong Tryz.f15.resultTypes.toList)) = true := by kernel_rfl
theorem jf_loops : ((Rows.canonPrintsRow.loops == (Tryz.f15.params.toList ++ Rows.canonPrintsSpec.plain.varTypes Tryz.prog).any (Tryz.prog.loopsFrom ·)) && (Rows.canonPrintsRow.wideKeys == (Tryz.f15.params.toList ++ Rows.canonPrintsSpec.plain.varTypes Tryz.prog ++ Tryz.f15.resultTypes.toList).any (Tryz.prog.wideKeysFrom ·))) = true := by kernel_rfl
theorem jf_vars : (Rows.canonPrintsSpec.vars.all (Tryz.prog.varReadable ·) && Tryz.f15.resultTypes.all (fun t => Tryz.prog.readableRec t && decide (t < Tryz.prog.types.size)) && (Rows.canonPrintsRow.ifacesOut == Tryz.f15.resultTypes.toList.any (Tryz.prog.ifacesRec ·)) && (Rows.canonPrintsRow.loopsOut == Tryz.f15.resultTypes.toList.any (Tryz.prog.loopsFrom ·))) = true := by kernel_rfl
theorem jf_make : (Tryz.prog.make == some Rows.canonPrintsRow.make) = true := by kernel_rfl
theorem jf_kinds : (Rows.canonPrintsRow.kinds == (if Rows.canonPrintsRow.domain.isEmpty then [] else Tryz.f15.params.toList.map fun t => match Tryz.prog.underlying t with | some (.int k) => some k | _ => none)) = true := by kernel_rfl
theorem jf_pin : (Rows.canonPrintsRow.pinned == Rows.canonPrintsRow.pinnedBy) = true := by kernel_rfl
theorem jf_veil : (Rows.canonPrintsRow.veiled == (Tryz.f15.params.toList ++ Rows.canonPrintsSpec.plain.varTypes Tryz.prog ++ Tryz.f15.resultTypes.toList).any (Tryz.prog.veiledRec ·)) = true := by kernel_rfl
theorem jf_fits : Rows.canonPrintsRow.veiledFits Tryz.prog Tryz.f15.params.toList (Tryz.f15.params.toList ++ Rows.canonPrintsSpec.plain.varTypes Tryz.prog ++ Tryz.f15.resultTypes.toList) = true := by kernel_rfl
theorem jf_all : joinedFacts Tryz.prog 15 Tryz.f15 (OpenSpec.ofChange Rows.canonPrintsSpec).bare Rows.canonPrintsRow = true :=
  joined_of jf_wf pf_laidOut pf_maps jf_params jf_tie rfl pf_stops rfl pf_knobs jf_place jf_unf jf_rec jf_named jf_maps jf_loops jf_vars pf_keys rfl pf_heard pf_enter pf_lifts jf_make jf_kinds jf_pin jf_veil jf_fits
theorem said : Rows.CanonPrintsSaid :=
  OpenClaim.holds_of_cond 15 Tryz.f15 rfl rfl rfl rfl rfl rfl rfl ⟨rfl, rfl, rfl, rfl, rfl⟩ rfl rfl rfl rfl rfl (by kernel_rfl) Tryz.func15 jf_all
    (of_decide_eq_true (by kernel_rfl)) (by unfold Func.isWrapper; first | (rw [if_pos (by decide +kernel)]; kernel_rfl) | (rw [if_neg (by decide +kernel)]; exact ⟨rfl, rfl⟩))
    (fun os started H enc _ F => by rw [OpenClaim.pre_eq_preRow]; exact lifted os started H enc F)
theorem plain (f : FuncId) (fn : Func) (hf : Tryz.pinned.checked.prog.funcNamed "vouchsafe/vouchsafelaw03.CanonPrints" = some f) (hfn : Tryz.pinned.checked.prog.funcs[f]? = some fn) :
    true = Tryz.pinned.checked.prog.looks [] ∧ ∀ (j : Nat) t, fn.params[j]? = some t → Tryz.pinned.checked.prog.wantsStandIn t = false := by
  obtain rfl : f = 15 := Option.some.inj ((show Tryz.prog.funcNamed "vouchsafe/vouchsafelaw03.CanonPrints" = some 15 by kernel_rfl).symm.trans hf) |>.symm
  obtain rfl : fn = Tryz.f15 := (Option.some.inj (Tryz.func15.symm.trans hfn)).symm
  refine ⟨by kernel_rfl, fun j t ht => ?_⟩
  rw [Tryz.params15] at ht
  have ht' := Array.mem_of_getElem? ht
  simp only [List.mem_toArray, List.mem_cons, List.not_mem_nil, or_false] at ht'
  rcases ht' with rfl | rfl
  · exact (show Tryz.prog.wantsStandIn 27 = false by kernel_rfl)
  · exact (show Tryz.prog.wantsStandIn 9 = false by kernel_rfl)
theorem card : Rows.CanonPrintsCardSaid :=
  Claim7.holds_tied_plain_at .later [] _ _ _ _ said (fun _ h => by cases h) (by kernel_rfl) (fun _ h => by cases h) canonPrints_row_tie rfl ⟨rfl, rfl⟩ (by kernel_rfl) rfl plain (by kernel_rfl)
end Go.Proofs.YtplmbhjhihoneaaGreatDoor.canonPrints
#print axioms Go.Proofs.YtplmbhjhihoneaaGreatDoor.canonPrints.card
end
