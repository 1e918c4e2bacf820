/- 'vouchsafelaw13.DigestSame' returns true, and its input reads as before. -/
import Derived.Test.YtdahdbnfknmmgaaGreatDoorW8
section
set_option linter.unusedSimpArgs false
set_option linter.unusedVariables false
namespace Go.Proofs.YtdahdbnfknmmgaaGreatDoor.digestSame
open Go V Go.ChangeShapes Go.WideShapes Go.ChangeAt Go.RowKit
set_option maxRecDepth 100000
theorem contract (H : Type) (enc : TypeId × Value → H) (W : World) (base : Nat) (args : Array Value) (ds gs : List (DataW H)) (before : List MemPlace)
    (hval : ∀ (j : Nat) t v, Tryz.f6.params[j]? = some t → args[j]? = some v → Value.okWide Tryz.prog W .any base t v)
    (hW : DataW.Whole enc Tryz.prog Tryz.f6.params.toList Rows.digestSameSpec.vars false W args.toList ds gs before) (hL : laidMetH Tryz.prog Rows.digestSameRow.laid W) :
    Calls Tryz.prog 6 args W fun e W' => ∃ v, e = .returned v ∧ Rows.digestSameSpec.post enc Tryz.prog Tryz.f6 false true false false W args v W' := by
  have hW' := hW
  obtain ⟨p, q, hA0, hV, rfl, hfz, hnd⟩ := hW
  have hA : DataW.TrodAll enc Tryz.prog W 0 (fun _ => true) true Tryz.f6.params.toList args.toList ds p := hA0
  rw [Tryz.params6] at hA hval
  obtain ⟨v0, vs0, d0, ds0, pl0, q0, hargs, rfl, rfl, ⟨fu0, h0⟩, r0⟩ := trodAll_cons hA
  obtain ⟨v1, vs1, d1, ds1, pl1, q1, rfl, rfl, rfl, ⟨fu1, h1⟩, r1⟩ := trodAll_cons r0
  obtain ⟨rfl, rfl, rfl⟩ := trodAll_nil r1
  obtain rfl : args = #[v0, v1] := by cases args; simp_all
  obtain ⟨a0, p0, c0⟩ := (opens_jv _) fu0 _ _ (Nat.le_succ _) h0
  have k0 := hval 0 29 v0 rfl rfl
  obtain ⟨cs0, rfl⟩ := agg_of Tryz.underlying29 k0
  have R0 := rel_of_j c0
  obtain ⟨a1, p1, c1⟩ := (opens_jv _) fu1 _ _ (Nat.le_succ _) h1
  have k1 := hval 1 29 v1 rfl rfl
  obtain ⟨cs1, rfl⟩ := agg_of Tryz.underlying29 k1
  have R1 := rel_of_j c1
  refine (law_calls Tryz.func6 rfl rfl (tabsH hL) (relAll_cons R0 (relAll_cons R1 relAll_nil)) (DigestSame_c a0 a1 [])).mono ?_
  rintro e W' ⟨rfl, hb⟩
  exact ⟨_, rfl, law_post kids hsz (by decide) rfl Tryz.underlying4 rfl (fun ds hd => by
    match ds, hd with
    | [d0, d1], _ => rfl) hW' hb⟩
noncomputable def lw (os : Os) : World := ((laidWorld os).forCall (fun _ _ => 0) ⟨#[], #[.agg #[.int .i64 0, .int .i64 0, .string ⟨#[]⟩, .slice none 0 0, .slice none 0 0], .agg #[.int .i64 0, .int .i64 0, .string ⟨#[]⟩, .slice none 0 0, .slice none 0 0]], []⟩).memory
theorem lr1 (os : Os) : (DataW.laidRun Tryz.prog (lw os) 8 (laidL.map (·.1))).map (·.1) = some laidL := by kernel_rfl
theorem lr2 (os : Os) : (DataW.laidRun Tryz.prog (lw os) 8 (laidL.map (·.1))).map (fun x => laidRowsB Tryz.prog (lw os) x.2) = some true := by kernel_rfl
theorem lr3 (os : Os) : (DataW.laidRun Tryz.prog (lw os) 8 (laidL.map (·.1))).map (fun x => incrN (x.2.map (rankN (laidBs os)))) = some true := by kernel_rfl
theorem laid_met (os : Os) : laidMetH Tryz.prog Rows.digestSameRow.laid ((laidWorld os).forCall (fun _ _ => 0) ⟨#[], #[.agg #[.int .i64 0, .int .i64 0, .string ⟨#[]⟩, .slice none 0 0, .slice none 0 0], .agg #[.int .i64 0, .int .i64 0, .string ⟨#[]⟩, .slice none 0 0, .slice none 0 0]], []⟩).memory :=
  laid_plain.symm ▸ laidMet_keys (l := laidL) 8 (rankN (laidBs os)) (lr1 os) (lr3 os) (lr2 os)
theorem reads (os : Os) {H : Type} (enc : TypeId × Value → H) : ∃ places, DataW.whole enc Tryz.prog ((laidWorld os).forCall (fun _ _ => 0) ⟨#[], #[.agg #[.int .i64 0, .int .i64 0, .string ⟨#[]⟩, .slice none 0 0, .slice none 0 0], .agg #[.int .i64 0, .int .i64 0, .string ⟨#[]⟩, .slice none 0 0, .slice none 0 0]], []⟩).memory Tryz.f6.params.toList Rows.digestSameSpec.vars false (#[.agg #[.int .i64 0, .int .i64 0, .string ⟨#[]⟩, .slice none 0 0, .slice none 0 0], .agg #[.int .i64 0, .int .i64 0, .string ⟨#[]⟩, .slice none 0 0, .slice none 0 0]] : Array Value).toList 8 = some ([.agg [.lit (.int .i64 0), .lit (.int .i64 0), .lit (.string []), .nil, .nil], .agg [.lit (.int .i64 0), .lit (.int .i64 0), .lit (.string []), .nil, .nil]], [], places) :=
  ⟨[], by kernel_rfl⟩
set_option maxRecDepth 100000 in
theorem lifted (os : Os) (started : os.Started) (H : Type) (enc : TypeId × Value → H) (F : Stop.Interp) :
    ReturnsInHanded {} Tryz.checked os 6 .any ((OpenSpec.ofChange Rows.digestSameSpec).preRow enc Tryz.prog Tryz.f6 Rows.digestSameRow.domain false Rows.digestSameRow.laid) (((OpenSpec.ofChange Rows.digestSameSpec).at F).post enc Tryz.prog Tryz.f6 false true false false) := by
  obtain ⟨places, hx⟩ := reads os enc
  refine returnsInHanded_of_row (C := Tryz.checked) (s := OpenSpec.ofChange Rows.digestSameSpec) own started (by kernel_rfl) Tryz.func6
    (witness_row_atRef (enc := enc) (C := Tryz.checked) false (laidWorld os) #[.agg #[.int .i64 0, .int .i64 0, .string ⟨#[]⟩, .slice none 0 0, .slice none 0 0], .agg #[.int .i64 0, .int .i64 0, .string ⟨#[]⟩, .slice none 0 0, .slice none 0 0]] rfl (by kernel_rfl) (by kernel_rfl) (by kernel_rfl)
      (OpenSpec.preRow_of_cond 8 hx (by kernel_rfl) (fun k hk => by cases hk) (by kernel_rfl) (laid_met os))) ?_
  intro W base args ds gs before hval hW _ _ _ hL _ _
  exact contract H enc W base args ds gs before hval hW hL
theorem jf_wf : Rows.digestSameRow.wf (OpenSpec.ofChange Rows.digestSameSpec) = true := by kernel_rfl
theorem jf_params : Tryz.f6.params.all (Tryz.prog.readableRec ·) = true := by kernel_rfl
theorem jf_tie : namedTie Tryz.prog Rows.digestSameRow.named Rows.digestSameSpec.vars = true := by kernel_rfl
theorem jf_place : (Rows.digestSameRow.inPlace == Tryz.prog.inPlace 6) = true := by kernel_rfl
theorem jf_unf : (Rows.digestSameRow.unfollowed == Tryz.prog.unfollowed 6) = true := by kernel_rfl
theorem jf_rec : (Rows.digestSameRow.recurses == Tryz.prog.recurses 6) = true := by kernel_rfl
theorem jf_named : (Rows.digestSameRow.named == Tryz.prog.varsNamed 6) = true := by kernel_rfl
theorem jf_maps : ((Rows.digestSameRow.maps == (Tryz.f6.params.toList ++ Rows.digestSameSpec.plain.varTypes Tryz.prog).any (Tryz.prog.mapsRec ·)) && (Rows.digestSameRow.ifaces == (Tryz.f6.params.toList ++ Rows.digestSameSpec.plain.varTypes Tryz.prog).any (Tryz.prog.ifacesRec ·)) && (Rows.digestSameRow.mapsOut == Tryz.prog.mapsAmong Tryz.f6.resultTypes.toList)) = true := by kernel_rfl
theorem jf_loops : ((Rows.digestSameRow.loops == (Tryz.f6.params.toList ++ Rows.digestSameSpec.plain.varTypes Tryz.prog).any (Tryz.prog.loopsFrom ·)) && (Rows.digestSameRow.wideKeys == (Tryz.f6.params.toList ++ Rows.digestSameSpec.plain.varTypes Tryz.prog ++ Tryz.f6.resultTypes.toList).any (Tryz.prog.wideKeysFrom ·))) = true := by kernel_rfl
theorem jf_vars : (Rows.digestSameSpec.vars.all (Tryz.prog.varReadable ·) && Tryz.f6.resultTypes.all (fun t => Tryz.prog.readableRec t && decide (t < Tryz.prog.types.size)) && (Rows.digestSameRow.ifacesOut == Tryz.f6.resultTypes.toList.any (Tryz.prog.ifacesRec ·)) && (Rows.digestSameRow.loopsOut == Tryz.f6.resultTypes.toList.any (Tryz.prog.loopsFrom ·))) = true := by kernel_rfl
theorem jf_make : (Tryz.prog.make == some Rows.digestSameRow.make) = true := by kernel_rfl
theorem jf_kinds : (Rows.digestSameRow.kinds == (if Rows.digestSameRow.domain.isEmpty then [] else Tryz.f6.params.toList.map fun t => match Tryz.prog.underlying t with | some (.int k) => some k | _ => none)) = true := by kernel_rfl
theorem jf_pin : (Rows.digestSameRow.pinned == Rows.digestSameRow.pinnedBy) = true := by kernel_rfl
theorem jf_veil : (Rows.digestSameRow.veiled == (Tryz.f6.params.toList ++ Rows.digestSameSpec.plain.varTypes Tryz.prog ++ Tryz.f6.resultTypes.toList).any (Tryz.prog.veiledRec ·)) = true := by kernel_rfl
theorem jf_fits : Rows.digestSameRow.veiledFits Tryz.prog Tryz.f6.params.toList (Tryz.f6.params.toList ++ Rows.digestSameSpec.plain.varTypes Tryz.prog ++ Tryz.f6.resultTypes.toList) = true := by kernel_rfl
theorem jf_all : joinedFacts Tryz.prog 6 Tryz.f6 (OpenSpec.ofChange Rows.digestSameSpec).bare Rows.digestSameRow = true :=
  joined_of jf_wf pf_laidOut pf_maps jf_params jf_tie rfl pf_stops rfl pf_knobs jf_place jf_unf jf_rec jf_named jf_maps jf_loops jf_vars pf_keys rfl pf_heard pf_enter pf_lifts jf_make jf_kinds jf_pin jf_veil jf_fits
theorem said : Rows.DigestSameSaid :=
  OpenClaim.holds_of_cond 6 Tryz.f6 rfl rfl rfl rfl rfl rfl rfl ⟨rfl, rfl, rfl, rfl, rfl⟩ rfl rfl rfl rfl rfl (by kernel_rfl) Tryz.func6 jf_all
    (of_decide_eq_true (by kernel_rfl)) (by unfold Func.isWrapper; first | (rw [if_pos (by decide +kernel)]; kernel_rfl) | (rw [if_neg (by decide +kernel)]; exact ⟨rfl, rfl⟩))
    (fun os started H enc _ F => by rw [OpenClaim.pre_eq_preRow]; exact lifted os started H enc F)
theorem plain (f : FuncId) (fn : Func) (hf : Tryz.pinned.checked.prog.funcNamed "vouchsafe/vouchsafelaw13.DigestSame" = some f) (hfn : Tryz.pinned.checked.prog.funcs[f]? = some fn) :
    true = Tryz.pinned.checked.prog.looks [] ∧ ∀ (j : Nat) t, fn.params[j]? = some t → Tryz.pinned.checked.prog.wantsStandIn t = false := by
  obtain rfl : f = 6 := Option.some.inj ((show Tryz.prog.funcNamed "vouchsafe/vouchsafelaw13.DigestSame" = some 6 by kernel_rfl).symm.trans hf) |>.symm
  obtain rfl : fn = Tryz.f6 := (Option.some.inj (Tryz.func6.symm.trans hfn)).symm
  refine ⟨by kernel_rfl, fun j t ht => ?_⟩
  rw [Tryz.params6] at ht
  have ht' := Array.mem_of_getElem? ht
  simp only [List.mem_toArray, List.mem_cons, List.not_mem_nil, or_false] at ht'
  rcases ht' with rfl | rfl
  · exact (show Tryz.prog.wantsStandIn 29 = false by kernel_rfl)
  · exact (show Tryz.prog.wantsStandIn 29 = false by kernel_rfl)
theorem card : Rows.DigestSameCardSaid :=
  Claim7.holds_tied_plain_at .later [] _ _ _ _ said (fun _ h => by cases h) (by kernel_rfl) (fun _ h => by cases h) digestSame_row_tie rfl ⟨rfl, rfl⟩ (by kernel_rfl) rfl plain (by kernel_rfl)
end Go.Proofs.YtdahdbnfknmmgaaGreatDoor.digestSame
#print axioms Go.Proofs.YtdahdbnfknmmgaaGreatDoor.digestSame.card
end
