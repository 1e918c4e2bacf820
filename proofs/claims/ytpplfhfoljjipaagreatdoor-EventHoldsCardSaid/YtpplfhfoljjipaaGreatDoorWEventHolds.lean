/- 'vouchsafelaw22.EventHolds' returns true, and its input reads as before. -/
import Derived.Test.YtpplfhfoljjipaaGreatDoorW8
set_option linter.unusedVariables false
set_option linter.unusedSimpArgs false
set_option maxRecDepth 100000
set_option maxHeartbeats 200000
namespace Go.Proofs.YtpplfhfoljjipaaGreatDoor
section
namespace eventHolds
open Go V Go.ChangeShapes Go.WideShapes Go.ChangeAt Go.RowKit
theorem contract(H:Type)(enc:TypeId×Value->H)(W:World)(base:Nat)(args:Array Value)(ds gs:List (DataW H))(before:List MemPlace)
  (hval: ∀(j:Nat) t v,Tryz.f3.params[j]?=some t->args[j]?=some v->Value.okWide Tryz.prog W .any base t v)
  (hW:DataW.Whole enc Tryz.prog Tryz.f3.params.toList Rows.eventHoldsSpec.vars false W args.toList ds gs before) (hL:laidMetH Tryz.prog Rows.eventHoldsRow.laid W) (hO:W.ShapedOpen Tryz.prog):
  Calls Tryz.prog 3 args W fun e W'=> ∃v,e=.returned v/\Rows.eventHoldsSpec.post enc Tryz.prog Tryz.f3 false true false false W args v W':=by
 have hW':=hW;obtain⟨p,q,hA0,hV,rfl,hfz,hnd⟩:=hW;have hA:DataW.TrodAll enc Tryz.prog W 0 (fun _=>true) true Tryz.f3.params.toList args.toList ds p:=hA0
 rw[Tryz.params3] at hA hval;obtain⟨v0,vs0,d0,ds0,pl0,q0,hargs,rfl,rfl,⟨fu0,h0⟩,r0⟩:=trodAll_cons hA;obtain⟨v1,vs1,d1,ds1,pl1,q1,rfl,rfl,rfl,⟨fu1,h1⟩,r1⟩:=trodAll_cons r0;obtain⟨rfl,rfl,rfl⟩:=trodAll_nil r1;obtain rfl:args= #[v0,v1]:=by cases args;simp_all
 obtain⟨a0,p0,c0⟩:=(dV6 _) fu0 _ _ (aK3 _) h0;have k0:=hval 0 27 v0 rfl rfl;obtain⟨cs0,rfl⟩:=dP0 Tryz.underlying27 k0;have R0:=dB6 c0;obtain⟨a1,p1,c1⟩:=(dV5 _) fu1 _ _ (aK3 _) h1;have k1:=hval 1 30 v1 rfl rfl;obtain⟨cs1,rfl⟩:=dP0 Tryz.underlying30 k1;have R1:=dB5 c1;refine(dH2 Tryz.func3 rfl rfl (eM5 hL hO) (b97 R0 (b97 R1 dn8)) (Ev.c08 a0 a1.1 a1.2.1 a1.2.2 [] p1)).mono ?_;rintro e W' ⟨rfl,hb⟩
 exact⟨_,rfl,d17 kids hsz (by decide) rfl Tryz.underlying4 rfl (fun ds hd=>by
  match ds,hd with
  |[d0,d1],_=>rfl) hW' hb⟩
noncomputable def lw(os:Os):World:=((laidWorld os).forCall (fun _ _=>0) ⟨#[],#[.agg #[.string ⟨#[]⟩,.string ⟨#[]⟩,.string ⟨#[]⟩,.string ⟨#[]⟩,.bool false,.string ⟨#[]⟩,.int .i64 0,.int .i64 0,.string ⟨#[]⟩,.slice none 0 0,.slice none 0 0,.slice none 0 0,.slice none 0 0,.int .i64 0,.int .i64 0,.string ⟨#[]⟩,.int .i64 0,.int .i64 0,.string ⟨#[]⟩,.slice none 0 0,.slice none 0 0],zSg],[]⟩).memory
theorem lr1(os:Os):(DataW.laidRun Tryz.prog (lw os) 8 (bl9.map (·.1))).map (·.1)=some bl9:=by kernel_rfl
theorem lr2(os:Os):(DataW.laidRun Tryz.prog (lw os) 8 (bl9.map (·.1))).map (fun x=>laidRowsB Tryz.prog (lw os) x.2)=some true:=by kernel_rfl
theorem lr3(os:Os):(DataW.laidRun Tryz.prog (lw os) 8 (bl9.map (·.1))).map (fun x=>b71 (x.2.map (eb1 (dH3 os))))=some true:=by kernel_rfl
theorem laid_met(os:Os):laidMetH Tryz.prog Rows.eventHoldsRow.laid ((laidWorld os).forCall (fun _ _=>0) ⟨#[],#[.agg #[.string ⟨#[]⟩,.string ⟨#[]⟩,.string ⟨#[]⟩,.string ⟨#[]⟩,.bool false,.string ⟨#[]⟩,.int .i64 0,.int .i64 0,.string ⟨#[]⟩,.slice none 0 0,.slice none 0 0,.slice none 0 0,.slice none 0 0,.int .i64 0,.int .i64 0,.string ⟨#[]⟩,.int .i64 0,.int .i64 0,.string ⟨#[]⟩,.slice none 0 0,.slice none 0 0],zSg],[]⟩).memory:=
 cq7.symm▸cT3 (l:=bl9) 8 (eb1 (dH3 os)) (lr1 os) (lr3 os) (lr2 os)
theorem reads(os:Os){H:Type}(enc:TypeId×Value->H): ∃places,DataW.whole enc Tryz.prog ((laidWorld os).forCall (fun _ _=>0) ⟨#[],#[.agg #[.string ⟨#[]⟩,.string ⟨#[]⟩,.string ⟨#[]⟩,.string ⟨#[]⟩,.bool false,.string ⟨#[]⟩,.int .i64 0,.int .i64 0,.string ⟨#[]⟩,.slice none 0 0,.slice none 0 0,.slice none 0 0,.slice none 0 0,.int .i64 0,.int .i64 0,.string ⟨#[]⟩,.int .i64 0,.int .i64 0,.string ⟨#[]⟩,.slice none 0 0,.slice none 0 0],zSg],[]⟩).memory Tryz.f3.params.toList Rows.eventHoldsSpec.vars false (#[.agg #[.string ⟨#[]⟩,.string ⟨#[]⟩,.string ⟨#[]⟩,.string ⟨#[]⟩,.bool false,.string ⟨#[]⟩,.int .i64 0,.int .i64 0,.string ⟨#[]⟩,.slice none 0 0,.slice none 0 0,.slice none 0 0,.slice none 0 0,.int .i64 0,.int .i64 0,.string ⟨#[]⟩,.int .i64 0,.int .i64 0,.string ⟨#[]⟩,.slice none 0 0,.slice none 0 0],zSg]:Array Value).toList 8=some ([.agg [.lit (.string []),.lit (.string []),.lit (.string []),.lit (.string []),.lit (.bool false),.lit (.string []),.agg [.lit (.int .i64 0),.lit (.int .i64 0),.lit (.string []),.nil,.nil],.nil,.nil,.lit (.int .i64 0),.lit (.int .i64 0),.lit (.string []),.agg [.lit (.int .i64 0),.lit (.int .i64 0),.lit (.string []),.nil,.nil]],dSg],[],places):=
 ⟨[],by kernel_rfl⟩
set_option maxRecDepth 100000 in
theorem lifted(os:Os)(started:os.Started)(H:Type)(enc:TypeId×Value->H)(F:Stop.Interp):
  ReturnsInHanded {} Tryz.checked os 3 .any ((OpenSpec.ofChange Rows.eventHoldsSpec).preRow enc Tryz.prog Tryz.f3 Rows.eventHoldsRow.domain false Rows.eventHoldsRow.laid) (((OpenSpec.ofChange Rows.eventHoldsSpec).at F).post enc Tryz.prog Tryz.f3 false true false false):=by
 obtain⟨places,hx⟩:=reads os enc;refine returnsInHanded_of_row (C:=Tryz.checked) (s:=OpenSpec.ofChange Rows.eventHoldsSpec) own started (by kernel_rfl) Tryz.func3
  (witness_row_atRef (enc:=enc) (C:=Tryz.checked) false (laidWorld os) #[.agg #[.string ⟨#[]⟩,.string ⟨#[]⟩,.string ⟨#[]⟩,.string ⟨#[]⟩,.bool false,.string ⟨#[]⟩,.int .i64 0,.int .i64 0,.string ⟨#[]⟩,.slice none 0 0,.slice none 0 0,.slice none 0 0,.slice none 0 0,.int .i64 0,.int .i64 0,.string ⟨#[]⟩,.int .i64 0,.int .i64 0,.string ⟨#[]⟩,.slice none 0 0,.slice none 0 0],zSg] rfl (by kernel_rfl) (by kernel_rfl) (by kernel_rfl)
   (OpenSpec.preRow_of_cond 8 hx (by kernel_rfl) (fun k hk=>by cases hk) (by kernel_rfl) (laid_met os))) ?_
 intro W base args ds gs before hval hW _ _ _ hL hO _;exact contract H enc W base args ds gs before hval hW hL hO
theorem jf_wf:Rows.eventHoldsRow.wf (OpenSpec.ofChange Rows.eventHoldsSpec)=true:=by kernel_rfl
theorem jf_params:Tryz.f3.params.all (Tryz.prog.readableRec ·)=true:=by kernel_rfl
theorem jf_tie:namedTie Tryz.prog Rows.eventHoldsRow.named Rows.eventHoldsSpec.vars=true:=by kernel_rfl
theorem jf_place:(Rows.eventHoldsRow.inPlace==Tryz.prog.inPlace 3)=true:=by kernel_rfl
theorem jf_unf:(Rows.eventHoldsRow.unfollowed==Tryz.prog.unfollowed 3)=true:=by kernel_rfl
theorem jf_rec:(Rows.eventHoldsRow.recurses==Tryz.prog.recurses 3)=true:=by kernel_rfl
theorem jf_named:(Rows.eventHoldsRow.named==Tryz.prog.varsNamed 3)=true:=by kernel_rfl
theorem jf_maps:((Rows.eventHoldsRow.maps==(Tryz.f3.params.toList++Rows.eventHoldsSpec.plain.varTypes Tryz.prog).any (Tryz.prog.mapsRec ·))&&(Rows.eventHoldsRow.ifaces==(Tryz.f3.params.toList++Rows.eventHoldsSpec.plain.varTypes Tryz.prog).any (Tryz.prog.ifacesRec ·))&&(Rows.eventHoldsRow.mapsOut==Tryz.prog.mapsAmong Tryz.f3.resultTypes.toList))=true:=by kernel_rfl
theorem jf_loops:((Rows.eventHoldsRow.loops==(Tryz.f3.params.toList++Rows.eventHoldsSpec.plain.varTypes Tryz.prog).any (Tryz.prog.loopsFrom ·))&&(Rows.eventHoldsRow.wideKeys==(Tryz.f3.params.toList++Rows.eventHoldsSpec.plain.varTypes Tryz.prog++Tryz.f3.resultTypes.toList).any (Tryz.prog.wideKeysFrom ·)))=true:=by kernel_rfl
theorem jf_vars:(Rows.eventHoldsSpec.vars.all (Tryz.prog.varReadable ·)&&Tryz.f3.resultTypes.all (fun t=>Tryz.prog.readableRec t&&decide (t < Tryz.prog.types.size))&&(Rows.eventHoldsRow.ifacesOut==Tryz.f3.resultTypes.toList.any (Tryz.prog.ifacesRec ·))&&(Rows.eventHoldsRow.loopsOut==Tryz.f3.resultTypes.toList.any (Tryz.prog.loopsFrom ·)))=true:=by kernel_rfl
theorem jf_make:(Tryz.prog.make==some Rows.eventHoldsRow.make)=true:=by kernel_rfl
theorem jf_kinds:(Rows.eventHoldsRow.kinds==(if Rows.eventHoldsRow.domain.isEmpty then[] else Tryz.f3.params.toList.map fun t=>match Tryz.prog.underlying t with|some (.int k)=>some k|_=>none))=true:=by kernel_rfl
theorem jf_pin:(Rows.eventHoldsRow.pinned==Rows.eventHoldsRow.pinnedBy)=true:=by kernel_rfl
theorem jf_veil:(Rows.eventHoldsRow.veiled==(Tryz.f3.params.toList++Rows.eventHoldsSpec.plain.varTypes Tryz.prog++Tryz.f3.resultTypes.toList).any (Tryz.prog.veiledRec ·))=true:=by kernel_rfl
theorem jf_fits:Rows.eventHoldsRow.veiledFits Tryz.prog Tryz.f3.params.toList (Tryz.f3.params.toList++Rows.eventHoldsSpec.plain.varTypes Tryz.prog++Tryz.f3.resultTypes.toList)=true:=by kernel_rfl
theorem jf_all:joinedFacts Tryz.prog 3 Tryz.f3 (OpenSpec.ofChange Rows.eventHoldsSpec).bare Rows.eventHoldsRow=true:=
 dH6 jf_wf do8 eg8 jf_params jf_tie rfl dU4 rfl dU6 jf_place jf_unf jf_rec jf_named jf_maps jf_loops jf_vars eg9 rfl dU7 dU8 dU5 jf_make jf_kinds jf_pin jf_veil jf_fits
theorem said:Rows.EventHoldsSaid:=
 OpenClaim.holds_of_cond 3 Tryz.f3 rfl rfl rfl rfl rfl rfl rfl ⟨rfl,rfl,rfl,rfl,rfl⟩ rfl rfl rfl rfl rfl (by kernel_rfl) Tryz.func3 jf_all
  (of_decide_eq_true (by kernel_rfl)) (by unfold Func.isWrapper;first|(rw[if_pos (by decide+kernel)];kernel_rfl)|(rw[if_neg (by decide+kernel)];exact⟨rfl,rfl⟩))
  (fun os started H enc _ F=>by rw[OpenClaim.pre_eq_preRow];exact lifted os started H enc F)
theorem plain(f:FuncId)(fn:Func)(hf:Tryz.pinned.checked.prog.funcNamed "vouchsafe/vouchsafelaw22.EventHolds" =some f)(hfn:Tryz.pinned.checked.prog.funcs[f]?=some fn):
  false=Tryz.pinned.checked.prog.looks []/\ ∀(j:Nat) t,fn.params[j]?=some t->Tryz.pinned.checked.prog.wantsStandIn t=false:=by
 obtain rfl:f=3:=Option.some.inj ((show Tryz.prog.funcNamed "vouchsafe/vouchsafelaw22.EventHolds" =some 3 by kernel_rfl).symm.trans hf)|>.symm
 obtain rfl:fn=Tryz.f3:=(Option.some.inj (Tryz.func3.symm.trans hfn)).symm;refine⟨by kernel_rfl,fun j t ht=>?_⟩
 rw[Tryz.params3] at ht;have ht':=cI4 ht;simp only[List.mem_toArray,xq8,aK4,or_false] at ht';rcases ht' with rfl|rfl
 ·exact(show Tryz.prog.wantsStandIn 27=false by kernel_rfl)
 ·exact(show Tryz.prog.wantsStandIn 30=false by kernel_rfl)
theorem card:Rows.EventHoldsCardSaid:=
 Claim7.holds_tied_plain_at .later [] _ _ _ _ said (fun _ h=>by cases h) (by kernel_rfl) (fun _ h=>by cases h) eventHolds_row_tie rfl ⟨rfl,rfl⟩ (by kernel_rfl) rfl plain (by kernel_rfl)
end eventHolds
#print axioms Go.Proofs.YtpplfhfoljjipaaGreatDoor.eventHolds.card
end
end Go.Proofs.YtpplfhfoljjipaaGreatDoor
