/- 'vouchsafelaw21.IdsrvTicks' returns true, and its input reads as before. -/
import Derived.Test.YtdkpdjfimckdgaaGreatDoorW8
set_option linter.unusedVariables false
set_option linter.unusedSimpArgs false
set_option maxRecDepth 100000
set_option maxHeartbeats 200000
namespace Go.Proofs.YtdkpdjfimckdgaaGreatDoor
section
namespace idsrvTicks
open Go V As Go.ChangeShapes Go.WideShapes Go.ChangeAt Go.RowKit
theorem contract(H:Type)(enc:TypeId×Value->H)(W:World)(base:Nat)(args:Array Value)(ds gs:List (DataW H))(before:List MemPlace)
  (hval: ∀(j:Nat) t v,Tryz.f3.params[j]?=some t->args[j]?=some v->Value.okWide Tryz.prog W .any base t v)
  (hW:DataW.Whole enc Tryz.prog Tryz.f3.params.toList Rows.idsrvTicksSpec.vars false W args.toList ds gs before) (hL:laidMetH Tryz.prog Rows.idsrvTicksUptoRow.laid W) (hO:W.ShapedOpen Tryz.prog) (hk:Rows.uptoSmall H (ds++gs)=true):
  Calls Tryz.prog 3 args W fun e W'=> ∃v,e=.returned v/\Rows.idsrvTicksSpec.post enc Tryz.prog Tryz.f3 false true false false W args v W':=by
 have hW':=hW;obtain⟨p,q,hA0,hV,rfl,hfz,hnd⟩:=hW;have hA:DataW.TrodAll enc Tryz.prog W 0 (fun _=>true) true Tryz.f3.params.toList args.toList ds p:=hA0
 rw[Tryz.params3] at hA hval;obtain⟨v0,vs0,d0,ds0,pl0,q0,hargs,rfl,rfl,⟨fu0,h0⟩,r0⟩:=trodAll_cons hA;obtain⟨v1,vs1,d1,ds1,pl1,q1,rfl,rfl,rfl,⟨fu1,h1⟩,r1⟩:=trodAll_cons r0;obtain⟨rfl,rfl,rfl⟩:=trodAll_nil r1;obtain rfl:args= #[v0,v1]:=by cases args;simp_all
 obtain⟨rfl,rfl⟩:=trodVars_none hV;have hB:Rows.uptoBulkAll [d0,d1]<=1048576:=of_decide_eq_true hk;have b0:DB d0:=by
  have:=bE7 (d:=d0) (l:=[d0,d1]) (by simp)
  unfold DB;omega
 obtain⟨a0,p0,c0⟩:=(da0 _) fu0 _ _ (bt6 _) h0 b0;have k0:=hval 0 27 v0 rfl rfl;obtain⟨cs0,rfl⟩:=ef0 Tryz.underlying27 k0;have R0:=bV4 c0;obtain⟨a1,p1,c1⟩:=(c98 _) fu1 _ _ (bt6 _) h1;have k1:=hval 1 28 v1 rfl rfl;obtain⟨cs1,rfl⟩:=cZ0 Tryz.underlying28 k1;have R1:=bV4 c1;refine(de3 Tryz.func3 rfl rfl (eh9 hL hO) (bJ8 R0 (bJ8 R1 cQ9)) (d00 a0 a1.1 a1.2 ⟨⟨fun x hx=>(p0.2.1.2 x hx).2.1.2,fun x hx=>(p0.2.2.1.2 x hx).2.2.1,fun x hx=>(p0.2.2.2.1.2 x hx).1.2,fun x hx=>(p0.2.2.2.2.2 x hx).2.1.2⟩,p0.2.1.1,p0.2.2.1.1,p0.2.2.2.1.1,p0.2.2.2.2.1⟩ p1.1 p1.2)).mono ?_
 rintro e W' ⟨rfl,hb⟩
 exact⟨_,rfl,dx7 kids hsz (by decide) rfl Tryz.underlying4 rfl (fun ds hd=>by
  match ds,hd with
  |[d0,d1],_=>rfl) hW' hb⟩
noncomputable def lw(os:Os):World:=((laidWorld os).forCall (fun _ _=>0) ⟨#[],#[.agg #[.int .i64 0,.string ⟨#[]⟩,.slice none 0 0,.slice none 0 0,.slice none 0 0,.slice none 0 0],.agg #[.int .i64 0,.int .i64 0]],[]⟩).memory
theorem lr1(os:Os):(DataW.laidRun Tryz.prog (lw os) 8 (a19.map (·.1))).map (·.1)=some a19:=by kernel_rfl
theorem lr2(os:Os):(DataW.laidRun Tryz.prog (lw os) 8 (a19.map (·.1))).map (fun x=>laidRowsB Tryz.prog (lw os) x.2)=some true:=by kernel_rfl
theorem lr3(os:Os):(DataW.laidRun Tryz.prog (lw os) 8 (a19.map (·.1))).map (fun x=>bI3 (x.2.map (dJ0 (de5 os))))=some true:=by kernel_rfl
theorem laid_met(os:Os):laidMetH Tryz.prog Rows.idsrvTicksUptoRow.laid ((laidWorld os).forCall (fun _ _=>0) ⟨#[],#[.agg #[.int .i64 0,.string ⟨#[]⟩,.slice none 0 0,.slice none 0 0,.slice none 0 0,.slice none 0 0],.agg #[.int .i64 0,.int .i64 0]],[]⟩).memory:=
 bX9.symm▸cs6 (l:=a19) 8 (dJ0 (de5 os)) (lr1 os) (lr3 os) (lr2 os)
theorem reads(os:Os){H:Type}(enc:TypeId×Value->H): ∃places,DataW.whole enc Tryz.prog ((laidWorld os).forCall (fun _ _=>0) ⟨#[],#[.agg #[.int .i64 0,.string ⟨#[]⟩,.slice none 0 0,.slice none 0 0,.slice none 0 0,.slice none 0 0],.agg #[.int .i64 0,.int .i64 0]],[]⟩).memory Tryz.f3.params.toList Rows.idsrvTicksSpec.vars false (#[.agg #[.int .i64 0,.string ⟨#[]⟩,.slice none 0 0,.slice none 0 0,.slice none 0 0,.slice none 0 0],.agg #[.int .i64 0,.int .i64 0]]:Array Value).toList 8=some ([.agg [.lit (.int .i64 0),.lit (.string []),.nil,.nil,.nil,.nil],.agg [.lit (.int .i64 0),.lit (.int .i64 0)]],[],places):=
 ⟨[],by kernel_rfl⟩
set_option maxRecDepth 100000 in
theorem lifted(os:Os)(started:os.Started)(H:Type)(enc:TypeId×Value->H)(F:Stop.Interp):
  ReturnsInHanded {} Tryz.checked os 3 .any ((Rows.OpenSpec.upto Rows.idsrvTicksSpec).preRow enc Tryz.prog Tryz.f3 Rows.idsrvTicksUptoRow.domain false Rows.idsrvTicksUptoRow.laid) (((Rows.OpenSpec.upto Rows.idsrvTicksSpec).at F).post enc Tryz.prog Tryz.f3 false true false false):=by
 obtain⟨places,hx⟩:=reads os enc;refine returnsInHanded_of_row (C:=Tryz.checked) (s:=Rows.OpenSpec.upto Rows.idsrvTicksSpec) own started (by kernel_rfl) Tryz.func3
  (witness_row_atRef (enc:=enc) (C:=Tryz.checked) false (laidWorld os) #[.agg #[.int .i64 0,.string ⟨#[]⟩,.slice none 0 0,.slice none 0 0,.slice none 0 0,.slice none 0 0],.agg #[.int .i64 0,.int .i64 0]] rfl (by kernel_rfl) (by kernel_rfl) (by kernel_rfl)
   (OpenSpec.preRow_of_cond 8 hx (by kernel_rfl) (fun k hk=>by cases hk;kernel_rfl) (by kernel_rfl) (laid_met os))) ?_
 intro W base args ds gs before hval hW _ hk _ hL hO _;exact contract H enc W base args ds gs before hval hW hL hO (hk _ rfl)
theorem jf_wf:Rows.idsrvTicksUptoRow.wf (Rows.OpenSpec.upto Rows.idsrvTicksSpec)=true:=by kernel_rfl
theorem jf_params:Tryz.f3.params.all (Tryz.prog.readableRec ·)=true:=by kernel_rfl
theorem jf_tie:namedTie Tryz.prog Rows.idsrvTicksUptoRow.named Rows.idsrvTicksSpec.vars=true:=by kernel_rfl
theorem jf_place:(Rows.idsrvTicksUptoRow.inPlace==Tryz.prog.inPlace 3)=true:=by kernel_rfl
theorem jf_unf:(Rows.idsrvTicksUptoRow.unfollowed==Tryz.prog.unfollowed 3)=true:=by kernel_rfl
theorem jf_rec:(Rows.idsrvTicksUptoRow.recurses==Tryz.prog.recurses 3)=true:=by kernel_rfl
theorem jf_named:(Rows.idsrvTicksUptoRow.named==Tryz.prog.varsNamed 3)=true:=by kernel_rfl
theorem jf_maps:((Rows.idsrvTicksUptoRow.maps==(Tryz.f3.params.toList++Rows.idsrvTicksSpec.plain.varTypes Tryz.prog).any (Tryz.prog.mapsRec ·))&&(Rows.idsrvTicksUptoRow.ifaces==(Tryz.f3.params.toList++Rows.idsrvTicksSpec.plain.varTypes Tryz.prog).any (Tryz.prog.ifacesRec ·))&&(Rows.idsrvTicksUptoRow.mapsOut==Tryz.prog.mapsAmong Tryz.f3.resultTypes.toList))=true:=by kernel_rfl
theorem jf_loops:((Rows.idsrvTicksUptoRow.loops==(Tryz.f3.params.toList++Rows.idsrvTicksSpec.plain.varTypes Tryz.prog).any (Tryz.prog.loopsFrom ·))&&(Rows.idsrvTicksUptoRow.wideKeys==(Tryz.f3.params.toList++Rows.idsrvTicksSpec.plain.varTypes Tryz.prog++Tryz.f3.resultTypes.toList).any (Tryz.prog.wideKeysFrom ·)))=true:=by kernel_rfl
theorem jf_vars:(Rows.idsrvTicksSpec.vars.all (Tryz.prog.varReadable ·)&&Tryz.f3.resultTypes.all (fun t=>Tryz.prog.readableRec t&&decide (t < Tryz.prog.types.size))&&(Rows.idsrvTicksUptoRow.ifacesOut==Tryz.f3.resultTypes.toList.any (Tryz.prog.ifacesRec ·))&&(Rows.idsrvTicksUptoRow.loopsOut==Tryz.f3.resultTypes.toList.any (Tryz.prog.loopsFrom ·)))=true:=by kernel_rfl
theorem jf_make:(Tryz.prog.make==some Rows.idsrvTicksUptoRow.make)=true:=by kernel_rfl
theorem jf_kinds:(Rows.idsrvTicksUptoRow.kinds==(if Rows.idsrvTicksUptoRow.domain.isEmpty then[] else Tryz.f3.params.toList.map fun t=>match Tryz.prog.underlying t with|some (.int k)=>some k|_=>none))=true:=by kernel_rfl
theorem jf_pin:(Rows.idsrvTicksUptoRow.pinned==Rows.idsrvTicksUptoRow.pinnedBy)=true:=by kernel_rfl
theorem jf_veil:(Rows.idsrvTicksUptoRow.veiled==(Tryz.f3.params.toList++Rows.idsrvTicksSpec.plain.varTypes Tryz.prog++Tryz.f3.resultTypes.toList).any (Tryz.prog.veiledRec ·))=true:=by kernel_rfl
theorem jf_fits:Rows.idsrvTicksUptoRow.veiledFits Tryz.prog Tryz.f3.params.toList (Tryz.f3.params.toList++Rows.idsrvTicksSpec.plain.varTypes Tryz.prog++Tryz.f3.resultTypes.toList)=true:=by kernel_rfl
theorem jf_all:joinedFacts Tryz.prog 3 Tryz.f3 (Rows.OpenSpec.upto Rows.idsrvTicksSpec).bare Rows.idsrvTicksUptoRow=true:=
 de7 jf_wf cR8 dO0 jf_params jf_tie rfl dp9 rfl dq1 jf_place jf_unf jf_rec jf_named jf_maps jf_loops jf_vars dO1 rfl dq2 dq3 dq0 jf_make jf_kinds jf_pin jf_veil jf_fits
theorem said:Rows.IdsrvTicksUptoSaid:=
 OpenClaim.holds_of_cond 3 Tryz.f3 rfl rfl rfl rfl rfl rfl rfl ⟨rfl,rfl,rfl,rfl,rfl⟩ rfl rfl rfl rfl rfl (by kernel_rfl) Tryz.func3 jf_all
  (of_decide_eq_true (by kernel_rfl)) (by unfold Func.isWrapper;first|(rw[if_pos (by decide+kernel)];kernel_rfl)|(rw[if_neg (by decide+kernel)];exact⟨rfl,rfl⟩))
  (fun os started H enc _ F=>by rw[OpenClaim.pre_eq_preRow];exact lifted os started H enc F)
theorem plain(f:FuncId)(fn:Func)(hf:Tryz.pinned.checked.prog.funcNamed "vouchsafe/vouchsafelaw21.IdsrvTicks" =some f)(hfn:Tryz.pinned.checked.prog.funcs[f]?=some fn):
  true=Tryz.pinned.checked.prog.looks []/\ ∀(j:Nat) t,fn.params[j]?=some t->Tryz.pinned.checked.prog.wantsStandIn t=false:=by
 obtain rfl:f=3:=Option.some.inj ((show Tryz.prog.funcNamed "vouchsafe/vouchsafelaw21.IdsrvTicks" =some 3 by kernel_rfl).symm.trans hf)|>.symm
 obtain rfl:fn=Tryz.f3:=(Option.some.inj (Tryz.func3.symm.trans hfn)).symm;refine⟨by kernel_rfl,fun j t ht=>?_⟩
 rw[Tryz.params3] at ht;have ht':=ce5 ht;simp only[List.mem_toArray,an8,aJ2,or_false] at ht';rcases ht' with rfl|rfl
 ·exact(show Tryz.prog.wantsStandIn 27=false by kernel_rfl)
 ·exact(show Tryz.prog.wantsStandIn 28=false by kernel_rfl)
theorem card:Rows.IdsrvTicksUptoCardSaid:=
 Claim7.holds_tied_plain_at .later [] _ _ _ _ said (fun _ h=>by cases h) (by kernel_rfl) (fun _ h=>by cases h) idsrvTicksUpto_row_tie rfl ⟨rfl,rfl⟩ (by kernel_rfl) rfl plain (cD0 dO2 rfl)
end idsrvTicks
#print axioms Go.Proofs.YtdkpdjfimckdgaaGreatDoor.idsrvTicks.card
end
end Go.Proofs.YtdkpdjfimckdgaaGreatDoor
