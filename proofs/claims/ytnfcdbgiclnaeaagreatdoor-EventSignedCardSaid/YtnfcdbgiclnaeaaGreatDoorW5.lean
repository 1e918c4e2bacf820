/- slices.Insert, slices.Clone, of texts and of trees: written by gen_insert.py. -/
import Derived.Test.YtnfcdbgiclnaeaaGreatDoorW4
import Derived.Test.YtnfcdbgiclnaeaaGreatDoorW3
import Derived.Lib.TrimUEq
import Derived.Lib.Walk
import Derived.Lib.RuneCount
import Derived.Laws.RangeString
import Derived.Laws.RangeAny
import Derived.LoopTactic
import Derived.Lib.ItoaNum
import Derived.Lib.ItoaWalk
import Derived.Lib.ItoaMem
set_option linter.unusedVariables false
set_option linter.unusedSimpArgs false
set_option maxRecDepth 10000
set_option maxHeartbeats 4000000
namespace Go.Proofs.YtnfcdbgiclnaeaaGreatDoor
section
open Go V
theorem bp1{A B C B':List AV}{n:Nat}(hn:n=A.length)(h:B.length=B'.length):af0 (A++B++C) n B'=A++B'++C:=by
 subst hn;refine aV9 fun k=>?_
 rw[bp2];simp only[List.length_append];by_cases h1:k < A.length
 ·rw[if_neg (by omega),List.append_assoc,List.append_assoc,xq4 h1,xq4 h1]
 ·by_cases h2:k < A.length+B'.length
  ·rw[if_pos (by omega),xq4 (by simp;omega),xq7 (by omega)]
  ·rw[if_neg (by omega),xq7 (by simp;omega),xq7 (by simp;omega)]
   congr 1
   simp
   omega
theorem bL8{xs:List AV}{x:AV}{i:Nat}(hi:i<=xs.length):aa0 (xs.insertIdx i x)=aa0 (xs.take i)++x.flat++aa0 (xs.drop i):=by
 induction xs generalizing i with
 |nil=>obtain rfl:i=0:=by simpa using hi
       simp[aa0]
 |cons a xs ih=>
  cases i with
  |zero=>simp[aa0]
  |succ i=>
   rw[b33,an4,ih (by simpa using hi),xq8,xq5,an4]
   simp
theorem cE3{n i s:Nat}:(n - i)*s=n*s - i*s:=Nat.sub_mul n i s
theorem cG4{xs:List AV}{x:AV}{P:List AV}{s n i:Nat}(hu: ∀y∈xs,y.flat.length=s)(hx:x.flat.length=s)(hn:xs.length=n)(hi:i<=n)(hP:s<=P.length):
  (af0 (af0 (aa0 xs++P) ((i+1)*s) (((aa0 xs++P).drop (i*s)).take ((n - i)*s))) (i*s) x.flat).take ((n+1)*s)=aa0 (xs.insertIdx i x):=by
 have hA:(aa0 (xs.take i)).length=i*s:=by rw[ah2 (s:=s) fun y hy=>hu y (bH2 hy),List.length_take,bl4 (by omega)]
 have hB:(aa0 (xs.drop i)).length=(n - i)*s:=by rw[ah2 (s:=s) fun y hy=>hu y (bs6 hy),List.length_drop,hn]
 have hsp:aa0 xs=aa0 (xs.take i)++aa0 (xs.drop i):=by rw[<-ak8,bG7]
 rw[bL8 (by omega),hsp]
 generalize aa0 (xs.take i)=A at*;generalize aa0 (xs.drop i)=B at*;have hz:((A++B++P).drop (i*s)).take ((n - i)*s)=B:=by
  rw[List.append_assoc,<-hA,List.drop_left,<-hB,aZ2]
 rw[hz];have hW: ∃U V,B++P.take s=U++V/\U.length=s/\V.length=B.length:=⟨(B++P.take s).take s,(B++P.take s).drop s,(bG7 ..).symm,by rw[List.length_take,List.length_append,List.length_take];omega,by rw[List.length_drop,List.length_append,List.length_take];omega⟩
 obtain⟨U,V,hUV,hU,hV⟩:=hW;have e1:A++B++P=(A++U)++V++P.drop s:=by
  rw[List.append_assoc A U V,<-hUV];simp
 rw[e1,bp1 (by rw[List.length_append,hA,hU,aC7,bz4]) hV]
 have e2:(A++U)++B++P.drop s=A++U++(B++P.drop s):=by simp
 rw[e2,bp1 hA.symm (by rw[hU,hx])]
 have e3:A++x.flat++(B++P.drop s)=(A++x.flat++B)++P.drop s:=by simp
 rw[e3];have hl:(A++x.flat++B).length=(n+1)*s:=by
  rw[List.length_append,List.length_append,hA,hx,hB,cE3,aC7,bz4];have:=aM5 s hi;omega
 rw[<-hl,aZ2]
theorem cV7{xs:List AV}{x:AV}{s n i m:Nat}(hu: ∀y∈xs,y.flat.length=s)(hx:x.flat.length=s)(hn:xs.length=n)(hi:i<=n)(hm:(n+1 - i)*s<=m):
  (af0 (af0 ((aa0 xs).take (i*s)++List.replicate m .any) (i*s) x.flat) ((i+1)*s) ((aa0 xs).drop (i*s))).take ((n+1)*s)=aa0 (xs.insertIdx i x):=by
 have hA:(aa0 (xs.take i)).length=i*s:=by rw[ah2 (s:=s) fun y hy=>hu y (bH2 hy),List.length_take,bl4 (by omega)]
 have hB:(aa0 (xs.drop i)).length=(n - i)*s:=by rw[ah2 (s:=s) fun y hy=>hu y (bs6 hy),List.length_drop,hn]
 have hsp:aa0 xs=aa0 (xs.take i)++aa0 (xs.drop i):=by rw[<-ak8,bG7]
 have hm2:(n+1 - i)*s=s+(n - i)*s:=by rw[show n+1 - i=(n - i)+1 by omega,aC7,bz4,cg5]
 rw[bL8 (by omega),hsp]
 generalize aa0 (xs.take i)=A at*;generalize aa0 (xs.drop i)=B at*;have hz:(A++B).drop (i*s)=B:=by rw[<-hA,List.drop_left]
 have hy:(A++B).take (i*s)=A:=by rw[<-hA,aZ2]
 rw[hz,hy];obtain⟨r,hr⟩: ∃r,m=s+((n - i)*s+r):=⟨m - s - (n - i)*s,by omega⟩
 have e1:A++List.replicate m AV.any=A++List.replicate s .any++(List.replicate ((n - i)*s) .any++List.replicate r .any):=by
  rw[hr,List.append_assoc,cu3,cu3]
 rw[e1,bp1 hA.symm (by rw[List.length_replicate,hx])]
 have e2:A++x.flat++(List.replicate ((n - i)*s) AV.any++List.replicate r .any)=(A++x.flat)++List.replicate ((n - i)*s) .any++List.replicate r .any:=by simp
 rw[e2,bp1 (by rw[List.length_append,hA,hx,aC7,bz4]) (by rw[List.length_replicate,hB])]
 have hl:(A++x.flat++B).length=(n+1)*s:=by
  rw[List.length_append,List.length_append,hA,hx,hB,cE3,aC7,bz4];have:=aM5 s hi;omega
 rw[<-hl,aZ2]
theorem cj1{x:AV}(h:x.okv=true):x.flat.all AV.scalar=true:=by
 cases x<;>simp_all [AV.okv,AV.flat,AV.scalar]
theorem cq4{xs:List AV}(h: ∀y∈xs,y.okv=true):(aa0 xs).all AV.scalar=true:=by
 rw[xq6];intro c hc;unfold aa0 at hc;obtain⟨y,hy,hcy⟩:=bW3.1 hc;exact xq6.1 (cj1 (h y hy)) c hcy
theorem bk7{xs:List AV}{x:AV}{s i:Nat}(hu: ∀y∈xs,y.flat.length=s/\y.okv=true)(hx:x.flat.length=s/\x.okv=true)(hi:i<=xs.length): ∀y∈xs.insertIdx i x,y.flat.length=s/\y.okv=true:=fun y hy=>by
 rcases(List.mem_insertIdx hi).1 hy with rfl|hy
 ·exact hx
 ·exact hu y hy
theorem bR8{H:List AObj}{k s n cap:Nat}{sh:Shape}{cs xs:List AV}(ho:H[k]?=some (.cells sh cs))(hx:xs.length=n)(hu: ∀x∈xs,x.flat.length=s/\x.okv=true)(h:cs.take (n*s)=aa0 xs):Frz1 H k (.msl k 0 n cap) (.sl .sh s xs):=by
 have hl:(aa0 xs).length<=cs.length:=by rw[<-h,List.length_take];omega
 refine .msl 0 n cap s sh cs xs ho hx hu (by omega) fun j c y e1 e2=>?_
 rw[Nat.zero_add] at e1;have hj:=y9 e2;rw[<-h,aG3] at e2;split at e2
 ·rw[e1] at e2
  cases e2
  exact .keep _
 ·cases e2
theorem cW6{H:List AObj}{sh:Shape}{k s n:Nat}{cs xs:List AV}(ho:H[k]?=some (.cells sh cs))(hx:xs.length=n)(hu: ∀x∈xs,x.flat.length=s/\x.okv=true)(h:cs=aa0 xs):Frz1 H k (.mrow k n) (.sl .sh s xs):=by
 subst h;refine .row n s sh _ xs ho hx hu (xq0 _) fun j c y e1 e2=>?_
 rw[e1] at e2;cases e2
 exact .keep _
theorem cq7{H₀ M:List AObj}{R:AV->List AObj->Prop}{x:AV}{a:Nat}(hx:Low H₀.length x)(hr:R x (H₀.set a .gone)):Done H₀ R x (H₀.set a .gone++M):=by
 unfold Done;have hl:(H₀.set a AObj.gone).length=H₀.length:=by simp
 refine⟨x,(H₀.set a .gone++M).take H₀.length,bo5 (Le.refl x) (xq0 _) hx fun i sh cs hi e=>.inl ?_,?_⟩
 ·rw[xq4 (by rw[hl];exact hi)] at e
  rcases an9 e with⟨_,e'⟩|⟨_,e',_⟩
  ·exact e'
  ·cases e'
 ·rw[bG6 (by rw[hl];exact xq0 _),ak5 (by rw[hl];exact xq0 _)]
  exact hr
theorem bv5{P:Program}(w:World)(tS tR e:TypeId)(ht:P.underlying tS=some (.slice e))(size:Nat)(hz: ∀w,(Go.sizeOf e).run P w=.ok size w)
  (a b:Addr) (la ca lb cb:Nat) (hne:a.block≠b.block) (tA tB:TypeId) (kA kB:Nat)
  (hsa:w.shape? a.block=some (tA,kA)) (hsb:w.shape? b.block=some (tB,kB)) (hkA:kA≠0) (hkB:kB≠0)
  (hfb:w.frozen? b=false) (hfe:w.frozen? {block:=b.block,off:=kB}=false):
  (Extern.SlicesOverlaps.overlaps #[tS,tS] #[tR] #[.slice (some a) la ca,.slice (some b) lb cb]).run P w=.ok (.bool false) w:=by
 have hnb:(a.block !=b.block)=true:=by simpa using hne
 have hnb':(a.block==b.block)=false:=by simpa using hne
 change Sem.run P (α:=Value) (do
  let some t:=(#[tS,tS]:Array TypeId)[0]?|stuck "slices.overlaps: no parameter types"
  let .slice elem<-underlying t|stuck "slices.overlaps: slice type expected"
  let size<-sizeOf elem
  match(some a:Option Addr),(some b:Option Addr) with
  |some a,some b=>
   if la=0\/lb=0\/size=0 then pure (Value.bool false)
   else if a.block !=b.block&&(<-frozen a)&&(<-frozen b) then unsupported .addressObserved
   else do
    if a.block !=b.block then do
     noView a;noView b
     if<-mayBeOne a b then return Value.bool ((<-choose (.extern "sameAddr.stringBytes" 2))==1)
    pure (Value.bool (a.block==b.block&&a.off < b.off+lb*size&&b.off < a.off+la*size))
  |_,_=>pure (Value.bool false)) w=_
 by_cases h0:la=0\/lb=0\/size=0
 ·simp[run_underlying ht,hz,h0]
 ·obtain⟨kA,rfl⟩: ∃n,kA=n+1:=⟨kA - 1,by omega⟩
  cases kB with
  |zero=>exact absurd rfl hkB
  |succ kB=>
   cases hfa:w.frozen? a<;>cases hfx:w.frozen? ⟨a.block,kA+1,none⟩<;>
    simp[run_underlying ht,hz,h0,hnb,hnb',frozen,noView,viewAt,mayBeOne,stringish,shape,Sem.run,hsa,hsb,hfb,hfe,hfa,hfx]
theorem cd3{H₀ H:List AObj}{R:AV->List AObj->Prop}{z s:Nat}(hs:0 < s)(hr:Done H₀ R (.sl (.tok H.length) s []) (H++[.grow s 0 none])):Done H₀ R (.sl .full z []) H:=by
 unfold Done at hr⊢;obtain⟨y,H'',he,hR⟩:=hr;refine⟨y,H'',cd0 (fun G₀ w₀ G w v h0 hi hst r=>?_) he,hR⟩
 cases r with
 |sl _ _ _ ad len cap val hl hcap hs' hc hr' hf ha ho=>
  have r0:Rel G H w (.sl .full z []) (.slice ad len cap):=.sl .full z [] ad len cap val hl hcap hs' hc hr' hf ha ho;obtain⟨hi',st',hr''⟩:=cE4 none hi r0 hs (fun h=>absurd rfl h) (fun h=>absurd rfl h)
  exact⟨_,hi',hst.trans st',hr''⟩
theorem c92{o:Own}{s k off n cap:Nat}{T:TypeId}{cs xs:List AV}{H:List AObj}(hx:aa0 xs≠[])(hk:H[k]?=some (.cells (.one T) cs))(hcs:cs≠[]):o9 Tryz.prog 179 [.sl o s xs,.msl k off n cap] H (fun y H'=>y=.bool false/\H'=H):=
 ay9 (e:=Extern.SlicesOverlaps.overlaps #[22,22] #[4]) Tryz.func179 (by kernel_rfl) (by kernel_rfl) (by kernel_rfl) (by kernel_rfl) fun G w vs hi ha=>by
  obtain⟨v,u,rfl,hv,hu⟩:=bX5 ha;obtain⟨arr,T1,fr,hb,hs,hr,hf,hg,hh⟩:=hi.cells k _ cs hk;obtain⟨rfl,h2,h3⟩:=hh;have hp1:0 < (aa0 xs).length:=aS7.2 hx;have hp2:0 < cs.length:=aS7.2 hcs;cases hv with
  |sl _ _ _ ad len cap' val hl hcap hs' hc hr' hf' ha' ho=>
  cases hu with
  |msl _ _ _ _ o2 g4 g5 g6=>
  obtain⟨b1,off1,rfl,himm,hcell⟩:=hc 0 _ (xq1 hp1);have hne:b1≠G.blk k:=fun e=>hf _ (e▸himm)
  obtain⟨a1,e1,f1,hb1⟩: ∃a1 e1 f1,w.heap[b1]?=some (.cells a1 e1 f1):=by
   unfold World.cell? at hcell;simp only at hcell;split at hcell
   ·rename_i h;exact⟨_,_,_,h⟩
   ·cases hcell
  have hka:a1.size≠0:=by
   rw[aw6 hb1] at hcell;intro e;rw[bH4 (by omega)] at hcell
   cases hcell
  refine⟨_,w,_,G,H,bv5 w 22 4 9 Tryz.underlying22 1 (fun w=>by simp) ⟨b1,off1,none⟩ ⟨G.blk k,off,none⟩ _ _ n cap hne e1 T1 a1.size arr.size (by simp[World.shape?,hb1]) (by simp[World.shape?,hb]) hka (by omega) ?_ ?_,hi,.refl _ _ _,.lit _,rfl,rfl⟩
  all_goals simp[World.frozen?,hb,h3]
theorem dQ3{k n i:Nat}{xs:List AV}{x:AV}{H:List AObj}(hk:H[k]?=some (.cells (.prow 1) (aa0 xs)))(hn:xs.length=n)(hu: ∀y∈xs,y.flat.length=1/\y.okv=true)(hx:x.flat.length=1/\x.okv=true)(hi:i<=n)(hl:n<=100000)
  (hlow: ∀m,Low m (.sl .sh 1 (xs.insertIdx i x))):o9 Tryz.prog 135 [.mrow k n,.lit (.int .i64 i),.sl .full 1 [x]] H (fun y H'=>y=.sl .sh 1 (xs.insertIdx i x)/\H'=H.set k .gone):=by
 have hkl:=y9 hk;have hfl:(aa0 xs).length=n*1:=by rw[ah2 (s:=1) fun y hy=>(hu y hy).1,hn]
 by_cases hin:i=n
 ·subst hin
  have hins:xs.insertIdx i x=xs++[x]:=by rw[<-hn];exact List.insertIdx_length_self
  ·have hll:(H.set k AObj.gone).length=H.length:=by simp
   refine y7 [1000011,1000015] [.tmp 6] 95 Tryz.func135 rfl rfl rfl rfl (nlb rfl) (by kernel_rfl) ?_
   repeat' first|refine o6 ?_|simp -dsimp -implicitDefEqProofs (disch:=first|assumption|omega|simp only[ll];omega) only[go_sem,hk,hfl,hx.1,hx.2]|refine vcJ ?_ ?_<;>intro _|refine vcA ?_ ?_;focus(repeat'(first|omega|assumption|refine vcA ?_ ?_);done)|omega|refine o7 (fun _=>?_)
   have hnew:(H.set k AObj.gone++[AObj.cells (.prow 1) (aa0 xs++aa0 [x])])[H.length]?=some (.cells (.prow 1) (aa0 xs++aa0 [x])):=by rw[<-hll];exact aP6
   refine aO0 (H':=[]) hnew (cW6 (xs:=xs++[x]) hnew (by simp[hn]) (by rw[<-hins];exact bk7 hu hx (by omega)) (by rw[ak8])) ?_
   rw[hs0 hll.symm,List.set_cons_zero];have:=hlow H.length;rw[hins] at this⊢;exact cq8 (o:=.gone) this rfl (fun sh cs e=>by cases e) ⟨rfl,rfl⟩
 ·refine bV5 (xs1:=[]) hk (by rw[hfl]) fun T cap hcap=>?_
  rw[List.nil_append];generalize hP:List.replicate ((cap - n)*1) AV.any=P;have hPl:P.length=(cap - n)*1:=by rw[<-hP,List.length_replicate]
  have hall:=cq4 fun y hy=>(hu y hy).2
  have hsc:(((aa0 xs++P).drop (i*1)).take ((n - i)*1)).all AV.scalar=true:=by
   have hle:=aM5 1 hi;rw[cu4 (by omega),bG6 (by rw[List.length_drop];omega),xq6]
   intro c hc;exact xq6.1 hall c (bs6 (bH2 hc))
  have hsd:((aa0 xs).drop (i*1)).all AV.scalar=true:=by
   rw[xq6];intro c hc;exact xq6.1 hall c (bs6 hc)
  try simp only[Nat.mul_one] at hsc hsd
  have hmin:min (n+1 - i) (n+1 - (i+1))=n - i:=by omega
  have hxs:=cj1 hx.2;have hfx:aa0 [x]=x.flat:=by simp[aa0]
  have hx0:x.flat≠[]:=fun e=>by have:=hx.1;rw[e] at this;cases this
  have hf0:aa0 xs++P≠[]:=fun e=>by have:=congrArg List.length e;rw[List.length_append,hfl] at this;simp only[List.length_nil] at this;omega
  have hov:=fun off m c=>c92 (o:=.full) (s:=1) (xs:=[x]) (off:=off) (n:=m) (cap:=c) (H:=H.set k (.cells (.one T) (aa0 xs++P))) (by simp[aa0,hx0]) (hss hkl) hf0
  have hI:((i:Int)+1).toNat=i+1:=by omega
  have hN1:((n:Int)+1).toNat=n+1:=by omega
  have hNI:((n:Int)+1 - (i:Int)).toNat=n+1 - i:=by omega
  have hsum:i+(n+1 - i)=n+1:=by omega
  have hci:((cap:Int)=(i:Int))=False:=eq_false (by omega)
  have hin':((i:Int)=(n:Int))=False:=eq_false (by omega)
  by_cases hc:n+1<=cap
  ·have hcI:((cap:Int)=(i:Int)+1)=False:=eq_false (by omega)
   have hcc:(((cap:Nat):Int) < (n:Int)+1)=False:=eq_false (by omega)
   refine y7 [1000011,1000015] [.tmp 6] 95 Tryz.func135 rfl rfl rfl rfl (nlb rfl) (by kernel_rfl) ?_
   repeat' first|refine o6 ?_|simp -dsimp -implicitDefEqProofs (disch:=first|assumption|omega|simp only[ll];omega) only[go_sem,hsn,hss,hPl,hfl,hsc,hxs,hx.1,hx.2,hI,hN1,hNI,hsum,hci,hin',hcI,hcc,aV8,au2,hmin]|refine o5 (hov _ _ _) ?_|refine vcJ ?_ ?_<;>intro _|refine vcA ?_ ?_;focus(repeat'(first|omega|assumption|refine vcA ?_ ?_);done)|omega|refine o7 (fun _=>?_)
   have hres:=cG4 (s:=1) (P:=P) (fun y hy=>(hu y hy).1) hx.1 hn hi (by omega)
   try simp only[Nat.mul_one] at hres
   refine aO0 (H':=[]) (k:=k) (hss hkl) (bR8 (s:=1) (xs:=xs.insertIdx i x) (hss hkl) (by rw[cu1 (by omega)];omega) (bk7 hu hx (by omega)) (by rw[hfx];first|exact hres|(rw[Nat.mul_one];exact hres))) ?_
   rw[List.set_set];exact ad7 _ (Le.refl _) (by simp) ⟨rfl,rfl⟩
  ·have hcc:(((cap:Nat):Int) < (n:Int)+1)=True:=eq_true (by omega)
   obtain rfl:cap=n:=by omega
   have hP0:P=[]:=by rw[<-hP,ao8,Nat.zero_mul];rfl
   rw[hP0,List.append_nil];clear hov hsc hf0;refine y7 [1000011,1000015] [.tmp 6] 95 Tryz.func135 rfl rfl rfl rfl (nlb rfl) (by kernel_rfl) ?_
   repeat' first|refine o6 ?_|simp -dsimp -implicitDefEqProofs (disch:=first|assumption|omega|simp only[ll];omega) only[go_sem,hsn,hss,hfl,hsd,hxs,hx.1,hx.2,hI,hN1,hNI,hsum,hci,hin',hcc,aV8,au2]|refine vcJ ?_ ?_<;>intro _|refine vcA ?_ ?_;focus(repeat'(first|omega|assumption|refine vcA ?_ ?_);done)|omega|refine o7 (fun _=>?_)
   intro z;have hz1:(((cap+1+z:Nat):Int)=(i:Int))=False:=eq_false (by omega)
   have hz2:(((cap+1+z:Nat):Int)=(i:Int)+1)=False:=eq_false (by omega)
   repeat' first|refine o6 ?_|simp -dsimp -implicitDefEqProofs (disch:=first|assumption|omega|simp only[ll];omega) only[go_sem,hsn,hss,hfl,hsd,hxs,hx.1,hx.2,hI,hN1,hNI,hsum,hci,hin',hcc,aV8,ck3,c55,hz1,hz2,au2]|refine vcJ ?_ ?_<;>intro _|refine vcA ?_ ?_;focus(repeat'(first|omega|assumption|refine vcA ?_ ?_);done)|omega|refine o7 (fun _=>?_)
   have hres:=cV7 (s:=1) (m:=(cap+1 - i+z)*1) (fun y hy=>(hu y hy).1) hx.1 hn hi (aM5 _ (by omega))
   try simp only[Nat.mul_one] at hres
   refine aO0 (H':=[]) (k:=H.length) ck3 (bR8 (s:=1) (xs:=xs.insertIdx i x) ck3 (by rw[cu1 (by omega)];omega) (bk7 hu hx (by omega)) (by rw[hfx];first|exact hres|(rw[Nat.mul_one];exact hres))) ?_
   rw[c55,List.set_cons_zero];refine aO0 (H':=[]) (k:=k) (cE9 hkl) (.keep _) ?_;rw[ea7 hkl];rw[show (H.set k AObj.gone)=(H.set k (AObj.cells (.one T) (aa0 xs))).set k .gone from(List.set_set ..).symm]
   exact cq7 (hlow _) ⟨rfl,rfl⟩
theorem c94{o:Own}{s k off n cap:Nat}{T:TypeId}{cs xs:List AV}{H:List AObj}(hx:aa0 xs≠[])(hk:H[k]?=some (.cells (.one T) cs))(hcs:cs≠[]):o9 Tryz.prog 181 [.sl o s xs,.msl k off n cap] H (fun y H'=>y=.bool false/\H'=H):=
 ay9 (e:=Extern.SlicesOverlaps.overlaps #[23,23] #[4]) Tryz.func181 (by kernel_rfl) (by kernel_rfl) (by kernel_rfl) (by kernel_rfl) fun G w vs hi ha=>by
  obtain⟨v,u,rfl,hv,hu⟩:=bX5 ha;obtain⟨arr,T1,fr,hb,hs,hr,hf,hg,hh⟩:=hi.cells k _ cs hk;obtain⟨rfl,h2,h3⟩:=hh;have hp1:0 < (aa0 xs).length:=aS7.2 hx;have hp2:0 < cs.length:=aS7.2 hcs;cases hv with
  |sl _ _ _ ad len cap' val hl hcap hs' hc hr' hf' ha' ho=>
  cases hu with
  |msl _ _ _ _ o2 g4 g5 g6=>
  obtain⟨b1,off1,rfl,himm,hcell⟩:=hc 0 _ (xq1 hp1);have hne:b1≠G.blk k:=fun e=>hf _ (e▸himm)
  obtain⟨a1,e1,f1,hb1⟩: ∃a1 e1 f1,w.heap[b1]?=some (.cells a1 e1 f1):=by
   unfold World.cell? at hcell;simp only at hcell;split at hcell
   ·rename_i h;exact⟨_,_,_,h⟩
   ·cases hcell
  have hka:a1.size≠0:=by
   rw[aw6 hb1] at hcell;intro e;rw[bH4 (by omega)] at hcell
   cases hcell
  refine⟨_,w,_,G,H,bv5 w 23 4 25 Tryz.underlying23 5 (fun w=>by simp) ⟨b1,off1,none⟩ ⟨G.blk k,off,none⟩ _ _ n cap hne e1 T1 a1.size arr.size (by simp[World.shape?,hb1]) (by simp[World.shape?,hb]) hka (by omega) ?_ ?_,hi,.refl _ _ _,.lit _,rfl,rfl⟩
  all_goals simp[World.frozen?,hb,h3]
theorem dQ4{k n i:Nat}{xs:List AV}{x:AV}{H:List AObj}(hk:H[k]?=some (.cells (.prow 5) (aa0 xs)))(hn:xs.length=n)(hu: ∀y∈xs,y.flat.length=5/\y.okv=true)(hx:x.flat.length=5/\x.okv=true)(hi:i<=n)(hl:n<=100000)
  (hlow: ∀m,Low m (.sl .sh 5 (xs.insertIdx i x))):o9 Tryz.prog 136 [.mrow k n,.lit (.int .i64 i),.sl .full 5 [x]] H (fun y H'=>y=.sl .sh 5 (xs.insertIdx i x)/\H'=H.set k .gone):=by
 have hkl:=y9 hk;have hfl:(aa0 xs).length=n*5:=by rw[ah2 (s:=5) fun y hy=>(hu y hy).1,hn]
 by_cases hin:i=n
 ·subst hin
  have hins:xs.insertIdx i x=xs++[x]:=by rw[<-hn];exact List.insertIdx_length_self
  ·have hll:(H.set k AObj.gone).length=H.length:=by simp
   refine y7 [1000011,1000015] [.tmp 6] 95 Tryz.func136 rfl rfl rfl rfl (nlb rfl) (by kernel_rfl) ?_
   repeat' first|refine o6 ?_|simp -dsimp -implicitDefEqProofs (disch:=first|assumption|omega|simp only[ll];omega) only[go_sem,hk,hfl,hx.1,hx.2]|refine vcJ ?_ ?_<;>intro _|refine vcA ?_ ?_;focus(repeat'(first|omega|assumption|refine vcA ?_ ?_);done)|omega|refine o7 (fun _=>?_)
   have hnew:(H.set k AObj.gone++[AObj.cells (.prow 5) (aa0 xs++aa0 [x])])[H.length]?=some (.cells (.prow 5) (aa0 xs++aa0 [x])):=by rw[<-hll];exact aP6
   refine aO0 (H':=[]) hnew (cW6 (xs:=xs++[x]) hnew (by simp[hn]) (by rw[<-hins];exact bk7 hu hx (by omega)) (by rw[ak8])) ?_
   rw[hs0 hll.symm,List.set_cons_zero];have:=hlow H.length;rw[hins] at this⊢;exact cq8 (o:=.gone) this rfl (fun sh cs e=>by cases e) ⟨rfl,rfl⟩
 ·refine bV5 (xs1:=[]) hk (by rw[hfl]) fun T cap hcap=>?_
  rw[List.nil_append];generalize hP:List.replicate ((cap - n)*5) AV.any=P;have hPl:P.length=(cap - n)*5:=by rw[<-hP,List.length_replicate]
  have hall:=cq4 fun y hy=>(hu y hy).2
  have hsc:(((aa0 xs++P).drop (i*5)).take ((n - i)*5)).all AV.scalar=true:=by
   have hle:=aM5 5 hi;rw[cu4 (by omega),bG6 (by rw[List.length_drop];omega),xq6]
   intro c hc;exact xq6.1 hall c (bs6 (bH2 hc))
  have hsd:((aa0 xs).drop (i*5)).all AV.scalar=true:=by
   rw[xq6];intro c hc;exact xq6.1 hall c (bs6 hc)
  try simp only[Nat.mul_one] at hsc hsd
  have hmin:min (n+1 - i) (n+1 - (i+1))=n - i:=by omega
  have hxs:=cj1 hx.2;have hfx:aa0 [x]=x.flat:=by simp[aa0]
  have hx0:x.flat≠[]:=fun e=>by have:=hx.1;rw[e] at this;cases this
  have hf0:aa0 xs++P≠[]:=fun e=>by have:=congrArg List.length e;rw[List.length_append,hfl] at this;simp only[List.length_nil] at this;omega
  have hov:=fun off m c=>c94 (o:=.full) (s:=5) (xs:=[x]) (off:=off) (n:=m) (cap:=c) (H:=H.set k (.cells (.one T) (aa0 xs++P))) (by simp[aa0,hx0]) (hss hkl) hf0
  have hI:((i:Int)+1).toNat=i+1:=by omega
  have hN1:((n:Int)+1).toNat=n+1:=by omega
  have hNI:((n:Int)+1 - (i:Int)).toNat=n+1 - i:=by omega
  have hsum:i+(n+1 - i)=n+1:=by omega
  have hci:((cap:Int)=(i:Int))=False:=eq_false (by omega)
  have hin':((i:Int)=(n:Int))=False:=eq_false (by omega)
  by_cases hc:n+1<=cap
  ·have hcI:((cap:Int)=(i:Int)+1)=False:=eq_false (by omega)
   have hcc:(((cap:Nat):Int) < (n:Int)+1)=False:=eq_false (by omega)
   refine y7 [1000011,1000015] [.tmp 6] 95 Tryz.func136 rfl rfl rfl rfl (nlb rfl) (by kernel_rfl) ?_
   repeat' first|refine o6 ?_|simp -dsimp -implicitDefEqProofs (disch:=first|assumption|omega|simp only[ll];omega) only[go_sem,hsn,hss,hPl,hfl,hsc,hxs,hx.1,hx.2,hI,hN1,hNI,hsum,hci,hin',hcI,hcc,aV8,au2,hmin]|refine o5 (hov _ _ _) ?_|refine vcJ ?_ ?_<;>intro _|refine vcA ?_ ?_;focus(repeat'(first|omega|assumption|refine vcA ?_ ?_);done)|omega|refine o7 (fun _=>?_)
   have hres:=cG4 (s:=5) (P:=P) (fun y hy=>(hu y hy).1) hx.1 hn hi (by omega)
   try simp only[Nat.mul_one] at hres
   refine aO0 (H':=[]) (k:=k) (hss hkl) (bR8 (s:=5) (xs:=xs.insertIdx i x) (hss hkl) (by rw[cu1 (by omega)];omega) (bk7 hu hx (by omega)) (by rw[hfx];first|exact hres|(rw[Nat.mul_one];exact hres))) ?_
   rw[List.set_set];exact ad7 _ (Le.refl _) (by simp) ⟨rfl,rfl⟩
  ·have hcc:(((cap:Nat):Int) < (n:Int)+1)=True:=eq_true (by omega)
   obtain rfl:cap=n:=by omega
   have hP0:P=[]:=by rw[<-hP,ao8,Nat.zero_mul];rfl
   rw[hP0,List.append_nil];clear hov hsc hf0;refine y7 [1000011,1000015] [.tmp 6] 95 Tryz.func136 rfl rfl rfl rfl (nlb rfl) (by kernel_rfl) ?_
   repeat' first|refine o6 ?_|simp -dsimp -implicitDefEqProofs (disch:=first|assumption|omega|simp only[ll];omega) only[go_sem,hsn,hss,hfl,hsd,hxs,hx.1,hx.2,hI,hN1,hNI,hsum,hci,hin',hcc,aV8,au2]|refine vcJ ?_ ?_<;>intro _|refine vcA ?_ ?_;focus(repeat'(first|omega|assumption|refine vcA ?_ ?_);done)|omega|refine o7 (fun _=>?_)
   intro z;have hz1:(((cap+1+z:Nat):Int)=(i:Int))=False:=eq_false (by omega)
   have hz2:(((cap+1+z:Nat):Int)=(i:Int)+1)=False:=eq_false (by omega)
   repeat' first|refine o6 ?_|simp -dsimp -implicitDefEqProofs (disch:=first|assumption|omega|simp only[ll];omega) only[go_sem,hsn,hss,hfl,hsd,hxs,hx.1,hx.2,hI,hN1,hNI,hsum,hci,hin',hcc,aV8,ck3,c55,hz1,hz2,au2]|refine vcJ ?_ ?_<;>intro _|refine vcA ?_ ?_;focus(repeat'(first|omega|assumption|refine vcA ?_ ?_);done)|omega|refine o7 (fun _=>?_)
   have hres:=cV7 (s:=5) (m:=(cap+1 - i+z)*5) (fun y hy=>(hu y hy).1) hx.1 hn hi (aM5 _ (by omega))
   try simp only[Nat.mul_one] at hres
   refine aO0 (H':=[]) (k:=H.length) ck3 (bR8 (s:=5) (xs:=xs.insertIdx i x) ck3 (by rw[cu1 (by omega)];omega) (bk7 hu hx (by omega)) (by rw[hfx];first|exact hres|(rw[Nat.mul_one];exact hres))) ?_
   rw[c55,List.set_cons_zero];refine aO0 (H':=[]) (k:=k) (cE9 hkl) (.keep _) ?_;rw[ea7 hkl];rw[show (H.set k AObj.gone)=(H.set k (AObj.cells (.one T) (aa0 xs))).set k .gone from(List.set_set ..).symm]
   exact cq7 (hlow _) ⟨rfl,rfl⟩
end
section
open Go V
end
section
open Go V
end
section
open Go V
theorem bT1{xs:List AV}{H:List AObj}(hu: ∀y∈xs,y.flat.length=1/\y.okv=true)(hne:xs≠[])(hl:xs.length<=100000):o9 Tryz.prog 133 [.sl .sh 1 xs] H (fun y H'=>y=.mrow H.length xs.length/\H'=H++[.cells (.prow 1) (aa0 xs)]):=by
 have hpos:=aS7.2 hne;refine y7 [7] [.tmp 2] 8 Tryz.func133 rfl rfl rfl rfl (nlb rfl) (by kernel_rfl) ?_
 repeat' first|refine o6 ?_|simp -dsimp -implicitDefEqProofs (disch:=first|assumption|omega|simp only[ll];omega) only[go_sem,hne]|refine vcJ ?_ ?_<;>intro _|refine vcA ?_ ?_;focus(repeat'(first|omega|assumption|refine vcA ?_ ?_);done)|omega|refine o7 (fun _=>?_)
 exact aI0 ⟨rfl,rfl⟩
theorem cL8{H:List AObj}:o9 Tryz.prog 133 [.sl .sh 1 []] H (fun y H'=>y=.sl (.tok H.length) 1 []/\H'=H++[.grow 1 0 none]):=by
 refine y7 [] [.tmp 2] 8 Tryz.func133 rfl rfl rfl rfl (nlb rfl) (by kernel_rfl) ?_
 repeat' first|refine o6 ?_|simp -dsimp -implicitDefEqProofs (disch:=first|assumption|omega|simp only[ll];omega) only[go_sem]|refine vcJ ?_ ?_<;>intro _|refine vcA ?_ ?_;focus(repeat'(first|omega|assumption|refine vcA ?_ ?_);done)|omega|refine o7 (fun _=>?_)
 intro b;cases b
 all_goals
  repeat' first|refine o6 ?_|simp -dsimp -implicitDefEqProofs (disch:=first|assumption|omega|simp only[ll];omega) only[go_sem]|refine vcJ ?_ ?_<;>intro _|refine vcA ?_ ?_;focus(repeat'(first|omega|assumption|refine vcA ?_ ?_);done)|omega|refine o7 (fun _=>?_)
  first
   |exact aI0 ⟨rfl,rfl⟩
   |exact cd3 (by decide) (aI0 ⟨rfl,rfl⟩)
theorem cr9{k:Nat}{x:AV}{H:List AObj}(hk:H[k]?=some (.grow 1 0 none))(hx:x.flat.length=1/\x.okv=true):o9 Tryz.prog 135 [.sl (.tok k) 1 [],.lit (.int .i64 0),.sl .full 1 [x]] H (fun y H'=>y=.sl (.tok k) 1 [x]/\H'=H.set k (.grow 1 1 none)):=by
 refine y7 [1000011,1000015] [.tmp 6] 95 Tryz.func135 rfl rfl rfl rfl (nlb rfl) (by kernel_rfl) ?_
 repeat' first|refine o6 ?_|simp -dsimp -implicitDefEqProofs (disch:=first|assumption|omega|simp only[ll];omega) only[go_sem,hk]|refine vcJ ?_ ?_<;>intro _|refine vcA ?_ ?_;focus(repeat'(first|omega|assumption|refine vcA ?_ ?_);done)|omega|refine o7 (fun _=>?_)
 exact ad7 _ (Le.refl _) (by simp) ⟨rfl,rfl⟩
theorem bT2{xs:List AV}{H:List AObj}(hu: ∀y∈xs,y.flat.length=5/\y.okv=true)(hne:xs≠[])(hl:xs.length<=100000):o9 Tryz.prog 134 [.sl .sh 5 xs] H (fun y H'=>y=.mrow H.length xs.length/\H'=H++[.cells (.prow 5) (aa0 xs)]):=by
 have hpos:=aS7.2 hne;refine y7 [7] [.tmp 2] 8 Tryz.func134 rfl rfl rfl rfl (nlb rfl) (by kernel_rfl) ?_
 repeat' first|refine o6 ?_|simp -dsimp -implicitDefEqProofs (disch:=first|assumption|omega|simp only[ll];omega) only[go_sem,hne]|refine vcJ ?_ ?_<;>intro _|refine vcA ?_ ?_;focus(repeat'(first|omega|assumption|refine vcA ?_ ?_);done)|omega|refine o7 (fun _=>?_)
 exact aI0 ⟨rfl,rfl⟩
theorem cL9{H:List AObj}:o9 Tryz.prog 134 [.sl .sh 5 []] H (fun y H'=>y=.sl (.tok H.length) 5 []/\H'=H++[.grow 5 0 none]):=by
 refine y7 [] [.tmp 2] 8 Tryz.func134 rfl rfl rfl rfl (nlb rfl) (by kernel_rfl) ?_
 repeat' first|refine o6 ?_|simp -dsimp -implicitDefEqProofs (disch:=first|assumption|omega|simp only[ll];omega) only[go_sem]|refine vcJ ?_ ?_<;>intro _|refine vcA ?_ ?_;focus(repeat'(first|omega|assumption|refine vcA ?_ ?_);done)|omega|refine o7 (fun _=>?_)
 intro b;cases b
 all_goals
  repeat' first|refine o6 ?_|simp -dsimp -implicitDefEqProofs (disch:=first|assumption|omega|simp only[ll];omega) only[go_sem]|refine vcJ ?_ ?_<;>intro _|refine vcA ?_ ?_;focus(repeat'(first|omega|assumption|refine vcA ?_ ?_);done)|omega|refine o7 (fun _=>?_)
  first
   |exact aI0 ⟨rfl,rfl⟩
   |exact cd3 (by decide) (aI0 ⟨rfl,rfl⟩)
theorem cs3{k:Nat}{x:AV}{H:List AObj}(hk:H[k]?=some (.grow 5 0 none))(hx:x.flat.length=5/\x.okv=true):o9 Tryz.prog 136 [.sl (.tok k) 5 [],.lit (.int .i64 0),.sl .full 5 [x]] H (fun y H'=>y=.sl (.tok k) 5 [x]/\H'=H.set k (.grow 5 1 none)):=by
 refine y7 [1000011,1000015] [.tmp 6] 95 Tryz.func136 rfl rfl rfl rfl (nlb rfl) (by kernel_rfl) ?_
 repeat' first|refine o6 ?_|simp -dsimp -implicitDefEqProofs (disch:=first|assumption|omega|simp only[ll];omega) only[go_sem,hk]|refine vcJ ?_ ?_<;>intro _|refine vcA ?_ ?_;focus(repeat'(first|omega|assumption|refine vcA ?_ ?_);done)|omega|refine o7 (fun _=>?_)
 exact ad7 _ (Le.refl _) (by simp) ⟨rfl,rfl⟩
theorem bP4{ns:List bytes}: ∀y∈ns.map AV.str,y.flat.length=1/\y.okv=true:=fun y hy=>by
 obtain⟨s,_,rfl⟩:=xq9.1 hy;exact⟨rfl,rfl⟩
theorem cb4{v:JV}:(jAV v).flat.length=5:=by rw[as2];rfl
theorem br2{is:List JV}: ∀y∈is.map jAV,y.flat.length=5/\y.okv=true:=fun y hy=>by
 obtain⟨s,_,rfl⟩:=xq9.1 hy;exact⟨cb4,bQ4⟩
theorem cH6{H:List AObj}{sh:Shape}{m k s n:Nat}{cs xs:List AV}(hk:m<=k)(ho:H[k]?=some (.cells sh cs))(hx:xs.length=n)(hu: ∀x∈xs,x.flat.length=s/\x.okv=true)(hlow: ∀y∈aa0 xs,Low m y)(h:cs=aa0 xs):Frz m H (.mrow k n) (.sl .sh s xs):=by
 subst h;refine .row k n s sh _ xs hk ho hx hu (xq0 _) fun j c y e1 e2=>?_
 rw[e1] at e2;cases e2
 exact .low _ (hlow _ (ar7.2 ⟨j,e1⟩))
theorem cP0{m:Nat}{ns:List bytes}: ∀y∈aa0 (ns.map AV.str),Low m y:=fun y hy=>by
 rw[aJ4] at hy;obtain⟨s,_,rfl⟩:=xq9.1 hy;exact .str _
theorem cP1{m:Nat}{is:List JV}: ∀y∈aa0 (is.map jAV),Low m y:=fun y hy=>by
 have:=ai5 (m:=m) (l:=is);cases this with
 |sl _ _ _ _ h=>exact h y hy
theorem dt2{xs:List AV}{x:AV}{s i:Nat}(hu: ∀y∈xs,y.flat.length=s)(hx:x.flat.length=s)(hi:i < xs.length):af0 (aa0 xs) (i*s) x.flat=aa0 (xs.set i x):=by
 have hA:(aa0 (xs.take i)).length=i*s:=by rw[ah2 (s:=s) fun y hy=>hu y (bH2 hy),List.length_take,bl4 (by omega)]
 have hxi:xs[i].flat.length=s:=hu _ (aM4 hi);have e1:aa0 xs=aa0 (xs.take i)++xs[i].flat++aa0 (xs.drop (i+1)):=by
  conv=>lhs;rw[<-bG7 i xs,bs7 hi]
  rw[ak8,an4,List.append_assoc]
 have e2:aa0 (xs.set i x)=aa0 (xs.take i)++x.flat++aa0 (xs.drop (i+1)):=by
  rw[List.set_eq_take_append_cons_drop,if_pos hi,ak8,an4,List.append_assoc]
 rw[e1,e2,bp1 hA.symm (by rw[hxi,hx])]
def da2(v:JV):Prop:=v.names.length=v.items.length/\srt v.names=true/\v.names.length<=20000
theorem bZ1{v x:JV}{s:bytes}(h:v.names[pos v.names s]?≠some s):az8 v s x=.mk v.kind v.num v.text (v.names.insertIdx (pos v.names s) s) (v.items.insertIdx (pos v.names s) x):=if_neg h
theorem cF4{v x:JV}{s:bytes}(h:v.names[pos v.names s]?=some s):az8 v s x=.mk v.kind v.num v.text v.names (v.items.set (pos v.names s) x):=if_pos h
theorem aX6{α β:Type}{f:α->β}: ∀{l:List α} {i:Nat} {x:α},(l.map f).insertIdx i (f x)=(l.insertIdx i x).map f
 |[],0,x=>rfl
 |[],i+1,x=>rfl
 |a::l,0,x=>rfl
 |a::l,i+1,x=>by
  rw[List.map_cons,b33,b33,List.map_cons,aX6]
theorem dR5(v:JV)(s:bytes)(x:JV)(H:List AObj)(hv:da2 v):o9 Tryz.prog 74 [jAV v,.str s,jAV x] H (fun y H'=>y=jAV (az8 v s x)/\H'=H):=by
 obtain⟨hv1,hv2,hv3⟩:=hv;have hpl:=dl4 v.names s;by_cases hnil:v.names=[]
 ·have hit:v.items=[]:=aZ5 (by rw[<-hv1,hnil];rfl)
  rw[bZ1 (by rw[hnil];simp),hnil,hit]
  refine y7 [3,1000002,1000002004002,1000006,1000006007005,1000006009005,1000006010005] [.cell 6 25] 46 Tryz.func74 rfl rfl rfl rfl (nlb rfl) (by kernel_rfl) ?_
  repeat' first|refine o6 ?_|simp -dsimp -implicitDefEqProofs (disch:=first|assumption|omega|simp only[ll];omega) only[go_sem,hnil,hit,cE9,hg0,hg1,hg2]|refine o5 (bF5 [] s _ (by simp) rfl) ?_|refine⟨_,_,bF5 [] s _ (by simp) rfl,?_⟩|refine o5 (cL8) ?_|refine⟨_,_,cL8,?_⟩|refine o5 (cL9) ?_|refine⟨_,_,cL9,?_⟩|refine o5 (cr9 (x:=.str s) (by simp;done) ⟨rfl,rfl⟩) ?_|refine⟨_,_,cr9 (x:=.str s) (by simp;done) ⟨rfl,rfl⟩,?_⟩|refine o5 (cs3 (x:=jAV x) (by simp;done) ⟨cb4,bQ4⟩) ?_|refine⟨_,_,cs3 (x:=jAV x) (by simp;done) ⟨cb4,bQ4⟩,?_⟩|refine vcJ ?_ ?_<;>intro _|refine vcA ?_ ?_;focus(repeat'(first|omega|assumption|refine vcA ?_ ?_);done)|omega|refine o7 (fun _=>?_)
  ·rename_i h
   simp at h
  ·refine aa3 (jAV (.mk v.kind v.num v.text [s] [x])) (bK9 aC5 aC5) (ad4 _) ⟨?_,rfl⟩
   have:pos [] s=0:=rfl;rw[this];rfl
 ·have hit:v.items≠[]:=fun e=>hnil (aZ5 (by rw[hv1,e];rfl))
  have hns:v.names.map AV.str≠[]:=by simpa using hnil
  have hns2:v.items.map jAV≠[]:=by simpa using hit
  by_cases hf:v.names[pos v.names s]?=some s
  ·have hlt:=y9 hf
   rw[cF4 hf];have hsr:=fun H=>bF5 (o:=.sh) v.names s H (by omega) hv2
   rw[decide_eq_true hf] at hsr;have hps:pos v.names s*5+5<=(aa0 (v.items.map jAV)).length:=by
    rw[ah2 (s:=5) fun y hy=>(br2 y hy).1,List.length_map]
    omega
   refine y7 [3,1000002,1000002004002,1000006,1000006007005,1000006009005,1000006010005] [.cell 6 25] 46 Tryz.func74 rfl rfl rfl rfl (nlb rfl) (by kernel_rfl) ?_
   repeat' first|refine o6 ?_|simp -dsimp -implicitDefEqProofs (disch:=first|assumption|omega|simp only[ll];omega) only[go_sem,cE9,hg0,hg1,hg2,hps]|refine o5 (hsr _) ?_|refine⟨_,_,hsr _,?_⟩|refine o5 (bT1 bP4 hns (by simp;omega)) ?_|refine⟨_,_,bT1 bP4 hns (by simp;omega),?_⟩|refine o5 (bT2 br2 hns2 (by simp;omega)) ?_|refine⟨_,_,bT2 br2 hns2 (by simp;omega),?_⟩|refine vcJ ?_ ?_<;>intro _|refine vcA ?_ ?_;focus(repeat'(first|omega|assumption|refine vcA ?_ ?_);done)|omega|refine o7 (fun _=>?_)
   have hset:af0 (aa0 (v.items.map jAV)) (pos v.names s*5) (jAV x).flat=aa0 ((v.items.set (pos v.names s) x).map jAV):=by
    rw[dt2 (fun y hy=>(br2 y hy).1) cb4 (by rw[List.length_map];omega),ao7]
   rw[as2] at hset;simp only[af0] at hset;rw[aN7];refine bo6 _ (Frz.agg _ [.lit (.int .i64 v.kind),.lit (.int .i64 v.num),.str v.text,.sl .sh 1 (v.names.map .str),.sl .sh 5 ((v.items.set (pos v.names s) x).map jAV)] rfl fun j c d e1 e2=>?_) ⟨rfl,rfl⟩
   ·match j,e1,e2 with
    |0,e1,e2=>simp at e1 e2;subst e1;subst e2;exact .low _ (.lit _)
    |1,e1,e2=>simp at e1 e2;subst e1;subst e2;exact .low _ (.lit _)
    |2,e1,e2=>simp at e1 e2;subst e1;subst e2;exact .low _ (.str _)
    |3,e1,e2=>
     simp at e1 e2;subst e1;subst e2
     exact cH6 (cs:=v.names.map AV.str) (by omega) (by simp;rfl) (by simp) bP4 cP0 (aJ4 ..).symm
    |4,e1,e2=>
     simp only[List.getElem?_cons_succ,List.getElem?_cons_zero,Option.some.injEq] at e1 e2;subst e1;subst e2;exact cH6 (sh:=.prow 5) (by omega) (by rw[xq7 (by omega),aI1];rfl) (by simp) br2 cP1 hset
  ·rw[bZ1 hf]
   have hsr:=fun H=>bF5 (o:=.sh) v.names s H (by omega) hv2
   rw[decide_eq_false hf] at hsr;refine y7 [3,1000002,1000002004002,1000006,1000006007005,1000006009005,1000006010005] [.cell 6 25] 46 Tryz.func74 rfl rfl rfl rfl (nlb rfl) (by kernel_rfl) ?_
   have hlowS: ∀m,Low m (.sl .sh 1 ((v.names.map AV.str).insertIdx (pos v.names s) (.str s))):=fun m=>by rw[aX6];exact ai4
   have hlowJ: ∀m,Low m (.sl .sh 5 ((v.items.map jAV).insertIdx (pos v.names s) (jAV x))):=fun m=>by rw[aX6];exact ai5
   have cS:=fun k H hk=>dQ3 (k:=k) (n:=v.names.length) (i:=pos v.names s) (x:=.str s) (xs:=v.names.map .str) (H:=H) hk (by simp) bP4 ⟨rfl,rfl⟩ hpl (by omega) hlowS
   have cJ:=fun k H hk=>dQ4 (k:=k) (n:=v.items.length) (i:=pos v.names s) (x:=jAV x) (xs:=v.items.map jAV) (H:=H) hk (by simp) br2 ⟨cb4,bQ4⟩ (by omega) (by omega) hlowJ
   rw[aJ4] at cS;repeat' first|refine o6 ?_|simp -dsimp -implicitDefEqProofs (disch:=first|assumption|omega|simp only[ll];omega) only[go_sem,cE9,hg0,hg1,hg2]|refine o5 (hsr _) ?_|refine⟨_,_,hsr _,?_⟩|refine o5 (bT1 bP4 hns (by simp;omega)) ?_|refine⟨_,_,bT1 bP4 hns (by simp;omega),?_⟩|refine o5 (bT2 br2 hns2 (by simp;omega)) ?_|refine⟨_,_,bT2 br2 hns2 (by simp;omega),?_⟩|refine o5 (cS _ _ (by simp;done)) ?_|refine⟨_,_,cS _ _ (by simp;done),?_⟩|refine o5 (cJ _ _ (by simp;done)) ?_|refine⟨_,_,cJ _ _ (by simp;done),?_⟩|refine vcJ ?_ ?_<;>intro _|refine vcA ?_ ?_;focus(repeat'(first|omega|assumption|refine vcA ?_ ?_);done)|omega|refine o7 (fun _=>?_)
   rw[aX6,aX6];exact aa3 (jAV (.mk v.kind v.num v.text _ _)) (bK9 (Le.refl _) (Le.refl _)) (ad4 _) ⟨rfl,rfl⟩
end
section
open Go V
theorem aj9{H₀ H:List AObj}{R:AV->List AObj->Prop}{x y:AV}(h:Le x y)(hr:Done H₀ R y H):Done H₀ R x H:=by
 unfold Done at hr⊢;obtain⟨z,H',he,hR⟩:=hr;exact⟨z,H',fun G₀ w₀ G w v h0 hi hs r=>he G₀ w₀ G w v h0 hi hs (h _ _ _ _ r),hR⟩
structure TS where
 r:bytes
 v:JV
 e:Int
abbrev ad9(v:JV):List AV:=[.lit (.int .i64 v.kind),.lit (.int .i64 v.num),.str v.text,.sl .sh 1 (v.names.map .str),.sl .sh 5 (v.items.map jAV)]
abbrev ar4:List AV:=[.lit (.int .i64 0),.lit (.int .i64 0),.str [],.sl .full 0 [],.sl .full 0 []]
theorem le_zero:Le (.agg ar4) (jAV aa4):=bK9 (ns:=[]) (is:=[]) am9 am9
end
section
open Go V
section
variable {H M:List AObj}{k:Nat}{o x:AObj}
end
structure LS where
 r:bytes
 is:List JV
 e:Int
end
section
open Go V
theorem aD6{o:Own}(l:List UInt8)(H:List AObj)(hl:l.length<=100000):o9 Tryz.prog 40 [.sl o 1 (l.map o8)] H (fun x H'=>x=.bool (Lib.validD l)/\H'=H):=by
 refine y7 [] [.tmp 2] 5 Tryz.func40 rfl rfl rfl rfl (nlb rfl) (by kernel_rfl) ?_
 repeat' first|refine o6 ?_|simp -dsimp -implicitDefEqProofs (disch:=first|assumption|omega|simp only[ll];omega) only[go_sem]|refine o5 (d79 _ _ ?_) ?_|refine vcJ ?_ ?_<;>intro _|refine vcA ?_ ?_;focus(repeat'(first|omega|assumption|refine vcA ?_ ?_);done)|omega|refine o7 (fun _=>?_)
 exact y5 ⟨rfl,rfl⟩
end
section
open Go V
theorem al6{c d:UInt8}:((c.toNat:Int)=(d.toNat:Int))=(c=d):=by
 have:(c.toNat=d.toNat)=(c=d):=propext ⟨cf5.1,fun h=>by rw[h]⟩
 rw[<-this];exact propext ⟨Int.ofNat.inj,fun h=>by rw[h]⟩
theorem d07{k:Int}:Le (.agg [.lit (.int .i64 k),.lit (.int .i64 0),.str [],.sl .full 0 [],.sl .full 0 []]) (jAV (.mk k 0 [] [] [])):=bK9 (ns:=[]) (is:=[]) am9 am9
theorem d06{t:bytes}:Le (.agg [.lit (.int .i64 4),.lit (.int .i64 0),.str t,.sl .full 0 [],.sl .full 0 []]) (jAV (.mk 4 0 t [] [])):=bK9 (ns:=[]) (is:=[]) am9 am9
theorem au6{x y z:AV}(h:Le x y):Le (.tup [x,z]) (.tup [y,z]):=aH4 (LeAll.cons h (LeAll.cons (Le.refl _) LeAll.nil))
def af4(p:JV×Int):AV:=.tup [jAV p.1,.int .i64 p.2]
theorem bK4{m:Nat}{p:JV×Int}:Low m (af4 p):=ag8 (aa2 (ad4 _) (aa2 (.lit _) ab6))
end
section
open Go V
def ap1(most:Int):List bytes->Int->Int
 |[],n=>n
 |s::r,n=>if n<=most then ap1 most r (n+1+min (s.length:Int) most) else n
mutual
def weigh:JV->Int->Int
 |.mk _ _ t ns is,most=>ap2 most is (ap1 most ns (1+min (t.length:Int) most))
def ap2(most:Int):List JV->Int->Int
 |[],n=>n
 |v::r,n=>if n<=most then ap2 most r (n+weigh v (most - n)) else n
end
theorem cx3(v:JV)(most:Int):weigh v most=ap2 most v.items (ap1 most v.names (1+min (v.text.length:Int) most)):=by cases v;rw[weigh];rfl
theorem bs9{most n:Int}{v:JV}{r:List JV}:ap2 most (v::r) n=if n<=most then ap2 most r (n+weigh v (most - n)) else n:=by rw[ap2]
theorem bz8{most n:Int}:ap2 most [] n=n:=by rw[ap2]
theorem cM2{most n:Int}{l:List bytes}(h: ¬n<=most):ap1 most l n=n:=by cases l<;>simp[ap1,h]
theorem cM3{most n:Int}{l:List JV}(h: ¬n<=most):ap2 most l n=n:=by
 cases l with
 |nil=>exact bz8
 |cons=>rw[bs9,if_neg h]
theorem drop_cons{α:Type}{l:List α}{i:Nat}(d:α)(h:i < l.length):l.drop i=l.getD i d::l.drop (i+1):=by
 rw[List.getD,xq1 h,Option.getD_some,<-bs7 h]
theorem dg3{most n:Int}{l:List bytes}{i:Nat}(h:i < l.length)(hn:n<=most):ap1 most (l.drop i) n=ap1 most (l.drop (i+1)) (n+1+min ((l.getD i []).length:Int) most):=by
 rw[drop_cons [] h,ap1,if_pos hn]
theorem dg4{most n:Int}{l:List JV}{i:Nat}(h:i < l.length)(hn:n<=most):ap2 most (l.drop i) n=ap2 most (l.drop (i+1)) (n+weigh (l.getD i aa4) (most - n)):=by
 rw[drop_cons aa4 h,bs9,if_pos hn]
theorem bH8: ∀(l:List bytes) (most n:Int),0<=most->0<=n->n<=2*most+1->n<=ap1 most l n/\ap1 most l n<=2*most+1/\(ap1 most l n<=most->ap1 most l n=n+(l.map aj7).sum)/\(n+(l.map aj7).sum<=most->ap1 most l n=n+(l.map aj7).sum)
 |[],most,n,h0,hp,hn=>by simp[ap1];omega
 |s::r,most,n,h0,hp,hn=>by
  rw[ap1];by_cases h:n<=most
  ·rw[if_pos h]
   have ih:=bH8 r most (n+1+min (s.length:Int) most) h0 (by omega) (by omega)
   rw[List.map_cons,bl3];have:aj7 s=1+s.length:=rfl;rw[this];omega
  ·rw[if_neg h,List.map_cons,bl3]
   omega
theorem bl9: ∀(v:JV) (most:Int),0<=most->1<=weigh v most/\weigh v most<=2*most+1/\(weigh v most<=most->weigh v most=aa1 v)/\((aa1 v:Int)<=most->weigh v most=aa1 v):=by
 refine JV.induct fun k nu t ns is ih most h0=>?_
 have hit: ∀(l:List JV),(∀x∈l,x∈is)-> ∀n:Int,0<=n->n<=2*most+1->n<=ap2 most l n/\ap2 most l n<=2*most+1/\(ap2 most l n<=most->ap2 most l n=n+(l.map aa1).sum)/\(n+(l.map aa1).sum<=most->ap2 most l n=n+(l.map aa1).sum):=by
  intro l;induction l with
  |nil=>intro _ n hp hn;rw[bz8];simp;omega
  |cons v r ihl=>
   intro hm n hp hn;rw[bs9,List.map_cons,bl3];by_cases h:n<=most
   ·rw[if_pos h]
    have h1:=ih v (hm v (ax1 ..)) (most - n) (by omega)
    have h2:=ihl (fun x hx=>hm x (aC8 _ hx)) (n+weigh v (most - n)) (by omega) (by omega)
    omega
   ·rw[if_neg h]
    omega
 rw[cx3,ar8,aH9];show 1<=ap2 most is (ap1 most ns (1+min (t.length:Int) most))/\ap2 most is (ap1 most ns (1+min (t.length:Int) most))<=2*most+1/\(ap2 most is (ap1 most ns (1+min (t.length:Int) most))<=most->ap2 most is (ap1 most ns (1+min (t.length:Int) most))=((1+t.length+(ns.map aj7).sum+(is.map aa1).sum:Nat):Int))/\(((1+t.length+(ns.map aj7).sum+(is.map aa1).sum:Nat):Int)<=most->ap2 most is (ap1 most ns (1+min (t.length:Int) most))=((1+t.length+(ns.map aj7).sum+(is.map aa1).sum:Nat):Int))
 have h1:=bH8 ns most (1+min (t.length:Int) most) h0 (by omega) (by omega)
 have h2:=hit is (fun _ h=>h) (ap1 most ns (1+min (t.length:Int) most)) (by omega) h1.2.1
 omega
theorem cY3: ∀(v:JV) (most:Int) (H:List AObj),0<=most->most<=10000->o9 Tryz.prog 14 [jAV v,.lit (.int .i64 most)] H (fun x H'=>x=.int .i64 (weigh v most)/\H'=H):=by
 refine JV.induct fun k nu t ns is ih most H h0 hm=>?_
 rw[cx3];generalize hv:JV.mk k nu t ns is=v;have ih': ∀x∈v.items,∀(most:Int) (H:List AObj),0<=most->most<=10000->o9 Tryz.prog 14 [jAV x,.lit (.int .i64 most)] H (fun x' H'=>x'=.int .i64 (weigh x most)/\H'=H):=by subst hv;exact ih
 clear ih hv;refine y7 [] [.tmp 4] 61 Tryz.func14 rfl rfl rfl rfl (nlb rfl) (by kernel_rfl) ?_
 repeat' first|refine o6 ?_|simp -dsimp -implicitDefEqProofs (disch:=first|assumption|omega|simp only[ll];omega) only[go_sem]|refine vcJ ?_ ?_<;>intro _|refine vcA ?_ ?_;focus(repeat'(first|omega|assumption|refine vcA ?_ ?_);done)|omega|refine o7 (fun _=>?_)
 generalize hN:ap1 most v.names (1+min (v.text.length:Int) most)=N;refine aa5 aa7 mixed [] [1,2,4] (fun p:Nat×Int=>p.1<=v.names.length/\(p.1:Int) < p.2/\p.2<=2*most+1/\ap1 most (v.names.drop p.1) p.2=N) (fun p=>[(6,.int .i64 p.1),(5,.int .i64 p.2)]) (fun _=>H) (fun p=>v.names.length - p.1) (by kernel_rfl) ?_ (0,1+min (v.text.length:Int) most) ⟨by simp,by simp;omega,by simp;omega,by simpa using hN⟩ y8 rfl
 rintro⟨i,n⟩ ⟨hi,hin,hn,hw⟩
 dsimp only at hi hin hn hw⊢;repeat' first|refine o6 ?_|simp -dsimp -implicitDefEqProofs (disch:=first|assumption|omega|simp only[ll];omega) only[go_sem]|refine vcJ ?_ ?_<;>intro _|refine vcA ?_ ?_;focus(repeat'(first|omega|assumption|refine vcA ?_ ?_);done)|omega|refine o7 (fun _=>?_)
 ·rename_i h1 h2
  refine again ((i+1,n+1+min ((v.names.getD i []).length:Int) most)) ?_ ?_ rfl y8
  ·dsimp only;omega
  ·dsimp only
   exact⟨by omega,by omega,by omega,by rw[<-dg3 (by omega) h2];exact hw⟩
 all_goals
  have hnN:n=N:=by
   first
    |(rw[cM2 (by omega)] at hw;exact hw)
    |(rw[bl6 (by omega)] at hw;exact hw)
  subst hnN;clear hw hin;have hpos:=(bH8 v.names most (1+min (v.text.length:Int) most) h0 (by omega) (by omega)).1
  rw[hN] at hpos;refine aa5 aa7 mixed [] [1,2,4] (fun p:Nat×Int=>p.1<=v.items.length/\(p.1:Int) < p.2/\p.2<=2*most+1/\ap2 most (v.items.drop p.1) p.2=ap2 most v.items n) (fun p=>[(7,.int .i64 p.1),(5,.int .i64 p.2)]) (fun _=>H) (fun p=>v.items.length - p.1) (by kernel_rfl) ?_ (0,n) ⟨by simp,by simp;omega,hn,by simp⟩ y8 rfl
  rintro⟨j,m⟩ ⟨hj,hjm,hm2,hw⟩
  dsimp only at hj hjm hm2 hw⊢;have hwl:=fun(h:m<=most)=>bl9 (v.items.getD j aa4) (most - m) (by omega)
  repeat' first|refine o6 ?_|simp -dsimp -implicitDefEqProofs (disch:=first|assumption|omega|simp only[ll];omega) only[go_sem]|refine o5 (ih' _ (aw5 (by omega)) _ _ (by omega) (by omega)) ?_|refine⟨_,_,ih' _ (aw5 (by omega)) _ _ (by omega) (by omega),?_⟩|refine vcJ ?_ ?_<;>intro _|refine vcA ?_ ?_;focus(repeat'(first|omega|assumption|refine vcA ?_ ?_);done)|omega|refine o7 (fun _=>?_)
  ·rename_i h1 h2
   have:=hwl h2;refine again ((j+1,m+weigh (v.items.getD j aa4) (most - m))) ?_ ?_ rfl y8
   ·dsimp only;omega
   ·dsimp only
    exact⟨by omega,by omega,by omega,by rw[<-dg4 (by omega) h2];exact hw⟩
  ·rename_i h1 h2
   refine y5 ⟨int_eq ?_,rfl⟩;rw[<-hw,cM3 (by omega)]
  ·rename_i h1
   refine y5 ⟨int_eq ?_,rfl⟩;rw[<-hw,bl6 (by omega),bz8]
open Classical in
theorem dk5: ∀(v w:JV) (H:List AObj),aa1 v<=40000->o9 Tryz.prog 66 [jAV v,jAV w] H (fun x H'=>x=.bool (decide (v=w))/\H'=H):=by
 refine JV.induct fun k n t ns is ih w H hs=>?_
 generalize hv:JV.mk k n t ns is=v at hs;have ih': ∀x∈v.items,∀(w:JV) (H:List AObj),aa1 x<=40000->o9 Tryz.prog 66 [jAV x,jAV w] H (fun y H'=>y=.bool (decide (x=w))/\H'=H):=by subst hv;exact ih
 clear ih hv;have h1:=aO6 v;have h2:=aI3 v;have h3: ∀i,i < v.items.length->aa1 (v.items.getD i aa4)<=40000:=fun i hi=>by have:=aM8 (v:=v) (aw5 (d:=aa4) hi);omega
 have hvw:(v=w)=(v.kind=w.kind/\v.num=w.num/\v.text=w.text/\v.names=w.names/\v.items=w.items):=by cases v;cases w;simp[JV.kind,JV.num,JV.text,JV.names,JV.items]
 refine y7 [1000006,1000011] [.tmp 4] 81 Tryz.func66 rfl rfl rfl rfl (nlb rfl) (by kernel_rfl) ?_
 repeat' first|refine o6 ?_|simp -dsimp -implicitDefEqProofs (disch:=first|assumption|omega|simp only[ll];omega) only[go_sem]|refine vcJ ?_ ?_<;>intro _|refine vcA ?_ ?_;focus(repeat'(first|omega|assumption|refine vcA ?_ ?_);done)|omega|refine o7 (fun _=>?_)
 all_goals first|exact y5 ⟨ad5 (decide_eq_false fun e=>by subst e;first|contradiction|omega).symm,rfl⟩|skip
 rename_i e1 e2 e3 e4 e5;refine aa5 aa7 mixed [1000006,1000011] [2,3] (fun i:Nat=>i<=v.names.length/\ ∀j,j < i->v.names.getD j []=w.names.getD j []) (fun i=>[(5,.int .i64 i)]) (fun _=>H) (fun i=>v.names.length - i) (by kernel_rfl) ?_ 0 ⟨by omega,fun j hj=>by omega⟩ y8 rfl
 rintro i ⟨hi,hp⟩
 repeat' first|refine o6 ?_|simp -dsimp -implicitDefEqProofs (disch:=first|assumption|omega|simp only[ll];omega) only[go_sem]|refine vcJ ?_ ?_<;>intro _|refine vcA ?_ ?_;focus(repeat'(first|omega|assumption|refine vcA ?_ ?_);done)|omega|refine o7 (fun _=>?_)
 ·rename_i h4 h5
  exact y5 ⟨ad5 (decide_eq_false fun e=>by subst e;contradiction).symm,rfl⟩
 ·rename_i h4 h5
  refine again (i+1) ?_ ?_ rfl y8
  ·omega
  ·exact⟨by omega,upto_succ hp h5⟩
 ·have hn:v.names=w.names:=bO8 (d:=[]) (by omega) fun j hj=>hp j (by omega)
  clear hp hi;refine aa5 aa7 mixed [1000006,1000011] [2,3] (fun i:Nat=>i<=v.items.length/\ ∀j,j < i->v.items.getD j aa4=w.items.getD j aa4) (fun i=>[(6,.int .i64 i)]) (fun _=>H) (fun i=>v.items.length - i) (by kernel_rfl) ?_ 0 ⟨by omega,fun j hj=>by omega⟩ y8 rfl
  rintro j ⟨hj,hq⟩
  repeat' first|refine o6 ?_|simp -dsimp -implicitDefEqProofs (disch:=first|assumption|omega|simp only[ll];omega) only[go_sem]|refine o5 (ih' _ (aw5 (by omega)) _ _ (h3 _ (by omega))) ?_|refine⟨_,_,ih' _ (aw5 (by omega)) _ _ (h3 _ (by omega)),?_⟩|refine vcJ ?_ ?_<;>intro _|refine vcA ?_ ?_;focus(repeat'(first|omega|assumption|refine vcA ?_ ?_);done)|omega|refine o7 (fun _=>?_)
  ·rename_i h4 h5
   exact y5 ⟨ad5 (decide_eq_false fun e=>by subst e;simp at h5).symm,rfl⟩
  ·rename_i h4 h5
   refine again (j+1) ?_ ?_ rfl y8
   ·omega
   ·exact⟨by omega,upto_succ hq (by simpa using h5)⟩
  ·have hm:v.items=w.items:=bO8 (d:=aa4) (by omega) fun j hj=>hq j (by omega)
   refine y5 ⟨ad5 (decide_eq_true ?_).symm,rfl⟩;rw[hvw];exact⟨e1,e2,e3,hn,hm⟩
open Classical in
theorem cY8(v w:JV)(H:List AObj)(hs:aa1 v<=40000):o9 Tryz.prog 34 [jAV v,jAV w] H (fun x H'=>x=.bool (decide (v=w))/\H'=H):=by
 refine y7 [] [.tmp 4] 8 Tryz.func34 rfl rfl rfl rfl (nlb rfl) (by kernel_rfl) ?_
 repeat' first|refine o6 ?_|simp -dsimp -implicitDefEqProofs (disch:=first|assumption|omega|simp only[ll];omega) only[go_sem]|refine o5 (dk5 v w _ hs) ?_|refine⟨_,_,dk5 v w _ hs,?_⟩|refine vcJ ?_ ?_<;>intro _|refine vcA ?_ ?_;focus(repeat'(first|omega|assumption|refine vcA ?_ ?_);done)|omega|refine o7 (fun _=>?_)
 exact y5 ⟨rfl,rfl⟩
end
section
open Go V
theorem cT3: ∀{l:List bytes},(∀j,j+1 < l.length->al7 (l.getD j []) (l.getD (j+1) [])=true)->srt l=true
 |[],_=>rfl
 |[_],_=>rfl
 |a::b::r,h=>by
  rw[srt,xq3];exact⟨h 0 (by simp),cT3 fun j hj=>h (j+1) (by simpa using hj)⟩
theorem ea8{l:List bytes}(h:srt l=true){j:Nat}(hj:j+1 < l.length):al7 (l.getD j []) (l.getD (j+1) [])=true:=by
 refine di9 h (Nat.lt_succ_self j) (xq1 (by omega)|>.trans ?_) (xq1 hj|>.trans ?_)
 ·rw[List.getD,xq1 (by omega)];rfl
 ·rw[List.getD,xq1 hj];rfl
theorem en5{l:List bytes}{p:bytes->Bool}(h:l.all p=true){j:Nat}(hj:j < l.length):p (l.getD j [])=true:=xq6.1 h _ (aw5 hj)
theorem en4{l:List bytes}{p:bytes->Bool}(h: ∀j,j < l.length->p (l.getD j [])=true):l.all p=true:=by
 rw[xq6];intro x hx;obtain⟨j,hj,rfl⟩:=cZ3.1 hx;have:=h j hj;rwa [List.getD,xq1 hj] at this
theorem da9{v:JV}(h: ¬v.names.length=v.items.length):aE6 v=false:=by simp[aE6,h]
theorem cE1{v:JV}{j:Nat}(hj:j < v.names.length)(h:Lib.validD (v.names.getD j [])=false):aE6 v=false:=by
 cases e:aE6 v with
 |false=>rfl
 |true=>
  simp only[aE6,xq3] at e;have:=en5 e.1.2 hj;rw[h] at this;cases this
theorem cO9{v:JV}{j:Nat}(hj:j < v.names.length)(h0:0 < j)(h:al7 (v.names.getD (j - 1) []) (v.names.getD j [])=false):aE6 v=false:=by
 cases e:aE6 v with
 |false=>rfl
 |true=>
  simp only[aE6,xq3] at e;have:=ea8 e.2 (j:=j - 1) (by omega)
  rw[show j - 1+1=j by omega,h] at this
  cases this
theorem do3{v:JV}(hl:v.names.length=v.items.length)(h: ∀j,j < v.names.length->Lib.validD (v.names.getD j [])=true/\(0 < j->al7 (v.names.getD (j - 1) []) (v.names.getD j [])=true)):aE6 v=true:=by
 simp only[aE6,xq3,decide_eq_true_eq];exact⟨⟨hl,en4 fun j hj=>(h j hj).1⟩,cT3 fun j hj=>(h (j+1) hj).2 (by omega)⟩
theorem bQ6(v:JV)(H:List AObj)(hs:aa1 v<=40000):o9 Tryz.prog 118 [jAV v] H (fun x H'=>x=.bool (aE6 v)/\H'=H):=by
 have h1:=aO6 v;have h2:=aI3 v;have h3: ∀i,i < v.names.length->(v.names.getD i []).length<=100000:=fun i hi=>by have:=cm8 (v:=v) (aw5 (d:=[]) hi);omega
 refine y7 [] [.tmp 2] 39 Tryz.func118 rfl rfl rfl rfl (nlb rfl) (by kernel_rfl) ?_
 repeat' first|refine o6 ?_|simp -dsimp -implicitDefEqProofs (disch:=first|assumption|omega|simp only[ll];omega) only[go_sem]|refine vcJ ?_ ?_<;>intro _|refine vcA ?_ ?_;focus(repeat'(first|omega|assumption|refine vcA ?_ ?_);done)|omega|refine o7 (fun _=>?_)
 ·rename_i h
  exact y5 ⟨ad5 (da9 (by omega)).symm,rfl⟩
 ·rename_i h
  refine aa5 aa7 mixed [] [1,13,14] (fun i:Nat=>i<=v.names.length/\ ∀j,j < i->Lib.validD (v.names.getD j [])=true/\(0 < j->al7 (v.names.getD (j - 1) []) (v.names.getD j [])=true)) (fun i=>[(15,.int .i64 i)]) (fun _=>H) (fun i=>v.names.length - i) (by kernel_rfl) ?_ 0 ⟨by omega,fun j hj=>by omega⟩ y8 rfl
  rintro i ⟨hi,hp⟩
  have h4:=h3 i;repeat' first|refine o6 ?_|simp -dsimp -implicitDefEqProofs (disch:=first|assumption|omega|simp only[ll];omega) only[go_sem]|refine o5 (aD6 _ _ (h4 (by omega))) ?_|refine vcJ ?_ ?_<;>intro _|refine vcA ?_ ?_;focus(repeat'(first|omega|assumption|refine vcA ?_ ?_);done)|omega|refine o7 (fun _=>?_)
  ·rename_i h5 h6
   exact y5 ⟨ad5 (cE1 (by omega) h6).symm,rfl⟩
  ·rename_i h5 h6 h7 h8
   rw[show ((i:Int) - 1).toNat=i - 1 by omega] at h8
   exact y5 ⟨ad5 (cO9 (by omega) (by omega) h8).symm,rfl⟩
  ·rename_i h5 h6 h7 h8
   rw[show ((i:Int) - 1).toNat=i - 1 by omega] at h8
   refine again (i+1) ?_ ?_ rfl y8
   ·omega
   ·exact⟨by omega,upto_succ hp ⟨h6,fun _=>h8⟩⟩
  ·rename_i h5 h6 h7
   refine again (i+1) ?_ ?_ rfl y8
   ·omega
   ·exact⟨by omega,upto_succ hp ⟨h6,fun h8=>by omega⟩⟩
  ·obtain rfl:i=v.names.length:=by omega
   exact y5 ⟨ad5 (do3 (by omega) hp).symm,rfl⟩
theorem dk6(d:Nat)(v:JV):aa9 d v=(a88 v||(aL5 v&&(decide (0 < d)&&v.items.all (aa9 (d - 1))))):=by cases d<;>simp[aa9]
theorem not_any{l:List JV}{p:JV->Bool}:(!(l.any fun x=>!p x))=l.all p:=by
 induction l with
 |nil=>rfl
 |cons a l ih=>simp only[List.any_cons,List.all_cons,Bool.not_or,Bool.not_not,ih]
theorem right_step(d:Nat)(v:JV)(w:Int)(H:List AObj)(hw:w=12 - (d:Int))(hd:d<=12)(hs:aa1 v<=40000)
  (hq:0 < d-> ∀x∈v.items,∀H,o9 Tryz.prog 120 (jAV x::[.ip (.lit (.int .i64 w))]) H (fun y H'=>y=.bool (!aa9 (d - 1) x)/\H'=H)):
  o9 Tryz.prog 63 [jAV v,.lit (.int .i64 w)] H (fun x H'=>x=.bool (aa9 d v)/\H'=H):=by
 have h1:=aO6 v;have h2:=aI3 v;have h3:=size_text v;refine y7 [] [.tmp 4] 95 Tryz.func63 rfl rfl rfl rfl (nlb rfl) (by kernel_rfl) ?_
 repeat' first|refine o6 ?_|simp -dsimp -implicitDefEqProofs (disch:=first|assumption|omega|simp only[ll];omega) only[go_sem]|refine o5 (aD6 _ _ (by omega)) ?_|refine o5 (bQ6 v _ hs) ?_|refine o5 (by9 _ _ (fun x=>!aa9 (d - 1) x) _ _ (by omega) (fun x hx=>hq (by omega) x hx _)) ?_|refine vcJ ?_ ?_<;>intro _|refine vcA ?_ ?_;focus(repeat'(first|omega|assumption|refine vcA ?_ ?_);done)|omega|refine o7 (fun _=>?_)
 all_goals
  refine y5 ⟨ad5 ?_,rfl⟩;rw[dk6];first
   |(have hd0:0 < d:=by omega
     clear hq hw hd hs h1 h2 h3;simp_all [a88,aL5,aY9,bi8,not_any,hd0];done)
   |(have hd0:d=0:=by omega
     clear hq hw hd hs h1 h2 h3;simp_all [a88,aL5,aY9,bi8,not_any,hd0];done)
   |(clear hq hw hd hs h1 h2 h3
     simp_all [a88,aL5,aY9,bi8,not_any];done)
   |(clear hq hw hd hs h1 h2 h3
     simp_all [a88,aL5,aY9,bi8,not_any];omega)
theorem cT6: ∀(d:Nat) (v:JV) (w:Int) (H:List AObj),w=12 - (d:Int)->d<=12->aa1 v<=40000->o9 Tryz.prog 63 [jAV v,.lit (.int .i64 w)] H (fun x H'=>x=.bool (aa9 d v)/\H'=H)
 |0,v,w,H,hw,hd,hs=>right_step 0 v w H hw hd hs fun h=>by omega
 |d+1,v,w,H,hw,hd,hs=>right_step (d+1) v w H hw hd hs fun _ x hx H=>by
  have h4:=aM8 hx;refine y7 [] [.tmp 3] 9 Tryz.func120 rfl rfl rfl rfl (nlb rfl) (by kernel_rfl) ?_
  repeat' first|refine o6 ?_|simp -dsimp -implicitDefEqProofs (disch:=first|assumption|omega|simp only[ll];omega) only[go_sem]|refine o5 (cT6 d x _ _ (by omega) (by omega) (by omega)) ?_|refine vcJ ?_ ?_<;>intro _|refine vcA ?_ ?_;focus(repeat'(first|omega|assumption|refine vcA ?_ ?_);done)|omega|refine o7 (fun _=>?_)
  exact y5 ⟨rfl,rfl⟩
theorem aH7(v:JV)(H:List AObj)(hs:aa1 v<=40000):o9 Tryz.prog 27 [jAV v] H (fun x H'=>x=.bool (aa9 12 v)/\H'=H):=by
 refine y7 [] [.tmp 2] 5 Tryz.func27 rfl rfl rfl rfl (nlb rfl) (by kernel_rfl) ?_
 repeat' first|refine o6 ?_|simp -dsimp -implicitDefEqProofs (disch:=first|assumption|omega|simp only[ll];omega) only[go_sem]|refine o5 (cT6 12 v _ _ (by omega) (by omega) hs) ?_|refine vcJ ?_ ?_<;>intro _|refine vcA ?_ ?_;focus(repeat'(first|omega|assumption|refine vcA ?_ ?_);done)|omega|refine o7 (fun _=>?_)
 exact y5 ⟨rfl,rfl⟩
end
section
open Go
end
section
open Go V
end
section
open Go V Go.RowKit
end
section
open Go V
end
section
open Go V
end
section
open Go V
end
section
open Go V
open Classical in
theorem dx6(v w:JV)(H:List AObj)(hs:aa1 v<=40000)(hs2:aa1 w<=40000):o9 Tryz.prog 33 [jAV v,jAV w] H (fun x H'=>x=.bool (aa9 12 v&&aa9 12 w&&decide (v=w))/\H'=H):=by
 refine y7 [] [.tmp 4] 16 Tryz.func33 rfl rfl rfl rfl (nlb rfl) (by kernel_rfl) ?_
 repeat' first|refine o6 ?_|simp -dsimp -implicitDefEqProofs (disch:=first|assumption|omega|simp only[ll];omega) only[go_sem]|refine o5 (aH7 v _ hs) ?_|refine o5 (aH7 w _ hs2) ?_|refine o5 (d49 v w _ hs) ?_|refine vcJ ?_ ?_<;>intro _|refine vcA ?_ ?_;focus(repeat'(first|omega|assumption|refine vcA ?_ ?_);done)|omega|refine o7 (fun _=>?_)
 all_goals
  refine y5 ⟨ad5 ?_,rfl⟩;simp_all
end
section
open Go V
theorem ay7{v:JV}{s:bytes}:aa1 ((ad3 v s).getD aa4)<=aa1 v:=by
 have h0:=ax3 v;have hz:aa1 aa4=1:=rfl;cases h:ad3 v s with
 |none=>rw[Option.getD_none,hz];omega
 |some x=>
  rw[Option.getD_some];unfold ad3 at h;split at h
  ·split at h
   ·exact Nat.le_of_lt (aM8 (bs2 h))
   ·cases h
  ·cases h
end
section
open Go V
abbrev Prs:=List (bytes×JV)
def ag9(s:bytes)(x:JV):Prs->Prs
 |[]=>[(s,x)]
 |p::r=>if al7 p.1 s=true then p::ag9 s x r else if p.1=s then(s,x)::r else(s,x)::p::r
def ah5(s:bytes):Prs->Option JV
 |[]=>none
 |p::r=>if p.1=s then some p.2 else ah5 s r
def ofP(v:JV)(l:Prs):JV:=.mk v.kind v.num v.text (l.map (·.1)) (l.map (·.2))
def prs(v:JV):Prs:=v.names.zip v.items
theorem cj3{v:JV}(h:v.names.length=v.items.length):ofP v (prs v)=v:=by
 obtain⟨k,n,t,ns,is⟩:=v;simp only[JV.names,JV.items] at h;simp only[ofP,prs,JV.kind,JV.num,JV.text,JV.names,JV.items];rw[List.map_fst_zip (by omega),List.map_snd_zip (by omega)]
theorem cS0: ∀l:Prs,(l.map (·.1)).zip (l.map (·.2))=l
 |[]=>rfl
 |p::r=>by rw[List.map_cons,List.map_cons,List.zip_cons_cons,cS0 r]
theorem dV8(v:JV)(l:Prs):prs (ofP v l)=l:=cS0 l
theorem cG5(s:bytes)(x:JV): ∀l:Prs,(if(l.map (·.1))[pos (l.map (·.1)) s]?=some s then(l.map (·.1),(l.map (·.2)).set (pos (l.map (·.1)) s) x) else((l.map (·.1)).insertIdx (pos (l.map (·.1)) s) s,(l.map (·.2)).insertIdx (pos (l.map (·.1)) s) x))=((ag9 s x l).map (·.1),(ag9 s x l).map (·.2))
 |[]=>by simp[ag9,pos]
 |p::r=>by
  have ih:=cG5 s x r;rw[List.map_cons,List.map_cons,bX8,ag9];by_cases h:al7 p.1 s=true
  ·rw[if_pos h,if_pos h,List.getElem?_cons_succ,List.map_cons,List.map_cons,List.set_cons_succ,b33,b33]
   by_cases h2:(r.map (·.1))[pos (r.map (·.1)) s]?=some s
   ·rw[if_pos h2] at ih⊢
    simp only[Prod.mk.injEq] at ih;rw[<-ih.1,<-ih.2]
   ·rw[if_neg h2] at ih⊢
    simp only[Prod.mk.injEq] at ih;rw[<-ih.1,<-ih.2]
  ·rw[if_neg h,if_neg h,List.getElem?_cons_zero]
   by_cases h2:p.1=s
   ·rw[if_pos (congrArg some h2),if_pos h2,List.map_cons,List.map_cons,List.set_cons_zero,h2]
   ·rw[if_neg (fun e=>h2 (Option.some.inj e)),if_neg h2,List.insertIdx_zero,List.insertIdx_zero]
    rfl
theorem a96(v:JV)(l:Prs)(s:bytes)(x:JV):az8 (ofP v l) s x=ofP v (ag9 s x l):=by
 have h:=cG5 s x l;by_cases h2:(l.map (·.1))[pos (l.map (·.1)) s]?=some s
 ·rw[if_pos h2] at h
  simp only[Prod.mk.injEq] at h;rw[cF4 (v:=ofP v l) h2];have:ofP v (ag9 s x l)=.mk v.kind v.num v.text ((ag9 s x l).map (·.1)) ((ag9 s x l).map (·.2)):=rfl;rw[this,<-h.1,<-h.2];rfl
 ·rw[if_neg h2] at h
  simp only[Prod.mk.injEq] at h;rw[bZ1 (v:=ofP v l) h2];have:ofP v (ag9 s x l)=.mk v.kind v.num v.text ((ag9 s x l).map (·.1)) ((ag9 s x l).map (·.2)):=rfl;rw[this,<-h.1,<-h.2];rfl
theorem dI8{v:JV}(h:v.names.length=v.items.length)(s:bytes)(x:JV):az8 v s x=ofP v (ag9 s x (prs v)):=by
 rw[<-a96,cj3 h]
theorem cq5(s:bytes): ∀l:Prs,(match(l.map (·.1)).findIdx? (fun n=>n==s) with|some i=>(l.map (·.2))[i]?|none=>none)=ah5 s l
 |[]=>rfl
 |p::r=>by
  have ih:=cq5 s r;rw[List.map_cons,List.map_cons,List.findIdx?_cons,ah5];by_cases h:p.1=s
  ·rw[if_pos h,if_pos (by simpa using h)]
   rfl
  ·rw[if_neg h,if_neg (by simpa using h),<-ih]
   cases(r.map (·.1)).findIdx? (fun n=>n==s) with
   |none=>rfl
   |some i=>rfl
theorem aF3{v:JV}(hk:v.kind=6)(l:Prs)(s:bytes):ad3 (ofP v l) s=ah5 s l:=by
 rw[<-cq5,ad3];exact if_pos hk
theorem d05{a b:bytes}(h:al7 a b=true): ¬a=b:=dH8 h
theorem bo4(s:bytes)(x:JV): ∀l:Prs,ah5 s (ag9 s x l)=some x
 |[]=>by simp[ag9,ah5]
 |p::r=>by
  rw[ag9];split
  ·rename_i h
   rw[ah5,if_neg (d05 h),bo4 s x r]
  ·split
   ·rw[ah5,if_pos rfl]
   ·rw[ah5,if_pos rfl]
theorem aR1{s t:bytes}(h:t≠s)(x:JV): ∀l:Prs,ah5 t (ag9 s x l)=ah5 t l
 |[]=>by simp[ag9,ah5,h.symm]
 |p::r=>by
  rw[ag9];split
  ·rw[ah5,ah5,aR1 h x r]
  ·split
   ·rename_i h2
    rw[ah5,ah5,if_neg h.symm,if_neg (by rw[h2];exact h.symm)]
   ·rw[ah5,if_neg h.symm]
theorem bk4{s:bytes}{x:JV}: ∀{l:Prs} {t:bytes},t∈(ag9 s x l).map (·.1)↔t=s\/t∈l.map (·.1)
 |[],t=>by simp[ag9]
 |p::r,t=>by
  rw[ag9];split
  ·rw[List.map_cons,ai9,bk4 (l:=r),List.map_cons,ai9]
   constructor
   ·rintro(h|h|h)
    ·exact .inr (.inl h)
    ·exact .inl h
    ·exact .inr (.inr h)
   ·rintro(h|h|h)
    ·exact .inr (.inl h)
    ·exact .inl h
    ·exact .inr (.inr h)
  ·split
   ·rename_i h
    rw[List.map_cons,ai9,List.map_cons,ai9,h];constructor
    ·rintro(h|h)
     ·exact .inl h
     ·exact .inr (.inr h)
    ·rintro(h|h|h)
     ·exact .inl h
     ·exact .inl h
     ·exact .inr h
   ·rw[List.map_cons,ai9]
theorem cE6{s:bytes}{x:JV}: ∀{l:Prs} {y:JV},y∈(ag9 s x l).map (·.2)->y=x\/y∈l.map (·.2)
 |[],y,h=>by simp[ag9] at h;exact .inl h
 |p::r,y,h=>by
  rw[ag9] at h;split at h
  ·rw[List.map_cons,ai9] at h
   rcases h with h|h
   ·exact .inr (by rw[List.map_cons,ai9];exact .inl h)
   ·rcases cE6 h with h|h
    ·exact .inl h
    ·exact .inr (by rw[List.map_cons,ai9];exact .inr h)
  ·split at h
   ·rw[List.map_cons,ai9] at h
    rcases h with h|h
    ·exact .inl h
    ·exact .inr (by rw[List.map_cons,ai9];exact .inr h)
   ·rw[List.map_cons,ai9] at h
    exact h
theorem ci1{s:bytes}{x:JV}: ∀{l:Prs},srt (l.map (·.1))=true->srt ((ag9 s x l).map (·.1))=true
 |[],_=>rfl
 |p::r,h=>by
  have h0:=h;rw[List.map_cons] at h;rw[ag9];split
  ·rename_i hl
   rw[List.map_cons];refine bW9 (fun b hb=>?_) (ci1 (bW8 h))
   rcases bk4.1 hb with rfl|hb
   ·exact hl
   ·exact bm9 h b hb
  ·rename_i hl
   split
   ·rename_i he
    rw[List.map_cons];simp only;rw[<-he];exact h
   ·rename_i he
    have h1:al7 s p.1=true:=by
     cases e:al7 s p.1 with
     |true=>rfl
     |false=>exact absurd (dp5 (by simpa using hl) e) he
    rw[List.map_cons];refine bW9 (fun b hb=>?_) h0
    rw[List.map_cons] at hb;rcases ai9.1 hb with rfl|hb
    ·exact h1
    ·exact bt9 h1 (bm9 h b hb)
def ba7:Prs->Prs->Option Prs
 |a,[]=>some a
 |a,p::r=>if(ah5 p.1 a).isSome then none else ba7 (ag9 p.1 p.2 a) r
def aX7(a l:Prs):Prs:=l.foldl (fun a p=>ag9 p.1 p.2 a) a
theorem br6{s:bytes}: ∀{l:Prs},(ah5 s l).isSome=true↔s∈l.map (·.1)
 |[]=>by simp[ah5]
 |p::r=>by
  rw[ah5,List.map_cons,ai9];split
  ·rename_i h;simp[h]
  ·rename_i h
   rw[br6 (l:=r)];constructor
   ·exact .inr
   ·rintro(e|e)
    ·exact absurd e.symm h
    ·exact e
open Classical in
theorem cY2: ∀(l a:Prs),ba7 a l=if(l.map (·.1)).Nodup/\ ∀s∈l.map (·.1),s∉a.map (·.1) then some (aX7 a l) else none
 |[],a=>by rw[if_pos ⟨List.nodup_nil,fun s hs=>by cases hs⟩];rfl
 |p::r,a=>by
  rw[ba7];by_cases h:(ah5 p.1 a).isSome=true
  ·rw[if_pos h,if_neg]
   rintro⟨_,h2⟩
   exact h2 p.1 (by rw[List.map_cons];exact ax1 ..) (br6.1 h)
  ·rw[if_neg h,cY2 r]
   have h':p.1∉a.map (·.1):=fun e=>h (br6.2 e)
   by_cases h3:(r.map (·.1)).Nodup/\ ∀s∈r.map (·.1),s∉(ag9 p.1 p.2 a).map (·.1)
   ·rw[if_pos h3,if_pos]
    ·rfl
    ·rw[List.map_cons,List.nodup_cons]
     refine⟨⟨fun e=>h3.2 _ e (bk4.2 (.inl rfl)),h3.1⟩,fun s hs=>?_⟩
     rcases ai9.1 hs with rfl|hs
     ·exact h'
     ·exact fun e=>h3.2 s hs (bk4.2 (.inr e))
   ·rw[if_neg h3,if_neg]
    rintro⟨h4,h5⟩
    rw[List.map_cons,List.nodup_cons] at h4;refine h3 ⟨h4.2,fun s hs e=>?_⟩
    rcases bk4.1 e with rfl|e
    ·exact h4.1 hs
    ·exact h5 s (by rw[List.map_cons];exact aC8 _ hs) e
theorem aI4{n:Nat}{v:JV}(h:aa9 n v=true):a88 v=true\/(0 < n/\aL5 v=true/\v.items.all (aa9 (n - 1))=true):=by
 cases n with
 |zero=>exact .inl h
 |succ n=>
  rw[aa9,bH3,xq3] at h;rcases h with h|h
  ·exact .inl h
  ·exact .inr ⟨Nat.succ_pos _,h.1,h.2⟩
theorem bq3{n:Nat}{v:JV}(h:a88 v=true):aa9 n v=true:=by
 cases n with
 |zero=>exact h
 |succ n=>rw[aa9,h];rfl
theorem bB3{n:Nat}{v:JV}(h:aL5 v=true)(k:v.items.all (aa9 n)=true):aa9 (n+1) v=true:=by
 rw[aa9,h,k,Bool.and_self,Bool.or_true]
theorem do5{v:JV}(h:aL5 v=true):v.kind=5\/v.kind=6:=by
 unfold aL5 at h;split at h
 ·exact .inl (by assumption)
 ·split at h
  ·exact .inr (by assumption)
  ·cases h
theorem a81{v:JV}(h:a88 v=true): ¬(v.kind=5\/v.kind=6):=by
 unfold a88 at h;intro hk;split at h
 ·omega
 ·split at h
  ·omega
  ·split at h
   ·omega
   ·cases h
theorem bX4{n m:Nat}(hnm:n<=m): ∀v:JV,aa9 n v=true->aa9 m v=true:=by
 induction n generalizing m with
 |zero=>exact fun v h=>bq3 h
 |succ n ih=>
  intro v h;rcases aI4 h with h|⟨_,h1,h2⟩
  ·exact bq3 h
  ·obtain⟨m,rfl⟩: ∃k,m=k+1:=⟨m - 1,by omega⟩
   refine bB3 h1 (xq6.2 fun x hx=>ih (by omega) x (xq6.1 h2 x hx))
theorem bL5{m:Nat}: ∀(l:List Nat) (a:Nat),m<=a\/m∈l->m<=l.foldl max a
 |[],a,h=>by rcases h with h|h;exact h;cases h
 |b::l,a,h=>by
  refine bL5 l (max a b) ?_;rcases h with h|h
  ·exact .inl (by omega)
  ·rcases ai9.1 h with rfl|h
   ·exact .inl (by omega)
   ·exact .inr h
theorem dv0{m:Nat}{v x:JV}(hk:v.kind=5\/v.kind=6)(hx:x∈v.items):ak3 m x+1<=ak3 (m+1) v:=by
 rw[ak3,if_pos hk];have:=bL5 (m:=ak3 m x) (v.items.map (ak3 m)) 0 (.inr (xq9.2 ⟨x,hx,rfl⟩));omega
theorem de1{m k:Nat}{v:JV}(h: ∀x∈v.items,ak3 m x<=k):ak3 (m+1) v<=k+1:=by
 rw[ak3];split
 ·have:=aY2 (m:=k) (v.items.map (ak3 m)) 0 (by omega) fun y hy=>by
   obtain⟨x,hx,rfl⟩:=xq9.1 hy;exact h x hx
  omega
 ·omega
theorem bB5: ∀(m k:Nat) (n:Nat) (v:JV),aa9 n v=true->ak3 m v<=k->k < m->aa9 k v=true
 |0,k,n,v,_,_,h3=>by omega
 |m+1,k,n,v,h1,h2,h3=>by
  rcases aI4 h1 with h|⟨_,h4,h5⟩
  ·exact bq3 h
  ·have hk:=do5 h4
   have hd:1<=ak3 (m+1) v:=by rw[ak3,if_pos hk];omega
   obtain⟨k,rfl⟩: ∃j,k=j+1:=⟨k - 1,by omega⟩
   refine bB3 h4 (xq6.2 fun x hx=>?_)
   have:=dv0 (m:=m) hk hx;exact bB5 m k (n - 1) x (xq6.1 h5 x hx) (by omega) (by omega)
theorem cd5: ∀(k m:Nat) (v:JV),aa9 k v=true->ak3 m v<=k
 |k,0,v,_=>aL0 _
 |k,m+1,v,h=>by
  rcases aI4 h with h|⟨h3,h4,h5⟩
  ·rw[ak3,if_neg (a81 h)];exact aL0 _
  ·obtain⟨k,rfl⟩: ∃j,k=j+1:=⟨k - 1,by omega⟩
   exact de1 fun x hx=>cd5 k m x (xq6.1 h5 x hx)
theorem aE3{n:Nat}{v:JV}(h:aa9 n v=true)(hk:v.kind=6):0 < n/\v.num=0/\v.text=[]/\v.names.length=v.items.length/\v.names.all Lib.validD=true/\srt v.names=true/\v.items.all (aa9 (n - 1))=true:=by
 rcases aI4 h with h|⟨h3,h4,h5⟩
 ·exact absurd (.inr hk) (a81 h)
 ·unfold aL5 at h4
  rw[if_neg (by omega),if_pos hk] at h4
  simp only[aY9,aE6,xq3,decide_eq_true_eq] at h4;exact⟨h3,h4.1.1,h4.1.2,h4.2.1.1,h4.2.1.2,h4.2.2,h5⟩
theorem bJ6{n:Nat}{l:Prs}(h1: ∀s∈l.map (·.1),Lib.validD s=true)(h2:srt (l.map (·.1))=true)(h3: ∀x∈l.map (·.2),aa9 n x=true):aa9 (n+1) (ofP ad8 l)=true:=by
 refine bB3 ?_ (xq6.2 h3);unfold aL5;rw[if_neg (by show¬((6:Int)=5);decide),if_pos (by rfl)]
 simp only[aY9,aE6,xq3,decide_eq_true_eq];exact⟨⟨rfl,rfl⟩,⟨by simp[ofP,JV.names,JV.items],xq6.2 h1⟩,h2⟩
theorem ee3{n:Nat}{v:JV}(h:aa9 n v=true)(hk:v.kind=6):v=ofP ad8 (prs v):=by
 obtain⟨_,h1,h2,h3,_⟩:=aE3 h hk;have:=cj3 h3;rw[ofP,hk,h1,h2] at this;exact this.symm
theorem bf0{v:JV}(h:v.names.length=v.items.length):(prs v).map (·.1)=v.names:=by
 unfold prs;rw[List.map_fst_zip (by omega)]
theorem cn7{v:JV}(h:v.names.length=v.items.length):(prs v).map (·.2)=v.items:=by
 unfold prs;rw[List.map_snd_zip (by omega)]
def ba3(p:bytes->Bool)(l:Prs):Prs:=l.filter (fun q=>!p q.1)
def ay8(p:bytes->Bool)(v:JV):JV:=if v.kind=6/\aa9 12 v=true then ofP ad8 (ba3 p (prs v)) else v
theorem b63{l:Prs}{p:bytes×JV->Bool}(h:srt (l.map (·.1))=true):srt ((l.filter p).map (·.1))=true:=
 cN3 ((cy6 h).sublist (List.Sublist.map _ cv0))
def sumP(l:Prs):Nat:=(l.map fun p=>aj7 p.1+aa1 p.2).sum
theorem aT0(v:JV)(l:Prs):aa1 (ofP v l)=1+v.text.length+sumP l:=by
 rw[ar8,aH9];show 1+v.text.length+((l.map (·.1)).map aj7).sum+((l.map (·.2)).map aa1).sum=_
 have:((l.map (·.1)).map aj7).sum+((l.map (·.2)).map aa1).sum=sumP l:=by
  unfold sumP;induction l with
  |nil=>rfl
  |cons p r ih=>simp only[List.map_cons,bl3];omega
 omega
theorem ar9(p:bytes×JV)(r:Prs):sumP (p::r)=aj7 p.1+aa1 p.2+sumP r:=by unfold sumP;rw[List.map_cons,bl3]
theorem bW7(s:bytes)(x:JV): ∀l:Prs,sumP (ag9 s x l)<=aj7 s+aa1 x+sumP l
 |[]=>by rw[ag9,ar9];exact xq0 _
 |p::r=>by
  rw[ag9];have:=bW7 s x r;split
  ·rw[ar9,ar9];omega
  ·split
   ·rw[ar9,ar9];simp only;omega
   ·rw[ar9];exact xq0 _
theorem bT6(p:bytes×JV->Bool): ∀l:Prs,sumP (l.filter p)<=sumP l
 |[]=>xq0 _
 |q::r=>by
  have:=bT6 p r;rw[bG8];split
  ·rw[ar9,ar9];omega
  ·rw[ar9];omega
theorem cy7{v:JV}(h:v.names.length=v.items.length):aa1 v=1+v.text.length+sumP (prs v):=by
 rw[<-aT0,cj3 h]
theorem size_put{v:JV}(h:v.names.length=v.items.length)(s:bytes)(x:JV):aa1 (az8 v s x)<=aa1 v+aj7 s+aa1 x:=by
 rw[dI8 h,aT0,cy7 h];have:=bW7 s x (prs v);omega
theorem bA6(p:bytes->Bool)(v:JV):aa1 (ay8 p v)<=aa1 v:=by
 unfold ay8;split
 ·rename_i hc
  obtain⟨_,h1,h2,h3,_⟩:=aE3 hc.2 hc.1;rw[aT0,cy7 h3];have:=bT6 (fun q=>!p q.1) (prs v)
  unfold ba3;show 1+0+_<=_
  omega
 ·exact xq0 _
end
section
open Go V
theorem dV9{v:JV}(h:v.names.length=v.items.length):(prs v).length=v.names.length:=by
 unfold prs;rw[List.length_zip];omega
theorem dW0{v:JV}(h:v.names.length=v.items.length){i:Nat}(hi:i < v.names.length):(prs v)[i]?=some (v.names.getD i [],v.items.getD i aa4):=by
 unfold prs;rw[List.getElem?_zip_eq_some];exact⟨aN8 [] hi,aN8 aa4 (by omega)⟩
theorem a01{α:Type}{l:List α}{i:Nat}{a:α}(h:l[i]?=some a):l.take (i+1)=l.take i++[a]:=by
 rw[b40,h];rfl
theorem cJ0{α:Type}{l:List α}{i:Nat}{a:α}(h:l[i]?=some a):l.drop i=a::l.drop (i+1):=by
 have hi:=y9 h;rw[bs7 hi];rw[xq1 hi] at h;cases h
 rfl
structure PS where
 i:Nat
 d:Bool
 o:Prs
abbrev dn6(m m2:Nat)(o:Prs):List AV:=[.lit (.int .i64 6),.lit (.int .i64 0),.str [],.sl (.tok m) 1 ((o.map (·.1)).map .str),.sl (.tok m2) 5 ((o.map (·.2)).map jAV)]
def da3(H:List AObj)(o:Prs):List AObj:=H++[.cells (.one 25) ar4,.cells (.one 25) (dn6 (H.length+2) (H.length+3) o),.grow 1 o.length none,.grow 5 o.length none]
end
section
open Go V
def ae8(v:JV)(s:bytes)(x:JV):JV×Int:=
 if v.kind=6/\aa9 12 v=true/\aa9 12 x=true/\Lib.validD s=true then(if 12<=ak3 13 x then(aa4,4) else(az8 v s x,0)) else(aa4,1)
theorem bz6{v x:JV}{s:bytes}(h: ¬(v.kind=6/\aa9 12 v=true/\aa9 12 x=true/\Lib.validD s=true)):ae8 v s x=(aa4,1):=if_neg h
theorem dn4{n:Nat}{v:JV}(h:aa9 n v=true)(hk:v.kind=6)(hs:aa1 v<=40000):da2 v:=by
 obtain⟨_,_,_,h3,_,h5,_⟩:=aE3 h hk;have:=dj3 v;exact⟨h3,h5,by omega⟩
theorem aB3{H M:List AObj}{p:JV×Int}{e:Int}(h:p=(aa4,e)):Done H (fun x H'=>x=af4 p/\H'=H) (.tup [.agg ar4,.lit (.int .i64 e)]) (H++M):=by
 subst h;exact aj9 (au6 le_zero) (aa3 (af4 (aa4,e)) (Le.refl _) bK4 ⟨rfl,rfl⟩)
theorem bN7(v x:JV)(s:bytes)(H:List AObj)(hv:aa1 v<=40000)(hx:aa1 x<=40000)(hs:s.length<=10000):o9 Tryz.prog 45 [jAV v,.str s,jAV x] H (fun y H'=>y=af4 (ae8 v s x)/\H'=H):=by
 have cv:=fun H=>aH7 v H hv
 have cx:=fun H=>aH7 x H hx
 have cs:=fun H=>aD6 (o:=.sh) s H (ay6 hs (by decide))
 have cd:=fun H=>dy5 x H hx
 by_cases hk:v.kind=6
 ·have hkt:=eq_true hk
  by_cases h1:aa9 12 v=true
  ·by_cases h2:aa9 12 x=true
   ·by_cases h3:Lib.validD s=true
    ·have hw:ae8 v s x=if 12<=ak3 13 x then(aa4,4) else(az8 v s x,0):=if_pos ⟨hk,h1,h2,h3⟩
     rw[hw];by_cases h4:12<=ak3 13 x
     ·rw[if_pos h4]
      have h4t:(12<=((ak3 13 x:Nat):Int))=True:=eq_true (by omega)
      refine y7 [] [.cell 6 25,.tmp 7] 38 Tryz.func45 rfl rfl rfl rfl (nlb rfl) (by kernel_rfl) ?_
      repeat' first|refine o6 ?_|simp -dsimp -implicitDefEqProofs (disch:=first|assumption|omega|simp only[ll];omega) only[go_sem,hkt,h1,h2,h3,h4t]|refine o5 (cv _) ?_|refine o5 (cx _) ?_|refine o5 (aD6 s _ (ay6 hs (by decide))) ?_|refine o5 (cd _) ?_|refine vcJ ?_ ?_<;>intro _|refine vcA ?_ ?_;focus(repeat'(first|omega|assumption|refine vcA ?_ ?_);done)|omega|refine o7 (fun _=>?_)
      exact aB3 rfl
     ·rw[if_neg h4]
      have h4f:(12<=((ak3 13 x:Nat):Int))=False:=eq_false (by omega)
      have cp:=fun H=>dR5 v s x H (dn4 h1 hk hv)
      refine y7 [] [.cell 6 25,.tmp 7] 38 Tryz.func45 rfl rfl rfl rfl (nlb rfl) (by kernel_rfl) ?_
      repeat' first|refine o6 ?_|simp -dsimp -implicitDefEqProofs (disch:=first|assumption|omega|simp only[ll];omega) only[go_sem,hkt,h1,h2,h3,h4f]|refine o5 (cv _) ?_|refine o5 (cx _) ?_|refine o5 (aD6 s _ (ay6 hs (by decide))) ?_|refine o5 (cd _) ?_|refine o5 (cp _) ?_|refine vcJ ?_ ?_<;>intro _|refine vcA ?_ ?_;focus(repeat'(first|omega|assumption|refine vcA ?_ ?_);done)|omega|refine o7 (fun _=>?_)
      exact aa3 (af4 (az8 v s x,0)) (Le.refl _) bK4 ⟨rfl,rfl⟩
    ·rw[bz6 (fun h=>h3 h.2.2.2)]
     have h3f:Lib.validD s=false:=by simpa using h3
     refine y7 [] [.cell 6 25,.tmp 7] 38 Tryz.func45 rfl rfl rfl rfl (nlb rfl) (by kernel_rfl) ?_
     repeat' first|refine o6 ?_|simp -dsimp -implicitDefEqProofs (disch:=first|assumption|omega|simp only[ll];omega) only[go_sem,hkt,h1,h2,h3f]|refine o5 (cv _) ?_|refine o5 (cx _) ?_|refine o5 (aD6 s _ (ay6 hs (by decide))) ?_|refine vcJ ?_ ?_<;>intro _|refine vcA ?_ ?_;focus(repeat'(first|omega|assumption|refine vcA ?_ ?_);done)|omega|refine o7 (fun _=>?_)
     exact aB3 rfl
   ·rw[bz6 (fun h=>h2 h.2.2.1)]
    have h2f:aa9 12 x=false:=by simpa using h2
    refine y7 [] [.cell 6 25,.tmp 7] 38 Tryz.func45 rfl rfl rfl rfl (nlb rfl) (by kernel_rfl) ?_
    repeat' first|refine o6 ?_|simp -dsimp -implicitDefEqProofs (disch:=first|assumption|omega|simp only[ll];omega) only[go_sem,hkt,h1,h2f]|refine o5 (cv _) ?_|refine o5 (cx _) ?_|refine vcJ ?_ ?_<;>intro _|refine vcA ?_ ?_;focus(repeat'(first|omega|assumption|refine vcA ?_ ?_);done)|omega|refine o7 (fun _=>?_)
    exact aB3 rfl
  ·rw[bz6 (fun h=>h1 h.2.1)]
   have h1f:aa9 12 v=false:=by simpa using h1
   refine y7 [] [.cell 6 25,.tmp 7] 38 Tryz.func45 rfl rfl rfl rfl (nlb rfl) (by kernel_rfl) ?_
   repeat' first|refine o6 ?_|simp -dsimp -implicitDefEqProofs (disch:=first|assumption|omega|simp only[ll];omega) only[go_sem,hkt,h1f]|refine o5 (cv _) ?_|refine vcJ ?_ ?_<;>intro _|refine vcA ?_ ?_;focus(repeat'(first|omega|assumption|refine vcA ?_ ?_);done)|omega|refine o7 (fun _=>?_)
   exact aB3 rfl
 ·rw[bz6 (fun h=>hk h.1)]
  have hkf:=eq_false hk;refine y7 [] [.cell 6 25,.tmp 7] 38 Tryz.func45 rfl rfl rfl rfl (nlb rfl) (by kernel_rfl) ?_
  repeat' first|refine o6 ?_|simp -dsimp -implicitDefEqProofs (disch:=first|assumption|omega|simp only[ll];omega) only[go_sem,hkf]|refine vcJ ?_ ?_<;>intro _|refine vcA ?_ ?_;focus(repeat'(first|omega|assumption|refine vcA ?_ ?_);done)|omega|refine o7 (fun _=>?_)
  exact aB3 rfl
def hasB(ns:List bytes)(s:bytes):Bool:=ns.any (fun n=>n==s)
theorem bZ6(ns:List bytes)(s:bytes):decide (0<=aX9 ns s)=hasB ns s:=by
 unfold aX9 hasB;cases h:ns.findIdx? (fun n=>n==s) with
 |none=>
  rw[cZ4] at h;rw[decide_eq_false (by simp only;omega)]
  symm
  rw[List.any_eq_false];exact fun x hx=>by simpa using h x hx
 |some i=>
  obtain⟨h1,h2,_⟩:=cZ5.1 h;rw[decide_eq_true (by simp only;omega)]
  symm
  rw[cf6];exact⟨_,aM4 h1,h2⟩
theorem dM7{p:bytes->Bool}{l:Prs}{i:Nat}{a:bytes×JV}(h:l[i]?=some a):ba3 p (l.take (i+1))=ba3 p (l.take i)++(if p a.1=true then[] else[a]):=by
 rw[a01 h];unfold ba3;rw[List.filter_append,bG8,List.filter_nil];cases p a.1<;>rfl
theorem dM8(p:bytes->Bool)(l:Prs)(i:Nat):(ba3 p (l.take i)).length<=i:=by
 have:=List.length_filter_le (fun q=>!p q.1) (l.take i)
 rw[List.length_take] at this;unfold ba3;omega
theorem bs0{o:Own}(v:JV)(ns:List bytes)(H:List AObj)(hv:aa1 v<=40000)(hn:ns.length<=100000):o9 Tryz.prog 85 [jAV v,.sl o 1 (ns.map .str)] H (fun y H'=>y=jAV (ay8 (hasB ns) v)/\H'=H):=by
 have cv:=fun H=>aH7 v H hv
 by_cases hk:v.kind=6
 ·have hkt:=eq_true hk
  by_cases h1:aa9 12 v=true
  ·have hj:ay8 (hasB ns) v=ofP ad8 (ba3 (hasB ns) (prs v)):=if_pos ⟨hk,h1⟩
   rw[hj];have hok:=dn4 h1 hk hv;have hpl:=dV9 hok.1;have hn1:=hok.1;have hn2:=hok.2.2;have hpg:=fun i hi=>dW0 (v:=v) (i:=i) hok.1 hi
   have mS: ∀(a:List bytes) (b:bytes),a.map AV.str++[.str b]=(a++[b]).map AV.str:=fun a b=>by simp
   have mJ: ∀(a:List JV) (b:JV),a.map jAV++[jAV b]=(a++[b]).map jAV:=fun a b=>by simp
   refine y7 [1000009] [.cell 4 25] 48 Tryz.func85 rfl rfl rfl rfl (nlb rfl) (by kernel_rfl) ?_
   repeat' first|refine o6 ?_|simp -dsimp -implicitDefEqProofs (disch:=first|assumption|omega|simp only[ll];omega) only[go_sem,hkt,h1]|refine o5 (cv _) ?_|refine vcJ ?_ ?_<;>intro _|refine vcA ?_ ?_;focus(repeat'(first|omega|assumption|refine vcA ?_ ?_);done)|omega|refine o7 (fun _=>?_)
   refine b05 (H.length+1) 3 1 (by simp;exact⟨rfl,rfl⟩) rfl (by decide) ?_
   refine b05 (H.length+1) 4 5 (by simp;exact⟨rfl,rfl⟩) rfl (by decide) ?_
   refine aa5 aa7 mixed [1000009] [1,2,4,5,19,20] (fun i:Nat=>i<=v.names.length) (fun i=>[(21,.int .i64 i)]) (fun i=>da3 H (ba3 (hasB ns) ((prs v).take i))) (fun i=>v.names.length - i) (by kernel_rfl) ?_ 0 (by omega) y8 (by simp[da3,ba3])
   intro i hi;have hol:=dM8 (hasB ns) (prs v) i;unfold da3;dsimp only[dn6,ar4];by_cases hil:i < v.names.length
   ·have t1:=dM7 (p:=hasB ns) (hpg i hil)
    have cc:=fun H=>bF7 (o:=o) ns (v.names.getD i []) H (by omega)
    rw[bZ6] at cc;cases hp:hasB ns (v.names.getD i []) with
    |true=>
     rw[if_pos hp,List.append_nil] at t1;repeat' first|refine o6 ?_|simp -dsimp -implicitDefEqProofs (disch:=first|assumption|omega|simp only[ll];omega) only[go_sem,hp]|refine o5 (cc _) ?_|refine vcJ ?_ ?_<;>intro _|refine vcA ?_ ?_;focus(repeat'(first|omega|assumption|refine vcA ?_ ?_);done)|omega|refine o7 (fun _=>?_)
     refine again (i+1) ?_ ?_ ?_ y8
     ·omega
     ·omega
     ·rw[t1]
    |false=>
     rw[if_neg (by rw[hp];decide)] at t1
     generalize ba3 (hasB ns) ((prs v).take i)=q at*;repeat' first|refine o6 ?_|simp -dsimp -implicitDefEqProofs (disch:=first|assumption|omega|simp only[ll];omega) only[go_sem,hp,mS,mJ]|refine o5 (cc _) ?_|refine vcJ ?_ ?_<;>intro _|refine vcA ?_ ?_;focus(repeat'(first|omega|assumption|refine vcA ?_ ?_);done)|omega|refine o7 (fun _=>?_)
     refine again (i+1) ?_ ?_ ?_ y8
     ·omega
     ·omega
     ·rw[t1];simp
   ·obtain rfl:i=v.names.length:=by omega
    rw[<-hpl,aZ6];repeat' first|refine o6 ?_|simp -dsimp -implicitDefEqProofs (disch:=first|assumption|omega|simp only[ll];omega) only[go_sem]|refine vcJ ?_ ?_<;>intro _|refine vcA ?_ ?_;focus(repeat'(first|omega|assumption|refine vcA ?_ ?_);done)|omega|refine o7 (fun _=>?_)
    exact aj9 (bK9 aC5 aC5) (aa3 (jAV (ofP ad8 (ba3 (hasB ns) (prs v)))) (Le.refl _) (ad4 _) ⟨rfl,rfl⟩)
  ·have hj:ay8 (hasB ns) v=v:=if_neg (fun h=>h1 h.2)
   rw[hj];have h1f:aa9 12 v=false:=by simpa using h1
   refine y7 [1000009] [.cell 4 25] 48 Tryz.func85 rfl rfl rfl rfl (nlb rfl) (by kernel_rfl) ?_
   repeat' first|refine o6 ?_|simp -dsimp -implicitDefEqProofs (disch:=first|assumption|omega|simp only[ll];omega) only[go_sem,hkt,h1f]|refine o5 (cv _) ?_|refine vcJ ?_ ?_<;>intro _|refine vcA ?_ ?_;focus(repeat'(first|omega|assumption|refine vcA ?_ ?_);done)|omega|refine o7 (fun _=>?_)
   exact aa3 (jAV v) (Le.refl _) (ad4 _) ⟨rfl,rfl⟩
 ·have hj:ay8 (hasB ns) v=v:=if_neg (fun h=>hk h.1)
  rw[hj];have hkf:=eq_false hk;refine y7 [1000009] [.cell 4 25] 48 Tryz.func85 rfl rfl rfl rfl (nlb rfl) (by kernel_rfl) ?_
  repeat' first|refine o6 ?_|simp -dsimp -implicitDefEqProofs (disch:=first|assumption|omega|simp only[ll];omega) only[go_sem,hkf]|refine vcJ ?_ ?_<;>intro _|refine vcA ?_ ?_;focus(repeat'(first|omega|assumption|refine vcA ?_ ?_);done)|omega|refine o7 (fun _=>?_)
  exact aa3 (jAV v) (Le.refl _) (ad4 _) ⟨rfl,rfl⟩
end
section
open Go V
theorem bO4{v x:JV}{s:bytes}(h:(ae8 v s x).2=0):v.kind=6/\aa9 12 v=true/\aa9 11 x=true/\Lib.validD s=true/\(ae8 v s x).1=az8 v s x:=by
 unfold ae8 at h⊢;split at h
 ·rename_i hc
  rw[if_pos hc];split at h
  ·cases h
  ·rename_i hd
   rw[if_neg hd];exact⟨hc.1,hc.2.1,bB5 13 11 12 x hc.2.2.1 (by omega) (by omega),hc.2.2.2,rfl⟩
 ·cases h
theorem dz0{v x:JV}{s:bytes}(h:(ae8 v s x).2≠0):(ae8 v s x).1=aa4:=by
 unfold ae8 at h⊢;split at h
 ·rename_i hc
  rw[if_pos hc];split at h
  ·rename_i hd;rw[if_pos hd]
  ·exact absurd rfl h
 ·rename_i hc;rw[if_neg hc]
theorem aU0{v x:JV}{s:bytes}:aa1 (ae8 v s x).1<=aa1 v+aj7 s+aa1 x:=by
 have h1:=ax3 v;by_cases h:(ae8 v s x).2=0
 ·obtain⟨hk,hr,_,_,e⟩:=bO4 h
  rw[e];exact size_put (aE3 hr hk).2.2.2.1 s x
 ·rw[dz0 h]
  have:aa1 aa4=1:=rfl;omega
end
section
open Go V
def bD5(p:bytes×JV):Bool:=aa9 12 p.2&&Lib.validD p.1
def aW3(p:bytes×JV):Bool:=decide (12<=ak3 13 p.2)
def aJ2(l:Prs):JV×Int:=
 if l.all bD5=true then(match ba7 [] l with|none=>(aa4,6)|some a=>if l.any aW3=true then(aa4,4) else(ofP ad8 a,0)) else(aa4,1)
theorem co7{l:Prs}{i:Nat}{p:bytes×JV}(h:l[i]?=some p)(k:bD5 p=false):aJ2 l=(aa4,1):=by
 refine if_neg fun e=>?_
 rw[xq6.1 e p (bs2 h)] at k;cases k
theorem do8{l:Prs}(h: ∀j,j < l.length->bD5 (l.getD j ([],aa4))=true):aJ2 l=(match ba7 [] l with|none=>(aa4,6)|some a=>if l.any aW3=true then(aa4,4) else(ofP ad8 a,0)):=by
 refine if_pos (xq6.2 fun p hp=>?_)
 obtain⟨j,hj,rfl⟩:=cZ3.1 hp;have:=h j hj;rwa [List.getD,xq1 hj] at this
theorem dx1{l acc:Prs}{i:Nat}{p:bytes×JV}(h:l[i]?=some p):ba7 acc (l.drop i)=if(ah5 p.1 acc).isSome then none else ba7 (ag9 p.1 p.2 acc) (l.drop (i+1)):=by
 rw[cJ0 h,ba7]
theorem cV8(s:bytes)(x:JV): ∀l:Prs,(ag9 s x l).length<=l.length+1
 |[]=>by simp[ag9]
 |p::r=>by
  have:=cV8 s x r;rw[ag9];split
  ·simp;omega
  ·split<;>simp
theorem en8{acc:Prs}(h:srt (acc.map (·.1))=true)(hl:acc.length<=20000):da2 (ofP ad8 acc):=⟨by simp[ofP,JV.names,JV.items],h,by simpa [ofP,JV.names] using hl⟩
theorem by1(acc:Prs)(s:bytes):ad3 (ofP ad8 acc) s=ah5 s acc:=aF3 rfl acc s
def bQ8(H:List AObj)(v:JV):List AObj:=H++[.cells (.one 25) ar4,.cells (.one 25) (ad9 v)]
theorem eg8{m:Nat}: ∀z∈ar4,Low m z:=fun z hz=>by
 simp only[ar4,ai9,aG2,or_false] at hz;rcases hz with rfl|rfl|rfl|rfl|rfl
 ·exact .lit _
 ·exact .lit _
 ·exact .str _
 ·exact ae6 (fun k e=>by cases e)
 ·exact ae6 (fun k e=>by cases e)
theorem ck0{m:Nat}(v:JV): ∀z∈ad9 v,Low m z:=fun z hz=>by
 have:=ad4 (m:=m) v;rw[aN7] at this;cases this with
 |agg _ h=>exact h z hz
theorem bK2(H:List AObj)(v v':JV): ∀(k:Nat) (sh:Shape) (cs:List AV),(bQ8 H v')[k]?=some (.cells sh cs)->(bQ8 H v)[k]?=some (.cells sh cs)\/ ∀z∈cs,Low (H.length+2) z:=
 aU7 fun o ho sh cs e=>by
  simp only[ai9,aG2,or_false] at ho;subst e;rcases ho with h|h
  ·cases h;exact eg8
  ·cases h;exact ck0 v'
structure MS where
 i:Nat
 a:Prs
 t:Bool
theorem dh5{l:Prs}{i:Nat}{p:bytes×JV}(h:l[i]?=some p):(l.take (i+1)).any aW3=((l.take i).any aW3||aW3 p):=by
 rw[a01 h,List.any_append];simp
theorem dz7(p:bytes×JV):aW3 p=decide (12<=((ak3 13 p.2:Nat):Int)):=decide_eq_decide.2 (by omega)
abbrev b92(p:bytes×JV):List AV:=[.str p.1,.lit (.int .i64 p.2.kind),.lit (.int .i64 p.2.num),.str p.2.text,.sl .sh 1 (p.2.names.map .str),.sl .sh 5 (p.2.items.map jAV)]
theorem dy7(H:List AObj): ∀(k:Nat) (sh:Shape) (cs:List AV),(H++[AObj.cells (.one 25) ar4])[k]?=some (.cells sh cs)->(H++[AObj.cells (.one 25) ar4])[k]?=some (.cells sh cs)\/ ∀z∈cs,Low (H.length+1) z:=fun _ _ _ e=>.inl e
theorem bo3(p:bytes×JV):bD5 p=(aa9 12 p.2&&Lib.validD p.1):=rfl
theorem dy0(l:Prs)(H:List AObj)(hl:l.length<=1000)(hsz: ∀p∈l,aa1 p.2<=10000/\p.1.length<=10000):o9 Tryz.prog 42 [.sl .sh 6 (l.map az3)] H (fun y H'=>y=af4 (aJ2 l)/\H'=H):=by
 have hsz': ∀i,i < l.length->aa1 (l.getD i ([],aa4)).2<=10000/\(l.getD i ([],aa4)).1.length<=10000:=fun i hi=>hsz _ (aw5 hi)
 refine y7 [] [.cell 2 25,.tmp 3] 64 Tryz.func42 rfl rfl rfl rfl (nlb rfl) (by kernel_rfl) ?_
 repeat' first|refine o6 ?_|simp -dsimp -implicitDefEqProofs (disch:=first|assumption|omega|simp only[ll];omega) only[go_sem]|refine vcJ ?_ ?_<;>intro _|refine vcA ?_ ?_;focus(repeat'(first|omega|assumption|refine vcA ?_ ?_);done)|omega|refine o7 (fun _=>?_)
 refine aa5 aa7 mixed [] [0,2,12,13] (fun i:Nat=>i<=l.length/\ ∀j,j < i->bD5 (l.getD j ([],aa4))=true) (fun i=>[(14,.int .i64 i)]) (fun _=>H++[.cells (.one 25) ar4]) (fun i=>l.length - i) (by kernel_rfl) ?_ 0 ⟨by omega,fun j hj=>by omega⟩ y8 rfl
 rintro i ⟨hi,hp⟩
 dsimp only[ar4];by_cases hil:i < l.length
 ·have hg:=aN8 ([],aa4) hil
  obtain⟨z1,z2⟩:=hsz' i hil;have cR:=fun H=>aH7 (l.getD i ([],aa4)).2 H (ay6 z1 (by decide))
  have filt:((i:Int) < ((l.length:Nat):Int))=True:=eq_true (by omega)
  cases g1:aa9 12 (l.getD i ([],aa4)).2 with
  |false=>
   rw[co7 hg (by rw[bo3,g1];rfl)]
   repeat' first|refine o6 ?_|simp -dsimp -implicitDefEqProofs (disch:=first|assumption|omega|simp only[ll];omega) only[go_sem,filt,g1]|refine o5 (cR _) ?_|refine vcJ ?_ ?_<;>intro _|refine vcA ?_ ?_;focus(repeat'(first|omega|assumption|refine vcA ?_ ?_);done)|omega|refine o7 (fun _=>?_)
   exact aB3 rfl
  |true=>
   cases g2:Lib.validD (l.getD i ([],aa4)).1 with
   |false=>
    rw[co7 hg (by rw[bo3,g1,g2];rfl)]
    repeat' first|refine o6 ?_|simp -dsimp -implicitDefEqProofs (disch:=first|assumption|omega|simp only[ll];omega) only[go_sem,filt,g1,g2]|refine o5 (cR _) ?_|refine o5 (aD6 _ _ (ay6 z2 (by decide))) ?_|refine vcJ ?_ ?_<;>intro _|refine vcA ?_ ?_;focus(repeat'(first|omega|assumption|refine vcA ?_ ?_);done)|omega|refine o7 (fun _=>?_)
    exact aB3 rfl
   |true=>
    repeat' first|refine o6 ?_|simp -dsimp -implicitDefEqProofs (disch:=first|assumption|omega|simp only[ll];omega) only[go_sem,filt,g1,g2]|refine o5 (cR _) ?_|refine o5 (aD6 _ _ (ay6 z2 (by decide))) ?_|refine vcJ ?_ ?_<;>intro _|refine vcA ?_ ?_;focus(repeat'(first|omega|assumption|refine vcA ?_ ?_);done)|omega|refine o7 (fun _=>?_)
    refine am1 (H.length+1) [.cells (.one 76) (b92 (l.getD i ([],aa4)))] (i+1) ?_ ?_ ?_ ?_ ?_ (by repeat(first|exact af9|(refine af1 ?_ ?_;focus(first|exact bx4|exact .lit _|exact .str _|exact .mp _ _ (by omega))))) ?_ y8
    ·omega
    ·exact⟨by omega,upto_succ hp (by rw[bo3,g1,g2];rfl)⟩
    ·simp
    ·simp
    ·simp
    ·exact dy7 H
 ·obtain rfl:i=l.length:=by omega
  rw[do8 hp];clear hp;generalize hQ:(match ba7 [] l with|none=>((aa4,6):JV×Int)|some a=>if l.any aW3=true then(aa4,4) else(ofP ad8 a,0))=Q
  repeat' first|refine o6 ?_|simp -dsimp -implicitDefEqProofs (disch:=first|assumption|omega|simp only[ll];omega) only[go_sem]|refine vcJ ?_ ?_<;>intro _|refine vcA ?_ ?_;focus(repeat'(first|omega|assumption|refine vcA ?_ ?_);done)|omega|refine o7 (fun _=>?_)
  refine ce6 (H.length+1) (sh:=.one 25) (cs:=[.lit (.int .i64 6),.lit (.int .i64 0),.str [],.sl .full 0 [],.sl .full 0 []]) (cs':=ad9 ad8) (by simp) (.cons (Le.refl _) (.cons (Le.refl _) (.cons (Le.refl _) (.cons (am9) (.cons (am9) .nil))))) ?_
  refine aa5 aa7 mixed [] [2,6,32,33] (fun y:MS=>y.i<=l.length/\y.a.length<=y.i/\srt (y.a.map (·.1))=true/\y.t=(l.take y.i).any aW3/\ba7 y.a (l.drop y.i)=ba7 [] l) (fun y=>[(34,.int .i64 y.i),(7,.bool y.t)]) (fun y=>bQ8 H (ofP ad8 y.a)) (fun y=>l.length - y.i) (by kernel_rfl) ?_ ⟨0,[],false⟩ ⟨by simp,by simp,rfl,rfl,rfl⟩ y8 (by rw[show ofP ad8 []=ad8 from rfl];simp[bQ8])
  rintro⟨i,a,t⟩ ⟨hi,hal,hsrt,htl,hall⟩
  dsimp only at hi hal hsrt htl hall⊢;by_cases hil:i < l.length
  ·have hg:=aN8 ([],aa4) hil
   obtain⟨z1,z2⟩:=hsz' i hil;have filt:((i:Int) < ((l.length:Nat):Int))=True:=eq_true (by omega)
   have hok:=en8 hsrt (by omega)
   rw[dx1 hg] at hall;have tt:=dh5 hg;rw[<-htl] at tt;have ti:=dz7 (l.getD i ([],aa4));have cG:=fun H=>be1 (ofP ad8 a) (l.getD i ([],aa4)).1 H (by have:=hok.2.2;omega) (by have:=hok.2.2;have:=hok.1;omega)
   rw[aL7,by1] at cG;have cP:=fun H=>dR5 (ofP ad8 a) (l.getD i ([],aa4)).1 (l.getD i ([],aa4)).2 H hok
   rw[a96] at cP;have cD:=fun H=>dy5 (l.getD i ([],aa4)).2 H (ay6 z1 (by decide))
   have hln:=cV8 (l.getD i ([],aa4)).1 (l.getD i ([],aa4)).2 a;have hsr2:=ci1 (s:=(l.getD i ([],aa4)).1) (x:=(l.getD i ([],aa4)).2) hsrt;generalize hv0:ofP ad8 a=v0 at*;generalize hv1:ofP ad8 (ag9 (l.getD i ([],aa4)).1 (l.getD i ([],aa4)).2 a)=v1 at*;unfold bQ8;dsimp only[ad9,ar4];cases hj:(ah5 (l.getD i ([],aa4)).1 a).isSome with
   |true=>
    rw[if_pos hj] at hall;rw[<-hall] at hQ;subst hQ;repeat' first|refine o6 ?_|simp -dsimp -implicitDefEqProofs (disch:=first|assumption|omega|simp only[ll];omega) only[go_sem,filt,hj]|refine o5 (cG _) ?_|refine vcJ ?_ ?_<;>intro _|refine vcA ?_ ?_;focus(repeat'(first|omega|assumption|refine vcA ?_ ?_);done)|omega|refine o7 (fun _=>?_)
    exact aB3 rfl
   |false=>
    have hz:(ah5 (l.getD i ([],aa4)).1 a).getD aa4=aa4:=by
     cases e:ah5 (l.getD i ([],aa4)).1 a with
     |none=>rfl
     |some x=>rw[e] at hj;cases hj
    rw[if_neg (by rw[hj];decide)] at hall
    cases t with
    |true=>
     repeat' first|refine o6 ?_|simp -dsimp -implicitDefEqProofs (disch:=first|assumption|omega|simp only[ll];omega) only[go_sem,filt,hj,hz]|refine o5 (cG _) ?_|refine o5 (cP _) ?_|refine o5 (cD _) ?_|refine vcJ ?_ ?_<;>intro _|refine vcA ?_ ?_;focus(repeat'(first|omega|assumption|refine vcA ?_ ?_);done)|omega|refine o7 (fun _=>?_)
     refine am1 (H.length+2) [.cells (.one 76) (b92 (l.getD i ([],aa4))),.cells (.one 25) (ad9 aa4)] ⟨i+1,ag9 (l.getD i ([],aa4)).1 (l.getD i ([],aa4)).2 a,true⟩ ?_ ?_ ?_ ?_ ?_ (by repeat(first|exact af9|(refine af1 ?_ ?_;focus(first|exact bx4|exact .lit _|exact .str _|exact .mp _ _ (by omega))))) ?_ y8
     ·dsimp only;omega
     ·exact⟨by dsimp only;omega,by dsimp only;omega,hsr2,by rw[tt];rfl,hall⟩
     ·dsimp only
      rw[hv1];simp
     ·simp
     ·simp
     ·exact bK2 H _ _
    |false=>
     cases hd:aW3 (l.getD i ([],aa4)) with
     |true=>
      rw[hd] at ti;have hdi:(12<=((ak3 13 (l.getD i ([],aa4)).2:Nat):Int))=True:=eq_true (of_decide_eq_true ti.symm);repeat' first|refine o6 ?_|simp -dsimp -implicitDefEqProofs (disch:=first|assumption|omega|simp only[ll];omega) only[go_sem,filt,hj,hz,hdi]|refine o5 (cG _) ?_|refine o5 (cP _) ?_|refine o5 (cD _) ?_|refine vcJ ?_ ?_<;>intro _|refine vcA ?_ ?_;focus(repeat'(first|omega|assumption|refine vcA ?_ ?_);done)|omega|refine o7 (fun _=>?_)
      refine am1 (H.length+2) [.cells (.one 76) (b92 (l.getD i ([],aa4))),.cells (.one 25) (ad9 aa4)] ⟨i+1,ag9 (l.getD i ([],aa4)).1 (l.getD i ([],aa4)).2 a,true⟩ ?_ ?_ ?_ ?_ ?_ (by repeat(first|exact af9|(refine af1 ?_ ?_;focus(first|exact bx4|exact .lit _|exact .str _|exact .mp _ _ (by omega))))) ?_ y8
      ·dsimp only;omega
      ·exact⟨by dsimp only;omega,by dsimp only;omega,hsr2,by rw[tt,hd];rfl,hall⟩
      ·dsimp only
       rw[hv1];simp
      ·simp
      ·simp
      ·exact bK2 H _ _
     |false=>
      rw[hd] at ti;have hdi:(12<=((ak3 13 (l.getD i ([],aa4)).2:Nat):Int))=False:=eq_false (of_decide_eq_false ti.symm);repeat' first|refine o6 ?_|simp -dsimp -implicitDefEqProofs (disch:=first|assumption|omega|simp only[ll];omega) only[go_sem,filt,hj,hz,hdi]|refine o5 (cG _) ?_|refine o5 (cP _) ?_|refine o5 (cD _) ?_|refine vcJ ?_ ?_<;>intro _|refine vcA ?_ ?_;focus(repeat'(first|omega|assumption|refine vcA ?_ ?_);done)|omega|refine o7 (fun _=>?_)
      refine am1 (H.length+2) [.cells (.one 76) (b92 (l.getD i ([],aa4))),.cells (.one 25) (ad9 aa4)] ⟨i+1,ag9 (l.getD i ([],aa4)).1 (l.getD i ([],aa4)).2 a,false⟩ ?_ ?_ ?_ ?_ ?_ (by repeat(first|exact af9|(refine af1 ?_ ?_;focus(first|exact bx4|exact .lit _|exact .str _|exact .mp _ _ (by omega))))) ?_ y8
      ·dsimp only;omega
      ·exact⟨by dsimp only;omega,by dsimp only;omega,hsr2,by rw[tt,hd];rfl,hall⟩
      ·dsimp only
       rw[hv1];simp
      ·simp
      ·simp
      ·exact bK2 H _ _
  ·obtain rfl:i=l.length:=by omega
   rw[b34,ba7] at hall;rw[aZ6] at htl;rw[<-hall] at hQ;dsimp only at hQ;unfold bQ8;dsimp only[ad9,ar4];cases t with
   |true=>
    rw[if_pos htl.symm] at hQ;subst hQ;repeat' first|refine o6 ?_|simp -dsimp -implicitDefEqProofs (disch:=first|assumption|omega|simp only[ll];omega) only[go_sem]|refine vcJ ?_ ?_<;>intro _|refine vcA ?_ ?_;focus(repeat'(first|omega|assumption|refine vcA ?_ ?_);done)|omega|refine o7 (fun _=>?_)
    exact aB3 rfl
   |false=>
    rw[if_neg (by rw[<-htl];decide)] at hQ
    subst hQ;repeat' first|refine o6 ?_|simp -dsimp -implicitDefEqProofs (disch:=first|assumption|omega|simp only[ll];omega) only[go_sem]|refine vcJ ?_ ?_<;>intro _|refine vcA ?_ ?_;focus(repeat'(first|omega|assumption|refine vcA ?_ ?_);done)|omega|refine o7 (fun _=>?_)
    exact aa3 (af4 (ofP ad8 a,0)) (Le.refl _) bK4 ⟨rfl,rfl⟩
end
section
open Go V
theorem dz2{w r:bytes}(hw: ∀b∈w,b.toNat < 128):Lib.validD (w++r)=Lib.validD r:=by
 have:=Lib.validD_ascii w.length (w++r) (by rw[aZ2];exact hw)
 rwa [List.drop_left] at this
end
section
open Go V
def dr1(c:UInt8):Bool:=c==91||c==93||c==123||c==125||c==44||c==58
def dR8(w t:Bool)(c:UInt8):Bool:=if t then w else if w&&c==92 then w else if c==34 then !w else w
def dR9(w t:Bool)(c:UInt8):Bool:=if t then false else w&&c==92
inductive Wide:Bool->Bool->bytes->bytes->Prop
 |nil (w t:Bool):Wide w t [] []
 |cons (w t:Bool) (c:UInt8) (p q r m:bytes) (hp: ∀b∈p,bx8 b=true) (hq: ∀b∈q,bx8 b=true) (hs:(w=false/\dr1 c=true)\/(p=[]/\q=[])) (h:Wide (dR8 w t c) (dR9 w t c) r m):Wide w t (c::r) (p++c::(q++m))
inductive Tight:bytes->bytes->Prop
 |nil:Tight [] []
 |cons (c:UInt8) (q r m:bytes) (hc:bx8 c=false) (hq: ∀b∈q,bx8 b=true) (hs:dr1 c=true\/q=[]) (h:Wide (dR8 false false c) (dR9 false false c) r m):Tight (c::r) (c::(q++m))
end
section
open Go V
def hexS(n:Nat):UInt8:=[48,49,50,51,52,53,54,55,56,57,97,98,99,100,101,102].getD n 0
def aL3(c:UInt8):bytes:=
 if c=34 then[92,34] else if c=92 then[92,92] else if c=8 then[92,98] else if c=9 then[92,116] else if c=10 then[92,110] else if c=12 then[92,102] else if c=13 then[92,114]
 else if c.toNat < 32 then[92,117,48,48,UInt8.ofNat (48+c.toNat/16),hexS (c.toNat%16)] else[c]
def aN1(s:bytes):bytes:=34::(s.flatMap aL3++[34])
def aP5(first obj:Bool)(n:bytes):bytes:=(if first then[] else[44])++(if obj then aN1 n++[58] else[])
mutual
def ae9:JV->bytes
 |.mk k n t ns is=>
  if k=1 then cv4 else if k=2 then b49 else if k=3 then Lib.itoa n else if k=4 then aN1 t
  else if k=5 then 91::(au0 false is true ns++[93])
  else if k=6 then 123::(au0 true is true ns++[125])
  else cv5
def au0(obj:Bool):List JV->Bool->List bytes->bytes
 |[],_,_=>[]
 |v::r,first,ns=>aP5 first obj (ns.headD [])++(ae9 v++au0 obj r false ns.tail)
end
theorem aA2(v:JV):ae9 v=if v.kind=1 then cv4 else if v.kind=2 then b49 else if v.kind=3 then Lib.itoa v.num else if v.kind=4 then aN1 v.text
  else if v.kind=5 then 91::(au0 false v.items true v.names++[93]) else if v.kind=6 then 123::(au0 true v.items true v.names++[125]) else cv5:=by
 cases v;rw[ae9];rfl
theorem bD3(obj first:Bool)(ns:List bytes):au0 obj [] first ns=[]:=by rw[au0]
theorem aR0(obj first:Bool)(ns:List bytes)(v:JV)(r:List JV):au0 obj (v::r) first ns=aP5 first obj (ns.headD [])++(ae9 v++au0 obj r false ns.tail):=by rw[au0]
theorem dL8(c:UInt8):(aL3 c).length<=6/\1<=(aL3 c).length:=by
 unfold aL3;repeat' split
 all_goals simp
theorem aF5(s:bytes):(s.flatMap aL3).length<=6*s.length:=by
 induction s with
 |nil=>simp
 |cons c s ih=>
  have:=(dL8 c).1;rw[bO1,List.length_append,List.length_cons];omega
theorem bi2(s:bytes):(aN1 s).length<=6*s.length+2:=by
 have:=aF5 s;unfold aN1;simp only[List.length_cons,List.length_append,List.length_nil];omega
theorem de0{d:Nat}(h:d < 10):(UInt8.ofNat (48+d)).toNat=48+d:=by
 rw[UInt8.toNat_ofNat_of_lt' (by show 48+d < 256;omega)]
theorem cJ1{d:Nat}(h:d < 10):isDigit (UInt8.ofNat (48+d))=true:=by
 unfold isDigit;rw[de0 h];exact decide_eq_true (by omega)
theorem dM4(u:Nat): ∀b∈Lib.decDigits u,isDigit b=true:=by
 induction u using Nat.strongRecOn with
 |ind u ih=>
  intro b hb;rw[Lib.decDigits] at hb;split at hb
  ·rename_i h
   simp only[ai9,aG2,or_false] at hb;subst hb;exact cJ1 h
  ·rename_i h
   rcases aP7.1 hb with hb|hb
   ·exact ih (u/10) (by omega) b hb
   ·simp only[ai9,aG2,or_false] at hb
    subst hb;exact cJ1 (by omega)
theorem cX4(u:Nat):Lib.decDigits u≠[]:=by
 rw[Lib.decDigits];split<;>simp
theorem dd9(u:Nat):isDigit (peek (Lib.decDigits u))=true:=by
 have h2:=cX4 u;have h3:=dM4 u;cases hd:Lib.decDigits u with
 |nil=>exact absurd hd h2
 |cons a b=>rw[hd] at h3;exact h3 a (ax1 ..)
end
section
open Go V
def di8(c:UInt8):Bool:=c==110||c==116||c==102||c==34||c==45||c==91||c==123||isDigit c
theorem db7(n:Int): ∃c l,Lib.itoa n=c::l/\(c=45\/isDigit c=true):=by
 unfold Lib.itoa;split
 ·exact⟨_,_,rfl,.inl rfl⟩
 ·have h2:=cX4 n.toNat
  have h3:=dd9 n.toNat;cases hd:Lib.decDigits n.toNat with
  |nil=>exact absurd hd h2
  |cons a b=>rw[hd] at h3;exact⟨a,b,rfl,.inr h3⟩
theorem bU1(v:JV): ∃c l,ae9 v=c::l/\di8 c=true:=by
 rw[aA2];split
 ·exact⟨_,_,rfl,rfl⟩
 split
 ·exact⟨_,_,rfl,rfl⟩
 split
 ·obtain⟨c,l,h1,h2⟩:=db7 v.num
  refine⟨c,l,h1,?_⟩;unfold di8;rcases h2 with rfl|h2
  ·rfl
  ·rw[h2,Bool.or_true]
 split
 ·exact⟨_,_,rfl,rfl⟩
 split
 ·exact⟨_,_,rfl,rfl⟩
 split
 ·exact⟨_,_,rfl,rfl⟩
 ·exact⟨_,_,rfl,rfl⟩
theorem ck6{k n:Int}{t:bytes}{ns:List bytes}{is:List JV}:(JV.mk k n t ns is).kind=k:=rfl
theorem br3(obj:Bool): ∀(l:List JV) (b:Bool) (ns:List bytes),l.length<=(au0 obj l b ns).length
 |[],_,_=>by simp
 |x::l,b,ns=>by
  have:=br3 obj l false ns.tail;obtain⟨c,p,h1,_⟩:=bU1 x;rw[aR0,h1];simp only[List.length_append,List.length_cons];omega
theorem c77{n:Nat}{v:JV}(h:aa9 n v=true)(hk:v.kind=5): ∃k,n=k+1/\v=.mk 5 0 [] [] v.items/\v.items.all (aa9 k)=true:=by
 rcases aI4 h with h|⟨h0,h1,h2⟩
 ·exact absurd (.inl hk) (a81 h)
 ·unfold aL5 aY9 at h1
  rw[if_pos hk] at h1;simp only[xq3,decide_eq_true_eq] at h1;refine⟨n - 1,by omega,?_,h2⟩
  obtain⟨k,nu,t,ns,is⟩:=v;simp only[JV.kind,JV.num,JV.text,JV.names,JV.items] at hk h1⊢;obtain⟨⟨rfl,rfl⟩,rfl⟩:=h1;rw[hk]
theorem eh7(v:JV):v=.mk v.kind v.num v.text v.names v.items:=by cases v;rfl
theorem bB4{n:Nat}{v:JV}(h:aa9 n v=true)(hk:v.kind≠5/\v.kind≠6):v=.mk v.kind v.num v.text [] []/\((v.kind=0\/v.kind=1\/v.kind=2)/\v.num=0/\v.text=[]\/v.kind=3/\v.text=[]/\ -9007199254740991<=v.num/\v.num<=9007199254740991\/v.kind=4/\v.num=0/\Lib.validD v.text=true):=by
 have he:=eh7 v;rcases aI4 h with h|⟨_,h,_⟩
 ·unfold a88 aY9 bi8 at h
  by_cases h2:v.kind=0\/v.kind=1\/v.kind=2
  ·rw[if_pos h2] at h
   simp only[xq3,decide_eq_true_eq] at h;obtain⟨⟨e1,e2⟩,e3,e4⟩:=h;rw[e3,e4] at he;exact⟨he,.inl ⟨h2,e1,e2⟩⟩
  rw[if_neg h2] at h;by_cases h3:v.kind=3
  ·rw[if_pos h3] at h
   simp only[xq3,decide_eq_true_eq] at h;obtain⟨⟨⟨e3,e4⟩,e2⟩,h4⟩:=h;rw[e3,e4] at he;exact⟨he,.inr (.inl ⟨h3,e2,h4⟩)⟩
  rw[if_neg h3] at h;by_cases h4:v.kind=4
  ·rw[if_pos h4] at h
   simp only[xq3,decide_eq_true_eq] at h;obtain⟨⟨⟨e3,e4⟩,e1⟩,h5⟩:=h;rw[e3,e4] at he;exact⟨he,.inr (.inr ⟨h4,e1,h5⟩)⟩
  rw[if_neg h4] at h;cases h
 ·unfold aL5 at h
  rw[if_neg hk.1,if_neg hk.2] at h;cases h
theorem cF7{n:Int}(h1: -9007199254740991<=n)(h2:n<=9007199254740991):(Lib.itoa n).length<=17:=by
 have hd: ∀(k u:Nat),u < 10^k->(Lib.decDigits u).length<=max k 1:=by
  intro k;induction k with
  |zero=>
   intro u h;have:u < 1:=h;obtain rfl:u=0:=by omega
   rw[Lib.decDigits_one (by omega)]
   simp
  |succ k ih=>
   intro u h;rw[Lib.decDigits];split
   ·simp
    try omega
   ·rename_i h3
    have:=ih (u/10) (by rw[Nat.pow_succ] at h;omega)
    rw[List.length_append,List.length_cons,List.length_nil];cases k with
    |zero=>have:u < 10:=h;omega
    |succ k=>omega
 have h16:(10:Nat)^16=10000000000000000:=by decide
 unfold Lib.itoa;split
 ·have:=hd 16 n.natAbs (by omega)
  rw[List.length_cons];omega
 ·have:=hd 16 n.toNat (by omega)
  omega
theorem bD2(obj:Bool): ∀(l:List JV) (b:Bool) (ns:List bytes),(∀x∈l,(ae9 x).length+1<=24*aa1 x)->(obj=true->ns.length=l.length)->(au0 obj l b ns).length<=24*(l.map aa1).sum+24*(ns.map aj7).sum
 |[],b,ns,_,_=>by rw[bD3];simp
 |x::l,b,ns,h,hn=>by
  have h1:=h x (ax1 ..);have h2:=bD2 obj l false ns.tail (fun y hy=>h y (aC8 _ hy)) (fun e=>by have:=hn e;simp only[List.length_cons] at this;rw[List.length_tail];omega)
  have h3:(aP5 b obj (ns.headD [])).length+24*(ns.tail.map aj7).sum<=1+24*(ns.map aj7).sum:=by
   unfold aP5;have hb:(if b=true then([]:bytes) else[44]).length<=1:=by cases b<;>simp
   rw[List.length_append];cases obj with
   |false=>
    cases ns with
    |nil=>simp;cases b<;>simp
    |cons s ns=>simp;cases b<;>simp<;>omega
   |true=>
    cases ns with
    |nil=>simp at hn
    |cons s ns=>
     have:=bi2 s;have hw:aj7 s=1+s.length:=rfl;simp only[if_true,List.headD_cons,List.tail_cons,List.map_cons,bl3,List.length_append,List.length_cons,List.length_nil,hw];omega
  rw[aR0,List.map_cons,bl3];simp only[List.length_append];omega
theorem c84: ∀(n:Nat) (v:JV),aa9 n v=true->(ae9 v).length+1<=24*aa1 v:=by
 intro n;induction n with
 |zero=>
  intro v h;have h0:=ax3 v;have ht:=size_text v;have hq:=bi2 v.text;by_cases hk:v.kind≠5/\v.kind≠6
  ·obtain⟨h1,h2⟩:=bB4 h hk
   rw[aA2];repeat' split
   all_goals first|omega|(simp[cv4,b49,cv5];omega)|skip
   have:=cF7 (n:=v.num) (by omega) (by omega)
   omega
  ·rcases aI4 h with h|⟨h,_⟩
   ·exact absurd (by omega) (a81 h)
   ·omega
 |succ n ih=>
  intro v h;have h0:=ax3 v;have ht:=size_text v;have hq:=bi2 v.text;by_cases hk:v.kind≠5/\v.kind≠6
  ·obtain⟨h1,h2⟩:=bB4 h hk
   rw[aA2];repeat' split
   all_goals first|omega|(simp[cv4,b49,cv5];omega)|skip
   have:=cF7 (n:=v.num) (by omega) (by omega)
   omega
  ·have hsz:aa1 v=1+v.text.length+(v.names.map aj7).sum+(v.items.map aa1).sum:=by rw[ar8,aH9]
   by_cases h5:v.kind=5
   ·obtain⟨k,e,h1,h2⟩:=c77 h h5
    obtain rfl:n=k:=by omega
    have:=bD2 false v.items true v.names (fun x hx=>ih x (xq6.1 h2 x hx)) (fun e=>by cases e)
    rw[aA2,if_neg (by omega),if_neg (by omega),if_neg (by omega),if_neg (by omega),if_pos h5]
    simp only[List.length_cons,List.length_append,List.length_nil];omega
   ·obtain⟨_,h1,h2,h3,h4,h6,h7⟩:=aE3 h (by omega)
    have:=bD2 true v.items true v.names (fun x hx=>ih x (xq6.1 h7 x hx)) (fun _=>h3)
    rw[aA2,if_neg (by omega),if_neg (by omega),if_neg (by omega),if_neg (by omega),if_neg h5,if_pos (by omega)]
    simp only[List.length_cons,List.length_append,List.length_nil];omega
end
section
open Go V
theorem dt4{s:bytes}{i:Nat}(h:i < s.length):(s.take (i+1)).flatMap aL3=(s.take i).flatMap aL3++aL3 (s.getD i 0):=by
 rw[b40,xq1 h,List.getD,xq1 h,b35];simp
theorem q_len{f l g:bytes}{n:Nat}(ht:g=f++l)(h:n=l.length):f.length+1+n=(34::g).length:=by rw[ht,h];simp;omega
end
section
open Go V
theorem d84(x:Nat)(H:List AObj)(hx:x < 18446744073709551616):o9 Tryz.prog 247 [.lit (.int .u64 x)] H (fun y H'=>y=.lit (.int .i64 ((Lib.bitLen x:Nat):Int))/\H'=H):=by
 refine y7 [] [.tmp 2] 25 Tryz.func247 rfl rfl rfl rfl (nlb rfl) (by kernel_rfl) ?_
 go_name_bytes B hB
 have hT: ∀i:Fin 256,(B.data.toList.getD i.val 0).toNat=Lib.bitLen i.val:=by rw[<-hB];decide+kernel
 have hl:B.data.toList.length=256:=by rw[<-hB];decide+kernel
 clear hB;have hT': ∀v,v < 256->(B.data.toList.getD v 0).toNat=Lib.bitLen v:=fun v h=>hT ⟨v,h⟩
 have hb: ∀v,v < 256->Lib.bitLen v<=8:=fun v h=>Lib.bitLen_le8 ⟨v,h⟩
 clear hT;repeat' first|refine o6 ?_|simp -dsimp -implicitDefEqProofs (disch:=first|assumption|omega|simp only[ll];omega) only[go_sem,hl]|refine vcJ ?_ ?_<;>intro _|refine vcA ?_ ?_;focus(repeat'(first|omega|assumption|refine vcA ?_ ?_);done)|omega|refine o7 (fun _=>?_)
 ·have e1:=hT' (((x/4294967296)/65536)/256) (by omega)
  have e2:=hb (((x/4294967296)/65536)/256) (by omega)
  rw[e1,IntWalk.i64_in _ (by omega)]
  refine y5 ⟨int_eq ?_,rfl⟩;rw[Lib.bitLen_shift32 x (by omega) hx,Lib.bitLen_shift16 (x/4294967296) (by omega) (by omega),Lib.bitLen_shift8 ((x/4294967296)/65536) (by omega) (by omega)]
  omega
 ·have e1:=hT' ((x/4294967296)/65536) (by omega)
  have e2:=hb ((x/4294967296)/65536) (by omega)
  rw[e1,IntWalk.i64_in _ (by omega)]
  refine y5 ⟨int_eq ?_,rfl⟩;rw[Lib.bitLen_shift32 x (by omega) hx,Lib.bitLen_shift16 (x/4294967296) (by omega) (by omega)]
  omega
 ·have e1:=hT' ((x/4294967296)/256) (by omega)
  have e2:=hb ((x/4294967296)/256) (by omega)
  rw[e1,IntWalk.i64_in _ (by omega)]
  refine y5 ⟨int_eq ?_,rfl⟩;rw[Lib.bitLen_shift32 x (by omega) hx,Lib.bitLen_shift8 (x/4294967296) (by omega) (by omega)]
  omega
 ·have e1:=hT' (x/4294967296) (by omega)
  have e2:=hb (x/4294967296) (by omega)
  rw[e1,IntWalk.i64_in _ (by omega)]
  refine y5 ⟨int_eq ?_,rfl⟩;rw[Lib.bitLen_shift32 x (by omega) hx]
  omega
 ·have e1:=hT' ((x/65536)/256) (by omega)
  have e2:=hb ((x/65536)/256) (by omega)
  rw[e1,IntWalk.i64_in _ (by omega)]
  refine y5 ⟨int_eq ?_,rfl⟩;rw[Lib.bitLen_shift16 x (by omega) (by omega),Lib.bitLen_shift8 (x/65536) (by omega) (by omega)]
  omega
 ·have e1:=hT' (x/65536) (by omega)
  have e2:=hb (x/65536) (by omega)
  rw[e1,IntWalk.i64_in _ (by omega)]
  refine y5 ⟨int_eq ?_,rfl⟩;rw[Lib.bitLen_shift16 x (by omega) (by omega)]
  omega
 ·have e1:=hT' (x/256) (by omega)
  have e2:=hb (x/256) (by omega)
  rw[e1,IntWalk.i64_in _ (by omega)]
  refine y5 ⟨int_eq ?_,rfl⟩;rw[Lib.bitLen_shift8 x (by omega) (by omega)]
  omega
 ·have e1:=hT' x (by omega)
  have e2:=hb x (by omega)
  rw[e1,IntWalk.i64_in _ (by omega)]
  refine y5 ⟨int_eq ?_,rfl⟩;omega
theorem cP2(x:Nat)(H:List AObj)(hx:x<=64):o9 Tryz.prog 246 [.lit (.int .i64 x)] H (fun y H'=>y=.lit (.int .i64 ((Lib.l10 x:Nat):Int))/\H'=H):=by
 refine y7 [] [.tmp 2] 6 Tryz.func246 rfl rfl rfl rfl (nlb rfl) (by kernel_rfl) ?_
 repeat' first|refine o6 ?_|simp -dsimp -implicitDefEqProofs (disch:=first|assumption|omega|simp only[ll];omega) only[go_sem]|refine vcJ ?_ ?_<;>intro _|refine vcA ?_ ?_;focus(repeat'(first|omega|assumption|refine vcA ?_ ?_);done)|omega|refine o7 (fun _=>?_)
 refine y5 ⟨int_eq ?_,rfl⟩;unfold Lib.l10;omega
theorem d65(b:Bool)(H:List AObj):o9 Tryz.prog 248 [.lit (.bool b)] H (fun y H'=>y=.lit (.int .i64 (if b then 1 else 0))/\H'=H):=by
 cases b
 all_goals
  refine y7 [] [.tmp 2] 4 Tryz.func248 rfl rfl rfl rfl (nlb rfl) (by kernel_rfl) ?_
  repeat' first|refine o6 ?_|simp -dsimp -implicitDefEqProofs (disch:=first|assumption|omega|simp only[ll];omega) only[go_sem]|refine vcJ ?_ ?_<;>intro _|refine vcA ?_ ?_;focus(repeat'(first|omega|assumption|refine vcA ?_ ?_);done)|omega|refine o7 (fun _=>?_)
  exact y5 ⟨rfl,rfl⟩
theorem dV1(i:Nat)(H:List AObj)(hi:i < 100):o9 Tryz.prog 239 [.lit (.int .i64 i)] H (fun y H'=>y=.str (Lib.decDigits i)/\H'=H):=by
 by_cases h:i < 10
 ·have ht:((i:Int) < 10)=True:=eq_true (by omega)
  refine y7 [] [.tmp 2] 15 Tryz.func239 rfl rfl rfl rfl (nlb rfl) (by kernel_rfl) ?_
  go_name_bytes B hB
  have hBs:B=Lib.digits36:=by rw[<-hB];decide+kernel
  have hl:B.data.toList.length=36:=by rw[hBs];exact Lib.digits36_size
  clear hB;repeat' first|refine o6 ?_|simp -dsimp -implicitDefEqProofs (disch:=first|assumption|omega|simp only[ll];omega) only[go_sem,ht,hl]|refine vcJ ?_ ?_<;>intro _|refine vcA ?_ ?_;focus(repeat'(first|omega|assumption|refine vcA ?_ ?_);done)|omega|refine o7 (fun _=>?_)
  have:=Lib.digits36_piece h;rw[<-hBs] at this;rw[show ((i:Int)+1).toNat=i+1 by omega,this]
  exact y5 ⟨rfl,rfl⟩
 ·have ht:((i:Int) < 10)=False:=eq_false (by omega)
  refine y7 [] [.tmp 2] 15 Tryz.func239 rfl rfl rfl rfl (nlb rfl) (by kernel_rfl) ?_
  go_name_bytes B hB
  go_name_bytes C hC
  have hCs:C=Lib.smalls:=by rw[<-hC];decide+kernel
  have hl:C.data.toList.length=200:=by rw[hCs];exact Lib.smalls_size
  clear hB hC;repeat' first|refine o6 ?_|simp -dsimp -implicitDefEqProofs (disch:=first|assumption|omega|simp only[ll];omega) only[go_sem,ht,hl]|refine vcJ ?_ ?_<;>intro _|refine vcA ?_ ?_;focus(repeat'(first|omega|assumption|refine vcA ?_ ?_);done)|omega|refine o7 (fun _=>?_)
  have:=Lib.smalls_piece h hi;rw[<-hCs] at this;rw[show ((i:Int)*2+2).toNat=i*2+2 by omega,show ((i:Int)*2).toNat=i*2 by omega,this]
  exact y5 ⟨rfl,rfl⟩
theorem bU4(u:Nat)(H:List AObj)(h1:1<=u)(h2:u < 18446744073709551616):o9 Tryz.prog 240 [.lit (.int .u64 u)] H (fun y H'=>y=.lit (.int .i64 ((Lib.nDigits u:Nat):Int))/\H'=H):=by
 obtain⟨e1,e2⟩:=Lib.numDigits_eq u h1 h2;have e3:=Lib.bitLen_le u 64 (xq0 _) h2;have cL:=fun H=>d84 u H h2
 have cP:=fun H=>cP2 (Lib.bitLen u) H e3
 generalize Lib.l10 (Lib.bitLen u)=q at*;have hg:ah8 11=.ip (.agg a18):=dc6 rfl rfl;have hp:=dB7 (i:=q) (by omega)
 refine y7 [] [.tmp 2] 15 Tryz.func240 rfl rfl rfl rfl (nlb rfl) (by kernel_rfl) ?_
 repeat' first|refine o6 ?_|simp -dsimp -implicitDefEqProofs (disch:=first|assumption|omega|simp only[ll];omega) only[go_sem,hg,hp,bU2]|refine o5 (cL _) ?_|refine o5 (cP _) ?_|refine o5 (d65 _ _) ?_|refine vcJ ?_ ?_<;>intro _|refine vcA ?_ ?_;focus(repeat'(first|omega|assumption|refine vcA ?_ ?_);done)|omega|refine o7 (fun _=>?_)
 refine y5 ⟨int_eq ?_,rfl⟩;rw[<-e1];by_cases h:10^q<=u
 ·have hc:((10^q:Nat):Int)<=(u:Int):=Int.ofNat_le.mpr h
  simp only[if_pos h,if_pos hc];omega
 ·have hc: ¬((10^q:Nat):Int)<=(u:Int):=fun h'=>h (Int.ofNat_le.mp h')
  simp only[if_neg h,if_neg hc];omega
end
section
open Go V
def c24(d:Array UInt8):List AV:=o8 0::(d.toList.map o8++List.replicate (23 - d.size) (AV.lit (.int .u8 0)))
theorem cX8{d:Array UInt8}(h:d.size<=23):(c24 d).length=24:=by
 unfold c24;simp
 omega
theorem cl3{d:Array UInt8}{i j:Nat}{v:Int}(x:UInt8)(h:i < d.size)(hj:j=1+i)(hv:v=(x.toNat:Int)):(c24 d).set j (AV.lit (.int .u8 v))=c24 (d.setIfInBounds i x):=by
 subst hj hv;unfold c24;rw[show 1+i=i+1 by omega,List.set_cons_succ,bs5 _ _ (by simp;exact h)]
 rw[cv1,Array.size_setIfInBounds,ao7];rfl
def bI0(d:Array UInt8)(k w:Nat):Array UInt8:=(d.setIfInBounds (k+1) (Lib.sm (w*2+1))).setIfInBounds k (Lib.sm (w*2))
theorem ai2(d:Array UInt8)(k w:Nat):(bI0 d k w).size=d.size:=by simp[bI0]
theorem au4{nd0 u k v:Nat}{d:Array UInt8}(h:Lib.FmtInv nd0 u (k+2) v d):Lib.FmtInv nd0 u k (v/100) (bI0 d k (v%100)):=h.step2'
theorem au7{B:ByteArray}{d:Array UInt8}{i1 i0 a1 a0:Nat}(k w:Nat)(hB:B=Lib.smalls)(hk:k+1 < d.size)(h1:i1=w*2+1)(h0:i0=w*2)(ha1:a1=1+(k+1))(ha0:a0=1+k):
  ((c24 d).set a1 (AV.lit (.int .u8 (((B.data.toList.getD i1 0).toNat:Nat):Int)))).set a0 (AV.lit (.int .u8 (((B.data.toList.getD i0 0).toNat:Nat):Int)))=c24 (bI0 d k w):=by
 subst hB h1 h0;show ((c24 d).set a1 (AV.lit (.int .u8 (((Lib.sm (w*2+1)).toNat:Nat):Int)))).set a0 (AV.lit (.int .u8 (((Lib.sm (w*2)).toNat:Nat):Int)))=_
 rw[cl3 (i:=k+1) (Lib.sm (w*2+1)) hk ha1 rfl,cl3 (i:=k) (Lib.sm (w*2)) (by simp;omega) ha0 rfl]
 rfl
theorem bS6{d:Array UInt8}{z:Int}(w:Nat)(h:0 < d.size)(hw:w < 10)(hz:z=48+(w:Int)):(c24 d).set 1 (AV.lit (.int .u8 z))=c24 (d.setIfInBounds 0 (UInt8.ofNat (48+w))):=
 cl3 (UInt8.ofNat (48+w)) h rfl (by
  rw[hz,UInt8.toNat_ofNat_of_lt' (by show 48+w < 256;omega)]
  omega)
theorem dK6(u:Nat)(d0:Array UInt8)(H:List AObj)(hd:d0.size=Lib.nDigits u)(h2:u < 18446744073709551616)(h3:d0.size<=20):
  o9 Tryz.prog 241 [.msl H.length 1 d0.size 23,.lit (.int .u64 u)] (H++[.cells (.one 280) (c24 d0)]) (fun y H'=> ∃dk v',Lib.FmtInv d0.size u 0 v' dk/\y=.tup []/\H'=H++[.cells (.one 280) (c24 dk)]):=by
 have hst:Lib.FmtInv d0.size u d0.size u d0:=Lib.FmtInv.start d0 u (by rw[hd];exact Lib.lt_pow_nDigits u)
 refine y7 [1000007,1000008,1000009,1000010,1000017,1000018,1000023] [] 167 Tryz.func241 rfl rfl rfl rfl (nlb rfl) (by kernel_rfl) ?_
 go_name_bytes B hB
 have hBs:B=Lib.smalls:=by rw[<-hB];decide+kernel
 have hl:B.data.toList.length=200:=by rw[hBs];exact Lib.smalls_size
 clear hB;repeat' first|refine o6 ?_|simp -dsimp -implicitDefEqProofs (disch:=first|assumption|omega|simp only[ll];omega) only[go_sem]|refine vcJ ?_ ?_<;>intro _|refine vcA ?_ ?_;focus(repeat'(first|omega|assumption|refine vcA ?_ ?_);done)|omega|refine o7 (fun _=>?_)
 refine aa5 aa7 mixed [1000007,1000008,1000009,1000010,1000017,1000018,1000023] [0] (fun(x:Nat×Nat×Array UInt8)=>Lib.FmtInv d0.size u x.1 x.2.1 x.2.2) (fun x=>[(4,.int .i64 x.1),(1,.int .u64 x.2.1)]) (fun x=>H++[.cells (.one 280) (c24 x.2.2)]) (fun x=>x.1) (by kernel_rfl) ?_ (d0.size,u,d0) hst y8 rfl
 rintro⟨nd,v,d⟩ hI
 dsimp only at*;by_cases h8:8<=nd
 ·have hc:((nd:Int)≥8)=True:=eq_true (by omega)
  have hle:=hI.le;have hcl:=cX8 (d:=d) (by rw[hI.size];omega)
  obtain⟨k,rfl⟩: ∃k,nd=k+8:=⟨nd - 8,by omega⟩
  have hvb:v < 18446744073709551616:=by
   rw[hI.rest];exact Nat.lt_of_le_of_lt (Nat.div_le_self _ _) h2
  have j1:=au4 (k:=k+6) hI;have j2:=au4 (k:=k+4) j1;have j3:=au4 (k:=k+2) j2;have j4:=au4 (k:=k) j3;have hs:=hI.size;generalize hv4:v/100/100/100/100=v4 at j4;generalize hd4:bI0 (bI0 (bI0 (bI0 d (k+6) (v%100)) (k+4) (v/100%100)) (k+2) (v/100/100%100)) k (v/100/100/100%100)=d4 at j4;clear j1 j2 j3;repeat' first|refine o6 ?_|simp -dsimp -implicitDefEqProofs (disch:=first|assumption|omega|simp only[ll];omega) only[go_sem,hc,hl,hcl]|refine vcJ ?_ ?_<;>intro _|refine vcA ?_ ?_;focus(repeat'(first|omega|assumption|refine vcA ?_ ?_);done)|omega|refine o7 (fun _=>?_)
  refine again ((k,v4,d4)) ?_ ?_ ?_ y8
  ·show k < k+8
   omega
  ·exact j4
  ·rw[au7 (d:=d) (k+6) (v%100) hBs (by omega) (by omega) (by omega) (by omega) (by omega),
    au7 (k+4) (v/100%100) hBs (by rw[ai2];omega) (by omega) (by omega) (by omega) (by omega),
    au7 (k+2) (v/100/100%100) hBs (by rw[ai2,ai2];omega) (by omega) (by omega) (by omega) (by omega),
    au7 k (v/100/100/100%100) hBs (by rw[ai2,ai2,ai2];omega) (by omega) (by omega) (by omega) (by omega),hd4]
 ·have hc:((nd:Int)≥8)=False:=eq_false (by omega)
  have hv7:=hI.lt7 (by omega)
  have hcl:=cX8 (d:=d) (by rw[hI.size];omega)
  have hle:=hI.le;have hs:=hI.size;repeat' first|refine o6 ?_|simp -dsimp -implicitDefEqProofs (disch:=first|assumption|omega|simp only[ll];omega) only[go_sem,hc,hl,hcl]|refine vcJ ?_ ?_<;>intro _|refine vcA ?_ ?_;focus(repeat'(first|omega|assumption|refine vcA ?_ ?_);done)|omega|refine o7 (fun _=>?_)
  ·obtain rfl:nd=7:=by omega
   have j1:=au4 (k:=5) hI;have j2:=au4 (k:=3) j1;have j3:=au4 (k:=1) j2;have e1:v/100/100/100 < 10:=by simpa using j3.small
   refine ad7 _ (Le.refl _) (by simp) ⟨_,_,j3.step1,rfl,?_⟩
   rw[au7 (d:=_) 5 (v%100) hBs (by(try simp only[ai2]);omega) (by omega) (by omega) (by omega) (by omega),au7 (d:=_) 3 (v/100%100) hBs (by(try simp only[ai2]);omega) (by omega) (by omega) (by omega) (by omega),au7 (d:=_) 1 (v/100/100%100) hBs (by(try simp only[ai2]);omega) (by omega) (by omega) (by omega) (by omega),bS6 (v/100/100/100) (by(try simp only[ai2]);omega) e1 (by omega)]
  ·obtain rfl:nd=6:=by omega
   have j1:=au4 (k:=4) hI;have j2:=au4 (k:=2) j1;have j3:=au4 (k:=0) j2;refine ad7 _ (Le.refl _) (by simp) ⟨_,_,j3,rfl,?_⟩
   rw[au7 (d:=_) 4 (v%100) hBs (by(try simp only[ai2]);omega) (by omega) (by omega) (by omega) (by omega),au7 (d:=_) 2 (v/100%100) hBs (by(try simp only[ai2]);omega) (by omega) (by omega) (by omega) (by omega),au7 (d:=_) 0 (v/100/100%100) hBs (by(try simp only[ai2]);omega) (by omega) (by omega) (by omega) (by omega)]
  ·obtain rfl:nd=5:=by omega
   have j1:=au4 (k:=3) hI;have j2:=au4 (k:=1) j1;have e1:v/100/100 < 10:=by simpa using j2.small
   refine ad7 _ (Le.refl _) (by simp) ⟨_,_,j2.step1,rfl,?_⟩
   rw[IntWalk.u8_in (48+(v:Int)/10000) (by omega)]
   rw[au7 (d:=_) 3 (v%100) hBs (by(try simp only[ai2]);omega) (by omega) (by omega) (by omega) (by omega),au7 (d:=_) 1 (v/100%100) hBs (by(try simp only[ai2]);omega) (by omega) (by omega) (by omega) (by omega),bS6 (v/100/100) (by(try simp only[ai2]);omega) e1 (by omega)]
  ·obtain rfl:nd=4:=by omega
   have j1:=au4 (k:=2) hI;have j2:=au4 (k:=0) j1;refine ad7 _ (Le.refl _) (by simp) ⟨_,_,j2,rfl,?_⟩
   rw[au7 (d:=_) 2 (v%100) hBs (by(try simp only[ai2]);omega) (by omega) (by omega) (by omega) (by omega),au7 (d:=_) 0 (v/100%100) hBs (by(try simp only[ai2]);omega) (by omega) (by omega) (by omega) (by omega)]
  ·obtain rfl:nd=3:=by omega
   have j1:=au4 (k:=1) hI;have e1:v/100 < 10:=by simpa using j1.small
   refine ad7 _ (Le.refl _) (by simp) ⟨_,_,j1.step1,rfl,?_⟩
   rw[IntWalk.u8_in (48+(v:Int)/100) (by omega)]
   rw[au7 (d:=_) 1 (v%100) hBs (by(try simp only[ai2]);omega) (by omega) (by omega) (by omega) (by omega),bS6 (v/100) (by(try simp only[ai2]);omega) e1 (by omega)]
  ·obtain rfl:nd=2:=by omega
   have j1:=au4 (k:=0) hI;refine ad7 _ (Le.refl _) (by simp) ⟨_,_,j1,rfl,?_⟩
   rw[au7 (d:=_) 0 (v%100) hBs (by(try simp only[ai2]);omega) (by omega) (by omega) (by omega) (by omega)]
  ·obtain rfl:nd=1:=by omega
   have e1:v < 10:=by simpa using hI.small
   refine ad7 _ (Le.refl _) (by simp) ⟨_,_,hI.step1,rfl,?_⟩
   rw[IntWalk.u8_in (48+(v:Int)) (by omega)]
   rw[bS6 (v) (by(try simp only[ai2]);omega) e1 (by omega)]
  ·obtain rfl:nd=0:=by omega
   refine ad7 _ (Le.refl _) (by simp) ⟨_,_,hI,rfl,?_⟩
   rfl
end
section
open Go V
def l24(l:List UInt8):List AV:=o8 0::(l.map o8++List.replicate (23 - l.length) (AV.lit (.int .u8 0)))
theorem dN7{n:Nat}(h:n<=23):c24 (Array.replicate n 0)=List.replicate 24 (AV.lit (.int .u8 0)):=by
 unfold c24;have e:o8 0=AV.lit (.int .u8 0):=rfl;rw[Array.toList_replicate,aS6,Array.size_replicate,e,cu3,show n+(23 - n)=23 by omega]
 rfl
theorem dN8{u v':Nat}{dk:Array UInt8}(h:Lib.FmtInv (Lib.nDigits u) u 0 v' dk):c24 dk=l24 (Lib.decDigits u):=by
 have e:dk.toList=Lib.decDigits u:=by
  refine List.ext_getElem (by rw[c08,h.size,Lib.decDigits_length]) fun j h1 h2=>?_
  rw[Lib.row_is_numeral h j h2,Array.getElem_toList];exact(getElem!_pos dk j (by simpa using h1)).symm
 unfold c24 l24;rw[e,h.size,Lib.decDigits_length]
theorem cV0{l:List UInt8}(h:l.length<=23):(l24 l).length=24:=by
 unfold l24;simp
 omega
theorem d15{l:List UInt8}{n:Nat}(h:l.length=n):((l24 l).set 0 (AV.lit (.int .u8 45))).take (n+1)=(45::l).map o8:=by
 subst h;unfold l24;rw[List.set_cons_zero,xq8,cu2 (by simp)]
 rfl
theorem d14{l:List UInt8}{n:Nat}(h:l.length=n):((l24 l).drop 1).take n=l.map o8:=by
 subst h;unfold l24;rw[xq5,List.drop_zero,cu2 (by simp)]
theorem bC6{u:Nat}(h:u < 18446744073709551616):Lib.nDigits u<=20:=by
 rcases bl5 u with e|e
 ·subst e
  rw[Lib.nDigits_small (by omega)]
  omega
 ·have:=Lib.numDigits_eq u e h
  split at this<;>omega
theorem cI2(u:Nat)(H:List AObj)(h2:u < 18446744073709551616):
  o9 Tryz.prog 241 [.msl H.length 1 (Lib.nDigits u) 23,.lit (.int .u64 u)] (H++[.cells (.one 280) (List.replicate 24 (AV.lit (.int .u8 0)))]) (fun y H'=>y=.tup []/\H'=H++[.cells (.one 280) (l24 (Lib.decDigits u))]):=by
 have hn:=bC6 h2;have:=dK6 u (Array.replicate (Lib.nDigits u) 0) H (by simp) h2 (by simpa using hn)
 rw[dN7 (by omega),Array.size_replicate] at this
 refine this.mono fun _ H' ⟨dk,v',hI,ey,e⟩=>⟨ey,?_⟩
 rw[e,dN8 hI]
theorem cR7(i:Int)(H:List AObj)(h1: -9223372036854775808 < i)(h2:i < 9223372036854775808):o9 Tryz.prog 229 [.lit (.int .i64 i),.lit (.int .i64 10)] H (fun y H'=>y=.str (Lib.itoa i)/\H'=H):=by
 by_cases hs:0<=i/\i < 100
 ·obtain⟨n,rfl⟩:=cZ8 hs.1
  have hc1:((0:Int)<=(n:Int))=True:=eq_true (by omega)
  have hc2:((n:Int) < 100)=True:=eq_true (by omega)
  rw[Lib.itoa_nonneg];refine y7 [5] [.tmp 4] 54 Tryz.func229 rfl rfl rfl rfl (nlb rfl) (by kernel_rfl) ?_
  repeat' first|refine o6 ?_|simp -dsimp -implicitDefEqProofs (disch:=first|assumption|omega|simp only[ll];omega) only[go_sem,hc1,hc2]|refine o5 (dV1 _ _ (by omega)) ?_|refine vcJ ?_ ?_<;>intro _|refine vcA ?_ ?_;focus(repeat'(first|omega|assumption|refine vcA ?_ ?_);done)|omega|refine o7 (fun _=>?_)
  exact y5 ⟨rfl,rfl⟩
 ·by_cases hn:i < 0
  ·obtain⟨u,rfl⟩: ∃u:Nat,i= -(u:Int):=⟨i.natAbs,by omega⟩
   have hc1:((0:Int)<= -(u:Int))=False:=eq_false (by omega)
   have hc2:(-(u:Int) < 0)=True:=eq_true (by omega)
   have hd:=bC6 (u:=u) (by omega)
   have hz:(1+((Lib.nDigits u:Nat):Int)).toNat - 1=Lib.nDigits u:=by omega
   have hl:=Lib.decDigits_length u;have hu1:IntKind.u64.wrap (-(u:Int))=18446744073709551616 - (u:Int):=by
    show (-(u:Int))%18446744073709551616=_
    omega
   have hu2:IntKind.u64.wrap (0 - (18446744073709551616 - (u:Int)))=(u:Int):=by
    show (0 - (18446744073709551616 - (u:Int)))%18446744073709551616=_
    omega
   rw[Lib.itoa_neg u (by omega)]
   refine y7 [5] [.tmp 4] 54 Tryz.func229 rfl rfl rfl rfl (nlb rfl) (by kernel_rfl) ?_
   have hl24:=cV0 (l:=Lib.decDigits u) (by omega)
   have hn1:=d15 hl;have hz2:(1+((Lib.nDigits u:Nat):Int)).toNat - 0=Lib.nDigits u+1:=by omega
   repeat' first|refine o6 ?_|simp -dsimp -implicitDefEqProofs (disch:=first|assumption|omega|simp only[ll];omega) only[go_sem,hc1,hc2,hu1,hu2,hz,hz2,hl24,hn1]|refine o5 (bU4 _ _ ?_ ?_) ?_|refine o5 (cI2 _ _ ?_) ?_|refine vcJ ?_ ?_<;>intro _|refine vcA ?_ ?_;focus(repeat'(first|omega|assumption|refine vcA ?_ ?_);done)|omega|refine o7 (fun _=>?_)
   ·exact bV0 (45::Lib.decDigits u)
   ·rw[show aw1 (o8 45::(Lib.decDigits u).map o8)=45::Lib.decDigits u from bt0 (45::Lib.decDigits u)]
    exact aa3 _ (Le.refl _) (.str _) ⟨rfl,rfl⟩
  ·obtain⟨u,rfl⟩:=cZ8 (show 0<=i by omega)
   have hc1:((0:Int)<=(u:Int))=True:=eq_true (by omega)
   have hc2:((u:Int) < 0)=False:=eq_false (by omega)
   have hc3:((u:Int) < 100)=False:=eq_false (by omega)
   have hd:=bC6 (u:=u) (by omega)
   have hz:(1+((Lib.nDigits u:Nat):Int)).toNat - 1=Lib.nDigits u:=by omega
   have hl:=Lib.decDigits_length u;rw[Lib.itoa_nonneg];refine y7 [5] [.tmp 4] 54 Tryz.func229 rfl rfl rfl rfl (nlb rfl) (by kernel_rfl) ?_
   have hl24:=cV0 (l:=Lib.decDigits u) (by omega)
   have hp1:=d14 hl;repeat' first|refine o6 ?_|simp -dsimp -implicitDefEqProofs (disch:=first|assumption|omega|simp only[ll];omega) only[go_sem,hc1,hc2,hc3,hz,hl24,hp1]|refine o5 (bU4 _ _ ?_ ?_) ?_|refine o5 (cI2 _ _ ?_) ?_|refine vcJ ?_ ?_<;>intro _|refine vcA ?_ ?_;focus(repeat'(first|omega|assumption|refine vcA ?_ ?_);done)|omega|refine o7 (fun _=>?_)
   exact aa3 _ (Le.refl _) (.str _) ⟨rfl,rfl⟩
theorem eo4(i:Int)(H:List AObj)(h1: -9223372036854775808 < i)(h2:i < 9223372036854775808):o9 Tryz.prog 204 [.lit (.int .i64 i)] H (fun y H'=>y=.str (Lib.itoa i)/\H'=H):=by
 have c:=fun H=>cR7 i H h1 h2
 refine y7 [] [.tmp 2] 5 Tryz.func204 rfl rfl rfl rfl (nlb rfl) (by kernel_rfl) ?_
 repeat' first|refine o6 ?_|simp -dsimp -implicitDefEqProofs (disch:=first|assumption|omega|simp only[ll];omega) only[go_sem]|refine o5 (c _) ?_|refine vcJ ?_ ?_<;>intro _|refine vcA ?_ ?_;focus(repeat'(first|omega|assumption|refine vcA ?_ ?_);done)|omega|refine o7 (fun _=>?_)
 exact y5 ⟨rfl,rfl⟩
theorem dy2(i:Int)(H:List AObj)(h1: -9223372036854775808 < i)(h2:i < 9223372036854775808):o9 Tryz.prog 168 [.lit (.int .i64 i)] H (fun y H'=>y=.str (Lib.itoa i)/\H'=H):=by
 have c:=fun H=>eo4 i H h1 h2
 refine y7 [] [.tmp 2] 5 Tryz.func168 rfl rfl rfl rfl (nlb rfl) (by kernel_rfl) ?_
 repeat' first|refine o6 ?_|simp -dsimp -implicitDefEqProofs (disch:=first|assumption|omega|simp only[ll];omega) only[go_sem]|refine o5 (c _) ?_|refine vcJ ?_ ?_<;>intro _|refine vcA ?_ ?_;focus(repeat'(first|omega|assumption|refine vcA ?_ ?_);done)|omega|refine o7 (fun _=>?_)
 exact y5 ⟨rfl,rfl⟩
end
section
open Go V
mutual
def trT:JV->bytes->bytes
 |.mk k n t ns is,o=>
  if 8192 < o.length then o
  else if k=5 then itT false is true ns (o++[91])++[93]
  else if k=6 then itT true is true ns (o++[123])++[125]
  else o++ae9 (.mk k n t ns is)
def itT(obj:Bool):List JV->Bool->List bytes->bytes->bytes
 |[],_,_,o=>o
 |v::r,first,ns,o=>itT obj r false ns.tail (trT v (o++aP5 first obj (ns.headD [])))
end
theorem b55(v:JV)(o:bytes):trT v o=if 8192 < o.length then o else if v.kind=5 then itT false v.items true v.names (o++[91])++[93] else if v.kind=6 then itT true v.items true v.names (o++[123])++[125] else o++ae9 v:=by
 cases v;rw[trT];rfl
theorem cV2(obj first:Bool)(ns:List bytes)(o:bytes):itT obj [] first ns o=o:=by rw[itT]
theorem cF9(obj first:Bool)(ns:List bytes)(v:JV)(r:List JV)(o:bytes):itT obj (v::r) first ns o=itT obj r false ns.tail (trT v (o++aP5 first obj (ns.headD []))):=by rw[itT]
def Cut(o p x:bytes):Prop:=o.length<=x.length/\x.length<=o.length+p.length/\(x=o++p\/(8192 < x.length/\8192 < o.length+p.length))
theorem ba2(o p:bytes):Cut o p (o++p):=⟨by simp,by simp,.inl rfl⟩
theorem bf6{o p q x y:bytes}(h:Cut o p x)(k:Cut x q y):Cut o (p++q) y:=by
 obtain⟨h1,h2,h3⟩:=h;obtain⟨k1,k2,k3⟩:=k;refine⟨by omega,by rw[List.length_append];omega,?_⟩
 rw[List.length_append];rcases h3 with rfl|h3
 ·rcases k3 with rfl|k3
  ·left;rw[List.append_assoc]
  ·right;rw[List.length_append] at k3;omega
 ·right;omega
theorem cX6{o p x:bytes}(h:Cut o p x)(q:bytes):Cut o (p++q) (x++q):=bf6 h (ba2 x q)
theorem cF8{obj:Bool}: ∀(l:List JV) (first:Bool) (ns:List bytes) (o:bytes),(∀x∈l,∀o,Cut o (ae9 x) (trT x o))->Cut o (au0 obj l first ns) (itT obj l first ns o)
 |[],first,ns,o,_=>by
  rw[cV2,bD3];have:=ba2 o [];rw[List.append_nil] at this;exact this
 |v::r,first,ns,o,h=>by
  rw[cF9,aR0,<-List.append_assoc];exact bf6 (bf6 (ba2 o _) (h v (ax1 ..) _)) (cF8 r false ns.tail _ fun x hx=>h x (aC8 _ hx))
theorem cy1: ∀(v:JV) (o:bytes),Cut o (ae9 v) (trT v o):=by
 refine JV.induct fun k n t ns is ih o=>?_
 rw[b55];by_cases h:8192 < o.length
 ·rw[if_pos h]
  exact⟨xq0 _,by omega,.inr ⟨h,by omega⟩⟩
 rw[if_neg h];by_cases h5:k=5
 ·subst h5
  rw[aA2,ck6,if_pos rfl,if_neg (by decide),if_neg (by decide),if_neg (by decide),if_neg (by decide),if_pos rfl]
  exact cX6 (bf6 (p:=[91]) (ba2 o [91]) (cF8 is true ns _ ih)) [93]
 by_cases h6:k=6
 ·subst h6
  rw[aA2,ck6,if_neg (by decide),if_pos rfl,if_neg (by decide),if_neg (by decide),if_neg (by decide),if_neg (by decide),if_neg (by decide),if_pos rfl]
  exact cX6 (bf6 (p:=[123]) (ba2 o [123]) (cF8 is true ns _ ih)) [125]
 rw[ck6,if_neg h5,if_neg h6];exact ba2 _ _
theorem ea2(v:JV):(8192 < (trT v []).length↔8192 < (ae9 v).length)/\((ae9 v).length<=8192->trT v []=ae9 v):=by
 obtain⟨h1,h2,h3⟩:=cy1 v [];simp only[List.length_nil,Nat.zero_add,List.nil_append] at h2 h3;rcases h3 with h|h
 ·rw[h];exact⟨Iff.rfl,fun _=>rfl⟩
 ·exact⟨⟨fun _=>h.2,fun _=>h.1⟩,fun k=>by omega⟩
theorem cb7{α:Type}(l:List α)(i:Nat)(d:α):(l.drop i).headD d=l.getD i d:=by
 rw[List.headD_eq_head?_getD,List.head?_drop,List.getD]
theorem eh8{obj:Bool}{v:JV}{i:Nat}(h:i < v.items.length)(o:bytes):itT obj (v.items.drop i) (i==0) (v.names.drop i) o=itT obj (v.items.drop (i+1)) (i+1==0) (v.names.drop (i+1)) (trT (v.items.getD i aa4) (o++aP5 (i==0) obj (v.names.getD i []))):=by
 rw[drop_cons aa4 h,cF9,cb7,List.tail_drop];rfl
theorem dq8{obj:Bool}{v:JV}{i:Nat}(h:i < v.items.length):au0 obj (v.items.drop i) (i==0) (v.names.drop i)=aP5 (i==0) obj (v.names.getD i [])++(ae9 (v.items.getD i aa4)++au0 obj (v.items.drop (i+1)) (i+1==0) (v.names.drop (i+1))):=by
 rw[drop_cons aa4 h,aR0,cb7,List.tail_drop];rfl
end
section
open Go V
def pA(a:AV)(H:List AObj)(k m:Nat)(o:bytes):List AObj:=(H.set k (aB7 143 m a o)).set m (aL2 o.length)
theorem dl8{a b:AV}{H:List AObj}{k m:Nat}{o p:bytes}(h:k≠m):((pA a H k m o).set k (aB7 143 m b p)).set m (aL2 p.length)=pA b H k m p:=by
 unfold pA;rw[List.set_comm _ _ (Ne.symm h),List.set_set,List.set_set]
theorem ah7{a:AV}{H:List AObj}{k m:Nat}{o:bytes}:(pA a H k m o).length=H.length:=by simp[pA]
structure PAt(H:List AObj)(k m:Nat):Prop where
 kl:k < H.length
 ml:m < H.length
 ne:k≠m
theorem cB8{a:AV}{H:List AObj}{k m:Nat}{o:bytes}(h:PAt H k m):(pA a H k m o)[k]?=some (aB7 143 m a o):=by
 unfold pA;rw[ar5 h.ne.symm,ay5 h.kl]
theorem dC5{a:AV}{H:List AObj}{k m:Nat}{o:bytes}(h:PAt H k m):(pA a H k m o)[m]?=some (aL2 o.length):=by
 unfold pA;rw[ay5 (by rw[List.length_set];exact h.ml)]
theorem em3:bT 143:=by unfold bT;kernel_rfl
theorem ap0{a:AV}{H:List AObj}{k m:Nat}{o:bytes}{z:Int}(c:UInt8)(hz:z=(c.toNat:Int))(h:PAt H k m)(ha:aJ5 k a)(hl:o.length<=100000000):
  o9 Tryz.prog 183 [.mp k 0,.lit (.int .u8 z)] (pA a H k m o) (fun x H'=>x=.lit .nilIface/\H'=pA (.mp k 0) H k m (o++[c])):=by
 subst hz;have:=bV6 (c:=c) em3 (cB8 h) ha (dC5 h) hl;rw[dl8 h.ne] at this;exact this
theorem aK3{a:AV}{H:List AObj}{k m:Nat}{o l:bytes}(h:PAt H k m)(ha:aJ5 k a)(hl:o.length<=100000000)(hl2:l.length<=100000000):
  o9 Tryz.prog 167 [.mp k 0,.str l] (pA a H k m o) (fun x H'=>x=.tup [.int .i64 l.length,.lit .nilIface]/\H'=pA (.mp k 0) H k m (o++l)):=by
 have:=ct5 (l:=l) em3 (cB8 h) ha (dC5 h) hl hl2;rw[dl8 h.ne] at this;exact this
theorem du3(c:UInt8):(∃j,j < 7/\aD1 [34,92,8,9,10,12,13] c=((j:Nat):Int)/\aL3 c=[92,([34,92,98,116,110,102,114]:bytes).getD j 0])\/(aD1 [34,92,8,9,10,12,13] c= -1/\c.toNat < 32/\aL3 c=[92,117,48,48,hexS (c.toNat/16),hexS (c.toNat%16)])\/(aD1 [34,92,8,9,10,12,13] c= -1/\ ¬c.toNat < 32/\aL3 c=[c]):=by
 have: ∀n:Fin 256,(∃j,j < 7/\aD1 [34,92,8,9,10,12,13] (UInt8.ofNat n.val)=((j:Nat):Int)/\aL3 (UInt8.ofNat n.val)=[92,([34,92,98,116,110,102,114]:bytes).getD j 0])\/(aD1 [34,92,8,9,10,12,13] (UInt8.ofNat n.val)= -1/\(UInt8.ofNat n.val).toNat < 32/\aL3 (UInt8.ofNat n.val)=[92,117,48,48,hexS ((UInt8.ofNat n.val).toNat/16),hexS ((UInt8.ofNat n.val).toNat%16)])\/(aD1 [34,92,8,9,10,12,13] (UInt8.ofNat n.val)= -1/\ ¬(UInt8.ofNat n.val).toNat < 32/\aL3 (UInt8.ofNat n.val)=[UInt8.ofNat n.val]):=by decide+kernel
 have:=this ⟨c.toNat,c.toNat_lt⟩;simp only[UInt8.ofNat_toNat] at this;exact this
theorem aF2{a:AV}{H:List AObj}{k m:Nat}{o:bytes}(s:bytes)(h:PAt H k m)(ha:aJ5 k a)(hl:o.length<=10000000)(hs:s.length<=100000):
  o9 Tryz.prog 169 [.mp k 0,.str s] (pA a H k m o) (fun x H'=>x=.tup []/\H'=pA (.mp k 0) H k m (o++aN1 s)):=by
 refine y7 [1000009,1000012,1000013] [] 65 Tryz.func169 rfl rfl rfl rfl (nlb rfl) (by kernel_rfl) ?_
 repeat' first|refine o6 ?_|simp -dsimp -implicitDefEqProofs (disch:=first|assumption|omega|simp only[ll];omega) only[go_sem]|refine o5 (ap0 34 rfl h ha (by omega)) ?_|refine⟨_,_,ap0 34 rfl h ha (by omega),?_⟩|refine vcJ ?_ ?_<;>intro _|refine vcA ?_ ?_;focus(repeat'(first|omega|assumption|refine vcA ?_ ?_);done)|omega|refine o7 (fun _=>?_)
 refine aa5 aa7 mixed [1000009,1000012,1000013] [0,1,12] (fun i:Nat=>i<=s.length) (fun i=>[(13,.int .i64 i)]) (fun i=>pA (.mp k 0) H k m (o++34::(s.take i).flatMap aL3)) (fun i=>s.length - i) (by kernel_rfl) ?_ 0 (by omega) y8 rfl
 intro i hi;have hfl:=aF5 (s.take i);have htl:(s.take i).length<=100000:=by rw[List.length_take];omega
 have hlo:(o++34::(s.take i).flatMap aL3).length<=20000000:=by simp only[List.length_append,List.length_cons];omega
 by_cases hil:i < s.length
 ·have ht:=dt4 hil
  generalize hc:s.getD i 0=c at ht;generalize hf:(s.take i).flatMap aL3=f at*;have hcl:=c.toNat_lt;rcases du3 c with⟨j,hj,hi1,hi2⟩|⟨hi1,hi3,hi2⟩|⟨hi1,hi3,hi2⟩
  ·have hI:=fun H=>aK9 [34,92,8,9,10,12,13] c H
   rw[hi1] at hI;rw[hi2] at ht;repeat' first|refine o6 ?_|simp -dsimp -implicitDefEqProofs (disch:=first|assumption|omega|simp only[ll];omega) only[go_sem,hc,List.length_append,List.length_cons,List.length_nil]|refine o5 (hI _) ?_|refine⟨_,_,hI _,?_⟩|refine o5 (ap0 92 rfl h ae1 ?_) ?_|refine⟨_,_,ap0 92 rfl h ae1 ?_,?_⟩|refine o5 (ap0 _ rfl h ae1 ?_) ?_|refine⟨_,_,ap0 _ rfl h ae1 ?_,?_⟩|refine vcJ ?_ ?_<;>intro _|refine vcA ?_ ?_;focus(repeat'(first|omega|assumption|refine vcA ?_ ?_);done)|omega|refine o7 (fun _=>?_)
   rw[<-ht];refine again (i+1) ?_ ?_ rfl y8
   ·omega
   ·omega
  ·have hI:=fun H=>aK9 [34,92,8,9,10,12,13] c H
   rw[hi1] at hI;rw[hi2] at ht;have hct:((c.toNat:Int) < 32)=True:=eq_true (by omega)
   repeat' first|refine o6 ?_|simp -dsimp -implicitDefEqProofs (disch:=first|assumption|omega|simp only[ll];omega) only[go_sem,hc,hct,List.length_append,List.length_cons,List.length_nil]|refine o5 (hI _) ?_|refine⟨_,_,hI _,?_⟩|refine o5 (aK3 h ae1 ?_ ?_) ?_|refine⟨_,_,aK3 h ae1 ?_ ?_,?_⟩|refine o5 (ap0 _ rfl h ae1 ?_) ?_|refine⟨_,_,ap0 _ rfl h ae1 ?_,?_⟩|refine vcJ ?_ ?_<;>intro _|refine vcA ?_ ?_;focus(repeat'(first|omega|assumption|refine vcA ?_ ?_);done)|omega|refine o7 (fun _=>?_)
   have ht2:(s.take (i+1)).flatMap aL3=f++[92,117,48,48,([48,49,50,51,52,53,54,55,56,57,97,98,99,100,101,102]:bytes).getD (c.toNat/16) 0,([48,49,50,51,52,53,54,55,56,57,97,98,99,100,101,102]:bytes).getD (c.toNat%16) 0]:=ht;rw[show ((c.toNat:Int)%16).toNat=c.toNat%16 by omega,<-ht2]
   refine again (i+1) ?_ ?_ rfl y8
   ·omega
   ·omega
  ·have hI:=fun H=>aK9 [34,92,8,9,10,12,13] c H
   rw[hi1] at hI;rw[hi2] at ht;have hct:((c.toNat:Int) < 32)=False:=eq_false (by omega)
   repeat' first|refine o6 ?_|simp -dsimp -implicitDefEqProofs (disch:=first|assumption|omega|simp only[ll];omega) only[go_sem,hc,hct,List.length_append,List.length_cons,List.length_nil]|refine o5 (hI _) ?_|refine⟨_,_,hI _,?_⟩|refine o5 (ap0 c rfl h ae1 ?_) ?_|refine⟨_,_,ap0 c rfl h ae1 ?_,?_⟩|refine vcJ ?_ ?_<;>intro _|refine vcA ?_ ?_;focus(repeat'(first|omega|assumption|refine vcA ?_ ?_);done)|omega|refine o7 (fun _=>?_)
   rw[<-ht];refine again (i+1) ?_ ?_ rfl y8
   ·omega
   ·omega
 ·obtain rfl:i=s.length:=by omega
  rw[aZ6] at*;repeat' first|refine o6 ?_|simp -dsimp -implicitDefEqProofs (disch:=first|assumption|omega|simp only[ll];omega) only[go_sem,List.length_append,List.length_cons,List.length_nil]|refine o5 (ap0 34 rfl h ae1 ?_) ?_|refine⟨_,_,ap0 34 rfl h ae1 ?_,?_⟩|refine vcJ ?_ ?_<;>intro _|refine vcA ?_ ?_;focus(repeat'(first|omega|assumption|refine vcA ?_ ?_);done)|omega|refine o7 (fun _=>?_)
  exact ad7 _ (Le.refl _) (by rw[ah7,ah7];exact xq0 _) ⟨rfl,rfl⟩
end
section
open Go V
theorem bQ9{m:Nat}{x:AV}(h:Low m x:=by(first|(first|exact .lit _|exact .str _|exact .any|exact ae4|exact ag3|exact .mp _ _ (by omega)|exact .msl _ _ _ _ (by omega)|exact ae6 (fun k e=>by cases e)|exact ad4 _|exact ai5|exact ai4|exact al2|exact al1 _)|(refine ag8 ?_;repeat(first|exact ab6|(refine aa2 ?_ ?_;focus(first|exact .lit _|exact .str _|exact .any|exact ae4|exact ag3|exact .mp _ _ (by omega)|exact .msl _ _ _ _ (by omega)|exact ae6 (fun k e=>by cases e)|exact ad4 _|exact ai5|exact ai4|exact al2|exact al1 _))))|(refine ay0 ?_;repeat(first|exact ab6|(refine aa2 ?_ ?_;focus(first|exact .lit _|exact .str _|exact .any|exact ae4|exact ag3|exact .mp _ _ (by omega)|exact .msl _ _ _ _ (by omega)|exact ae6 (fun k e=>by cases e)|exact ad4 _|exact ai5|exact ai4|exact al2|exact al1 _)))))):Low m x:=h
theorem PAt.app{H:List AObj}{k m:Nat}(h:PAt H k m)(M:List AObj):PAt (H++M) k m:=⟨by have:=h.kl;rw[List.length_append];omega,by have:=h.ml;rw[List.length_append];omega,h.ne⟩
theorem aN4{a:AV}{H:List AObj}{k m:Nat}{o:bytes}{M:List AObj}(h:PAt H k m):pA a H k m o++M=pA a (H++M) k m o:=by
 unfold pA;rw[bs5 _ _ h.kl,bs5 _ _ (by rw[List.length_set];exact h.ml)]
theorem b94{a:AV}{H:List AObj}{k m:Nat}{o:bytes}{M:List AObj}(h:PAt H k m):(pA a (H++M) k m o)[H.length]?=M[0]?:=by
 rw[<-aN4 h,xq7 (by rw[ah7];exact xq0 _),ah7,ao8]
theorem bQ1{a:AV}{H:List AObj}{k m:Nat}{o:bytes}{M:List AObj}{x:AObj}(h:PAt H k m):(pA a (H++M) k m o).set H.length x=pA a (H++M.set 0 x) k m o:=by
 rw[<-aN4 h,<-aN4 h,az4 _ _ (by rw[ah7];exact xq0 _),ah7,ao8]
theorem d02{m k:Nat}{a:AV}(h:aJ5 k a)(hk:k < m):Low m a:=by
 rcases h with rfl|rfl
 ·exact .lit _
 ·exact .mp _ _ hk
theorem b93{a b:AV}{H:List AObj}{k m mm:Nat}{o p:bytes}(h:PAt H k m)(hb:aJ5 k b)(hmm:H.length<=mm): ∀(j:Nat) (sh:Shape) (cs:List AV),(pA b H k m p)[j]?=some (.cells sh cs)->(pA a H k m o)[j]?=some (.cells sh cs)\/ ∀z∈cs,Low mm z:=fun j sh cs e=>by
 have h1:=h.kl;have h2:=h.ml;by_cases hj:j=m
 ·subst hj
  rw[dC5 h] at e;cases e
 ·by_cases hk:j=k
  ·subst hk
   rw[cB8 h] at e;cases e
   right
   intro z hz;simp only[ai9,aG2,or_false] at hz;rcases hz with rfl|rfl
   ·exact d02 hb (by omega)
   ·exact bd3 (fun x hx=>by
     obtain⟨c,_,rfl⟩:=xq9.1 hx;exact⟨_,rfl⟩) (fun k e=>by cases e;omega)
  ·left
   unfold pA at e⊢;rw[ar5 (Ne.symm hj),ar5 (Ne.symm hk)] at e⊢;exact e
theorem al1{m:Nat}(v:JV):Low m (jAV v).ip:=by
 rw[aN7];refine .ip _ fun y hy=>?_
 simp[AV.flat,aa0] at hy
 rcases hy with rfl|rfl|rfl|rfl|rfl
 ·exact .lit _
 ·exact .lit _
 ·exact .str _
 ·exact ai4
 ·exact ai5
theorem dB9{a:AV}{H:List AObj}{k m:Nat}{o:bytes}{d:Nat}(v:JV)(f l:UInt8)(h:PAt H k m)(ha:aJ5 k a)(hr:aa9 (d+1) v=true)(hk:v.kind=5\/v.kind=6)(hs:o.length+(ae9 v).length<=1000000)(hsz:aa1 v<=40000)
  (ih: ∀x∈v.items,∀(H:List AObj) (o:bytes),PAt H k m->o.length+(ae9 x).length<=1000000->o9 Tryz.prog 115 [.mp k 0,jAV x] (pA (.mp k 0) H k m o) (fun x' H'=>x'=.tup []/\H'=pA (.mp k 0) H k m (trT x o))):
  o9 Tryz.prog 170 [.mp k 0,jAV v,.lit (.int .u8 f.toNat),.lit (.int .u8 l.toNat)] (pA a H k m o) (fun x H'=>x=.tup []/\H'=pA (.mp k 0) H k m (itT (decide (v.kind=6)) v.items true v.names (o++[f])++[l])):=by
 have hpe:(ae9 v).length=(au0 (decide (v.kind=6)) v.items true v.names).length+2:=by
  rw[aA2,if_neg (by omega),if_neg (by omega),if_neg (by omega),if_neg (by omega)]
  rcases hk with e|e
  ·rw[if_pos e,decide_eq_false (by omega)];simp
  ·rw[if_neg (by omega),if_pos e,decide_eq_true e];simp
 have hn:v.kind=6->v.names.length=v.items.length:=fun e=>(aE3 hr e).2.2.2.1
 have hszi:=aI3 v;have hszn:=fun i (hi:i < v.names.length)=>cm8 (v:=v) (aw5 (d:=[]) hi)
 have hkl:=h.kl;generalize hF:itT (decide (v.kind=6)) v.items true v.names (o++[f])=F;refine y7 [] [] 52 Tryz.func170 rfl rfl rfl rfl (nlb rfl) (by kernel_rfl) ?_
 repeat' first|refine o6 ?_|simp -dsimp -implicitDefEqProofs (disch:=first|assumption|omega|simp only[ll];omega) only[go_sem]|refine o5 (ap0 f rfl h ha (by omega)) ?_|refine⟨_,_,ap0 f rfl h ha (by omega),?_⟩|refine vcJ ?_ ?_<;>intro _|refine vcA ?_ ?_;focus(repeat'(first|omega|assumption|refine vcA ?_ ?_);done)|omega|refine o7 (fun _=>?_)
 refine aa5 aa7 mixed [] [0,3,5,16,17] (fun p:Nat×bytes=>p.1<=v.items.length/\itT (decide (v.kind=6)) (v.items.drop p.1) (p.1==0) (v.names.drop p.1) p.2=F/\p.2.length+(au0 (decide (v.kind=6)) (v.items.drop p.1) (p.1==0) (v.names.drop p.1)).length+1<=1000000) (fun p=>[(18,.int .i64 p.1)]) (fun p=>pA (.mp k 0) H k m p.2) (fun p=>v.items.length - p.1) (by kernel_rfl) ?_ (0,o++[f]) ⟨by simp,hF,by simp only[List.drop_zero,List.length_append,List.length_cons,List.length_nil];rw[show ((0:Nat)==0)=true from rfl];omega⟩ y8 rfl
 rintro⟨i,x⟩ ⟨hi,hx,hxl⟩
 dsimp only at hi hx hxl⊢;by_cases hil:i < v.items.length
 ·rw[eh8 hil] at hx
  rw[dq8 hil] at hxl;have hcut:=cy1 (v.items.getD i aa4) (x++aP5 (i==0) (decide (v.kind=6)) (v.names.getD i []));have hih:=ih _ (aw5 (d:=aa4) hil);have hnm:v.kind=6->i < v.names.length:=fun e=>by have:=hn e;omega
  simp only[List.length_append] at hxl;have h44:aP5 (i==0) (decide (v.kind=6)) (v.names.getD i [])=(if i=0 then[] else[44])++(if v.kind=6 then aN1 (v.names.getD i [])++[58] else[]):=by
   unfold aP5;by_cases e:i=0
   ·subst e;simp
   ·rw[show (i==0)=false from beq_eq_false_iff_ne.2 e];simp[e]
  rw[h44] at hx hxl hcut;have hq:=bi2 (v.names.getD i []);have hqs:v.kind=6->(v.names.getD i []).length<=100000:=fun e=>by have:=hszn i (hnm e);omega
  generalize hsn:v.names.getD i []=s at*;generalize hy:v.items.getD i aa4=y at*;have hp1:=bU1 y;obtain⟨c1,c2,c3⟩:=hcut;simp only[List.length_append] at c2;have hlen1: ∀z:bytes,(trT y z).length<=10000000->(trT y z).length<=100000000:=fun z h=>by omega
  by_cases h0:i=0
  ·have hc0:((0:Int) < (i:Int))=False:=eq_false (by omega)
   rw[if_pos h0] at hx hxl c1 c2 c3;by_cases h6:v.kind=6
   ·have hc6:(v.kind=6)=True:=eq_true h6
    have hn6:=hnm h6;have hq6:=hqs h6;rw[if_pos h6] at hx hxl c1 c2 c3;simp only[List.length_append,List.length_cons,List.length_nil] at hxl c2;repeat' first|refine o6 ?_|simp -dsimp -implicitDefEqProofs (disch:=first|assumption|omega|simp only[ll];omega) only[go_sem,hc0,hc6,hy,hsn,aN4 h,ah7,b94 h,bQ1 h,List.length_append,List.length_cons,List.length_nil]|refine o5 (aF2 _ (h.app _) ae1 ?_ ?_) ?_|refine⟨_,_,aF2 _ (h.app _) ae1 ?_ ?_,?_⟩|refine o5 (ap0 58 rfl (h.app _) ae1 ?_) ?_|refine⟨_,_,ap0 58 rfl (h.app _) ae1 ?_,?_⟩|refine o5 (hih _ _ (h.app _) ?_) ?_|refine⟨_,_,hih _ _ (h.app _) ?_,?_⟩|refine vcJ ?_ ?_<;>intro _|refine vcA ?_ ?_;focus(repeat'(first|omega|assumption|refine vcA ?_ ?_);done)|omega|refine o7 (fun _=>?_)
    refine am1 (H.length) ([.cells (.one 25) (ad9 y)]) ((i+1,trT y (x++([]++(aN1 s++[58]))))) ?_ ?_ ?_ ?_ ?_ (by repeat(first|exact af9|(refine af1 ?_ ?_;focus exact bQ9))) ?_ y8
    ·dsimp only;omega
    ·refine⟨by dsimp only;omega,hx,?_⟩
     dsimp only;omega
    ·dsimp only
     rw[aN4 h];simp[ad9]
    ·exact ah7
    ·exact aZ3 ah7
    ·exact b93 h ae1 (xq0 _)
   ·have hc6:(v.kind=6)=False:=eq_false h6
    rw[if_neg h6] at hx hxl c1 c2 c3;simp only[List.length_append,List.length_cons,List.length_nil] at hxl c2;repeat' first|refine o6 ?_|simp -dsimp -implicitDefEqProofs (disch:=first|assumption|omega|simp only[ll];omega) only[go_sem,hc0,hc6,hy,hsn,aN4 h,ah7,b94 h,bQ1 h,List.length_append,List.length_cons,List.length_nil]|refine o5 (aF2 _ (h.app _) ae1 ?_ ?_) ?_|refine⟨_,_,aF2 _ (h.app _) ae1 ?_ ?_,?_⟩|refine o5 (ap0 58 rfl (h.app _) ae1 ?_) ?_|refine⟨_,_,ap0 58 rfl (h.app _) ae1 ?_,?_⟩|refine o5 (hih _ _ (h.app _) ?_) ?_|refine⟨_,_,hih _ _ (h.app _) ?_,?_⟩|refine vcJ ?_ ?_<;>intro _|refine vcA ?_ ?_;focus(repeat'(first|omega|assumption|refine vcA ?_ ?_);done)|omega|refine o7 (fun _=>?_)
    refine am1 (H.length) ([.cells (.one 25) (ad9 y)]) ((i+1,trT y (x++([]++[])))) ?_ ?_ ?_ ?_ ?_ (by repeat(first|exact af9|(refine af1 ?_ ?_;focus exact bQ9))) ?_ y8
    ·dsimp only;omega
    ·refine⟨by dsimp only;omega,hx,?_⟩
     dsimp only;omega
    ·dsimp only
     rw[aN4 h];simp[ad9]
    ·exact ah7
    ·exact aZ3 ah7
    ·exact b93 h ae1 (xq0 _)
  ·have hc0:((0:Int) < (i:Int))=True:=eq_true (by omega)
   rw[if_neg h0] at hx hxl c1 c2 c3;by_cases h6:v.kind=6
   ·have hc6:(v.kind=6)=True:=eq_true h6
    have hn6:=hnm h6;have hq6:=hqs h6;rw[if_pos h6] at hx hxl c1 c2 c3;simp only[List.length_append,List.length_cons,List.length_nil] at hxl c2;repeat' first|refine o6 ?_|simp -dsimp -implicitDefEqProofs (disch:=first|assumption|omega|simp only[ll];omega) only[go_sem,hc0,hc6,hy,hsn,aN4 h,ah7,b94 h,bQ1 h,List.length_append,List.length_cons,List.length_nil]|refine o5 (ap0 44 rfl (h.app _) ae1 ?_) ?_|refine⟨_,_,ap0 44 rfl (h.app _) ae1 ?_,?_⟩|refine o5 (aF2 _ (h.app _) ae1 ?_ ?_) ?_|refine⟨_,_,aF2 _ (h.app _) ae1 ?_ ?_,?_⟩|refine o5 (ap0 58 rfl (h.app _) ae1 ?_) ?_|refine⟨_,_,ap0 58 rfl (h.app _) ae1 ?_,?_⟩|refine o5 (hih _ _ (h.app _) ?_) ?_|refine⟨_,_,hih _ _ (h.app _) ?_,?_⟩|refine vcJ ?_ ?_<;>intro _|refine vcA ?_ ?_;focus(repeat'(first|omega|assumption|refine vcA ?_ ?_);done)|omega|refine o7 (fun _=>?_)
    refine am1 (H.length) ([.cells (.one 25) (ad9 y)]) ((i+1,trT y (x++([44]++(aN1 s++[58]))))) ?_ ?_ ?_ ?_ ?_ (by repeat(first|exact af9|(refine af1 ?_ ?_;focus exact bQ9))) ?_ y8
    ·dsimp only;omega
    ·refine⟨by dsimp only;omega,hx,?_⟩
     dsimp only;omega
    ·dsimp only
     rw[aN4 h];simp[ad9]
    ·exact ah7
    ·exact aZ3 ah7
    ·exact b93 h ae1 (xq0 _)
   ·have hc6:(v.kind=6)=False:=eq_false h6
    rw[if_neg h6] at hx hxl c1 c2 c3;simp only[List.length_append,List.length_cons,List.length_nil] at hxl c2;repeat' first|refine o6 ?_|simp -dsimp -implicitDefEqProofs (disch:=first|assumption|omega|simp only[ll];omega) only[go_sem,hc0,hc6,hy,hsn,aN4 h,ah7,b94 h,bQ1 h,List.length_append,List.length_cons,List.length_nil]|refine o5 (ap0 44 rfl (h.app _) ae1 ?_) ?_|refine⟨_,_,ap0 44 rfl (h.app _) ae1 ?_,?_⟩|refine o5 (aF2 _ (h.app _) ae1 ?_ ?_) ?_|refine⟨_,_,aF2 _ (h.app _) ae1 ?_ ?_,?_⟩|refine o5 (ap0 58 rfl (h.app _) ae1 ?_) ?_|refine⟨_,_,ap0 58 rfl (h.app _) ae1 ?_,?_⟩|refine o5 (hih _ _ (h.app _) ?_) ?_|refine⟨_,_,hih _ _ (h.app _) ?_,?_⟩|refine vcJ ?_ ?_<;>intro _|refine vcA ?_ ?_;focus(repeat'(first|omega|assumption|refine vcA ?_ ?_);done)|omega|refine o7 (fun _=>?_)
    refine am1 (H.length) ([.cells (.one 25) (ad9 y)]) ((i+1,trT y (x++([44]++[])))) ?_ ?_ ?_ ?_ ?_ (by repeat(first|exact af9|(refine af1 ?_ ?_;focus exact bQ9))) ?_ y8
    ·dsimp only;omega
    ·refine⟨by dsimp only;omega,hx,?_⟩
     dsimp only;omega
    ·dsimp only
     rw[aN4 h];simp[ad9]
    ·exact ah7
    ·exact aZ3 ah7
    ·exact b93 h ae1 (xq0 _)
 ·obtain rfl:i=v.items.length:=by omega
  repeat' first|refine o6 ?_|simp -dsimp -implicitDefEqProofs (disch:=first|assumption|omega|simp only[ll];omega) only[go_sem]|refine o5 (ap0 l rfl h ae1 ?_) ?_|refine⟨_,_,ap0 l rfl h ae1 ?_,?_⟩|refine vcJ ?_ ?_<;>intro _|refine vcA ?_ ?_;focus(repeat'(first|omega|assumption|refine vcA ?_ ?_);done)|omega|refine o7 (fun _=>?_)
  rw[b34,cV2] at hx;rw[hx];exact ad7 _ (Le.refl _) (by rw[ah7,ah7];exact xq0 _) ⟨rfl,rfl⟩
theorem cS7{v:JV}{o:bytes}(h:8192 < o.length):trT v o=o:=by rw[b55,if_pos h]
theorem dU8{v:JV}{o:bytes}(h: ¬8192 < o.length)(hk:v.kind≠5/\v.kind≠6):trT v o=o++ae9 v:=by rw[b55,if_neg h,if_neg hk.1,if_neg hk.2]
theorem b85{a:AV}{H:List AObj}{k m:Nat}{o:bytes}{d:Nat}(v:JV)(h:PAt H k m)(ha:aJ5 k a)(ha2:8192 < o.length->a=.mp k 0)(hr:aa9 d v=true)(hk:v.kind≠5/\v.kind≠6)(hs:o.length+(ae9 v).length<=1000000)(hsz:aa1 v<=40000):
  o9 Tryz.prog 115 [.mp k 0,jAV v] (pA a H k m o) (fun x H'=>x=.tup []/\H'=pA (.mp k 0) H k m (trT v o)):=by
 have hkl:=h.kl;have hL:=df8 (T:=143) (cB8 (a:=a) (o:=o) h);by_cases hol:8192 < o.length
 ·have hc:(8192 < ((o.length:Nat):Int))=True:=eq_true (by omega)
  have e:=ha2 hol;subst e;rw[cS7 hol];refine y7 [1000010] [] 54 Tryz.func115 rfl rfl rfl rfl (nlb rfl) (by kernel_rfl) ?_
  repeat' first|refine o6 ?_|simp -dsimp -implicitDefEqProofs (disch:=first|assumption|omega|simp only[ll];omega) only[go_sem,hc]|refine o5 (hL) ?_|refine⟨_,_,hL,?_⟩|refine vcJ ?_ ?_<;>intro _|refine vcA ?_ ?_;focus(repeat'(first|omega|assumption|refine vcA ?_ ?_);done)|omega|refine o7 (fun _=>?_)
  exact ad7 _ (Le.refl _) (by exact xq0 _) ⟨rfl,rfl⟩
 ·have hc:(8192 < ((o.length:Nat):Int))=False:=eq_false (by omega)
  rw[dU8 hol hk];obtain⟨h1,h2⟩:=bB4 hr hk;have hpe:=aA2 v;have htx:=size_text v;rcases h2 with⟨h2,_⟩|⟨h2,_,h3,h4⟩|⟨h2,_⟩
  ·rcases h2 with e|e|e
   ·rw[e,if_neg (by decide),if_neg (by decide),if_neg (by decide),if_neg (by decide),if_neg (by decide),if_neg (by decide)] at hpe
    rw[hpe];refine y7 [1000010] [] 54 Tryz.func115 rfl rfl rfl rfl (nlb rfl) (by kernel_rfl) ?_
    repeat' first|refine o6 ?_|simp -dsimp -implicitDefEqProofs (disch:=first|assumption|omega|simp only[ll];omega) only[go_sem,hc,e]|refine o5 (hL) ?_|refine⟨_,_,hL,?_⟩|refine o5 (aK3 h ha (by omega) (by decide)) ?_|refine⟨_,_,aK3 h ha (by omega) (by decide),?_⟩|refine vcJ ?_ ?_<;>intro _|refine vcA ?_ ?_;focus(repeat'(first|omega|assumption|refine vcA ?_ ?_);done)|omega|refine o7 (fun _=>?_)
    exact ad7 _ (Le.refl _) (by rw[ah7,ah7];exact xq0 _) ⟨rfl,rfl⟩
   ·rw[e,if_pos rfl] at hpe
    rw[hpe];refine y7 [1000010] [] 54 Tryz.func115 rfl rfl rfl rfl (nlb rfl) (by kernel_rfl) ?_
    repeat' first|refine o6 ?_|simp -dsimp -implicitDefEqProofs (disch:=first|assumption|omega|simp only[ll];omega) only[go_sem,hc,e]|refine o5 (hL) ?_|refine⟨_,_,hL,?_⟩|refine o5 (aK3 h ha (by omega) (by decide)) ?_|refine⟨_,_,aK3 h ha (by omega) (by decide),?_⟩|refine vcJ ?_ ?_<;>intro _|refine vcA ?_ ?_;focus(repeat'(first|omega|assumption|refine vcA ?_ ?_);done)|omega|refine o7 (fun _=>?_)
    exact ad7 _ (Le.refl _) (by rw[ah7,ah7];exact xq0 _) ⟨rfl,rfl⟩
   ·rw[e,if_neg (by decide),if_pos rfl] at hpe
    rw[hpe];refine y7 [1000010] [] 54 Tryz.func115 rfl rfl rfl rfl (nlb rfl) (by kernel_rfl) ?_
    repeat' first|refine o6 ?_|simp -dsimp -implicitDefEqProofs (disch:=first|assumption|omega|simp only[ll];omega) only[go_sem,hc,e]|refine o5 (hL) ?_|refine⟨_,_,hL,?_⟩|refine o5 (aK3 h ha (by omega) (by decide)) ?_|refine⟨_,_,aK3 h ha (by omega) (by decide),?_⟩|refine vcJ ?_ ?_<;>intro _|refine vcA ?_ ?_;focus(repeat'(first|omega|assumption|refine vcA ?_ ?_);done)|omega|refine o7 (fun _=>?_)
    exact ad7 _ (Le.refl _) (by rw[ah7,ah7];exact xq0 _) ⟨rfl,rfl⟩
  ·rw[h2,if_neg (by decide),if_neg (by decide),if_pos rfl] at hpe
   rw[hpe] at hs⊢;refine y7 [1000010] [] 54 Tryz.func115 rfl rfl rfl rfl (nlb rfl) (by kernel_rfl) ?_
   repeat' first|refine o6 ?_|simp -dsimp -implicitDefEqProofs (disch:=first|assumption|omega|simp only[ll];omega) only[go_sem,hc,h2]|refine o5 (hL) ?_|refine⟨_,_,hL,?_⟩|refine o5 (dy2 _ _ ?_ ?_) ?_|refine⟨_,_,dy2 _ _ ?_ ?_,?_⟩|refine o5 (aK3 h ha ?_ ?_) ?_|refine⟨_,_,aK3 h ha ?_ ?_,?_⟩|refine vcJ ?_ ?_<;>intro _|refine vcA ?_ ?_;focus(repeat'(first|omega|assumption|refine vcA ?_ ?_);done)|omega|refine o7 (fun _=>?_)
   exact ad7 _ (Le.refl _) (by rw[ah7,ah7];exact xq0 _) ⟨rfl,rfl⟩
  ·rw[h2,if_neg (by decide),if_neg (by decide),if_neg (by decide),if_pos rfl] at hpe
   rw[hpe];refine y7 [1000010] [] 54 Tryz.func115 rfl rfl rfl rfl (nlb rfl) (by kernel_rfl) ?_
   repeat' first|refine o6 ?_|simp -dsimp -implicitDefEqProofs (disch:=first|assumption|omega|simp only[ll];omega) only[go_sem,hc,h2]|refine o5 (hL) ?_|refine⟨_,_,hL,?_⟩|refine o5 (aF2 _ h ha ?_ ?_) ?_|refine⟨_,_,aF2 _ h ha ?_ ?_,?_⟩|refine vcJ ?_ ?_<;>intro _|refine vcA ?_ ?_;focus(repeat'(first|omega|assumption|refine vcA ?_ ?_);done)|omega|refine o7 (fun _=>?_)
   exact ad7 _ (Le.refl _) (by rw[ah7,ah7];exact xq0 _) ⟨rfl,rfl⟩
theorem dV7: ∀(d:Nat) (v:JV) (a:AV) (H:List AObj) (k m:Nat) (o:bytes),PAt H k m->aJ5 k a->(8192 < o.length->a=.mp k 0)->aa9 d v=true->o.length+(ae9 v).length<=1000000->aa1 v<=40000->
  o9 Tryz.prog 115 [.mp k 0,jAV v] (pA a H k m o) (fun x H'=>x=.tup []/\H'=pA (.mp k 0) H k m (trT v o)):=by
 intro d;induction d with
 |zero=>
  intro v a H k m o h ha ha2 hr hs hsz;by_cases hk:v.kind≠5/\v.kind≠6
  ·exact b85 v h ha ha2 hr hk hs hsz
  ·rcases aI4 hr with h|⟨h,_⟩
   ·exact absurd (by omega) (a81 h)
   ·omega
 |succ d ih=>
  intro v a H k m o h ha ha2 hr hs hsz;by_cases hk:v.kind≠5/\v.kind≠6
  ·exact b85 v h ha ha2 hr hk hs hsz
  have hk56:v.kind=5\/v.kind=6:=by omega
  have hkl:=h.kl;have hL:=df8 (T:=143) (cB8 (a:=a) (o:=o) h);by_cases hol:8192 < o.length
  ·have hc:(8192 < ((o.length:Nat):Int))=True:=eq_true (by omega)
   have e:=ha2 hol;subst e;rw[cS7 hol];refine y7 [1000010] [] 54 Tryz.func115 rfl rfl rfl rfl (nlb rfl) (by kernel_rfl) ?_
   repeat' first|refine o6 ?_|simp -dsimp -implicitDefEqProofs (disch:=first|assumption|omega|simp only[ll];omega) only[go_sem,hc]|refine o5 (hL) ?_|refine⟨_,_,hL,?_⟩|refine vcJ ?_ ?_<;>intro _|refine vcA ?_ ?_;focus(repeat'(first|omega|assumption|refine vcA ?_ ?_);done)|omega|refine o7 (fun _=>?_)
   exact ad7 _ (Le.refl _) (by exact xq0 _) ⟨rfl,rfl⟩
  ·have hc:(8192 < ((o.length:Nat):Int))=False:=eq_false (by omega)
   have hall:v.items.all (aa9 d)=true:=by
    rcases aI4 hr with h|⟨_,_,h⟩
    ·exact absurd hk56 (a81 h)
    ·exact h
   have hit:=fun(f l:UInt8)=>dB9 (a:=a) (H:=H) (k:=k) (m:=m) (o:=o) (d:=d) v f l h ha hr hk56 hs hsz fun x hx H o h ho=>ih x (.mp k 0) H k m o h ae1 (fun _=>rfl) (xq6.1 hall x hx) ho (by have:=aM8 hx;omega)
   have htr:=b55 v o;rw[if_neg hol] at htr;rcases hk56 with e|e
   ·have hi:=hit 91 93
    rw[e,if_pos rfl] at htr;rw[e,decide_eq_false (by decide)] at hi
    rw[htr];refine y7 [1000010] [] 54 Tryz.func115 rfl rfl rfl rfl (nlb rfl) (by kernel_rfl) ?_
    repeat' first|refine o6 ?_|simp -dsimp -implicitDefEqProofs (disch:=first|assumption|omega|simp only[ll];omega) only[go_sem,hc,e]|refine o5 (hL) ?_|refine⟨_,_,hL,?_⟩|refine o5 (hi) ?_|refine⟨_,_,hi,?_⟩|refine vcJ ?_ ?_<;>intro _|refine vcA ?_ ?_;focus(repeat'(first|omega|assumption|refine vcA ?_ ?_);done)|omega|refine o7 (fun _=>?_)
    ·rw[aN7,e]
    ·exact ad7 _ (Le.refl _) (by rw[ah7,ah7];exact xq0 _) ⟨rfl,rfl⟩
   ·have hi:=hit 123 125
    rw[e,if_neg (by decide),if_pos rfl] at htr
    rw[e,decide_eq_true rfl] at hi;rw[htr];refine y7 [1000010] [] 54 Tryz.func115 rfl rfl rfl rfl (nlb rfl) (by kernel_rfl) ?_
    repeat' first|refine o6 ?_|simp -dsimp -implicitDefEqProofs (disch:=first|assumption|omega|simp only[ll];omega) only[go_sem,hc,e]|refine o5 (hL) ?_|refine⟨_,_,hL,?_⟩|refine o5 (hi) ?_|refine⟨_,_,hi,?_⟩|refine vcJ ?_ ?_<;>intro _|refine vcA ?_ ?_;focus(repeat'(first|omega|assumption|refine vcA ?_ ?_);done)|omega|refine o7 (fun _=>?_)
    ·rw[aN7,e]
    ·exact ad7 _ (Le.refl _) (by rw[ah7,ah7];exact xq0 _) ⟨rfl,rfl⟩
def aS1(H:List AObj)(a:AV)(o:bytes):List AObj:=H++[aB7 143 (H.length+1) a o,aL2 o.length]
theorem dG8(H:List AObj)(a:AV)(o:bytes):PAt (aS1 H a o) H.length (H.length+1):=⟨by simp[aS1],by simp[aS1],by omega⟩
theorem cE2(H:List AObj)(a b:AV)(o p:bytes):pA b (aS1 H a o) H.length (H.length+1) p=aS1 H b p:=by
 unfold pA aS1;rw[az4 _ _ (xq0 _),ao8,az4 _ _ (by omega),aI1]
 rfl
theorem cU8(H:List AObj)(a:AV)(o:bytes):(aS1 H a o)[H.length]?=some (aB7 143 (H.length+1) a o):=by
 unfold aS1;rw[xq7 (xq0 _),ao8];rfl
theorem dZ4(H:List AObj)(a:AV)(o:bytes):(aS1 H a o)[H.length+1]?=some (aL2 o.length):=by
 unfold aS1;rw[xq7 (by omega),aI1]
 rfl
def ak1(v:JV):bytes×Int:=if aa9 12 v=true then(if 8192 < (ae9 v).length then([],3) else(ae9 v,0)) else([],1)
def aA3(p:bytes×Int):AV:=.tup [.str p.1,.lit (.int .i64 p.2)]
def aU9(v:JV):Int:=if(ak1 v).2=3 then 8193 else(ak1 v).1.length
theorem cm1(v:JV)(H:List AObj)(hs:aa1 v<=40000):o9 Tryz.prog 62 [jAV v] H (fun x H'=>x=aA3 (ak1 v)/\H'=H):=by
 have hR:=fun H=>aH7 v H hs
 cases hr:aa9 12 v with
 |false=>
  rw[hr] at hR;refine y7 [3000004005] [.tmp 2,.tmp 3] 15 Tryz.func62 rfl rfl rfl rfl (nlb rfl) (by kernel_rfl) ?_
  repeat' first|refine o6 ?_|simp -dsimp -implicitDefEqProofs (disch:=first|assumption|omega|simp only[ll];omega) only[go_sem]|refine o5 (hR _) ?_|refine⟨_,_,hR _,?_⟩|refine vcJ ?_ ?_<;>intro _|refine vcA ?_ ?_;focus(repeat'(first|omega|assumption|refine vcA ?_ ?_);done)|omega|refine o7 (fun _=>?_)
  exact y5 ⟨by rw[ak1,hr];rfl,rfl⟩
 |true=>
  rw[hr] at hR;have hps:=c84 12 v hr;have ht:=dV7 12 v (.lit (.pointer none)) (aS1 H (.lit (.pointer none)) []) H.length (H.length+1) [] (dG8 _ _ _) cY1 (fun h=>absurd h (by decide)) hr (by rw[List.length_nil];omega) hs
  rw[cE2,cE2] at ht;obtain⟨t1,t2⟩:=ea2 v;have hcut:=(cy1 v []).2.1;generalize trT v []=y at*;have hL:=df8 (T:=143) (cU8 H (.mp H.length 0) y);have hS:=cL0 (T:=143) (cU8 H (.mp H.length 0) y) (dZ4 H (.mp H.length 0) y) (by rw[List.length_nil] at hcut;omega)
  have hre:ak1 v=if 8192 < (ae9 v).length then([],3) else(ae9 v,0):=by rw[ak1,hr,if_pos rfl]
  rw[hre];unfold aS1 at ht;by_cases hl:8192 < (ae9 v).length
  ·have hy:=t1.2 hl
   have hc:(8192 < ((y.length:Nat):Int))=True:=eq_true (by omega)
   rw[if_pos hl];refine y7 [3000004005] [.tmp 2,.tmp 3] 15 Tryz.func62 rfl rfl rfl rfl (nlb rfl) (by kernel_rfl) ?_
   repeat' first|refine o6 ?_|simp -dsimp -implicitDefEqProofs (disch:=first|assumption|omega|simp only[ll];omega) only[go_sem,hc]|refine o5 (hR _) ?_|refine⟨_,_,hR _,?_⟩|refine o5 (ht) ?_|refine⟨_,_,ht,?_⟩|refine o5 (hL) ?_|refine⟨_,_,hL,?_⟩|refine o5 (hS) ?_|refine⟨_,_,hS,?_⟩|refine vcJ ?_ ?_<;>intro _|refine vcA ?_ ?_;focus(repeat'(first|omega|assumption|refine vcA ?_ ?_);done)|omega|refine o7 (fun _=>?_)
   exact aa3 _ (Le.refl _) (ag8 (aa2 (.str _) (aa2 (.lit _) ab6))) ⟨rfl,rfl⟩
  ·have hy:=t2 (by omega)
   have hc:(8192 < ((y.length:Nat):Int))=False:=eq_false (by have:=t1.1;omega)
   rw[if_neg hl,<-hy];refine y7 [3000004005] [.tmp 2,.tmp 3] 15 Tryz.func62 rfl rfl rfl rfl (nlb rfl) (by kernel_rfl) ?_
   repeat' first|refine o6 ?_|simp -dsimp -implicitDefEqProofs (disch:=first|assumption|omega|simp only[ll];omega) only[go_sem,hc]|refine o5 (hR _) ?_|refine⟨_,_,hR _,?_⟩|refine o5 (ht) ?_|refine⟨_,_,ht,?_⟩|refine o5 (hL) ?_|refine⟨_,_,hL,?_⟩|refine o5 (hS) ?_|refine⟨_,_,hS,?_⟩|refine vcJ ?_ ?_<;>intro _|refine vcA ?_ ?_;focus(repeat'(first|omega|assumption|refine vcA ?_ ?_);done)|omega|refine o7 (fun _=>?_)
   exact aa3 _ (Le.refl _) (ag8 (aa2 (.str _) (aa2 (.lit _) ab6))) ⟨rfl,rfl⟩
end
section
open Go V
theorem cA8(v:JV):ak1 v=([],1)/\aa9 12 v=false\/ak1 v=([],3)/\aa9 12 v=true/\8192 < (ae9 v).length\/ak1 v=(ae9 v,0)/\aa9 12 v=true/\(ae9 v).length<=8192:=by
 unfold ak1;cases hr:aa9 12 v with
 |false=>exact .inl ⟨rfl,rfl⟩
 |true=>
  rw[if_pos rfl];by_cases h:8192 < (ae9 v).length
  ·rw[if_pos h];exact .inr (.inl ⟨rfl,rfl,h⟩)
  ·rw[if_neg h];exact .inr (.inr ⟨rfl,rfl,by omega⟩)
theorem dQ2(v:JV)(H:List AObj)(hs:aa1 v<=40000):o9 Tryz.prog 26 [jAV v] H (fun x H'=>x=.lit (.int .i64 (aU9 v))/\H'=H):=by
 have hP:=fun H=>cm1 v H hs
 have hle:aU9 v=if(ak1 v).2=3 then 8193 else((ak1 v).1.length:Int):=rfl
 rw[hle];unfold aA3 at hP;have h13:(1:Int)=3↔False:=by decide
 rcases cA8 v with⟨e,_⟩|⟨e,_⟩|⟨e,_,hl⟩
 all_goals
  rw[e] at hP⊢;dsimp only at hP⊢;refine y7 [] [.tmp 2] 14 Tryz.func26 rfl rfl rfl rfl (nlb rfl) (by kernel_rfl) ?_
  repeat' first|refine o6 ?_|simp -dsimp -implicitDefEqProofs (disch:=first|assumption|omega|simp only[ll];omega) only[go_sem]|refine o5 (hP _) ?_|refine vcJ ?_ ?_<;>intro _|refine vcA ?_ ?_;focus(repeat'(first|omega|assumption|refine vcA ?_ ?_);done)|omega|refine o7 (fun _=>?_)
  exact y5 ⟨rfl,rfl⟩
end
section
open Go V
def ae2:bytes:=[104,97,115,104,101,115]
def ac3:bytes:=[115,105,103,110,97,116,117,114,101,115]
def bg7:bytes:=[117,110,115,105,103,110,101,100]
def ag7:bytes:=[99,111,110,116,101,110,116]
def aJ1:bytes:=[116,121,112,101]
def az7:bytes:=[115,104,97,50,53,54]
def aJ7:List bytes:=[[97,117,116,104,95,101,118,101,110,116,115],[99,111,110,116,101,110,116],[100,101,112,116,104],[104,97,115,104,101,115],[111,114,105,103,105,110,95,115,101,114,118,101,114,95,116,115],[112,114,101,118,95,101,118,101,110,116,115],[114,111,111,109,95,105,100],[115,101,110,100,101,114],[115,105,103,110,97,116,117,114,101,115],[115,116,97,116,101,95,107,101,121],[116,121,112,101]]
def aX8(k:bytes):List bytes:=
 if k=[109,46,114,111,111,109,46,99,114,101,97,116,101] then[[99,114,101,97,116,111,114]]
 else if k=[109,46,114,111,111,109,46,109,101,109,98,101,114] then[[109,101,109,98,101,114,115,104,105,112]]
 else if k=[109,46,114,111,111,109,46,106,111,105,110,95,114,117,108,101,115] then[[106,111,105,110,95,114,117,108,101]]
 else if k=[109,46,114,111,111,109,46,112,111,119,101,114,95,108,101,118,101,108,115] then[[98,97,110],[101,118,101,110,116,115],[101,118,101,110,116,115,95,100,101,102,97,117,108,116],[105,110,118,105,116,101],[107,105,99,107],[114,101,100,97,99,116],[115,116,97,116,101,95,100,101,102,97,117,108,116],[117,115,101,114,115],[117,115,101,114,115,95,100,101,102,97,117,108,116]]
 else if k=[109,46,114,111,111,109,46,104,105,115,116,111,114,121,95,118,105,115,105,98,105,108,105,116,121] then[[104,105,115,116,111,114,121,95,118,105,115,105,98,105,108,105,116,121]]
 else[]
def ad6:bytes:=[65,66,67,68,69,70,71,72,73,74,75,76,77,78,79,80,81,82,83,84,85,86,87,88,89,90,97,98,99,100,101,102,103,104,105,106,107,108,109,110,111,112,113,114,115,116,117,118,119,120,121,122,48,49,50,51,52,53,54,55,56,57,43,47]
def bA9:bytes:=[65,66,67,68,69,70,71,72,73,74,75,76,77,78,79,80,81,82,83,84,85,86,87,88,89,90,97,98,99,100,101,102,103,104,105,106,107,108,109,110,111,112,113,114,115,116,117,118,119,120,121,122,48,49,50,51,52,53,54,55,56,57,45,95]
def an5:bytes:=List.replicate 32 0
def al4(v:JV):Bool:=decide (v.kind=6)&&aa9 12 v
def bg4(v:JV):bytes×Int:=if(ak1 v).2=0 then(sum256 (ak1 v).1,0) else(an5,(ak1 v).2)
def av3(ns:List bytes)(v:JV):JV:=ay8 (fun s=>!hasB ns s) v
def bd6(v:JV):bytes:=((ad3 v aJ1).getD aa4).text
def ac5(v:JV):JV×Int:=
 if al4 v=true then(match ad3 v ag7 with
  |some c=>if c.kind=6 then ae8 (av3 aJ7 v) ag7 (av3 (aX8 (bd6 v)) c) else(av3 aJ7 v,0)
  |none=>(av3 aJ7 v,0))
 else(aa4,1)
def ac9(v:JV):bytes×Int:=if al4 v=true then bg4 (ay8 (hasB [ae2,ac3,bg7]) v) else(an5,1)
def aQ0(v:JV):bytes×Int:=if(ac5 v).2=0 then bg4 (ay8 (hasB [ac3]) (ac5 v).1) else(an5,(ac5 v).2)
def as5(v:JV):bytes×Int:=if(aQ0 v).2=0 then(36::ae7 bA9 (aQ0 v).1,0) else([],(aQ0 v).2)
def ac7(s:bytes):JV:=.mk 4 0 s [] []
def aD0(s:bytes):JV:=.mk 6 0 [] [az7] [ac7 s]
def ab5(v:JV):JV×Int:=if(ac9 v).2=0 then ae8 v ae2 (aD0 (ae7 ad6 (ac9 v).1)) else(aa4,(ac9 v).2)
def bj1(v:JV):Bool:=
 decide ((ac9 v).2=0)&&(match ad3 ((ad3 v ae2).getD aa4) az7 with|some t=>decide (t.kind=4)&&decide (t.text=ae7 ad6 (ac9 v).1)|none=>false)
theorem bB7(v:JV):(ak1 v).1.length<=8192:=by
 unfold ak1;split
 ·split
  ·exact aL0 _
  ·rename_i h
   show (ae9 v).length<=8192
   omega
 ·exact aL0 _
theorem bA2(v:JV):(bg4 v).1.length=32:=by
 unfold bg4;split
 ·exact bA3 _
 ·rfl
theorem aY5(v:JV):(ac9 v).1.length=32:=by
 unfold ac9;split
 ·exact bA2 _
 ·rfl
theorem dB0(v:JV):(aQ0 v).1.length=32:=by
 unfold aQ0;split
 ·exact bA2 _
 ·rfl
theorem bd8{p:bytes->Bool}{s:bytes}(hp:p s=true): ∀l:Prs,ah5 s (l.filter fun q=>p q.1)=ah5 s l
 |[]=>rfl
 |q::r=>by
  have ih:=bd8 hp r;rw[bG8];by_cases h:q.1=s
  ·rw[if_pos (by rw[h];exact hp),ah5,ah5,if_pos h,if_pos h]
  ·conv=>rhs;rw[ah5,if_neg h]
   split
   ·rw[ah5,if_neg h,ih]
   ·exact ih
structure OkL(l:Prs):Prop where
 srt:srt (l.map (·.1))=true
 valid: ∀s∈l.map (·.1),Lib.validD s=true
 items: ∀x∈l.map (·.2),aa9 11 x=true
theorem bq8{v:JV}(h:al4 v=true):v=ofP ad8 (prs v)/\OkL (prs v):=by
 unfold al4 at h;rw[xq3,decide_eq_true_eq] at h;obtain⟨_,_,_,h3,h4,h5,h6⟩:=aE3 h.2 h.1;exact⟨ee3 h.2 h.1,by rw[bf0 h3];exact h5,by rw[bf0 h3];exact xq6.1 h4,by rw[cn7 h3];exact xq6.1 h6⟩
theorem bR5{l:Prs}(h:OkL l):aa9 12 (ofP ad8 l)=true:=bJ6 h.valid h.srt h.items
theorem dS1{l:Prs}(h:OkL l):al4 (ofP ad8 l)=true:=by
 unfold al4;rw[bR5 h];rfl
theorem OkL.filter{l:Prs}(h:OkL l)(p:bytes×JV->Bool):OkL (l.filter p):=
 ⟨b63 h.srt,fun s hs=>by
  obtain⟨q,hq,rfl⟩:=xq9.1 hs;exact h.valid _ (cZ0 (bg3.1 hq).1),fun x hx=>by
  obtain⟨q,hq,rfl⟩:=xq9.1 hx;exact h.items _ (cZ0 (bg3.1 hq).1)⟩
theorem OkL.ins{l:Prs}(h:OkL l){s:bytes}{x:JV}(hs:Lib.validD s=true)(hx:aa9 11 x=true):OkL (ag9 s x l):=
 ⟨ci1 h.srt,fun t ht=>by
  rcases bk4.1 ht with rfl|ht
  ·exact hs
  ·exact h.valid _ ht,fun y hy=>by
  rcases cE6 hy with rfl|hy
  ·exact hx
  ·exact h.items _ hy⟩
theorem OkL.get{l:Prs}(h:OkL l){s:bytes}{x:JV}(e:ah5 s l=some x):aa9 11 x=true:=by
 have: ∀{l:Prs},(∀x∈l.map (·.2),aa9 11 x=true)->ah5 s l=some x->aa9 11 x=true:=by
  intro l;induction l with
  |nil=>intro _ e;cases e
  |cons q r ih=>
   intro hi e;rw[ah5] at e;split at e
   ·cases e
    exact hi _ (by simp)
   ·exact ih (fun y hy=>hi y (by simp only[List.map_cons,ai9];exact .inr hy)) e
 exact this h.items e
theorem dS3{l:Prs}(h:OkL l)(p:bytes->Bool):ay8 p (ofP ad8 l)=ofP ad8 (l.filter fun q=>!p q.1):=by
 unfold ay8;rw[if_pos ⟨rfl,bR5 h⟩,dV8];rfl
theorem dq2{l:Prs}(h:OkL l)(ns:List bytes):av3 ns (ofP ad8 l)=ofP ad8 (l.filter fun q=>hasB ns q.1):=by
 unfold av3;rw[dS3 h];simp
theorem db6{c:JV}(ns:List bytes)(h:aa9 11 c=true)(hk:c.kind=6):aa9 11 (av3 ns c)=true/\(av3 ns c).kind=6:=by
 have h12:=bX4 (m:=12) (by omega) c h
 obtain⟨_,_,_,h3,h4,h5,h6⟩:=aE3 h hk;unfold av3 ay8;rw[if_pos ⟨hk,h12⟩];refine⟨bJ6 (n:=10) (fun t ht=>?_) (b63 (by rw[bf0 h3];exact h5)) (fun y hy=>?_),rfl⟩
 ·obtain⟨q,hq,rfl⟩:=xq9.1 ht
  exact xq6.1 h4 _ (by rw[<-bf0 h3];exact xq9.2 ⟨q,(bg3.1 hq).1,rfl⟩)
 ·obtain⟨q,hq,rfl⟩:=xq9.1 hy
  exact xq6.1 h6 _ (by rw[<-cn7 h3];exact xq9.2 ⟨q,(bg3.1 hq).1,rfl⟩)
theorem dg2{l:Prs}(h:OkL l){s:bytes}{x:JV}(hs:Lib.validD s=true)(hx:aa9 11 x=true):ae8 (ofP ad8 l) s x=(ofP ad8 (ag9 s x l),0):=by
 have hd:=cd5 11 13 x hx;unfold ae8;rw[if_pos ⟨rfl,bR5 h,bX4 (by omega) x hx,hs⟩,if_neg (by omega),a96]
def cw2(l:Prs):bytes:=((ah5 aJ1 l).getD aa4).text
def bt4(l:Prs):Prs:=l.filter fun q=>hasB aJ7 q.1
def bg5(l:Prs):Prs:=match ah5 ag7 l with
 |some c=>if c.kind=6 then ag9 ag7 (av3 (aX8 (cw2 l)) c) (bt4 l) else bt4 l
 |none=>bt4 l
theorem cm3:Lib.validD ag7=true:=by decide+kernel
theorem cx7:Lib.validD ae2=true:=by decide+kernel
theorem b81{l:Prs}(h:OkL l):ac5 (ofP ad8 l)=(ofP ad8 (bg5 l),0)/\OkL (bg5 l):=by
 have hk:bd6 (ofP ad8 l)=cw2 l:=by unfold bd6 cw2;rw[aF3 rfl]
 unfold ac5 bg5;rw[if_pos (dS1 h),aF3 rfl,dq2 h,hk];have ho:OkL (bt4 l):=h.filter _;cases e:ah5 ag7 l with
 |none=>exact⟨rfl,ho⟩
 |some c=>
  dsimp only;by_cases hc:c.kind=6
  ·obtain⟨h1,h2⟩:=db6 (aX8 (cw2 l)) (h.get e) hc
   rw[if_pos hc,if_pos hc];exact⟨dg2 ho cm3 h1,ho.ins cm3 h1⟩
  ·rw[if_neg hc,if_neg hc]
   exact⟨rfl,ho⟩
theorem ep3{l:Prs}(h:OkL l):aQ0 (ofP ad8 l)=bg4 (ofP ad8 ((bg5 l).filter fun q=>!hasB [ac3] q.1)):=by
 obtain⟨h1,h2⟩:=b81 h;unfold aQ0;rw[h1,if_pos rfl,dS3 h2]
theorem dV6{v:JV}(h:(ac5 v).2=0):al4 v=true:=by
 unfold ac5 at h;split at h
 ·assumption
 ·cases h
theorem bu1{v:JV}(h:(ac9 v).2=0):al4 v=true:=by
 unfold ac9 at h;split at h
 ·assumption
 ·cases h
theorem dh1: ∀c∈ad6,c.toNat < 128:=by decide
theorem dM2{letters:bytes}(h: ∀c∈letters,c.toNat < 128)(b:bytes): ∀c∈ae7 letters b,c.toNat < 128:=fun c hc=>by
 obtain⟨j,_,rfl⟩:=xq9.1 hc;rw[List.getD];cases e:letters[aR7 b j]? with
 |none=>decide
 |some x=>exact h x (bs2 e)
theorem dh0{l:bytes}(h: ∀c∈l,c.toNat < 128):Lib.validD l=true:=by
 have:=dz2 (r:=[]) h;rw[List.append_nil] at this;rw[this];decide+kernel
theorem b56{s:bytes}(h:Lib.validD s=true)(n:Nat):aa9 n (ac7 s)=true:=bq3 (by
 unfold a88 ac7 bi8;simp[JV.kind,JV.names,JV.items,JV.num,JV.text,h])
theorem cn0{s:bytes}(h:Lib.validD s=true):aa9 11 (aD0 s)=true:=by
 have:=bJ6 (n:=10) (l:=[(az7,ac7 s)]) (fun t ht=>by
  simp only[List.map_cons,List.map_nil,ai9,aG2,or_false] at ht;subst ht;decide+kernel) rfl (fun x hx=>by
  simp only[List.map_cons,List.map_nil,ai9,aG2,or_false] at hx;subst hx;exact b56 h 10)
 exact this
theorem bM0(b:bytes):Lib.validD (ae7 ad6 b)=true:=dh0 (dM2 dh1 b)
theorem bZ7{v:JV}(h:(ac9 v).2=0):ab5 v=(ofP ad8 (ag9 ae2 (aD0 (ae7 ad6 (ac9 v).1)) (prs v)),0):=by
 obtain⟨e,ok⟩:=bq8 (bu1 h);unfold ab5;rw[if_pos h];conv=>lhs;arg 1;rw[e]
 rw[dg2 ok cx7 (cn0 (bM0 _))]
theorem bL4{v:JV}(h:(ab5 v).2=0):(ac9 v).2=0:=by
 unfold ab5 at h;split at h
 ·assumption
 ·exact h
theorem dc3{v:JV}(h:(ab5 v).2=0):ad3 (ab5 v).1 ae2=some (aD0 (ae7 ad6 (ac9 v).1)):=by
 rw[bZ7 (bL4 h),aF3 rfl,bo4]
theorem cT5(s:bytes):ad3 (aD0 s) az7=some (ac7 s):=by
 have:=aF3 (v:=ad8) rfl [(az7,ac7 s)] az7;rw[ah5,if_pos rfl] at this;exact this
theorem cb8{v:JV}(h:(ab5 v).2=0):(ac5 (ab5 v).1).2=0/\ad3 (ac5 (ab5 v).1).1 ae2=some (aD0 (ae7 ad6 (ac9 v).1)):=by
 have hc:=bL4 h;obtain⟨e,ok⟩:=bq8 (bu1 hc);have ok2:=ok.ins cx7 (cn0 (bM0 (ac9 v).1));obtain⟨h1,h2⟩:=b81 ok2;rw[bZ7 hc,h1];refine⟨rfl,?_⟩;rw[aF3 rfl];have ho:ah5 ae2 (bt4 (ag9 ae2 (aD0 (ae7 ad6 (ac9 v).1)) (prs v)))=some (aD0 (ae7 ad6 (ac9 v).1)):=by
  unfold bt4;rw[bd8 (by decide),bo4]
 unfold bg5;split
 ·split
  ·rw[aR1 (by decide),ho]
  ·exact ho
 ·exact ho
theorem bI3(ns:List bytes)(v:JV):aa1 (av3 ns v)<=aa1 v:=bA6 _ _
end
section
open Go V
theorem df5{P:Program}{f:FuncId}{H:List AObj}{R:AV->List AObj->Prop}{k:Nat}{sh:Shape}{cs:List AV}{x y:AV}(hk:H[k]?=some (.cells sh cs))(fz:Frz1 H k x y)(h:o9 P f [y] (H.set k .gone) R):o9 P f [x] H R:=fun G w vs hi ha=>by
 obtain⟨hi',st⟩:=bR9 hi hk;refine(h _ w vs hi' ⟨ha.1,fun j y' u ey ev=>?_⟩).mono ?_
 ·cases j with
  |zero=>
   cases ey
   exact cl0 hi hk fz u (ha.2 0 x u rfl ev)
  |succ j=>simp at ey
 ·rintro v w' ⟨x,G',H',h1,h2,h3,h4⟩
  exact⟨x,G',H',h1,st.trans h2,h3,h4⟩
theorem dt0{H:List AObj}{k:Nat}{sh:Shape}{l:bytes}{cap:Nat}(hk:H[k]?=some (.cells sh (l.map o8))):Frz1 H k (.msl k 0 l.length cap) (.sl .sh 1 (l.map o8)):=by
 have hfl:aa0 (l.map o8)=l.map o8:=al9 o8 (fun _=>rfl) l
 refine .msl 0 l.length cap 1 sh (l.map o8) (l.map o8) hk (by simp) (fun x hx=>by obtain⟨c,_,rfl⟩:=xq9.1 hx;exact⟨rfl,rfl⟩) (by rw[hfl];simp) fun j c y e1 e2=>?_
 rw[hfl] at e2;rw[Nat.zero_add,e2] at e1;cases e1
 exact .keep _
theorem ab2{l:bytes}:(l.map o8).all AV.scalar=true:=xq6.2 (a19 fun _=>rfl)
theorem aD7:List.replicate 32 (AV.lit (.int .u8 0))=an5.map o8:=by simp[an5,o8]
theorem ap9{l m:bytes}(h:l.length=32)(k:m.length=32):af0 (l.map o8) 0 (m.map o8)=m.map o8:=by
 rw[aA6 _ _ _ (by simp;omega)]
 simp[h,k]
def bc4(p:bytes×Int):AV:=.tup [.agg (p.1.map o8),.lit (.int .i64 p.2)]
theorem bK3{m:Nat}{p:bytes×Int}:Low m (bc4 p):=ag8 (aa2 aq5 (aa2 (.lit _) ab6))
theorem aN5(v:JV)(H:List AObj)(hv:aa1 v<=40000):o9 Tryz.prog 49 [jAV v] H (fun y H'=>y=.bool (al4 v)/\H'=H):=by
 have cv:=fun H=>aH7 v H hv
 unfold al4;by_cases hk:v.kind=6
 ·have hkt:=eq_true hk
  rw[decide_eq_true hk,Bool.true_and];refine y7 [] [.tmp 2] 10 Tryz.func49 rfl rfl rfl rfl (nlb rfl) (by kernel_rfl) ?_
  repeat' first|refine o6 ?_|simp -dsimp -implicitDefEqProofs (disch:=first|assumption|omega|simp only[ll];omega) only[go_sem,hkt]|refine o5 (cv _) ?_|refine vcJ ?_ ?_<;>intro _|refine vcA ?_ ?_;focus(repeat'(first|omega|assumption|refine vcA ?_ ?_);done)|omega|refine o7 (fun _=>?_)
  exact y5 ⟨rfl,rfl⟩
 ·have hkf:=eq_false hk
  rw[decide_eq_false hk,aC6];refine y7 [] [.tmp 2] 10 Tryz.func49 rfl rfl rfl rfl (nlb rfl) (by kernel_rfl) ?_
  repeat' first|refine o6 ?_|simp -dsimp -implicitDefEqProofs (disch:=first|assumption|omega|simp only[ll];omega) only[go_sem,hkf]|refine o5 (cv _) ?_|refine vcJ ?_ ?_<;>intro _|refine vcA ?_ ?_;focus(repeat'(first|omega|assumption|refine vcA ?_ ?_);done)|omega|refine o7 (fun _=>?_)
  exact y5 ⟨rfl,rfl⟩
theorem dR2(v:JV)(H:List AObj)(hv:aa1 v<=40000):o9 Tryz.prog 84 [jAV v] H (fun y H'=>y=bc4 (bg4 v)/\H'=H):=by
 have cp:=fun H=>cm1 v H hv
 have hpl:=bB7 v;have hz:(an5).length=32:=rfl;unfold aA3 at cp;unfold bg4;by_cases h:(ak1 v).2=0
 ·rw[if_pos h]
  rw[h] at cp;have hsl:=bA3 (ak1 v).1;have cs:=fun H=>dP7 (o:=.full) (o2:=.sh) (ak1 v).1 H (by omega)
  generalize sum256 (ak1 v).1=sm at*;generalize (ak1 v).1=t at*;have ha:=ap9 hz hsl;refine y7 [] [.cell 2 28,.tmp 3] 19 Tryz.func84 rfl rfl rfl rfl (nlb rfl) (by kernel_rfl) ?_
  repeat' first|refine o6 ?_|simp -dsimp -implicitDefEqProofs (disch:=first|assumption|omega|simp only[ll];omega) only[go_sem,aD7,ha,ab2,hsl,hz,cX9]|refine o5 (cp _) ?_|refine o5 (cs _) ?_|refine vcJ ?_ ?_<;>intro _|refine vcA ?_ ?_;focus(repeat'(first|omega|assumption|refine vcA ?_ ?_);done)|omega|refine o7 (fun _=>?_)
  exact aa3 _ (Le.refl _) (bK3 (p:=(sm,0))) ⟨rfl,rfl⟩
 ·rw[if_neg h]
  have hf:=eq_false h;have ha:=ap9 hz hz;generalize ak1 v=p at*;refine y7 [] [.cell 2 28,.tmp 3] 19 Tryz.func84 rfl rfl rfl rfl (nlb rfl) (by kernel_rfl) ?_
  repeat' first|refine o6 ?_|simp -dsimp -implicitDefEqProofs (disch:=first|assumption|omega|simp only[ll];omega) only[go_sem,hf,aD7,ha,ab2,hz]|refine o5 (cp _) ?_|refine vcJ ?_ ?_<;>intro _|refine vcA ?_ ?_;focus(repeat'(first|omega|assumption|refine vcA ?_ ?_);done)|omega|refine o7 (fun _=>?_)
  exact aa3 _ (Le.refl _) (bK3 (p:=(an5,p.2))) ⟨rfl,rfl⟩
theorem dr9(ns:List bytes)(v:JV):ay8 (hasB (v.names.filter fun s=>!hasB ns s)) v=av3 ns v:=by
 unfold av3 ay8;split
 ·rename_i h
  obtain⟨_,_,_,h3,_⟩:=aE3 h.2 h.1;unfold ba3;congr 1
  apply List.filter_congr
  intro q hq;have hm:q.1∈v.names:=by rw[<-bf0 h3];exact cZ0 hq
  congr 1
  unfold hasB;rw[cf7,cf6];constructor
  ·rintro⟨x,hx,he⟩
   have:=(bg3.1 hx).2;simp only[beq_iff_eq] at he;rw[he] at this;exact this
  ·intro h
   exact⟨q.1,bg3.2 ⟨hm,h⟩,by simp⟩
 ·rfl
theorem dK0(ns l:List bytes)(i:Nat):((l.take i).filter fun s=>!hasB ns s).length<=i:=by
 have:=List.length_filter_le (fun s=>!hasB ns s) (l.take i)
 rw[List.length_take] at this;omega
theorem dJ9(ns l:List bytes){i:Nat}(h:i < l.length):((l.take (i+1)).filter fun s=>!hasB ns s)=((l.take i).filter fun s=>!hasB ns s)++(if hasB ns (l.getD i [])=true then[] else[l.getD i []]):=by
 have e:l[i]?=some (l.getD i []):=by rw[cu0,xq1 h];rfl
 rw[a01 e,List.filter_append,bG8,List.filter_nil];cases hasB ns (l.getD i [])<;>rfl
def cH5(H:List AObj)(g:List bytes):List AObj:=H++[.cells (.one 25) ar4,.grow 1 g.length none]
theorem dq3(v:JV)(t:bytes)(H:List AObj)(hv:aa1 v<=40000)(ha: ∀c∈t,c.toNat < 128)(ht:t.length<=1000)(hf:(aV1 t).length<=1000):o9 Tryz.prog 50 [jAV v,.str t] H (fun y H'=>y=jAV (av3 (aV1 t) v)/\H'=H):=by
 have cf:=fun H=>dQ6 t H ha (by omega)
 rw[<-dr9];generalize aV1 t=ns at*;have mS: ∀(a:List bytes) (b:bytes),a.map AV.str++[.str b]=(a++[b]).map AV.str:=fun a b=>by simp
 have hn1:v.names.length<=40000:=by have:=aO6 v;omega
 refine y7 [] [.cell 4 25] 30 Tryz.func50 rfl rfl rfl rfl (nlb rfl) (by kernel_rfl) ?_
 repeat' first|refine o6 ?_|simp -dsimp -implicitDefEqProofs (disch:=first|assumption|omega|simp only[ll];omega) only[go_sem]|refine o5 (cf _) ?_|refine vcJ ?_ ?_<;>intro _|refine vcA ?_ ?_;focus(repeat'(first|omega|assumption|refine vcA ?_ ?_);done)|omega|refine o7 (fun _=>?_)
 refine by7 6 1 rfl (by decide) (fun h=>absurd rfl h) ?_
 rw[show∀o:AObj,(H++[o]).length=H.length+1 from fun o=>by simp]
 refine aa5 aa7 mixed [] [2,4,5,12,13] (fun i:Nat=>i<=v.names.length) (fun i=>[(14,.int .i64 i),(6,.sl (.tok (H.length+1)) 1 (((v.names.take i).filter fun s=>!hasB ns s).map .str))]) (fun i=>cH5 H ((v.names.take i).filter fun s=>!hasB ns s)) (fun i=>v.names.length - i) (by kernel_rfl) ?_ 0 (by omega) y8 (by simp[cH5,ar4])
 intro i hi;have hgl:=dK0 ns v.names i;unfold cH5;dsimp only[ar4];by_cases hil:i < v.names.length
 ·have t1:=dJ9 ns v.names hil
  have cc:=fun H=>bF7 (o:=.sh) ns (v.names.getD i []) H (by omega)
  rw[bZ6] at cc;cases hp:hasB ns (v.names.getD i []) with
  |true=>
   rw[if_pos hp,List.append_nil] at t1;repeat' first|refine o6 ?_|simp -dsimp -implicitDefEqProofs (disch:=first|assumption|omega|simp only[ll];omega) only[go_sem,hp]|refine o5 (cc _) ?_|refine vcJ ?_ ?_<;>intro _|refine vcA ?_ ?_;focus(repeat'(first|omega|assumption|refine vcA ?_ ?_);done)|omega|refine o7 (fun _=>?_)
   rw[<-t1];refine again (i+1) ?_ ?_ rfl y8
   ·omega
   ·omega
  |false=>
   rw[if_neg (by rw[hp];decide)] at t1
   generalize ((v.names.take i).filter fun s=>!hasB ns s)=q at*
   repeat' first|refine o6 ?_|simp -dsimp -implicitDefEqProofs (disch:=first|assumption|omega|simp only[ll];omega) only[go_sem,hp,mS]|refine o5 (cc _) ?_|refine vcJ ?_ ?_<;>intro _|refine vcA ?_ ?_;focus(repeat'(first|omega|assumption|refine vcA ?_ ?_);done)|omega|refine o7 (fun _=>?_)
   rw[show q.length+1=(q++[v.names.getD i []]).length by simp,<-t1]
   refine again (i+1) ?_ ?_ rfl y8
   ·omega
   ·omega
 ·obtain rfl:i=v.names.length:=by omega
  rw[aZ6] at hgl⊢;generalize (v.names.filter fun s=>!hasB ns s)=q at*
  have cw:=fun H'=>bs0 (o:=.tok (H.length+1)) v q H' hv (by omega)
  repeat' first|refine o6 ?_|simp -dsimp -implicitDefEqProofs (disch:=first|assumption|omega|simp only[ll];omega) only[go_sem]|refine o5 (cw _) ?_|refine vcJ ?_ ?_<;>intro _|refine vcA ?_ ?_;focus(repeat'(first|omega|assumption|refine vcA ?_ ?_);done)|omega|refine o7 (fun _=>?_)
  exact aa3 (jAV (ay8 (hasB q) v)) (Le.refl _) (ad4 _) ⟨rfl,rfl⟩
end
end Go.Proofs.YtnfcdbgiclnaeaaGreatDoor
