/- slices.Insert, slices.Clone, of texts and of trees: written by gen_insert.py. -/
import Derived.Test.YtdkpdjfimckdgaaGreatDoorW4
import Derived.Lib.TrimUEq
import Derived.Test.YtdkpdjfimckdgaaGreatDoorW3
import Derived.Lib.Walk
import Derived.Lib.RuneCount
import Derived.Laws.RangeString
import Derived.Laws.RangeAny
import Derived.LoopTactic
import Derived.Lib.ItoaNum
import Derived.Lib.ItoaWalk
import Derived.Lib.ItoaMem
import Derived.Laws.Externs
import Derived.Lib.MakeNoZero
set_option linter.unusedVariables false
set_option linter.unusedSimpArgs false
set_option maxRecDepth 10000
set_option maxHeartbeats 4000000
namespace Go.Proofs.YtdkpdjfimckdgaaGreatDoor
section
open Go V
theorem bj8{A B C B':List AV}{n:Nat}(hn:n=A.length)(h:B.length=B'.length):af4 (A++B++C) n B'=A++B'++C:=by
 subst hn;refine aW9 fun k=>?_
 rw[bj9];simp only[List.length_append];by_cases h1:k < A.length
 ·rw[if_neg (by omega),List.append_assoc,List.append_assoc,xq4 h1,xq4 h1]
 ·by_cases h2:k < A.length+B'.length
  ·rw[if_pos (by omega),xq4 (by simp;omega),xq5 (by omega)]
  ·rw[if_neg (by omega),xq5 (by simp;omega),xq5 (by simp;omega)]
   congr 1
   simp
   omega
theorem bD6{xs:List AV}{x:AV}{i:Nat}(hi:i<=xs.length):aa2 (xs.insertIdx i x)=aa2 (xs.take i)++x.flat++aa2 (xs.drop i):=by
 induction xs generalizing i with
 |nil=>obtain rfl:i=0:=by simpa using hi
       simp[aa2]
 |cons a xs ih=>
  cases i with
  |zero=>simp[aa2]
  |succ i=>
   rw[bt8,ag6,ih (by simpa using hi),an7,ao5,ag6]
   simp
theorem cq7{n i s:Nat}:(n - i)*s=n*s - i*s:=Nat.sub_mul n i s
theorem bO3{xs:List AV}{x:AV}{P:List AV}{s n i:Nat}(hu: ∀y∈xs,y.flat.length=s)(hx:x.flat.length=s)(hn:xs.length=n)(hi:i<=n)(hP:s<=P.length):
  (af4 (af4 (aa2 xs++P) ((i+1)*s) (((aa2 xs++P).drop (i*s)).take ((n - i)*s))) (i*s) x.flat).take ((n+1)*s)=aa2 (xs.insertIdx i x):=by
 have hA:(aa2 (xs.take i)).length=i*s:=by rw[af5 (s:=s) fun y hy=>hu y (bg0 hy),List.length_take,bL6 (by omega)]
 have hB:(aa2 (xs.drop i)).length=(n - i)*s:=by rw[af5 (s:=s) fun y hy=>hu y (bc4 hy),List.length_drop,hn]
 have hsp:aa2 xs=aa2 (xs.take i)++aa2 (xs.drop i):=by rw[<-ak4,bt9]
 rw[bD6 (by omega),hsp]
 generalize aa2 (xs.take i)=A at*;generalize aa2 (xs.drop i)=B at*;have hz:((A++B++P).drop (i*s)).take ((n - i)*s)=B:=by
  rw[List.append_assoc,<-hA,List.drop_left,<-hB,aQ6]
 rw[hz];have hW: ∃U V,B++P.take s=U++V/\U.length=s/\V.length=B.length:=⟨(B++P.take s).take s,(B++P.take s).drop s,(bt9 ..).symm,by rw[List.length_take,List.length_append,List.length_take];omega,by rw[List.length_drop,List.length_append,List.length_take];omega⟩
 obtain⟨U,V,hUV,hU,hV⟩:=hW;have e1:A++B++P=(A++U)++V++P.drop s:=by
  rw[List.append_assoc A U V,<-hUV];simp
 rw[e1,bj8 (by rw[List.length_append,hA,hU,aA1,bt7]) hV]
 have e2:(A++U)++B++P.drop s=A++U++(B++P.drop s):=by simp
 rw[e2,bj8 hA.symm (by rw[hU,hx])]
 have e3:A++x.flat++(B++P.drop s)=(A++x.flat++B)++P.drop s:=by simp
 rw[e3];have hl:(A++x.flat++B).length=(n+1)*s:=by
  rw[List.length_append,List.length_append,hA,hx,hB,cq7,aA1,bt7];have:=aG2 s hi;omega
 rw[<-hl,aQ6]
theorem b58{xs:List AV}{x:AV}{s n i m:Nat}(hu: ∀y∈xs,y.flat.length=s)(hx:x.flat.length=s)(hn:xs.length=n)(hi:i<=n)(hm:(n+1 - i)*s<=m):
  (af4 (af4 ((aa2 xs).take (i*s)++List.replicate m .any) (i*s) x.flat) ((i+1)*s) ((aa2 xs).drop (i*s))).take ((n+1)*s)=aa2 (xs.insertIdx i x):=by
 have hA:(aa2 (xs.take i)).length=i*s:=by rw[af5 (s:=s) fun y hy=>hu y (bg0 hy),List.length_take,bL6 (by omega)]
 have hB:(aa2 (xs.drop i)).length=(n - i)*s:=by rw[af5 (s:=s) fun y hy=>hu y (bc4 hy),List.length_drop,hn]
 have hsp:aa2 xs=aa2 (xs.take i)++aa2 (xs.drop i):=by rw[<-ak4,bt9]
 have hm2:(n+1 - i)*s=s+(n - i)*s:=by rw[show n+1 - i=(n - i)+1 by omega,aA1,bt7,Nat.add_comm]
 rw[bD6 (by omega),hsp]
 generalize aa2 (xs.take i)=A at*;generalize aa2 (xs.drop i)=B at*;have hz:(A++B).drop (i*s)=B:=by rw[<-hA,List.drop_left]
 have hy:(A++B).take (i*s)=A:=by rw[<-hA,aQ6]
 rw[hz,hy];obtain⟨r,hr⟩: ∃r,m=s+((n - i)*s+r):=⟨m - s - (n - i)*s,by omega⟩
 have e1:A++List.replicate m AV.any=A++List.replicate s .any++(List.replicate ((n - i)*s) .any++List.replicate r .any):=by
  rw[hr,List.append_assoc,bG0,bG0]
 rw[e1,bj8 hA.symm (by rw[List.length_replicate,hx])]
 have e2:A++x.flat++(List.replicate ((n - i)*s) AV.any++List.replicate r .any)=(A++x.flat)++List.replicate ((n - i)*s) .any++List.replicate r .any:=by simp
 rw[e2,bj8 (by rw[List.length_append,hA,hx,aA1,bt7]) (by rw[List.length_replicate,hB])]
 have hl:(A++x.flat++B).length=(n+1)*s:=by
  rw[List.length_append,List.length_append,hA,hx,hB,cq7,aA1,bt7];have:=aG2 s hi;omega
 rw[<-hl,aQ6]
theorem bH4{x:AV}(h:x.okv=true):x.flat.all AV.scalar=true:=by
 cases x<;>simp_all [AV.okv,AV.flat,AV.scalar]
theorem bD7{xs:List AV}(h: ∀y∈xs,y.okv=true):(aa2 xs).all AV.scalar=true:=by
 rw[xq6];intro c hc;unfold aa2 at hc;obtain⟨y,hy,hcy⟩:=bb8.1 hc;exact xq6.1 (bH4 (h y hy)) c hcy
theorem aN8{xs:List AV}{x:AV}{s i:Nat}(hu: ∀y∈xs,y.flat.length=s/\y.okv=true)(hx:x.flat.length=s/\x.okv=true)(hi:i<=xs.length): ∀y∈xs.insertIdx i x,y.flat.length=s/\y.okv=true:=fun y hy=>by
 rcases(List.mem_insertIdx hi).1 hy with rfl|hy
 ·exact hx
 ·exact hu y hy
theorem aN9{H:List AObj}{k s n cap:Nat}{sh:Shape}{cs xs:List AV}(ho:H[k]?=some (.cells sh cs))(hx:xs.length=n)(hu: ∀x∈xs,x.flat.length=s/\x.okv=true)(h:cs.take (n*s)=aa2 xs):Frz1 H k (.msl k 0 n cap) (.sl .sh s xs):=by
 have hl:(aa2 xs).length<=cs.length:=by rw[<-h,List.length_take];omega
 refine .msl 0 n cap s sh cs xs ho hx hu (by omega) fun j c y e1 e2=>?_
 rw[Nat.zero_add] at e1;have hj:=aa0 e2;rw[<-h,aB1] at e2;split at e2
 ·rw[e1] at e2
  cases e2
  exact .keep _
 ·cases e2
theorem bs7{H:List AObj}{sh:Shape}{k s n:Nat}{cs xs:List AV}(ho:H[k]?=some (.cells sh cs))(hx:xs.length=n)(hu: ∀x∈xs,x.flat.length=s/\x.okv=true)(h:cs=aa2 xs):Frz1 H k (.mrow k n) (.sl .sh s xs):=by
 subst h;refine .row n s sh _ xs ho hx hu (xq0 _) fun j c y e1 e2=>?_
 rw[e1] at e2;cases e2
 exact .keep _
theorem bE1{H₀ M:List AObj}{R:AV->List AObj->Prop}{x:AV}{a:Nat}(hx:Low H₀.length x)(hr:R x (H₀.set a .gone)):Done H₀ R x (H₀.set a .gone++M):=by
 unfold Done;have hl:(H₀.set a AObj.gone).length=H₀.length:=by simp
 refine⟨x,(H₀.set a .gone++M).take H₀.length,aZ8 (Le.refl x) (xq0 _) hx fun i u hi e=>?_,?_⟩
 ·rw[xq4 (by rw[hl];exact hi)] at e
  rcases af6 e with⟨_,e'⟩|⟨_,e',_⟩
  ·exact .inl e'
  ·subst e';exact .inr trivial
 ·rw[bL4 (by rw[hl];exact xq0 _),aF0 (by rw[hl];exact xq0 _)]
  exact hr
theorem aY0{P:Program}(w:World)(tS tR e:TypeId)(ht:P.underlying tS=some (.slice e))(size:Nat)(hz: ∀w,(Go.sizeOf e).run P w=.ok size w)
  (a b:Addr) (la ca lb cb:Nat) (hne:a.block≠b.block) (tA tB:TypeId) (kA kB:Nat)
  (hsa:w.shape? a.block=some (tA,kA)) (hsb:w.shape? b.block=some (tB,kB)) (hkA:kA≠0) (hkB:kB≠0)
  (hfb:w.frozen? b=false) (hfe:w.frozen? {block:=b.block,off:=kB}=false):
  (Extern.SlicesOverlaps.overlaps #[tS,tS] #[tR] #[.slice (some a) la ca,.slice (some b) lb cb]).run P w=.ok (.bool false) w:=by
 have hnb:(a.block !=b.block)=true:=by simpa using hne
 have hnb':(a.block==b.block)=false:=by simpa using hne
 change Sem.run P (α:=Value) (do
  let some t:=(#[tS,tS]:Array TypeId)[0]?|stuck "slices.overlaps: no parameter types"
  let .slice elem<-underlying t|stuck "slices.overlaps: slice type expected"
  let size<-sizeOf elem
  match(some a:Option Addr),(some b:Option Addr) with
  |some a,some b=>
   if la=0\/lb=0\/size=0 then pure (Value.bool false)
   else if a.block !=b.block&&(<-frozen a)&&(<-frozen b) then unsupported .addressObserved
   else do
    if a.block !=b.block then do
     noView a;noView b
     if<-mayBeOne a b then return Value.bool ((<-choose (.extern "sameAddr.stringBytes" 2))==1)
    pure (Value.bool (a.block==b.block&&a.off < b.off+lb*size&&b.off < a.off+la*size))
  |_,_=>pure (Value.bool false)) w=_
 by_cases h0:la=0\/lb=0\/size=0
 ·simp[run_underlying ht,hz,h0]
 ·obtain⟨kA,rfl⟩: ∃n,kA=n+1:=⟨kA - 1,by omega⟩
  cases kB with
  |zero=>exact absurd rfl hkB
  |succ kB=>
   cases hfa:w.frozen? a<;>cases hfx:w.frozen? ⟨a.block,kA+1,none⟩<;>
    simp[run_underlying ht,hz,h0,hnb,hnb',frozen,noView,viewAt,mayBeOne,stringish,shape,Sem.run,hsa,hsb,hfb,hfe,hfa,hfx]
theorem bx8{H₀ H:List AObj}{R:AV->List AObj->Prop}{z s:Nat}(hs:0 < s)(hr:Done H₀ R (.sl (.tok H.length) s []) (H++[.grow s 0 none])):Done H₀ R (.sl .full z []) H:=by
 unfold Done at hr⊢;obtain⟨y,H'',he,hR⟩:=hr;refine⟨y,H'',be3 (fun G₀ w₀ G w v h0 hi hst r=>?_) he,hR⟩
 cases r with
 |sl _ _ _ ad len cap val hl hcap hs' hc hr' hf ha ho=>
  have r0:Rel G H w (.sl .full z []) (.slice ad len cap):=.sl .full z [] ad len cap val hl hcap hs' hc hr' hf ha ho;obtain⟨hi',st',hr''⟩:=b52 none hi r0 hs (fun h=>absurd rfl h) (fun h=>absurd rfl h)
  exact⟨_,hi',hst.trans st',hr''⟩
theorem cS1{o:Own}{s k off n cap:Nat}{T:TypeId}{cs xs:List AV}{H:List AObj}(hx:aa2 xs≠[])(hk:H[k]?=some (.cells (.one T) cs))(hcs:cs≠[]):o7 Tryz.prog 316 [.sl o s xs,.msl k off n cap] H (fun y H'=>y=.bool false/\H'=H):=
 aC3 (e:=Extern.SlicesOverlaps.overlaps #[32,32] #[4]) Tryz.func316 (by kernel_rfl) (by kernel_rfl) (by kernel_rfl) (by kernel_rfl) fun G w vs hi ha=>by
  obtain⟨v,u,rfl,hv,hu⟩:=bh7 ha;obtain⟨arr,T1,fr,hb,hs,hr,hf,hg,hh⟩:=hi.cells k _ cs hk;obtain⟨rfl,h2,h3⟩:=hh;have hp1:0 < (aa2 xs).length:=aD7.2 hx;have hp2:0 < cs.length:=aD7.2 hcs;cases hv with
  |sl _ _ _ ad len cap' val hl hcap hs' hc hr' hf' ha' ho=>
  cases hu with
  |msl _ _ _ _ o2 g4 g5 g6=>
  obtain⟨b1,off1,rfl,himm,hcell⟩:=hc 0 _ (xq1 hp1);have hne:b1≠G.blk k:=fun e=>hf _ (e▸himm)
  obtain⟨a1,e1,f1,hb1⟩: ∃a1 e1 f1,w.heap[b1]?=some (.cells a1 e1 f1):=by
   unfold World.cell? at hcell;simp only at hcell;split at hcell
   ·rename_i h;exact⟨_,_,_,h⟩
   ·cases hcell
  have hka:a1.size≠0:=by
   rw[aq7 hb1] at hcell;intro e;rw[bo4 (by omega)] at hcell
   cases hcell
  refine⟨_,w,_,G,H,aY0 w 32 4 9 Tryz.underlying32 1 (fun w=>by simp) ⟨b1,off1,none⟩ ⟨G.blk k,off,none⟩ _ _ n cap hne e1 T1 a1.size arr.size (by simp[World.shape?,hb1]) (by simp[World.shape?,hb]) hka (by omega) ?_ ?_,hi,.refl _ _ _,.lit _,rfl,rfl⟩
  all_goals simp[World.frozen?,hb,h3]
theorem dG4{k n i:Nat}{xs:List AV}{x:AV}{H:List AObj}(hk:H[k]?=some (.cells (.prow 1) (aa2 xs)))(hn:xs.length=n)(hu: ∀y∈xs,y.flat.length=1/\y.okv=true)(hx:x.flat.length=1/\x.okv=true)(hi:i<=n)(hl:n<=100000)
  (hlow: ∀m,Low m (.sl .sh 1 (xs.insertIdx i x))):o7 Tryz.prog 237 [.mrow k n,.lit (.int .i64 i),.sl .full 1 [x]] H (fun y H'=>y=.sl .sh 1 (xs.insertIdx i x)/\H'=H.set k .gone):=by
 have hkl:=aa0 hk;have hfl:(aa2 xs).length=n*1:=by rw[af5 (s:=1) fun y hy=>(hu y hy).1,hn]
 by_cases hin:i=n
 ·subst hin
  have hins:xs.insertIdx i x=xs++[x]:=by rw[<-hn];exact cM6
  ·have hll:(H.set k AObj.gone).length=H.length:=by simp
   refine o8 [1000011,1000015] [.tmp 6] 95 Tryz.func237 ?_;repeat' first|refine l9 ?_|simp -dsimp -implicitDefEqProofs (disch:=omega) only[go_sem,hk,hfl,hx.1,hx.2]|refine vcA ?_ ?_|omega
   have hnew:(H.set k AObj.gone++[AObj.cells (.prow 1) (aa2 xs++aa2 [x])])[H.length]?=some (.cells (.prow 1) (aa2 xs++aa2 [x])):=by rw[<-hll];exact aH4
   refine ap1 (H':=[]) hnew (bs7 (xs:=xs++[x]) hnew (by simp[hn]) (by rw[<-hins];exact aN8 hu hx (by omega)) (by rw[ak4])) ?_
   rw[hs0 hll.symm,List.set_cons_zero];have:=hlow H.length;rw[hins] at this⊢;exact ae5 (o:=.gone) this rfl (fun sh cs e=>by cases e) ⟨rfl,rfl⟩
 ·refine bq2 (xs1:=[]) hk (by rw[hfl]) fun T cap hcap=>?_
  rw[List.nil_append];generalize hP:List.replicate ((cap - n)*1) AV.any=P;have hPl:P.length=(cap - n)*1:=by rw[<-hP,List.length_replicate]
  have hall:=bD7 fun y hy=>(hu y hy).2
  have hsc:(((aa2 xs++P).drop (i*1)).take ((n - i)*1)).all AV.scalar=true:=by
   have hle:=aG2 1 hi;rw[bG1 (by omega),bL4 (by rw[List.length_drop];omega),xq6]
   intro c hc;exact xq6.1 hall c (bc4 (bg0 hc))
  have hsd:((aa2 xs).drop (i*1)).all AV.scalar=true:=by
   rw[xq6];intro c hc;exact xq6.1 hall c (bc4 hc)
  try simp only[Nat.mul_one] at hsc hsd
  have hmin:min (n+1 - i) (n+1 - (i+1))=n - i:=by omega
  have hxs:=bH4 hx.2;have hfx:aa2 [x]=x.flat:=by simp[aa2]
  have hx0:x.flat≠[]:=fun e=>by have:=hx.1;rw[e] at this;cases this
  have hf0:aa2 xs++P≠[]:=fun e=>by have:=congrArg List.length e;rw[List.length_append,hfl] at this;simp only[List.length_nil] at this;omega
  have hov:=fun off m c=>cS1 (o:=.full) (s:=1) (xs:=[x]) (off:=off) (n:=m) (cap:=c) (H:=H.set k (.cells (.one T) (aa2 xs++P))) (by simp[aa2,hx0]) (hss hkl) hf0
  have hI:((i:Int)+1).toNat=i+1:=by omega
  have hN1:((n:Int)+1).toNat=n+1:=by omega
  have hNI:((n:Int)+1 - (i:Int)).toNat=n+1 - i:=by omega
  have hsum:i+(n+1 - i)=n+1:=by omega
  have hci:((cap:Int)=(i:Int))=False:=eq_false (by omega)
  have hin':((i:Int)=(n:Int))=False:=eq_false (by omega)
  by_cases hc:n+1<=cap
  ·have hcI:((cap:Int)=(i:Int)+1)=False:=eq_false (by omega)
   have hcc:(((cap:Nat):Int) < (n:Int)+1)=False:=eq_false (by omega)
   refine o8 [1000011,1000015] [.tmp 6] 95 Tryz.func237 ?_;repeat' first|refine l9 ?_|simp -dsimp -implicitDefEqProofs (disch:=first|assumption|omega) only[go_sem,hsn,hss,hPl,hfl,hsc,hxs,hx.1,hx.2,hI,hN1,hNI,hsum,hci,hin',hcI,hcc,aO5,ap2,hmin]|refine l7 (hov _ _ _) ?_|refine vcA ?_ ?_|omega
   have hres:=bO3 (s:=1) (P:=P) (fun y hy=>(hu y hy).1) hx.1 hn hi (by omega)
   try simp only[Nat.mul_one] at hres
   refine ap1 (H':=[]) (k:=k) (hss hkl) (aN9 (s:=1) (xs:=xs.insertIdx i x) (hss hkl) (by rw[bz4 (by omega)];omega) (aN8 hu hx (by omega)) (by rw[hfx];first|exact hres|(rw[Nat.mul_one];exact hres))) ?_
   rw[List.set_set];exact aa5 _ (Le.refl _) (by simp) ⟨rfl,rfl⟩
  ·have hcc:(((cap:Nat):Int) < (n:Int)+1)=True:=eq_true (by omega)
   obtain rfl:cap=n:=by omega
   have hP0:P=[]:=by rw[<-hP,ao4,bQ7];rfl
   rw[hP0,List.append_nil];clear hov hsc hf0;refine o8 [1000011,1000015] [.tmp 6] 95 Tryz.func237 ?_;repeat' first|refine l9 ?_|simp -dsimp -implicitDefEqProofs (disch:=first|assumption|omega) only[go_sem,hsn,hss,hfl,hsd,hxs,hx.1,hx.2,hI,hN1,hNI,hsum,hci,hin',hcc,aO5,ap2]|refine vcA ?_ ?_|omega
   intro z;have hz1:(((cap+1+z:Nat):Int)=(i:Int))=False:=eq_false (by omega)
   have hz2:(((cap+1+z:Nat):Int)=(i:Int)+1)=False:=eq_false (by omega)
   repeat' first|simp -dsimp -implicitDefEqProofs (disch:=first|assumption|omega|simp only[ll];omega) only[go_sem,hsn,hss,hfl,hsd,hxs,hx.1,hx.2,hI,hN1,hNI,hsum,hci,hin',hcc,aO5,ai6,ak8,hz1,hz2,ap2]|refine vcA ?_ ?_|omega
   have hres:=b58 (s:=1) (m:=(cap+1 - i+z)*1) (fun y hy=>(hu y hy).1) hx.1 hn hi (aG2 _ (by omega))
   try simp only[Nat.mul_one] at hres
   refine ap1 (H':=[]) (k:=H.length) ai6 (aN9 (s:=1) (xs:=xs.insertIdx i x) ai6 (by rw[bz4 (by omega)];omega) (aN8 hu hx (by omega)) (by rw[hfx];first|exact hres|(rw[Nat.mul_one];exact hres))) ?_
   rw[ak8,List.set_cons_zero];refine ap1 (H':=[]) (k:=k) (aa6 hkl) (.keep _) ?_;rw[ak1 hkl];rw[show (H.set k AObj.gone)=(H.set k (AObj.cells (.one T) (aa2 xs))).set k .gone from(List.set_set ..).symm]
   exact bE1 (hlow _) ⟨rfl,rfl⟩
theorem cS3{o:Own}{s k off n cap:Nat}{T:TypeId}{cs xs:List AV}{H:List AObj}(hx:aa2 xs≠[])(hk:H[k]?=some (.cells (.one T) cs))(hcs:cs≠[]):o7 Tryz.prog 318 [.sl o s xs,.msl k off n cap] H (fun y H'=>y=.bool false/\H'=H):=
 aC3 (e:=Extern.SlicesOverlaps.overlaps #[33,33] #[4]) Tryz.func318 (by kernel_rfl) (by kernel_rfl) (by kernel_rfl) (by kernel_rfl) fun G w vs hi ha=>by
  obtain⟨v,u,rfl,hv,hu⟩:=bh7 ha;obtain⟨arr,T1,fr,hb,hs,hr,hf,hg,hh⟩:=hi.cells k _ cs hk;obtain⟨rfl,h2,h3⟩:=hh;have hp1:0 < (aa2 xs).length:=aD7.2 hx;have hp2:0 < cs.length:=aD7.2 hcs;cases hv with
  |sl _ _ _ ad len cap' val hl hcap hs' hc hr' hf' ha' ho=>
  cases hu with
  |msl _ _ _ _ o2 g4 g5 g6=>
  obtain⟨b1,off1,rfl,himm,hcell⟩:=hc 0 _ (xq1 hp1);have hne:b1≠G.blk k:=fun e=>hf _ (e▸himm)
  obtain⟨a1,e1,f1,hb1⟩: ∃a1 e1 f1,w.heap[b1]?=some (.cells a1 e1 f1):=by
   unfold World.cell? at hcell;simp only at hcell;split at hcell
   ·rename_i h;exact⟨_,_,_,h⟩
   ·cases hcell
  have hka:a1.size≠0:=by
   rw[aq7 hb1] at hcell;intro e;rw[bo4 (by omega)] at hcell
   cases hcell
  refine⟨_,w,_,G,H,aY0 w 33 4 35 Tryz.underlying33 5 (fun w=>by simp) ⟨b1,off1,none⟩ ⟨G.blk k,off,none⟩ _ _ n cap hne e1 T1 a1.size arr.size (by simp[World.shape?,hb1]) (by simp[World.shape?,hb]) hka (by omega) ?_ ?_,hi,.refl _ _ _,.lit _,rfl,rfl⟩
  all_goals simp[World.frozen?,hb,h3]
theorem dG5{k n i:Nat}{xs:List AV}{x:AV}{H:List AObj}(hk:H[k]?=some (.cells (.prow 5) (aa2 xs)))(hn:xs.length=n)(hu: ∀y∈xs,y.flat.length=5/\y.okv=true)(hx:x.flat.length=5/\x.okv=true)(hi:i<=n)(hl:n<=100000)
  (hlow: ∀m,Low m (.sl .sh 5 (xs.insertIdx i x))):o7 Tryz.prog 238 [.mrow k n,.lit (.int .i64 i),.sl .full 5 [x]] H (fun y H'=>y=.sl .sh 5 (xs.insertIdx i x)/\H'=H.set k .gone):=by
 have hkl:=aa0 hk;have hfl:(aa2 xs).length=n*5:=by rw[af5 (s:=5) fun y hy=>(hu y hy).1,hn]
 by_cases hin:i=n
 ·subst hin
  have hins:xs.insertIdx i x=xs++[x]:=by rw[<-hn];exact cM6
  ·have hll:(H.set k AObj.gone).length=H.length:=by simp
   refine o8 [1000011,1000015] [.tmp 6] 95 Tryz.func238 ?_;repeat' first|refine l9 ?_|simp -dsimp -implicitDefEqProofs (disch:=omega) only[go_sem,hk,hfl,hx.1,hx.2]|refine vcA ?_ ?_|omega
   have hnew:(H.set k AObj.gone++[AObj.cells (.prow 5) (aa2 xs++aa2 [x])])[H.length]?=some (.cells (.prow 5) (aa2 xs++aa2 [x])):=by rw[<-hll];exact aH4
   refine ap1 (H':=[]) hnew (bs7 (xs:=xs++[x]) hnew (by simp[hn]) (by rw[<-hins];exact aN8 hu hx (by omega)) (by rw[ak4])) ?_
   rw[hs0 hll.symm,List.set_cons_zero];have:=hlow H.length;rw[hins] at this⊢;exact ae5 (o:=.gone) this rfl (fun sh cs e=>by cases e) ⟨rfl,rfl⟩
 ·refine bq2 (xs1:=[]) hk (by rw[hfl]) fun T cap hcap=>?_
  rw[List.nil_append];generalize hP:List.replicate ((cap - n)*5) AV.any=P;have hPl:P.length=(cap - n)*5:=by rw[<-hP,List.length_replicate]
  have hall:=bD7 fun y hy=>(hu y hy).2
  have hsc:(((aa2 xs++P).drop (i*5)).take ((n - i)*5)).all AV.scalar=true:=by
   have hle:=aG2 5 hi;rw[bG1 (by omega),bL4 (by rw[List.length_drop];omega),xq6]
   intro c hc;exact xq6.1 hall c (bc4 (bg0 hc))
  have hsd:((aa2 xs).drop (i*5)).all AV.scalar=true:=by
   rw[xq6];intro c hc;exact xq6.1 hall c (bc4 hc)
  try simp only[Nat.mul_one] at hsc hsd
  have hmin:min (n+1 - i) (n+1 - (i+1))=n - i:=by omega
  have hxs:=bH4 hx.2;have hfx:aa2 [x]=x.flat:=by simp[aa2]
  have hx0:x.flat≠[]:=fun e=>by have:=hx.1;rw[e] at this;cases this
  have hf0:aa2 xs++P≠[]:=fun e=>by have:=congrArg List.length e;rw[List.length_append,hfl] at this;simp only[List.length_nil] at this;omega
  have hov:=fun off m c=>cS3 (o:=.full) (s:=5) (xs:=[x]) (off:=off) (n:=m) (cap:=c) (H:=H.set k (.cells (.one T) (aa2 xs++P))) (by simp[aa2,hx0]) (hss hkl) hf0
  have hI:((i:Int)+1).toNat=i+1:=by omega
  have hN1:((n:Int)+1).toNat=n+1:=by omega
  have hNI:((n:Int)+1 - (i:Int)).toNat=n+1 - i:=by omega
  have hsum:i+(n+1 - i)=n+1:=by omega
  have hci:((cap:Int)=(i:Int))=False:=eq_false (by omega)
  have hin':((i:Int)=(n:Int))=False:=eq_false (by omega)
  by_cases hc:n+1<=cap
  ·have hcI:((cap:Int)=(i:Int)+1)=False:=eq_false (by omega)
   have hcc:(((cap:Nat):Int) < (n:Int)+1)=False:=eq_false (by omega)
   refine o8 [1000011,1000015] [.tmp 6] 95 Tryz.func238 ?_;repeat' first|refine l9 ?_|simp -dsimp -implicitDefEqProofs (disch:=first|assumption|omega) only[go_sem,hsn,hss,hPl,hfl,hsc,hxs,hx.1,hx.2,hI,hN1,hNI,hsum,hci,hin',hcI,hcc,aO5,ap2,hmin]|refine l7 (hov _ _ _) ?_|refine vcA ?_ ?_|omega
   have hres:=bO3 (s:=5) (P:=P) (fun y hy=>(hu y hy).1) hx.1 hn hi (by omega)
   try simp only[Nat.mul_one] at hres
   refine ap1 (H':=[]) (k:=k) (hss hkl) (aN9 (s:=5) (xs:=xs.insertIdx i x) (hss hkl) (by rw[bz4 (by omega)];omega) (aN8 hu hx (by omega)) (by rw[hfx];first|exact hres|(rw[Nat.mul_one];exact hres))) ?_
   rw[List.set_set];exact aa5 _ (Le.refl _) (by simp) ⟨rfl,rfl⟩
  ·have hcc:(((cap:Nat):Int) < (n:Int)+1)=True:=eq_true (by omega)
   obtain rfl:cap=n:=by omega
   have hP0:P=[]:=by rw[<-hP,ao4,bQ7];rfl
   rw[hP0,List.append_nil];clear hov hsc hf0;refine o8 [1000011,1000015] [.tmp 6] 95 Tryz.func238 ?_;repeat' first|refine l9 ?_|simp -dsimp -implicitDefEqProofs (disch:=first|assumption|omega) only[go_sem,hsn,hss,hfl,hsd,hxs,hx.1,hx.2,hI,hN1,hNI,hsum,hci,hin',hcc,aO5,ap2]|refine vcA ?_ ?_|omega
   intro z;have hz1:(((cap+1+z:Nat):Int)=(i:Int))=False:=eq_false (by omega)
   have hz2:(((cap+1+z:Nat):Int)=(i:Int)+1)=False:=eq_false (by omega)
   repeat' first|simp -dsimp -implicitDefEqProofs (disch:=first|assumption|omega|simp only[ll];omega) only[go_sem,hsn,hss,hfl,hsd,hxs,hx.1,hx.2,hI,hN1,hNI,hsum,hci,hin',hcc,aO5,ai6,ak8,hz1,hz2,ap2]|refine vcA ?_ ?_|omega
   have hres:=b58 (s:=5) (m:=(cap+1 - i+z)*5) (fun y hy=>(hu y hy).1) hx.1 hn hi (aG2 _ (by omega))
   try simp only[Nat.mul_one] at hres
   refine ap1 (H':=[]) (k:=H.length) ai6 (aN9 (s:=5) (xs:=xs.insertIdx i x) ai6 (by rw[bz4 (by omega)];omega) (aN8 hu hx (by omega)) (by rw[hfx];first|exact hres|(rw[Nat.mul_one];exact hres))) ?_
   rw[ak8,List.set_cons_zero];refine ap1 (H':=[]) (k:=k) (aa6 hkl) (.keep _) ?_;rw[ak1 hkl];rw[show (H.set k AObj.gone)=(H.set k (AObj.cells (.one T) (aa2 xs))).set k .gone from(List.set_set ..).symm]
   exact bE1 (hlow _) ⟨rfl,rfl⟩
end
section
open Go V
theorem c27{p:UInt8->Bool}: ∀{r:bytes} {n:Nat},n<=r.length->(∀j,j < n->p (r.getD j 0)=true)->(n < r.length->p (r.getD n 0)=false)->(r.takeWhile p).length=n
 |[],n,h,_,_=>by simp at h;simp[h]
 |a::r,n,h,h1,h2=>by
  rw[ce0];cases n with
  |zero=>
   have:=h2 (by simp)
   simp at this
   simp[this]
  |succ n=>
   have:=h1 0 (by omega)
   simp at this
   rw[this];simp only[if_true,List.length_cons];rw[c27 (r:=r) (n:=n) (by simpa using h) (fun j hj=>by simpa using h1 (j+1) (by omega)) (fun hn=>by simpa using h2 (by simpa using hn))]
theorem dM4{r t:bytes}(h:r <:+t)(n:Nat):t.getD (t.length - r.length+n) 0=r.getD n 0:=by
 obtain⟨p,rfl⟩:=h;have:(p++r).length - r.length=p.length:=by simp
 rw[this,List.getD,xq5 (by omega),au2,List.getD]
theorem di6(c:UInt8):isDigit c=decide (48<=(c.toNat:Int)/\(c.toNat:Int)<=57):=by
 unfold isDigit;rw[decide_eq_decide];omega
theorem dB9{k:Nat}{t r:bytes}{e:Int}{H:List AObj}(hk:H[k]?=some (ad4 t r e))(hs:r <:+t)(hl:t.length<=10000):
  o7 Tryz.prog 438 [.mp k 0] H (fun x H'=>x=.int .i64 ((r.takeWhile isDigit).length:Nat)/\H'=H):=by
 have h1:=ay6 hs;unfold ad4 at*;refine o8 [1000002] [.tmp 2] 53 Tryz.func438 ?_;repeat' simp -dsimp -implicitDefEqProofs only[go_sem]
 refine aa7 ab6 mixed [1000002] [0,2] (fun n:Nat=>n<=r.length/\ ∀j,j < n->isDigit (r.getD j 0)=true) (fun n=>[(3,.int .i64 n)]) (fun _=>H) (fun n=>r.length - n) (by kernel_rfl) ?_ 0 ⟨by omega,fun j hj=>by omega⟩ aa3 rfl
 rintro n ⟨hn,hp⟩
 have hg:t.getD (((t.length - r.length:Nat):Int)+(n:Int)).toNat 0=r.getD n 0:=by rw[<-dM4 hs n];congr 1
 have hd:=di6 (r.getD n 0);repeat' first|refine l9 ?_|simp -dsimp -implicitDefEqProofs (disch:=omega) only[go_sem,hk,hg]|refine vcA ?_ ?_|omega|refine aa8 fun _=>?_
 ·rename_i e1 e2 e3
  refine again (n+1) ?_ ?_ rfl aa3
  ·omega
  ·exact⟨by omega,upto_succ hp (by rw[hd];exact decide_eq_true ⟨by omega,by omega⟩)⟩
 all_goals
  refine o5 ⟨int_eq ?_,rfl⟩;rw[c27 hn hp fun h=>by rw[hd];exact decide_eq_false fun h2=>by omega]
theorem dI6(p:UInt8->Bool)(r:bytes):(r.takeWhile p).length<=r.length:=(List.takeWhile_sublist p).length_le
theorem c30{p:UInt8->Bool}: ∀{r:bytes} {j:Nat},j < (r.takeWhile p).length->p (r.getD j 0)=true
 |[],j,h=>by simp at h
 |a::r,j,h=>by
  rw[ce0] at h;split at h
  ·rename_i ha
   cases j with
   |zero=>simpa using ha
   |succ j=>simpa using c30 (r:=r) (j:=j) (by simpa using h)
  ·simp at h
theorem dc2(r:bytes):ax0 r<=r.length:=by
 unfold ax0;split
 ·rename_i h
  exact aR1 (by rw[h];decide)
 ·exact dI6 _ _
theorem cq0{r:bytes}{j:Nat}(h:j < ax0 r):isDigit (r.getD j 0)=true:=by
 unfold ax0 at h;split at h
 ·rename_i h0
  obtain rfl:j=0:=by omega
  have:=aR1 (r:=r) (by rw[h0];decide)
  cases r with
  |nil=>simp at this
  |cons a r=>simp only[peek,bL9] at h0;subst h0;rfl
 ·exact c30 h
theorem c42{r:bytes}{n j:Nat}(h:j < n):(r.take n).getD j 0=r.getD j 0:=by
 rw[List.getD,aB1,if_pos h,List.getD]
theorem cT9{r:bytes}{n:Nat}(hn:n=ax0 r): ∀i,i < (r.take n).length->48<=((r.take n).getD i 0).toNat/\((r.take n).getD i 0).toNat<=57:=fun i hi=>by
 rw[List.length_take] at hi;have:=cq0 (r:=r) (j:=i) (by omega)
 rw[c42 (by omega)]
 exact of_decide_eq_true this
theorem bO1{n:Nat}(h:n < 9223372036854775808):ct8 n=.tup [.lit (.int .i64 n),.lit .nilIface]:=if_pos h
theorem bO2{n:Nat}(h: ¬n < 9223372036854775808):ct8 n=.tup [.lit (.int .i64 9223372036854775807),.ifc 533 .any]:=if_neg h
theorem b76{b:Bool}{r t:bytes}(h:r <:+t):(aC9 b r).2.1 <:+t:=by
 unfold aC9;split
 ·exact h
 ·split
  ·exact as2 h _
  ·exact as2 h _
theorem dM2{r t:bytes}(h:r <:+t):(aR2 r).2.1 <:+t:=by
 unfold aR2;cases e:ae8 [45] r with
 |none=>exact b76 h
 |some r2=>exact b76 (aq4 h e)
theorem bi6{k:Nat}{t r:bytes}{H:List AObj}(hk:H[k]?=some (ad4 t r 0))(hs:r <:+t)(hl:t.length<=10000):
  o7 Tryz.prog 410 [.mp k 0] H (fun x H'=>x=.int .i64 (aR2 r).1/\H'=H.set k (ad4 t (aR2 r).2.1 (aR2 r).2.2)):=by
 have hkl:=aa0 hk;have hc:=ac2 (w:=[45]) hk hs hl (by decide)
 obtain⟨b,r1,hb,hnp,hs1⟩: ∃b r1,((ae8 [45] r).isSome=b/\(ae8 [45] r).getD r=r1)/\aR2 r=aC9 b r1/\r1 <:+t:=by
  cases e:ae8 [45] r with
  |none=>exact⟨false,r,⟨rfl,rfl⟩,by rw[aR2,e],hs⟩
  |some r2=>exact⟨true,r2,⟨rfl,rfl⟩,by rw[aR2,e],aq4 hs e⟩
 rw[hb.1,hb.2] at hc;rw[hnp];clear hb hnp;have hrl:=ay6 hs1;have hnl:=dc2 r1;have hdg:=dB9 (e:=0) (hss (H:=H) hkl) hs1 hl;have hpk:=at6 (e:=0) (hss (H:=H) hkl) hs1 hl;have htw:=dI6 isDigit r1;have hnum:ax0 r1=if peek r1=48 then 1 else(r1.takeWhile isDigit).length:=rfl
 have hdd:=cT9 (r:=r1) rfl;have hdrop:t.drop (t.length - r1.length)=r1:=bM3 hs1;by_cases c48:peek r1=48
 ·have h48:((peek r1).toNat:Int)=48:=by rw[c48];rfl
  rw[if_pos c48] at hnum;cases b with
  |true=>
   have hgo:aC9 true r1=(0,r1,2):=by rw[aC9,if_pos (by exact .inr ⟨rfl,c48⟩)]
   rw[hgo];refine o8 [1000008] [.tmp 2] 76 Tryz.func410 ?_;repeat' first|refine l9 ?_|simp -dsimp -implicitDefEqProofs only[go_sem,h48]|refine l7 (hc) ?_|refine l7 (hdg) ?_|refine l7 (hpk) ?_|refine l7 (aj9 (hss hkl)) ?_|fail
   all_goals exact aa5 _ (Le.refl _) ah1 ⟨rfl,rfl⟩
  |false=>
   have hn:ax0 r1=1:=by exact hnum
   have hcond: ¬(ax0 r1=0\/(false=true/\peek r1=48)):=by rw[hnum];simp
   rw[hn] at hnl hdd hcond;have hgo1:(((t.length - r1.length:Nat):Int)+1).toNat - (t.length - r1.length)=1:=by omega
   have hcl:AObj.cells (.one 438) [.str t,.lit (.int .i64 (((t.length - r1.length:Nat):Int)+1)),.lit (.int .i64 0)]=ad4 t (r1.drop 1) 0:=pc (by rw[List.length_drop];omega)
   have hfl:o7 Tryz.prog 348 [.mp k 0,.lit (.int .i64 5)] (H.set k (AObj.cells (.one 438) [.str t,.lit (.int .i64 (((t.length - r1.length:Nat):Int)+1)),.lit (.int .i64 0)])) (fun x H'=>x=.tup []/\H'=H.set k (ad4 t (r1.drop 1) 5)):=by
    rw[hcl];exact(aj9 (hss hkl)).mono fun x H' h=>⟨h.1,by rw[h.2,List.set_set,if_pos rfl]⟩
   have hne:r1.take 1≠[]:=by
    intro e;have:=congrArg List.length e;rw[List.length_take,List.length_nil] at this;omega
   have hpi:=fun H=>bk5 (r1.take 1) H hne (by rw[List.length_take];omega) hdd
   have hgo:aC9 false r1=if 9007199254740991 < ah5 (r1.take 1) then(0,r1.drop 1,5) else((ah5 (r1.take 1):Int),r1.drop 1,0):=by rw[aC9,hn,if_neg hcond];rfl
   rw[hgo];by_cases v1:ah5 (r1.take 1) < 9223372036854775808
   ·rw[bO1 v1] at hpi
    by_cases v2:9007199254740991 < ah5 (r1.take 1)
    ·rw[if_pos v2]
     refine o8 [1000008] [.tmp 2] 76 Tryz.func410 ?_;repeat' first|refine l9 ?_|simp -dsimp -implicitDefEqProofs (disch:=first|assumption|omega) only[go_sem,h48,hdrop,hgo1,ad4]|refine l7 (hc) ?_|refine l7 (hdg) ?_|refine l7 (hpk) ?_|refine⟨_,_,hpi _,?_⟩|refine l7 (hfl) ?_|refine vcA ?_ ?_|omega|refine aa8 fun _=>?_
     all_goals first|exact aa5 _ (Le.refl _) ah1 ⟨rfl,congrArg _ (pc (by omega))⟩|exact aa5 _ (Le.refl _) ah1 ⟨int_eq (by omega),congrArg _ (pc (by omega))⟩
    ·rw[if_neg v2]
     refine o8 [1000008] [.tmp 2] 76 Tryz.func410 ?_;repeat' first|refine l9 ?_|simp -dsimp -implicitDefEqProofs (disch:=first|assumption|omega) only[go_sem,h48,hdrop,hgo1,ad4]|refine l7 (hc) ?_|refine l7 (hdg) ?_|refine l7 (hpk) ?_|refine⟨_,_,hpi _,?_⟩|refine vcA ?_ ?_|omega|refine aa8 fun _=>?_
     all_goals first|exact aa5 _ (Le.refl _) ah1 ⟨rfl,congrArg _ (pc (by omega))⟩|exact aa5 _ (Le.refl _) ah1 ⟨int_eq (by omega),congrArg _ (pc (by omega))⟩
   ·rw[bO2 v1] at hpi
    rw[if_pos (by omega)]
    refine o8 [1000008] [.tmp 2] 76 Tryz.func410 ?_;repeat' first|refine l9 ?_|simp -dsimp -implicitDefEqProofs (disch:=first|assumption|omega) only[go_sem,h48,hdrop,hgo1,ad4]|refine l7 (hc) ?_|refine l7 (hdg) ?_|refine l7 (hpk) ?_|refine⟨_,_,hpi _,?_⟩|refine l7 (hfl) ?_|refine vcA ?_ ?_|omega
    all_goals first|exact aa5 _ (Le.refl _) ah1 ⟨rfl,congrArg _ (pc (by omega))⟩|exact aa5 _ (Le.refl _) ah1 ⟨int_eq (by omega),congrArg _ (pc (by omega))⟩
 ·have h48: ¬((peek r1).toNat:Int)=48:=fun h=>c48 (bo1.1 (by simpa using (by omega:(peek r1).toNat=48)))
  rw[if_neg c48] at hnum;generalize hd:(r1.takeWhile isDigit).length=d at*;by_cases d0:d=0
  ·subst d0
   cases b with
   |true=>
    have hgo:aC9 true r1=(0,r1,2):=by rw[aC9,if_pos (by exact .inl hnum)]
    rw[hgo];refine o8 [1000008] [.tmp 2] 76 Tryz.func410 ?_;repeat' first|refine l9 ?_|simp -dsimp -implicitDefEqProofs only[go_sem,h48]|refine l7 (hc) ?_|refine l7 (hdg) ?_|refine l7 (hpk) ?_|refine l7 (aj9 (hss hkl)) ?_|fail
    all_goals exact aa5 _ (Le.refl _) ah1 ⟨rfl,rfl⟩
   |false=>
    have hgo:aC9 false r1=(0,r1,2):=by rw[aC9,if_pos (by exact .inl hnum)]
    rw[hgo];refine o8 [1000008] [.tmp 2] 76 Tryz.func410 ?_;repeat' first|refine l9 ?_|simp -dsimp -implicitDefEqProofs only[go_sem,h48]|refine l7 (hc) ?_|refine l7 (hdg) ?_|refine l7 (hpk) ?_|refine l7 (aj9 (hss hkl)) ?_|fail
    all_goals exact aa5 _ (Le.refl _) ah1 ⟨rfl,rfl⟩
  ·cases b with
   |true=>
    have hn:ax0 r1=d:=by exact hnum
    have hcond: ¬(ax0 r1=0\/(true=true/\peek r1=48)):=by rw[hnum];rintro(h|⟨_,h⟩);exact d0 h;exact c48 h
    rw[hn] at hnl hdd hcond;have hgo1:(((t.length - r1.length:Nat):Int)+(d:Int)).toNat - (t.length - r1.length)=d:=by omega
    have hcl:AObj.cells (.one 438) [.str t,.lit (.int .i64 (((t.length - r1.length:Nat):Int)+(d:Int))),.lit (.int .i64 0)]=ad4 t (r1.drop d) 0:=pc (by rw[List.length_drop];omega)
    have hfl:o7 Tryz.prog 348 [.mp k 0,.lit (.int .i64 5)] (H.set k (AObj.cells (.one 438) [.str t,.lit (.int .i64 (((t.length - r1.length:Nat):Int)+(d:Int))),.lit (.int .i64 0)])) (fun x H'=>x=.tup []/\H'=H.set k (ad4 t (r1.drop d) 5)):=by
     rw[hcl];exact(aj9 (hss hkl)).mono fun x H' h=>⟨h.1,by rw[h.2,List.set_set,if_pos rfl]⟩
    have hne:r1.take d≠[]:=by
     intro e;have:=congrArg List.length e;rw[List.length_take,List.length_nil] at this;omega
    have hpi:=fun H=>bk5 (r1.take d) H hne (by rw[List.length_take];omega) hdd
    have hgo:aC9 true r1=if 9007199254740991 < ah5 (r1.take d) then(0,r1.drop d,5) else(-(ah5 (r1.take d):Int),r1.drop d,0):=by rw[aC9,hn,if_neg hcond];rfl
    rw[hgo];by_cases v1:ah5 (r1.take d) < 9223372036854775808
    ·rw[bO1 v1] at hpi
     by_cases v2:9007199254740991 < ah5 (r1.take d)
     ·rw[if_pos v2]
      refine o8 [1000008] [.tmp 2] 76 Tryz.func410 ?_;repeat' first|refine l9 ?_|simp -dsimp -implicitDefEqProofs (disch:=first|assumption|omega) only[go_sem,h48,hdrop,hgo1,ad4]|refine l7 (hc) ?_|refine l7 (hdg) ?_|refine l7 (hpk) ?_|refine⟨_,_,hpi _,?_⟩|refine l7 (hfl) ?_|refine vcA ?_ ?_|omega|refine aa8 fun _=>?_
      all_goals first|exact aa5 _ (Le.refl _) ah1 ⟨rfl,congrArg _ (pc (by omega))⟩|exact aa5 _ (Le.refl _) ah1 ⟨int_eq (by omega),congrArg _ (pc (by omega))⟩
     ·rw[if_neg v2]
      refine o8 [1000008] [.tmp 2] 76 Tryz.func410 ?_;repeat' first|refine l9 ?_|simp -dsimp -implicitDefEqProofs (disch:=first|assumption|omega) only[go_sem,h48,hdrop,hgo1,ad4]|refine l7 (hc) ?_|refine l7 (hdg) ?_|refine l7 (hpk) ?_|refine⟨_,_,hpi _,?_⟩|refine vcA ?_ ?_|omega|refine aa8 fun _=>?_
      all_goals first|exact aa5 _ (Le.refl _) ah1 ⟨rfl,congrArg _ (pc (by omega))⟩|exact aa5 _ (Le.refl _) ah1 ⟨int_eq (by omega),congrArg _ (pc (by omega))⟩
    ·rw[bO2 v1] at hpi
     rw[if_pos (by omega)]
     refine o8 [1000008] [.tmp 2] 76 Tryz.func410 ?_;repeat' first|refine l9 ?_|simp -dsimp -implicitDefEqProofs (disch:=first|assumption|omega) only[go_sem,h48,hdrop,hgo1,ad4]|refine l7 (hc) ?_|refine l7 (hdg) ?_|refine l7 (hpk) ?_|refine⟨_,_,hpi _,?_⟩|refine l7 (hfl) ?_|refine vcA ?_ ?_|omega|refine aa8 fun _=>?_
     all_goals first|exact aa5 _ (Le.refl _) ah1 ⟨rfl,congrArg _ (pc (by omega))⟩|exact aa5 _ (Le.refl _) ah1 ⟨int_eq (by omega),congrArg _ (pc (by omega))⟩
   |false=>
    have hn:ax0 r1=d:=by exact hnum
    have hcond: ¬(ax0 r1=0\/(false=true/\peek r1=48)):=by rw[hnum];rintro(h|⟨_,h⟩);exact d0 h;exact c48 h
    rw[hn] at hnl hdd hcond;have hgo1:(((t.length - r1.length:Nat):Int)+(d:Int)).toNat - (t.length - r1.length)=d:=by omega
    have hcl:AObj.cells (.one 438) [.str t,.lit (.int .i64 (((t.length - r1.length:Nat):Int)+(d:Int))),.lit (.int .i64 0)]=ad4 t (r1.drop d) 0:=pc (by rw[List.length_drop];omega)
    have hfl:o7 Tryz.prog 348 [.mp k 0,.lit (.int .i64 5)] (H.set k (AObj.cells (.one 438) [.str t,.lit (.int .i64 (((t.length - r1.length:Nat):Int)+(d:Int))),.lit (.int .i64 0)])) (fun x H'=>x=.tup []/\H'=H.set k (ad4 t (r1.drop d) 5)):=by
     rw[hcl];exact(aj9 (hss hkl)).mono fun x H' h=>⟨h.1,by rw[h.2,List.set_set,if_pos rfl]⟩
    have hne:r1.take d≠[]:=by
     intro e;have:=congrArg List.length e;rw[List.length_take,List.length_nil] at this;omega
    have hpi:=fun H=>bk5 (r1.take d) H hne (by rw[List.length_take];omega) hdd
    have hgo:aC9 false r1=if 9007199254740991 < ah5 (r1.take d) then(0,r1.drop d,5) else((ah5 (r1.take d):Int),r1.drop d,0):=by rw[aC9,hn,if_neg hcond];rfl
    rw[hgo];by_cases v1:ah5 (r1.take d) < 9223372036854775808
    ·rw[bO1 v1] at hpi
     by_cases v2:9007199254740991 < ah5 (r1.take d)
     ·rw[if_pos v2]
      refine o8 [1000008] [.tmp 2] 76 Tryz.func410 ?_;repeat' first|refine l9 ?_|simp -dsimp -implicitDefEqProofs (disch:=first|assumption|omega) only[go_sem,h48,hdrop,hgo1,ad4]|refine l7 (hc) ?_|refine l7 (hdg) ?_|refine l7 (hpk) ?_|refine⟨_,_,hpi _,?_⟩|refine l7 (hfl) ?_|refine vcA ?_ ?_|omega|refine aa8 fun _=>?_
      all_goals first|exact aa5 _ (Le.refl _) ah1 ⟨rfl,congrArg _ (pc (by omega))⟩|exact aa5 _ (Le.refl _) ah1 ⟨int_eq (by omega),congrArg _ (pc (by omega))⟩
     ·rw[if_neg v2]
      refine o8 [1000008] [.tmp 2] 76 Tryz.func410 ?_;repeat' first|refine l9 ?_|simp -dsimp -implicitDefEqProofs (disch:=first|assumption|omega) only[go_sem,h48,hdrop,hgo1,ad4]|refine l7 (hc) ?_|refine l7 (hdg) ?_|refine l7 (hpk) ?_|refine⟨_,_,hpi _,?_⟩|refine vcA ?_ ?_|omega|refine aa8 fun _=>?_
      all_goals first|exact aa5 _ (Le.refl _) ah1 ⟨rfl,congrArg _ (pc (by omega))⟩|exact aa5 _ (Le.refl _) ah1 ⟨int_eq (by omega),congrArg _ (pc (by omega))⟩
    ·rw[bO2 v1] at hpi
     rw[if_pos (by omega)]
     refine o8 [1000008] [.tmp 2] 76 Tryz.func410 ?_;repeat' first|refine l9 ?_|simp -dsimp -implicitDefEqProofs (disch:=first|assumption|omega) only[go_sem,h48,hdrop,hgo1,ad4]|refine l7 (hc) ?_|refine l7 (hdg) ?_|refine l7 (hpk) ?_|refine⟨_,_,hpi _,?_⟩|refine l7 (hfl) ?_|refine vcA ?_ ?_|omega|refine aa8 fun _=>?_
     all_goals first|exact aa5 _ (Le.refl _) ah1 ⟨rfl,congrArg _ (pc (by omega))⟩|exact aa5 _ (Le.refl _) ah1 ⟨int_eq (by omega),congrArg _ (pc (by omega))⟩
end
section
open Go V
theorem bv2{r t:bytes}(h:r <:+t):(ag0 r).2.1 <:+t:=(cR3 r).1.trans h
theorem cq4(v:JV)(r:bytes):aw5 v r=(match ae8 [58] (blanks (ag0 (blanks r)).2.1) with
  |none=>((ag0 (blanks r)).1,blanks (ag0 (blanks r)).2.1,if(if(aR3 v (ag0 (blanks r)).1).isSome/\(ag0 (blanks r)).2.2=0 then 6 else(ag0 (blanks r)).2.2)=0 then 2 else(if(aR3 v (ag0 (blanks r)).1).isSome/\(ag0 (blanks r)).2.2=0 then 6 else(ag0 (blanks r)).2.2))
  |some r4=>((ag0 (blanks r)).1,r4,if(aR3 v (ag0 (blanks r)).1).isSome/\(ag0 (blanks r)).2.2=0 then 6 else(ag0 (blanks r)).2.2)):=rfl
theorem aX8{v:JV}{r t:bytes}(h:r <:+t):(aw5 v r).2.1 <:+t:=by
 have h1:=ai0 (bv2 (ai0 h));rw[cq4];cases e:ae8 [58] (blanks (ag0 (blanks r)).2.1) with
 |none=>exact h1
 |some r4=>exact aq4 h1 e
theorem d87{k:Nat}{t r:bytes}{H:List AObj}(v:JV)(hv1:v.names.length<=100000)(hv2:v.items.length<=100000)(hk:H[k]?=some (ad4 t r 0))(hs:r <:+t)(hl:t.length<=10000):
  o7 Tryz.prog 440 [.mp k 0,jAV v] H (fun x H'=>x=.str (aw5 v r).1/\H'=H.set k (ad4 t (aw5 v r).2.1 (aw5 v r).2.2)):=by
 have hkl:=aa0 hk;have hs1:=ai0 hs;have hs2:=bv2 hs1;have hs3:=ai0 hs2;have hb1:=ad8 hk hs hl;have hq:=cm0 (r:=blanks r) (t:=t) (H:=H.set k (ad4 t (blanks r) 0)) (hss hkl) hs1 hl;rw[cq4];generalize ag0 (blanks r)=q at*;obtain⟨s,r2,e⟩:=q;dsimp only at hs2 hs3 hq⊢;cases hj:aR3 v s with
 |none=>
  have hg:a81 v s=.tup [jAV aa9,.bool false]:=by rw[a81,hj];rfl
  cases hsk:ae8 [58] (blanks r2) with
  |none=>
   refine o8 [] [.tmp 4] 42 Tryz.func440 ?_;repeat' first|refine l9 ?_|simp -dsimp -implicitDefEqProofs only[go_sem,aa6 hkl,ak1 hkl,ai6,ak8,hg,hsk]|refine l7 (hb1) ?_|refine l7 (hq) ?_|refine l7 (by4 v s _ hv1 hv2) ?_|refine l7 (ad8 (aa6 hkl) hs2 hl) ?_|refine l7 (ac2 (w:=[58]) (aa6 hkl) hs3 hl (by decide)) ?_|refine l7 (aj9 (aa6 hkl)) ?_|fail
   all_goals first|exact ae5 (.str _) rfl ag1 ⟨rfl,by simp[hj]⟩
  |some r4=>
   refine o8 [] [.tmp 4] 42 Tryz.func440 ?_;repeat' first|refine l9 ?_|simp -dsimp -implicitDefEqProofs only[go_sem,aa6 hkl,ak1 hkl,ai6,ak8,hg,hsk]|refine l7 (hb1) ?_|refine l7 (hq) ?_|refine l7 (by4 v s _ hv1 hv2) ?_|refine l7 (ad8 (aa6 hkl) hs2 hl) ?_|refine l7 (ac2 (w:=[58]) (aa6 hkl) hs3 hl (by decide)) ?_|fail
   all_goals first|exact ae5 (.str _) rfl ag1 ⟨rfl,by simp[hj]⟩
 |some y=>
  have hg:a81 v s=.tup [jAV y,.bool true]:=by rw[a81,hj];rfl
  by_cases he:e=0
  ·subst he
   cases hsk:ae8 [58] (blanks r2) with
   |none=>
    refine o8 [] [.tmp 4] 42 Tryz.func440 ?_;repeat' first|refine l9 ?_|simp -dsimp -implicitDefEqProofs only[go_sem,aa6 hkl,ak1 hkl,ai6,ak8,hg,hsk]|refine l7 (hb1) ?_|refine l7 (hq) ?_|refine l7 (by4 v s _ hv1 hv2) ?_|refine l7 (ad8 (aa6 hkl) hs2 hl) ?_|refine l7 (ac2 (w:=[58]) (aa6 hkl) hs3 hl (by decide)) ?_|refine l7 (aj9 (aa6 hkl)) ?_|refine vcA ?_ ?_
    all_goals first|exact ae5 (.str _) rfl ag1 ⟨rfl,by simp[hj]⟩
   |some r4=>
    refine o8 [] [.tmp 4] 42 Tryz.func440 ?_;repeat' first|refine l9 ?_|simp -dsimp -implicitDefEqProofs only[go_sem,aa6 hkl,ak1 hkl,ai6,ak8,hg,hsk]|refine l7 (hb1) ?_|refine l7 (hq) ?_|refine l7 (by4 v s _ hv1 hv2) ?_|refine l7 (ad8 (aa6 hkl) hs2 hl) ?_|refine l7 (ac2 (w:=[58]) (aa6 hkl) hs3 hl (by decide)) ?_|refine l7 (aj9 (aa6 hkl)) ?_|refine vcA ?_ ?_
    all_goals first|exact ae5 (.str _) rfl ag1 ⟨rfl,by simp[hj]⟩
  ·skip
   cases hsk:ae8 [58] (blanks r2) with
   |none=>
    refine o8 [] [.tmp 4] 42 Tryz.func440 ?_;repeat' first|refine l9 ?_|simp -dsimp -implicitDefEqProofs only[go_sem,aa6 hkl,ak1 hkl,ai6,ak8,hg,hsk,he]|refine l7 (hb1) ?_|refine l7 (hq) ?_|refine l7 (by4 v s _ hv1 hv2) ?_|refine l7 (ad8 (aa6 hkl) hs2 hl) ?_|refine l7 (ac2 (w:=[58]) (aa6 hkl) hs3 hl (by decide)) ?_|refine l7 (aj9 (aa6 hkl)) ?_|refine vcA ?_ ?_
    all_goals first|exact ae5 (.str _) rfl ag1 ⟨rfl,by simp[hj,he]⟩
   |some r4=>
    refine o8 [] [.tmp 4] 42 Tryz.func440 ?_;repeat' first|refine l9 ?_|simp -dsimp -implicitDefEqProofs only[go_sem,aa6 hkl,ak1 hkl,ai6,ak8,hg,hsk,he]|refine l7 (hb1) ?_|refine l7 (hq) ?_|refine l7 (by4 v s _ hv1 hv2) ?_|refine l7 (ad8 (aa6 hkl) hs2 hl) ?_|refine l7 (ac2 (w:=[58]) (aa6 hkl) hs3 hl (by decide)) ?_|refine vcA ?_ ?_
    all_goals first|exact ae5 (.str _) rfl ag1 ⟨rfl,by simp[hj,he]⟩
end
section
open Go V
theorem cM0{xs:List AV}{H:List AObj}(hu: ∀y∈xs,y.flat.length=1/\y.okv=true)(hne:xs≠[])(hl:xs.length<=100000):o7 Tryz.prog 235 [.sl .sh 1 xs] H (fun y H'=>y=.mrow H.length xs.length/\H'=H++[.cells (.prow 1) (aa2 xs)]):=by
 have hpos:=aD7.2 hne;refine o8 [7] [.tmp 2] 8 Tryz.func235 ?_;repeat' first|refine l9 ?_|simp -dsimp -implicitDefEqProofs (disch:=omega) only[go_sem,hne]|refine vcA ?_ ?_|omega
 exact aq9 ⟨rfl,rfl⟩
theorem dH8{H:List AObj}:o7 Tryz.prog 235 [.sl .sh 1 []] H (fun y H'=>y=.sl (.tok H.length) 1 []/\H'=H++[.grow 1 0 none]):=by
 refine o8 [] [.tmp 2] 8 Tryz.func235 ?_;repeat' simp -dsimp -implicitDefEqProofs only[go_sem]
 intro b;cases b
 all_goals
  repeat' first|refine l9 ?_|simp -dsimp -implicitDefEqProofs (disch:=omega) only[go_sem]
  first
   |exact aq9 ⟨rfl,rfl⟩
   |exact bx8 (by decide) (aq9 ⟨rfl,rfl⟩)
theorem dl5{k:Nat}{x:AV}{H:List AObj}(hk:H[k]?=some (.grow 1 0 none))(hx:x.flat.length=1/\x.okv=true):o7 Tryz.prog 237 [.sl (.tok k) 1 [],.lit (.int .i64 0),.sl .full 1 [x]] H (fun y H'=>y=.sl (.tok k) 1 [x]/\H'=H.set k (.grow 1 1 none)):=by
 refine o8 [1000011,1000015] [.tmp 6] 95 Tryz.func237 ?_;repeat' first|refine l9 ?_|simp -dsimp -implicitDefEqProofs (disch:=first|omega|simp only[ll];omega) only[go_sem,hk]
 exact aa5 _ (Le.refl _) (by simp) ⟨rfl,rfl⟩
theorem cM1{xs:List AV}{H:List AObj}(hu: ∀y∈xs,y.flat.length=5/\y.okv=true)(hne:xs≠[])(hl:xs.length<=100000):o7 Tryz.prog 236 [.sl .sh 5 xs] H (fun y H'=>y=.mrow H.length xs.length/\H'=H++[.cells (.prow 5) (aa2 xs)]):=by
 have hpos:=aD7.2 hne;refine o8 [7] [.tmp 2] 8 Tryz.func236 ?_;repeat' first|refine l9 ?_|simp -dsimp -implicitDefEqProofs (disch:=omega) only[go_sem,hne]|refine vcA ?_ ?_|omega
 exact aq9 ⟨rfl,rfl⟩
theorem dH9{H:List AObj}:o7 Tryz.prog 236 [.sl .sh 5 []] H (fun y H'=>y=.sl (.tok H.length) 5 []/\H'=H++[.grow 5 0 none]):=by
 refine o8 [] [.tmp 2] 8 Tryz.func236 ?_;repeat' simp -dsimp -implicitDefEqProofs only[go_sem]
 intro b;cases b
 all_goals
  repeat' first|refine l9 ?_|simp -dsimp -implicitDefEqProofs (disch:=omega) only[go_sem]
  first
   |exact aq9 ⟨rfl,rfl⟩
   |exact bx8 (by decide) (aq9 ⟨rfl,rfl⟩)
theorem dl6{k:Nat}{x:AV}{H:List AObj}(hk:H[k]?=some (.grow 5 0 none))(hx:x.flat.length=5/\x.okv=true):o7 Tryz.prog 238 [.sl (.tok k) 5 [],.lit (.int .i64 0),.sl .full 5 [x]] H (fun y H'=>y=.sl (.tok k) 5 [x]/\H'=H.set k (.grow 5 1 none)):=by
 refine o8 [1000011,1000015] [.tmp 6] 95 Tryz.func238 ?_;repeat' first|refine l9 ?_|simp -dsimp -implicitDefEqProofs (disch:=first|omega|simp only[ll];omega) only[go_sem,hk]
 exact aa5 _ (Le.refl _) (by simp) ⟨rfl,rfl⟩
theorem cf0{ns:List bytes}: ∀y∈ns.map AV.str,y.flat.length=1/\y.okv=true:=fun y hy=>by
 obtain⟨s,_,rfl⟩:=xq9.1 hy;exact⟨rfl,rfl⟩
theorem cg3{v:JV}:(jAV v).flat.length=5:=by rw[ba9];rfl
theorem bI2{is:List JV}: ∀y∈is.map jAV,y.flat.length=5/\y.okv=true:=fun y hy=>by
 obtain⟨s,_,rfl⟩:=xq9.1 hy;exact⟨cg3,cf8⟩
theorem cu7{H:List AObj}{sh:Shape}{m k s n:Nat}{cs xs:List AV}(hk:m<=k)(ho:H[k]?=some (.cells sh cs))(hx:xs.length=n)(hu: ∀x∈xs,x.flat.length=s/\x.okv=true)(hlow: ∀y∈aa2 xs,Low m y)(h:cs=aa2 xs):Frz m H (.mrow k n) (.sl .sh s xs):=by
 subst h;refine .row k n s sh _ xs hk ho hx hu (xq0 _) fun j c y e1 e2=>?_
 rw[e1] at e2;cases e2
 exact .low _ (hlow _ (ar7.2 ⟨j,e1⟩))
theorem cC5{m:Nat}{ns:List bytes}: ∀y∈aa2 (ns.map AV.str),Low m y:=fun y hy=>by
 rw[aO0] at hy;obtain⟨s,_,rfl⟩:=xq9.1 hy;exact .str _
theorem cC6{m:Nat}{is:List JV}: ∀y∈aa2 (is.map jAV),Low m y:=fun y hy=>by
 have:=ae4 (m:=m) (l:=is);cases this with
 |sl _ _ _ _ h=>exact h y hy
theorem dg5{xs:List AV}{x:AV}{s i:Nat}(hu: ∀y∈xs,y.flat.length=s)(hx:x.flat.length=s)(hi:i < xs.length):af4 (aa2 xs) (i*s) x.flat=aa2 (xs.set i x):=by
 have hA:(aa2 (xs.take i)).length=i*s:=by rw[af5 (s:=s) fun y hy=>hu y (bg0 hy),List.length_take,bL6 (by omega)]
 have hxi:xs[i].flat.length=s:=hu _ (aT3 hi);have e1:aa2 xs=aa2 (xs.take i)++xs[i].flat++aa2 (xs.drop (i+1)):=by
  conv=>lhs;rw[<-bt9 i xs,aL3 hi]
  rw[ak4,ag6,List.append_assoc]
 have e2:aa2 (xs.set i x)=aa2 (xs.take i)++x.flat++aa2 (xs.drop (i+1)):=by
  rw[List.set_eq_take_append_cons_drop,if_pos hi,ak4,ag6,List.append_assoc]
 rw[e1,e2,bj8 hA.symm (by rw[hxi,hx])]
def bW6(v:JV):Prop:=v.names.length=v.items.length/\srt v.names=true/\v.names.length<=20000
theorem bw4{v x:JV}{s:bytes}(h:v.names[pos v.names s]?≠some s):bp0 v s x=.mk v.kind v.num v.text (v.names.insertIdx (pos v.names s) s) (v.items.insertIdx (pos v.names s) x):=if_neg h
theorem bN8{v x:JV}{s:bytes}(h:v.names[pos v.names s]?=some s):bp0 v s x=.mk v.kind v.num v.text v.names (v.items.set (pos v.names s) x):=if_pos h
theorem aH0{α β:Type}{f:α->β}: ∀{l:List α} {i:Nat} {x:α},(l.map f).insertIdx i (f x)=(l.insertIdx i x).map f
 |[],0,x=>rfl
 |[],i+1,x=>rfl
 |a::l,0,x=>rfl
 |a::l,i+1,x=>by
  rw[List.map_cons,bt8,bt8,List.map_cons,aH0]
theorem dJ1(v:JV)(s:bytes)(x:JV)(H:List AObj)(hv:bW6 v):o7 Tryz.prog 150 [jAV v,.str s,jAV x] H (fun y H'=>y=jAV (bp0 v s x)/\H'=H):=by
 obtain⟨hv1,hv2,hv3⟩:=hv;have hpl:=bi2 v.names s;by_cases hnil:v.names=[]
 ·have hit:v.items=[]:=aB0 (by rw[<-hv1,hnil];rfl)
  rw[bw4 (by rw[hnil];simp),hnil,hit]
  refine o8 [3,1000002,1000002004002,1000006,1000006007005,1000006009005,1000006010005] [.cell 6 35] 46 Tryz.func150 ?_;repeat' first|refine l9 ?_|simp -dsimp -implicitDefEqProofs (disch:=first|omega|simp only[ll];omega) only[go_sem,hnil,hit,aa6,hg0,hg1,hg2]|refine l7 (bQ2 [] s _ (by simp) rfl) ?_|refine⟨_,_,dH8,?_⟩|refine⟨_,_,dH9,?_⟩|refine⟨_,_,dl5 (x:=.str s) (by simp;done) ⟨rfl,rfl⟩,?_⟩|refine⟨_,_,dl6 (x:=jAV x) (by simp;done) ⟨cg3,cf8⟩,?_⟩|refine vcA ?_ ?_|refine aa8 fun _=>?_
  ·rename_i h
   simp at h
  ·refine aa1 (jAV (.mk v.kind v.num v.text [s] [x])) (bc8 as4 as4) (ab1 _) ⟨?_,rfl⟩
   have:pos [] s=0:=rfl;rw[this];rfl
 ·have hit:v.items≠[]:=fun e=>hnil (aB0 (by rw[hv1,e];rfl))
  have hns:v.names.map AV.str≠[]:=by simpa using hnil
  have hns2:v.items.map jAV≠[]:=by simpa using hit
  by_cases hf:v.names[pos v.names s]?=some s
  ·have hlt:=aa0 hf
   rw[bN8 hf];have hsr:=fun H=>bQ2 (o:=.sh) v.names s H (by omega) hv2
   rw[decide_eq_true hf] at hsr;have hps:pos v.names s*5+5<=(aa2 (v.items.map jAV)).length:=by
    rw[af5 (s:=5) fun y hy=>(bI2 y hy).1,List.length_map]
    omega
   refine o8 [3,1000002,1000002004002,1000006,1000006007005,1000006009005,1000006010005] [.cell 6 35] 46 Tryz.func150 ?_;repeat' first|refine l9 ?_|simp -dsimp -implicitDefEqProofs (disch:=first|omega|simp only[ll];omega) only[go_sem,aa6,hg0,hg1,hg2,hps]|refine l7 (hsr _) ?_|refine⟨_,_,cM0 cf0 hns (by simp;omega),?_⟩|refine⟨_,_,cM1 bI2 hns2 (by simp;omega),?_⟩|refine vcA ?_ ?_|omega
   have hset:af4 (aa2 (v.items.map jAV)) (pos v.names s*5) (jAV x).flat=aa2 ((v.items.set (pos v.names s) x).map jAV):=by
    rw[dg5 (fun y hy=>(bI2 y hy).1) cg3 (by rw[List.length_map];omega),bz6]
   rw[ba9] at hset;simp only[af4] at hset;rw[az6];refine cw1 _ (Frz.agg _ [.lit (.int .i64 v.kind),.lit (.int .i64 v.num),.str v.text,.sl .sh 1 (v.names.map .str),.sl .sh 5 ((v.items.set (pos v.names s) x).map jAV)] rfl fun j c d e1 e2=>?_) ⟨rfl,rfl⟩
   ·match j,e1,e2 with
    |0,e1,e2=>simp at e1 e2;subst e1;subst e2;exact .low _ (.lit _)
    |1,e1,e2=>simp at e1 e2;subst e1;subst e2;exact .low _ (.lit _)
    |2,e1,e2=>simp at e1 e2;subst e1;subst e2;exact .low _ (.str _)
    |3,e1,e2=>
     simp at e1 e2;subst e1;subst e2
     exact cu7 (cs:=v.names.map AV.str) (by omega) (by simp;rfl) (by simp) cf0 cC5 (aO0 ..).symm
    |4,e1,e2=>
     simp only[List.getElem?_cons_succ,List.getElem?_cons_zero,Option.some.injEq] at e1 e2;subst e1;subst e2;exact cu7 (sh:=.prow 5) (by omega) (by rw[xq5 (by omega),au2];rfl) (by simp) bI2 cC6 hset
  ·rw[bw4 hf]
   have hsr:=fun H=>bQ2 (o:=.sh) v.names s H (by omega) hv2
   rw[decide_eq_false hf] at hsr;refine o8 [3,1000002,1000002004002,1000006,1000006007005,1000006009005,1000006010005] [.cell 6 35] 46 Tryz.func150 ?_;have hlowS: ∀m,Low m (.sl .sh 1 ((v.names.map AV.str).insertIdx (pos v.names s) (.str s))):=fun m=>by rw[aH0];exact ae7
   have hlowJ: ∀m,Low m (.sl .sh 5 ((v.items.map jAV).insertIdx (pos v.names s) (jAV x))):=fun m=>by rw[aH0];exact ae4
   have cS:=fun k H hk=>dG4 (k:=k) (n:=v.names.length) (i:=pos v.names s) (x:=.str s) (xs:=v.names.map .str) (H:=H) hk (by simp) cf0 ⟨rfl,rfl⟩ hpl (by omega) hlowS
   have cJ:=fun k H hk=>dG5 (k:=k) (n:=v.items.length) (i:=pos v.names s) (x:=jAV x) (xs:=v.items.map jAV) (H:=H) hk (by simp) bI2 ⟨cg3,cf8⟩ (by omega) (by omega) hlowJ
   rw[aO0] at cS;repeat' first|refine l9 ?_|simp -dsimp -implicitDefEqProofs (disch:=first|omega|simp only[ll];omega) only[go_sem,aa6,hg0,hg1,hg2]|refine l7 (hsr _) ?_|refine⟨_,_,cM0 cf0 hns (by simp;omega),?_⟩|refine⟨_,_,cM1 bI2 hns2 (by simp;omega),?_⟩|refine⟨_,_,cS _ _ (by simp;done),?_⟩|refine⟨_,_,cJ _ _ (by simp;done),?_⟩|fail
   rw[aH0,aH0];exact aa1 (jAV (.mk v.kind v.num v.text _ _)) (bc8 (Le.refl _) (Le.refl _)) (ab1 _) ⟨rfl,rfl⟩
end
section
open Go V
theorem aP6{k k':JV->bytes->JV×bytes×Int}{e:UInt8}{v:JV}{r:bytes}{err:Int}(h: ∀r4,r4.length < r.length->k v r4=k' v r4):ar0 k e v r err=ar0 k' e v r err:=by
 unfold ar0;split
 ·rfl
 ·cases ae8 [e] (blanks r) with
  |some r4=>rfl
  |none=>
   cases hs:ae8 [44] (blanks r) with
   |none=>rfl
   |some r4=>
    have h1:=bh0 hs;have h2:=(ai0 (aJ1 r)).length_le;simp only[List.length_cons,List.length_nil] at h1;exact h r4 (by omega)
theorem a08{f:bytes->JV×bytes×Int}{e:UInt8}(hf: ∀r,(f r).2.1 <:+r): ∀(n m:Nat) (v:JV) (r:bytes),r.length < n->r.length < m->aL5 f e n v r=aL5 f e m v r
 |0,_,_,_,h,_=>by omega
 |_+1,0,_,_,_,h=>by omega
 |n+1,m+1,v,r,h1,h2=>by
  unfold aL5;have hn:=(aX8 (v:=v) (aJ1 r)).length_le;have hg:=(hf (aw5 v r).2.1).length_le;have hg2:=(hf r).length_le;split
  ·split
   ·rfl
   ·exact aP6 fun r4 h=>a08 hf n m _ _ (by omega) (by omega)
  ·exact aP6 fun r4 h=>a08 hf n m _ _ (by omega) (by omega)
def aK3(f:bytes->JV×bytes×Int)(e:UInt8)(v:JV)(r:bytes):JV×bytes×Int:=aL5 f e (r.length+1) v r
theorem cj0{f:bytes->JV×bytes×Int}{e:UInt8}(hf: ∀r,(f r).2.1 <:+r)(v:JV)(r:bytes):aK3 f e v r=
  if v.kind=6 then
   if(aw5 v r).2.2≠0 then(aa9,(aw5 v r).2.1,(aw5 v r).2.2)
   else ar0 (aK3 f e) e (bp0 v (aw5 v r).1 (f (aw5 v r).2.1).1) (f (aw5 v r).2.1).2.1 (f (aw5 v r).2.1).2.2
  else ar0 (aK3 f e) e (ef1 v (f r).1) (f r).2.1 (f r).2.2:=by
 have hn:=(aX8 (v:=v) (aJ1 r)).length_le;have hg:=(hf (aw5 v r).2.1).length_le;have hg2:=(hf r).length_le;rw[aK3,aL5];split
 ·split
  ·rfl
  ·exact aP6 fun r4 h=>a08 hf _ _ _ _ (by omega) (by omega)
 ·exact aP6 fun r4 h=>a08 hf _ _ _ _ (by omega) (by omega)
theorem bT1{f:bytes->JV×bytes×Int}{e:UInt8}(hf: ∀r,(f r).2.1 <:+r): ∀(n:Nat) (v:JV) (r:bytes),(aL5 f e n v r).2.1 <:+r
 |0,_,r=>aJ1 r
 |n+1,v,r=>by
  have hE: ∀(v':JV) (r2:bytes) (err:Int),r2 <:+r->(ar0 (aL5 f e n) e v' r2 err).2.1 <:+r:=fun v' r2 err h=>by
   unfold ar0;split
   ·exact ai0 h
   ·cases hs:ae8 [e] (blanks r2) with
    |some r4=>exact aq4 (ai0 h) hs
    |none=>
     cases hs2:ae8 [44] (blanks r2) with
     |none=>exact ai0 h
     |some r4=>exact(bT1 hf n v' r4).trans (aq4 (ai0 h) hs2)
  unfold aL5;split
  ·split
   ·exact aX8 (aJ1 r)
   ·exact hE _ _ _ ((hf _).trans (aX8 (aJ1 r)))
  ·exact hE _ _ _ (hf r)
theorem b75{f:bytes->JV×bytes×Int}{e:UInt8}(hf: ∀r,(f r).2.1 <:+r){v:JV}{r t:bytes}(h:r <:+t):(an3 f e v r).2.1 <:+t:=by
 unfold an3;cases hs:ae8 [e] (blanks r) with
 |some r2=>exact aq4 (ai0 h) hs
 |none=>exact(bT1 hf _ _ _).trans (ai0 h)
theorem ck0{r t:bytes}{x:JV×bytes×Int}(h:r <:+t)(e:aD2 r=some x):x.2.1 <:+t:=by
 unfold aD2 at e;split at e
 ·rename_i hs;cases e;exact aq4 h hs
 ·split at e
  ·rename_i hs;cases e;exact aq4 h hs
  ·split at e
   ·rename_i hs;cases e;exact aq4 h hs
   ·split at e
    ·cases e;exact bv2 h
    ·split at e
     ·cases e;exact dM2 h
     ·split at e
      ·cases e;exact h
      ·cases e
theorem bk9: ∀(n:Nat) (r:bytes),(al9 n r).2.1 <:+r
 |0,r=>by
  unfold al9;have h:=ai0 (aJ1 r);cases e:aD2 (blanks r) with
  |none=>exact h
  |some x=>exact ck0 h e
 |n+1,r=>by
  unfold al9;have h:=ai0 (aJ1 r);cases e:aD2 (blanks r) with
  |some x=>exact ck0 h e
  |none=>
   rw[Option.getD_none];split
   ·exact b75 (bk9 n) (as2 h 1)
   ·exact b75 (bk9 n) (as2 h 1)
theorem ai4{H₀ H:List AObj}{R:AV->List AObj->Prop}{x y:AV}(h:Le x y)(hr:Done H₀ R y H):Done H₀ R x H:=by
 unfold Done at hr⊢;obtain⟨z,H',he,hR⟩:=hr;exact⟨z,H',fun G₀ w₀ G w v h0 hi hs r=>he G₀ w₀ G w v h0 hi hs (h _ _ _ _ r),hR⟩
structure TS where
 r:bytes
 v:JV
 e:Int
abbrev au7(v:JV):List AV:=[.lit (.int .i64 v.kind),.lit (.int .i64 v.num),.str v.text,.sl .sh 1 (v.names.map .str),.sl .sh 5 (v.items.map jAV)]
abbrev aw7:List AV:=[.lit (.int .i64 0),.lit (.int .i64 0),.str [],.sl .full 0 [],.sl .full 0 []]
theorem le_zero:Le (.agg aw7) (jAV aa9):=bc8 (ns:=[]) (is:=[]) ab7 ab7
theorem d58{v x:JV}{s:bytes}(h:bW6 v)(hn:v.names.length < 20000):bW6 (bp0 v s x)/\(bp0 v s x).names.length<=v.names.length+1/\(bp0 v s x).kind=v.kind:=by
 obtain⟨h1,h2,h3⟩:=h;have hp:=bi2 v.names s;by_cases hf:v.names[pos v.names s]?=some s
 ·rw[bN8 hf]
  exact⟨⟨by simp[JV.names,JV.items] at h1⊢;exact h1,h2,h3⟩,by show v.names.length<=_;omega,rfl⟩
 ·rw[bw4 hf]
  have hl:(v.names.insertIdx (pos v.names s) s).length=v.names.length+1:=bz4 hp _;have hl2:(v.items.insertIdx (pos v.names s) x).length=v.items.length+1:=bz4 (by omega) _
  exact⟨⟨by show (v.names.insertIdx _ _).length=(v.items.insertIdx _ _).length;omega,bT9 h2 hf,by show (v.names.insertIdx _ _).length<=_;omega⟩,by show (v.names.insertIdx _ _).length<=_;omega,rfl⟩
def bP9(f:bytes->JV×bytes×Int)(t:bytes)(w:Int):Prop:= ∀(k:Nat) (r:bytes) (H:List AObj),H[k]?=some (ad4 t r 0)->r <:+t->
 o7 Tryz.prog 346 [.mp k 0,.lit (.int .i64 w)] H (fun x H'=>x=jAV (f r).1/\H'=H.set k (ad4 t (f r).2.1 (f r).2.2))
def dI8(t:bytes)(H:List AObj)(k:Nat)(y:TS):List AObj:=H.set k (ad4 t y.r y.e)++[.cells (.one 35) (au7 y.v),.cells (.one 35) aw7]
theorem d33{f:bytes->JV×bytes×Int}{k:Nat}{t r:bytes}{H:List AObj}{w:Int}(hw:0<=w/\w<=100)(hk:H[k]?=some (ad4 t r 0))(hs:r <:+t)(hl:t.length<=10000)(hf: ∀r,(f r).2.1 <:+r)(hval:bP9 f t (w+1)):
  o7 Tryz.prog 411 [.mp k 0,jAV as6,.str [125],.lit (.int .i64 w)] H (fun x H'=>x=jAV (an3 f 125 as6 r).1/\H'=H.set k (ad4 t (an3 f 125 as6 r).2.1 (an3 f 125 as6 r).2.2)):=by
 have hkl:=aa0 hk;have hs1:=ai0 hs;have hrl:=ay6 hs1;cases hsk:ae8 [125] (blanks r) with
 |some r2=>
  have htp:an3 f 125 as6 r=(as6,r2,0):=by rw[an3,hsk]
  rw[htp];refine o8 [5,1000008,1000008000005,1000009,1000009001005] [.cell 8 35] 78 Tryz.func411 ?_;repeat' first|refine l9 ?_|simp -dsimp -implicitDefEqProofs (disch:=(simp only[ll];omega)) only[go_sem,aa6 hkl,ak1 hkl,ai6,ak8,aE3,aJ5,af7 hkl,aq2 hkl,hsk]|refine l7 (ad8 (by rw[af7 hkl];exact hk) hs hl) ?_|refine l7 (ac2 (w:=[125]) (aa6 hkl) hs1 hl (by decide)) ?_|fail
  exact ae5 (ab1 _) rfl ag1 ⟨rfl,rfl⟩
 |none=>
  have htp:an3 f 125 as6 r=aK3 f 125 as6 (blanks r):=by rw[an3,hsk];rfl
  rw[htp];generalize hq:aK3 f 125 as6 (blanks r)=q;have hb1:0+(blanks r).length<=t.length+1:=by omega
  have hb2:0+(blanks r).length<=t.length:=by omega
  refine o8 [5,1000008,1000008000005,1000009,1000009001005] [.cell 8 35] 78 Tryz.func411 ?_;repeat' first|refine l9 ?_|simp -dsimp -implicitDefEqProofs only[go_sem,aa6 hkl,ak1 hkl,ai6,ak8,aE3,aJ5,af7 hkl,aq2 hkl,hsk]|refine l7 (ad8 (by rw[af7 hkl];exact hk) hs hl) ?_|refine l7 (ac2 (w:=[125]) (aa6 hkl) hs1 hl (by decide)) ?_|fail
  refine aa7 ab6 mixed [5,1000008,1000008000005,1000009,1000009001005] [0,2,3,5,8] (fun y:TS=>y.r <:+t/\y.v.kind=6/\bW6 y.v/\y.v.names.length+y.r.length<=t.length+1/\((y.e=0/\y.v.names.length+y.r.length<=t.length/\aK3 f 125 y.v y.r=q)\/(y.e≠0/\q=(aa9,y.r,y.e)))) (fun _=>[]) (dI8 t H k) (fun y=>if y.e=0 then y.r.length+1 else 0) (by kernel_rfl) ?_ ⟨blanks r,as6,0⟩ ⟨hs1,rfl,⟨rfl,rfl,aC0 _⟩,hb1,.inl ⟨rfl,hb2,hq⟩⟩ aa3 rfl
  rintro⟨r',v,e⟩ ⟨hs',hk6,hok,hnl,hst⟩
  dsimp only at hs' hk6 hok hnl hst⊢;have hrl':=ay6 hs';have hkc:(v.kind=6)=True:=eq_true hk6;unfold dI8;dsimp only[au7,aw7];rcases hst with⟨rfl,hnl2,hq'⟩|⟨he,rfl⟩
  ·rw[cj0 hf,if_pos hk6] at hq'
   have hn:=d87 (t:=t) (r:=r') (H:=H.set k (ad4 t r' 0)++[.cells (.one 35) (au7 v),.cells (.one 35) aw7]) v (by have:=hok.2.2;omega) (by have:=hok.2.2;have:=hok.1;omega) (aa6 hkl) hs' hl
   have hs2:=aX8 (v:=v) hs';have hs2':=(aX8 (v:=v) (aJ1 r')).length_le;generalize aw5 v r'=nm at*;obtain⟨s,r2,e2⟩:=nm;dsimp only at hn hs2 hs2' hq';by_cases he2:e2=0
   ·subst he2
    rw[if_neg (by simp)] at hq'
    have hv2:=fun H h=>hval k r2 H h hs2
    have hs3:=(hf r2).trans hs2;have hs3':=(hf r2).length_le;generalize f r2=vp at*;obtain⟨x,r3,e3⟩:=vp;dsimp only at hv2 hs3 hs3' hq';have hs4:=ai0 hs3;have hs4':=(ai0 (aJ1 r3)).length_le;obtain⟨hok2,hnl3,hk62⟩:=d58 (x:=x) (s:=s) hok (by omega)
    have hput:=fun H=>dJ1 v s x H hok
    generalize bp0 v s x=v2 at*;by_cases he3:e3=0
    ·subst he3
     cases hk1:ae8 [125] (blanks r3) with
     |some r4=>
      have hqq:q=(v2,r4,0):=by rw[<-hq',ar0,if_neg (by simp),hk1]
      subst hqq;repeat' first|refine l9 ?_|simp -dsimp -implicitDefEqProofs (disch:=first|omega|simp only[ll];omega) only[go_sem,aa6 hkl,ak1 hkl,ai6,ak8,aE3,aJ5,hkc,hk1]|refine l7 (hn) ?_|refine⟨_,_,hv2 _ (aa6 hkl),?_⟩|refine⟨_,_,hput _,?_⟩|refine l7 (ad8 (aa6 hkl) hs3 hl) ?_|refine l7 (ac2 (w:=[125]) (aa6 hkl) hs4 hl (by decide)) ?_|refine vcA ?_ ?_
      exact ae5 (ab1 _) rfl ag1 ⟨rfl,rfl⟩
     |none=>
      cases hk2:ae8 [44] (blanks r3) with
      |some r4=>
       have hqq:aK3 f 125 v2 r4=q:=by rw[<-hq',ar0,if_neg (by simp),hk1,hk2]
       have hl4:=bh0 hk2;have hs5:=aq4 hs4 hk2;simp only[List.length_cons,List.length_nil] at hl4;repeat' first|refine l9 ?_|simp -dsimp -implicitDefEqProofs (disch:=first|omega|simp only[ll];omega) only[go_sem,aa6 hkl,ak1 hkl,ai6,ak8,aE3,aJ5,hkc,hk1,hk2]|refine l7 (hn) ?_|refine⟨_,_,hv2 _ (aa6 hkl),?_⟩|refine⟨_,_,hput _,?_⟩|refine l7 (ad8 (aa6 hkl) hs3 hl) ?_|refine l7 (ac2 (w:=[125]) (aa6 hkl) hs4 hl (by decide)) ?_|refine l7 (ac2 (w:=[44]) (aa6 hkl) hs4 hl (by decide)) ?_|refine vcA ?_ ?_
       refine again (⟨r4,v2,0⟩) ?_ ?_ ?_ aa3
       ·simp
        omega
       ·exact⟨hs5,hk62.trans hk6,hok2,by dsimp only;omega,.inl ⟨rfl,by dsimp only;omega,hqq⟩⟩
       ·rfl
      |none=>
       have hqq:q=(aa9,blanks r3,2):=by rw[<-hq',ar0,if_neg (by simp),hk1,hk2]
       subst hqq;repeat' first|refine l9 ?_|simp -dsimp -implicitDefEqProofs (disch:=first|omega|simp only[ll];omega) only[go_sem,aa6 hkl,ak1 hkl,ai6,ak8,aE3,aJ5,hkc,hk1,hk2]|refine l7 (hn) ?_|refine⟨_,_,hv2 _ (aa6 hkl),?_⟩|refine⟨_,_,hput _,?_⟩|refine l7 (ad8 (aa6 hkl) hs3 hl) ?_|refine l7 (ac2 (w:=[125]) (aa6 hkl) hs4 hl (by decide)) ?_|refine l7 (ac2 (w:=[44]) (aa6 hkl) hs4 hl (by decide)) ?_|refine l7 (aj9 (aa6 hkl)) ?_|refine vcA ?_ ?_
       refine again (⟨blanks r3,v2,2⟩) ?_ ?_ ?_ aa3
       ·simp
       ·exact⟨hs4,hk62.trans hk6,hok2,by dsimp only;omega,.inr ⟨by simp,rfl⟩⟩
       ·rfl
    ·have hqq:q=(aa9,blanks r3,e3):=by rw[<-hq',ar0,if_pos he3]
     subst hqq;repeat' first|refine l9 ?_|simp -dsimp -implicitDefEqProofs (disch:=first|omega|simp only[ll];omega) only[go_sem,aa6 hkl,ak1 hkl,ai6,ak8,aE3,aJ5,hkc,he3]|refine l7 (hn) ?_|refine⟨_,_,hv2 _ (aa6 hkl),?_⟩|refine⟨_,_,hput _,?_⟩|refine l7 (ad8 (aa6 hkl) hs3 hl) ?_|refine vcA ?_ ?_
     refine again (⟨blanks r3,v2,e3⟩) ?_ ?_ ?_ aa3
     ·simp[he3]
     ·exact⟨hs4,hk62.trans hk6,hok2,by dsimp only;omega,.inr ⟨he3,rfl⟩⟩
     ·rfl
   ·have hqq:q=(aa9,r2,e2):=by rw[<-hq',if_pos he2]
    subst hqq;repeat' first|refine l9 ?_|simp -dsimp -implicitDefEqProofs (disch:=first|omega|simp only[ll];omega) only[go_sem,aa6 hkl,ak1 hkl,ai6,ak8,aE3,aJ5,hkc,he2]|refine l7 (hn) ?_|refine vcA ?_ ?_
    exact ai4 le_zero (ae5 (ab1 _) rfl ag1 ⟨rfl,rfl⟩)
  ·repeat' first|refine l9 ?_|simp -dsimp -implicitDefEqProofs (disch:=(simp only[ll];omega)) only[go_sem,aa6 hkl,ak1 hkl,ai6,ak8,aE3,aJ5,he]|refine vcA ?_ ?_
   exact ai4 le_zero (ae5 (ab1 _) rfl ag1 ⟨rfl,rfl⟩)
end
section
open Go V
def lJ(is:List JV):JV:=.mk 5 0 [] [] is
theorem dL6{f:bytes->JV×bytes×Int}{e:UInt8}(hf: ∀r,(f r).2.1 <:+r)(is:List JV)(r:bytes):aK3 f e (lJ is) r=ar0 (aK3 f e) e (lJ (is++[(f r).1])) (f r).2.1 (f r).2.2:=by
 rw[cj0 hf,if_neg (by show¬((5:Int)=6);decide)]
 rfl
section
variable {H M:List AObj}{k:Nat}{o x:AObj}
theorem bN5:(H.set k o++M)[H.length+2]?=M[2]?:=by rw[xq5 (by rw[List.length_set];omega),List.length_set,au2]
theorem bM4:(H.set k o++M).set (H.length+2) x=H.set k o++M.set 2 x:=by rw[az0 _ _ (by rw[List.length_set];omega),List.length_set,au2]
end
theorem bE0{H₀:List AObj}{k:Nat}{o g g':AObj}{M:List AObj}{R:AV->List AObj->Prop}{x:AV}(hk:k < H₀.length)(hg: ∀sh cs,g'≠ .cells sh cs)(hx:Low (H₀++[g]).length x)(hcs: ∀sh cs,o=.cells sh cs-> ∀m,∀y∈cs,Low m y)(hr:R x (H₀.set k o++[g']))(hn:o.isMo=false:=by rfl)(hn':g'.isMo=false:=by rfl):Done (H₀++[g]) R x (H₀.set k o++(g'::M)):=by
 unfold Done;have hl:(H₀.set k o++[g']).length=(H₀++[g]).length:=by simp
 refine⟨x,(H₀.set k o++(g'::M)).take (H₀++[g]).length,aZ8 (Le.refl x) (xq0 _) hx fun i u hi e=>?_,?_⟩
 ·rw[show H₀.set k o++(g'::M)=(H₀.set k o++[g'])++M by simp,xq4 (by rw[hl];exact hi)] at e
  by_cases hik:i < H₀.length
  ·rw[xq4 (by simpa using hik)] at e
   rcases af6 e with⟨_,e'⟩|⟨_,e',_⟩
   ·exact .inl (by rw[xq4 hik];exact e')
   ·exact .inr (e'▸aA5 (fun sh cs h=>hcs sh cs h _) hn)
  ·rw[xq5 (by simpa using hik)] at e
   have h1:=aa0 e;simp only[List.length_cons,List.length_nil] at h1;rw[show i - (H₀.set k o).length=0 by omega] at e
   simp at e
   exact .inr (e▸aA5 (fun sh cs h=>absurd h (hg sh cs)) hn')
 ·rw[show H₀.set k o++(g'::M)=(H₀.set k o++[g'])++M by simp,<-hl,aQ6]
  exact hr
theorem cx8{P:Program}{f:FuncId}{H:List AObj}{a b d c0 c1 c2 c3 y:AV}{k:Nat}{o:AObj}(hk:k < H.length)(hcs: ∀sh cs,o=.cells sh cs-> ∀m,∀y∈cs,Low m y)(hy: ∀m,Low m y)
  (h:o7 P f [a,.agg [c0,c1,c2,c3,.sl (.tok H.length) 5 []],b,d] (H++[.grow 5 0 none]) (fun x H'=>x=y/\ ∃n,H'=H.set k o++[.grow 5 n none])) (hn:o.isMo=false:=by rfl):
  o7 P f [a,.agg [c0,c1,c2,c3,.sl .full 0 []],b,d] H (fun x H'=>x=y/\H'=H.set k o):=fun G w vs hi ha=>by
 obtain⟨hsz,hrel⟩:=ha;obtain⟨v1,hv1⟩: ∃v,vs[1]?=some v:=⟨_,xq2 (by rw[hsz];simp)⟩
 have r1:=hrel 1 _ v1 rfl hv1;cases r1 with
 |agg _ arr hl hr=>
 obtain⟨v4,hv4⟩: ∃v,arr[4]?=some v:=⟨_,xq2 (by rw[hl];simp)⟩
 have r4:=hr 4 _ v4 rfl hv4;have r4':=r4;cases r4 with
 |sl _ _ _ ad len cap val hl4 hcap hs' hc hr' hf' ha' ho=>
 obtain⟨hi',st,r5⟩:=b52 none hi r4' (s:=5) (by decide) (fun h=>absurd rfl h) (fun h=>absurd rfl h)
 refine(h _ w vs hi' ⟨hsz,fun j x v ex ev=>?_⟩).mono ?_
 ·match j,ex with
  |0,ex=>cases ex;exact(hrel 0 _ v rfl ev).mono st
  |1,ex=>
   cases ex
   rw[hv1] at ev;cases ev
   refine .agg _ arr (by rw[hl];rfl) fun i z u ez eu=>?_
   match i,ez with
   |0,ez=>cases ez;exact(hr 0 _ u rfl eu).mono st
   |1,ez=>cases ez;exact(hr 1 _ u rfl eu).mono st
   |2,ez=>cases ez;exact(hr 2 _ u rfl eu).mono st
   |3,ez=>cases ez;exact(hr 3 _ u rfl eu).mono st
   |4,ez=>
    cases ez
    rw[hv4] at eu;cases eu
    exact r5
  |2,ex=>cases ex;exact(hrel 2 _ v rfl ev).mono st
  |3,ex=>cases ex;exact(hrel 3 _ v rfl ev).mono st
 ·rintro v w' ⟨x,G',H',h1,h2,h3,rfl,n,rfl⟩
  have hl:(H.set k o).length=H.length:=by simp
  obtain⟨G2,g1,g2,g3⟩:=aZ8 (H₀:=H) (H:=H.set k o++[.grow 5 n none]) (m:=H.length) (Le.refl x) (xq0 _) (hy _) (fun i u hi e=>by
   rw[xq4 (by rw[hl];exact hi)] at e
   rcases af6 e with⟨_,e'⟩|⟨_,e',_⟩
   ·exact .inl e'
   ·exact .inr (e'▸aA5 (fun sh cs h=>hcs sh cs h _) hn)) G w G' w' v hi h1 (st.trans h2) h3
  exact⟨x,G2,_,g1,g2,g3,rfl,by rw[<-hl,aQ6]⟩
theorem bl8{t r:bytes}{e:Int}: ∀sh cs,ad4 t r e=.cells sh cs-> ∀m,∀y∈cs,Low m y:=fun sh cs h _=>ag1 sh cs h
structure LS where
 r:bytes
 is:List JV
 e:Int
abbrev cs7(m:Nat)(is:List JV):List AV:=[.lit (.int .i64 5),.lit (.int .i64 0),.str [],.sl .full 0 [],.sl (.tok m) 5 (is.map jAV)]
theorem cJ1{o:Own}{m:Nat}{is:List JV}:Le (.agg [.lit (.int .i64 5),.lit (.int .i64 0),.str [],.sl o 0 [],.sl (.tok m) 5 (is.map jAV)]) (jAV (lJ is)):=bc8 (ns:=[]) ab7 as4
def dJ7(t:bytes)(H:List AObj)(k:Nat)(y:LS):List AObj:=H.set k (ad4 t y.r y.e)++[.grow 5 y.is.length none,.cells (.one 35) (cs7 H.length y.is),.cells (.one 35) aw7]
theorem d34{f:bytes->JV×bytes×Int}{k:Nat}{t r:bytes}{H:List AObj}{w:Int}(hw:0<=w/\w<=100)(hk:H[k]?=some (ad4 t r 0))(hs:r <:+t)(hl:t.length<=10000)(hf: ∀r,(f r).2.1 <:+r)(hval:bP9 f t (w+1)):
  o7 Tryz.prog 411 [.mp k 0,.agg (cs7 H.length []),.str [93],.lit (.int .i64 w)] (H++[.grow 5 0 none]) (fun x H'=>x=jAV (an3 f 93 aK5 r).1/\ ∃n,H'=H.set k (ad4 t (an3 f 93 aK5 r).2.1 (an3 f 93 aK5 r).2.2)++[.grow 5 n none]):=by
 have hkl:=aa0 hk;have hs1:=ai0 hs;have hrl:=ay6 hs1;cases hsk:ae8 [93] (blanks r) with
 |some r2=>
  have htp:an3 f 93 aK5 r=(aK5,r2,0):=by rw[an3,hsk]
  rw[htp];refine o8 [5,1000008,1000008000005,1000009,1000009001005] [.cell 8 35] 78 Tryz.func411 ?_;repeat' first|refine l9 ?_|simp -dsimp -implicitDefEqProofs (disch:=(simp only[ll];omega)) only[go_sem,aa6 hkl,ak1 hkl,ai6,ak8,aE3,aJ5,bN5,bM4,af7 hkl,aq2 hkl,hsk,List.append_assoc]|refine l7 (ad8 (by rw[af7 hkl];exact hk) hs hl) ?_|refine l7 (ac2 (w:=[93]) (aa6 hkl) hs1 hl (by decide)) ?_|fail
  exact ai4 (y:=jAV aK5) (cJ1 (is:=[])) (bE0 hkl nofun (ab1 _) bl8 ⟨rfl,_,rfl⟩)
 |none=>
  have htp:an3 f 93 aK5 r=aK3 f 93 (lJ []) (blanks r):=by rw[an3,hsk];rfl
  rw[htp];generalize hq:aK3 f 93 (lJ []) (blanks r)=q;have hb1:0+(blanks r).length<=t.length+1:=by omega
  have hb2:0+(blanks r).length<=t.length:=by omega
  refine o8 [5,1000008,1000008000005,1000009,1000009001005] [.cell 8 35] 78 Tryz.func411 ?_;repeat' first|refine l9 ?_|simp -dsimp -implicitDefEqProofs only[go_sem,aa6 hkl,ak1 hkl,ai6,ak8,aE3,aJ5,bN5,bM4,af7 hkl,aq2 hkl,hsk,List.append_assoc]|refine l7 (ad8 (by rw[af7 hkl];exact hk) hs hl) ?_|refine l7 (ac2 (w:=[93]) (aa6 hkl) hs1 hl (by decide)) ?_|fail
  refine aa7 ab6 mixed [5,1000008,1000008000005,1000009,1000009001005] [0,2,3,5,8] (fun y:LS=>y.r <:+t/\y.is.length+y.r.length<=t.length+1/\((y.e=0/\y.is.length+y.r.length<=t.length/\aK3 f 93 (lJ y.is) y.r=q)\/(y.e≠0/\q=(aa9,y.r,y.e)))) (fun _=>[]) (dJ7 t H k) (fun y=>if y.e=0 then y.r.length+1 else 0) (by kernel_rfl) ?_ ⟨blanks r,[],0⟩ ⟨hs1,hb1,.inl ⟨rfl,hb2,hq⟩⟩ aa3 rfl
  rintro⟨r',is,e⟩ ⟨hs',hnl,hst⟩
  dsimp only at hs' hnl hst⊢;have hrl':=ay6 hs';unfold dJ7;dsimp only[cs7,aw7];rcases hst with⟨rfl,hnl2,hq'⟩|⟨he,rfl⟩
  ·rw[dL6 hf] at hq'
   have hv2:=fun H h=>hval k r' H h hs'
   have hs3:=(hf r').trans hs';have hs3':=(hf r').length_le;generalize f r'=vp at*;obtain⟨x,r3,e3⟩:=vp;dsimp only at hv2 hs3 hs3' hq';have hs4:=ai0 hs3;have hs4':=(ai0 (aJ1 r3)).length_le;have hm:is.map jAV++[jAV x]=(is++[x]).map jAV:=by simp
   by_cases he3:e3=0
   ·subst he3
    cases hk1:ae8 [93] (blanks r3) with
    |some r4=>
     have hqq:q=(lJ (is++[x]),r4,0):=by rw[<-hq',ar0,if_neg (by simp),hk1]
     subst hqq;repeat' first|refine l9 ?_|simp -dsimp -implicitDefEqProofs (disch:=first|omega|simp only[ll];omega) only[go_sem,aa6 hkl,ak1 hkl,ai6,ak8,aE3,aJ5,bN5,bM4,hk1,hm]|refine⟨_,_,hv2 _ (aa6 hkl),?_⟩|refine l7 (ad8 (aa6 hkl) hs3 hl) ?_|refine l7 (ac2 (w:=[93]) (aa6 hkl) hs4 hl (by decide)) ?_|refine vcA ?_ ?_|omega
     exact ai4 cJ1 (bE0 hkl nofun (ab1 _) bl8 ⟨rfl,_,rfl⟩)
    |none=>
     cases hk2:ae8 [44] (blanks r3) with
     |some r4=>
      have hqq:aK3 f 93 (lJ (is++[x])) r4=q:=by rw[<-hq',ar0,if_neg (by simp),hk1,hk2]
      have hl4:=bh0 hk2;have hs5:=aq4 hs4 hk2;simp only[List.length_cons,List.length_nil] at hl4;repeat' first|refine l9 ?_|simp -dsimp -implicitDefEqProofs (disch:=first|omega|simp only[ll];omega) only[go_sem,aa6 hkl,ak1 hkl,ai6,ak8,aE3,aJ5,bN5,bM4,hk1,hk2,hm]|refine⟨_,_,hv2 _ (aa6 hkl),?_⟩|refine l7 (ad8 (aa6 hkl) hs3 hl) ?_|refine l7 (ac2 (w:=[93]) (aa6 hkl) hs4 hl (by decide)) ?_|refine l7 (ac2 (w:=[44]) (aa6 hkl) hs4 hl (by decide)) ?_|refine vcA ?_ ?_|omega
      refine again (⟨r4,is++[x],0⟩) ?_ ?_ ?_ aa3
      ·simp
       omega
      ·exact⟨hs5,by simp;omega,.inl ⟨rfl,by simp;omega,hqq⟩⟩
      ·simp
     |none=>
      have hqq:q=(aa9,blanks r3,2):=by rw[<-hq',ar0,if_neg (by simp),hk1,hk2]
      subst hqq;repeat' first|refine l9 ?_|simp -dsimp -implicitDefEqProofs (disch:=first|omega|simp only[ll];omega) only[go_sem,aa6 hkl,ak1 hkl,ai6,ak8,aE3,aJ5,bN5,bM4,hk1,hk2,hm]|refine⟨_,_,hv2 _ (aa6 hkl),?_⟩|refine l7 (ad8 (aa6 hkl) hs3 hl) ?_|refine l7 (ac2 (w:=[93]) (aa6 hkl) hs4 hl (by decide)) ?_|refine l7 (ac2 (w:=[44]) (aa6 hkl) hs4 hl (by decide)) ?_|refine l7 (aj9 (aa6 hkl)) ?_|refine vcA ?_ ?_|omega
      refine again (⟨blanks r3,is++[x],2⟩) ?_ ?_ ?_ aa3
      ·simp
      ·exact⟨hs4,by simp;omega,.inr ⟨by simp,rfl⟩⟩
      ·simp
   ·have hqq:q=(aa9,blanks r3,e3):=by rw[<-hq',ar0,if_pos he3]
    subst hqq;repeat' first|refine l9 ?_|simp -dsimp -implicitDefEqProofs (disch:=first|omega|simp only[ll];omega) only[go_sem,aa6 hkl,ak1 hkl,ai6,ak8,aE3,aJ5,bN5,bM4,he3,hm]|refine⟨_,_,hv2 _ (aa6 hkl),?_⟩|refine l7 (ad8 (aa6 hkl) hs3 hl) ?_|refine vcA ?_ ?_|omega
    refine again (⟨blanks r3,is++[x],e3⟩) ?_ ?_ ?_ aa3
    ·simp[he3]
    ·exact⟨hs4,by simp;omega,.inr ⟨he3,rfl⟩⟩
    ·simp
  ·repeat' first|refine l9 ?_|simp -dsimp -implicitDefEqProofs (disch:=(simp only[ll];omega)) only[go_sem,aa6 hkl,ak1 hkl,ai6,ak8,aE3,aJ5,bN5,bM4,he]|refine vcA ?_ ?_
   exact ai4 le_zero (bE0 hkl nofun (ab1 _) bl8 ⟨rfl,_,rfl⟩)
theorem cG7{f:bytes->JV×bytes×Int}{k:Nat}{t r:bytes}{H:List AObj}{w:Int}(hw:0<=w/\w<=100)(hk:H[k]?=some (ad4 t r 0))(hs:r <:+t)(hl:t.length<=10000)(hf: ∀r,(f r).2.1 <:+r)(hval:bP9 f t (w+1)):
  o7 Tryz.prog 411 [.mp k 0,.agg [.lit (.int .i64 5),.lit (.int .i64 0),.str [],.sl .full 0 [],.sl .full 0 []],.str [93],.lit (.int .i64 w)] H (fun x H'=>x=jAV (an3 f 93 aK5 r).1/\H'=H.set k (ad4 t (an3 f 93 aK5 r).2.1 (an3 f 93 aK5 r).2.2)):=
 cx8 (aa0 hk) bl8 (fun _=>ab1 _) (d34 hw hk hs hl hf hval)
theorem cG6{f:bytes->JV×bytes×Int}{k:Nat}{t r:bytes}{H:List AObj}{w:Int}(hw:0<=w/\w<=100)(hk:H[k]?=some (ad4 t r 0))(hs:r <:+t)(hl:t.length<=10000)(hf: ∀r,(f r).2.1 <:+r)(hval:bP9 f t (w+1)):
  o7 Tryz.prog 411 [.mp k 0,.agg [.lit (.int .i64 6),.lit (.int .i64 0),.str [],.sl .full 0 [],.sl .full 0 []],.str [125],.lit (.int .i64 w)] H (fun x H'=>x=jAV (an3 f 125 as6 r).1/\H'=H.set k (ad4 t (an3 f 125 as6 r).2.1 (an3 f 125 as6 r).2.2)):=
 (d33 hw hk hs hl hf hval).weak rfl fun j x y e1 e2=>by
  match j,e1,e2 with
  |0,e1,e2=>cases e1;cases e2;exact Le.refl _
  |1,e1,e2=>cases e1;cases e2;exact bc8 (ns:=[]) (is:=[]) ab7 ab7
  |2,e1,e2=>cases e1;cases e2;exact Le.refl _
  |3,e1,e2=>cases e1;cases e2;exact Le.refl _
end
section
open Go V
theorem aO3{o:Own}(l:List UInt8)(H:List AObj)(hl:l.length<=100000):o7 Tryz.prog 148 [.sl o 1 (l.map o6)] H (fun x H'=>x=.bool (Lib.validD l)/\H'=H):=by
 refine o8 [] [.tmp 2] 5 Tryz.func148 ?_;repeat' first|simp -dsimp -implicitDefEqProofs only[go_sem]|refine l7 (dZ9 _ _ ?_) ?_|omega
 exact o5 ⟨rfl,rfl⟩
end
section
open Go V
theorem di4{r:bytes}(h:peek r≠0):(r.drop 1).length+1=r.length:=by
 have:=aR1 h;rw[List.length_drop];omega
theorem bd2{c d:UInt8}:((c.toNat:Int)=(d.toNat:Int))=(c=d):=by
 have:(c.toNat=d.toNat)=(c=d):=propext ⟨bo1.1,fun h=>by rw[h]⟩
 rw[<-this];exact propext ⟨Int.ofNat.inj,fun h=>by rw[h]⟩
theorem aN0{n:Nat}{r:bytes}{x:JV×bytes×Int}(h:aD2 (blanks r)=some x):al9 n r=x:=by
 cases n<;>rw[al9,h]<;>rfl
theorem cO7{r:bytes}(h:aD2 (blanks r)=none):al9 0 r=(aa9,blanks r,4):=by rw[al9,h];rfl
theorem cO6{n:Nat}{r:bytes}(h:aD2 (blanks r)=none):al9 (n+1) r=if peek (blanks r)=91 then an3 (al9 n) 93 aK5 ((blanks r).drop 1) else an3 (al9 n) 125 as6 ((blanks r).drop 1):=by rw[al9,h];rfl
theorem cJ2{k:Int}:Le (.agg [.lit (.int .i64 k),.lit (.int .i64 0),.str [],.sl .full 0 [],.sl .full 0 []]) (jAV (.mk k 0 [] [] [])):=bc8 (ns:=[]) (is:=[]) ab7 ab7
theorem dT0{t:bytes}:Le (.agg [.lit (.int .i64 4),.lit (.int .i64 0),.str t,.sl .full 0 [],.sl .full 0 []]) (jAV (.mk 4 0 t [] [])):=bc8 (ns:=[]) (is:=[]) ab7 ab7
theorem de0{n:Int}:Le (.agg [.lit (.int .i64 3),.lit (.int .i64 n),.str [],.sl .full 0 [],.sl .full 0 []]) (jAV (.mk 3 n [] [] [])):=bc8 (ns:=[]) (is:=[]) ab7 ab7
theorem b72{t:bytes}(hl:t.length<=10000)(n:Nat)(w:Int)(hn:n<=12)(hw:w=12 - (n:Int))(ih: ∀m,n=m+1->bP9 (al9 m) t (w+1)):bP9 (al9 n) t w:=by
 intro k r H hk hs;have hkl:=aa0 hk;have hs1:=ai0 hs;have hrl:=ay6 hs1;cases h0:ae8 [110,117,108,108] (blanks r) with
 |some r2=>
  have hv:al9 n r=(aa9,r2,0):=aN0 (by unfold aD2 aP5 aP4 aH7;simp[h0])
  rw[hv];refine o8 [] [.cell 4 35] 87 Tryz.func346 ?_;repeat' first|refine l9 ?_|simp -dsimp -implicitDefEqProofs (disch:=(simp only[ll];omega)) only[go_sem,aa6 hkl,ak1 hkl,ai6,ak8,af7 hkl,aq2 hkl,h0]|refine l7 (ad8 (by rw[af7 hkl];exact hk) hs hl) ?_|refine l7 (at6 (aa6 hkl) hs1 hl) ?_|refine l7 (ac2 (w:=[110,117,108,108]) (aa6 hkl) hs1 hl (by decide)) ?_|fail
  exact ai4 le_zero (ae5 (ab1 _) rfl ag1 ⟨rfl,rfl⟩)
 |none=>
  cases h1:ae8 [116,114,117,101] (blanks r) with
  |some r2=>
   have hv:al9 n r=((.mk 1 0 [] [] []),r2,0):=aN0 (by unfold aD2 aP5 aP4 aH7;simp[h0,h1])
   rw[hv];refine o8 [] [.cell 4 35] 87 Tryz.func346 ?_;repeat' first|refine l9 ?_|simp -dsimp -implicitDefEqProofs (disch:=(simp only[ll];omega)) only[go_sem,aa6 hkl,ak1 hkl,ai6,ak8,af7 hkl,aq2 hkl,h0,h1]|refine l7 (ad8 (by rw[af7 hkl];exact hk) hs hl) ?_|refine l7 (at6 (aa6 hkl) hs1 hl) ?_|refine l7 (ac2 (w:=[110,117,108,108]) (aa6 hkl) hs1 hl (by decide)) ?_|refine l7 (ac2 (w:=[116,114,117,101]) (aa6 hkl) hs1 hl (by decide)) ?_|fail
   exact ai4 cJ2 (ae5 (ab1 _) rfl ag1 ⟨rfl,rfl⟩)
  |none=>
   cases h2:ae8 [102,97,108,115,101] (blanks r) with
   |some r2=>
    have hv:al9 n r=((.mk 2 0 [] [] []),r2,0):=aN0 (by unfold aD2 aP5 aP4 aH7;simp[h0,h1,h2])
    rw[hv];refine o8 [] [.cell 4 35] 87 Tryz.func346 ?_;repeat' first|refine l9 ?_|simp -dsimp -implicitDefEqProofs (disch:=(simp only[ll];omega)) only[go_sem,aa6 hkl,ak1 hkl,ai6,ak8,af7 hkl,aq2 hkl,h0,h1,h2]|refine l7 (ad8 (by rw[af7 hkl];exact hk) hs hl) ?_|refine l7 (at6 (aa6 hkl) hs1 hl) ?_|refine l7 (ac2 (w:=[110,117,108,108]) (aa6 hkl) hs1 hl (by decide)) ?_|refine l7 (ac2 (w:=[116,114,117,101]) (aa6 hkl) hs1 hl (by decide)) ?_|refine l7 (ac2 (w:=[102,97,108,115,101]) (aa6 hkl) hs1 hl (by decide)) ?_|fail
    exact ai4 cJ2 (ae5 (ab1 _) rfl ag1 ⟨rfl,rfl⟩)
   |none=>
    have hcl:=(peek (blanks r)).toNat_lt;have e34:(((peek (blanks r)).toNat:Int)=34)=(peek (blanks r)=34):=bd2 (d:=34);have e45:(((peek (blanks r)).toNat:Int)=45)=(peek (blanks r)=45):=bd2 (d:=45);have e91:(((peek (blanks r)).toNat:Int)=91)=(peek (blanks r)=91):=bd2 (d:=91);have e123:(((peek (blanks r)).toNat:Int)=123)=(peek (blanks r)=123):=bd2 (d:=123);have edg:isDigit (peek (blanks r))=decide (48<=(peek (blanks r)).toNat/\(peek (blanks r)).toNat<=57):=rfl;by_cases c34:peek (blanks r)=34
    ·have hv:al9 n r=(.mk 4 0 (ag0 (blanks r)).1 [] [],(ag0 (blanks r)).2.1,(ag0 (blanks r)).2.2):=aN0 (by unfold aD2 aP5 aP4 aH7;simp[h0,h1,h2,c34])
     rw[hv];have hq:=cm0 (H:=H.set k (ad4 t (blanks r) 0)++[.cells (.one 35) aw7]) (aa6 hkl) hs1 hl;have f34:=e34.trans (eq_true c34);generalize ag0 (blanks r)=q at*;refine o8 [] [.cell 4 35] 87 Tryz.func346 ?_;repeat' first|refine l9 ?_|simp -dsimp -implicitDefEqProofs (disch:=(simp only[ll];omega)) only[go_sem,aa6 hkl,ak1 hkl,ai6,ak8,af7 hkl,aq2 hkl,h0,h1,h2,f34]|refine l7 (ad8 (by rw[af7 hkl];exact hk) hs hl) ?_|refine l7 (at6 (aa6 hkl) hs1 hl) ?_|refine l7 (ac2 (w:=[110,117,108,108]) (aa6 hkl) hs1 hl (by decide)) ?_|refine l7 (ac2 (w:=[116,114,117,101]) (aa6 hkl) hs1 hl (by decide)) ?_|refine l7 (ac2 (w:=[102,97,108,115,101]) (aa6 hkl) hs1 hl (by decide)) ?_|refine l7 (hq) ?_|fail
     exact ai4 dT0 (ae5 (ab1 _) rfl ag1 ⟨rfl,rfl⟩)
    have f34:=e34.trans (eq_false c34);by_cases cn:peek (blanks r)=45\/isDigit (peek (blanks r))=true
    ·have hv:al9 n r=(.mk 3 (aR2 (blanks r)).1 [] [] [],(aR2 (blanks r)).2.1,(aR2 (blanks r)).2.2):=aN0 (by unfold aD2 aP5 aP4 aH7;simp only[h0,h1,h2];rw[if_neg c34,if_pos cn])
     rw[hv];have hq:=bi6 (H:=H.set k (ad4 t (blanks r) 0)++[.cells (.one 35) aw7]) (aa6 hkl) hs1 hl;generalize aR2 (blanks r)=q at*;by_cases c45:peek (blanks r)=45
     ·have f45:=e45.trans (eq_true c45)
      refine o8 [] [.cell 4 35] 87 Tryz.func346 ?_;repeat' first|refine l9 ?_|simp -dsimp -implicitDefEqProofs (disch:=(simp only[ll];omega)) only[go_sem,aa6 hkl,ak1 hkl,ai6,ak8,af7 hkl,aq2 hkl,h0,h1,h2,f34,f45]|refine l7 (ad8 (by rw[af7 hkl];exact hk) hs hl) ?_|refine l7 (at6 (aa6 hkl) hs1 hl) ?_|refine l7 (ac2 (w:=[110,117,108,108]) (aa6 hkl) hs1 hl (by decide)) ?_|refine l7 (ac2 (w:=[116,114,117,101]) (aa6 hkl) hs1 hl (by decide)) ?_|refine l7 (ac2 (w:=[102,97,108,115,101]) (aa6 hkl) hs1 hl (by decide)) ?_|refine l7 (hq) ?_|fail
      exact ai4 de0 (ae5 (ab1 _) rfl ag1 ⟨rfl,rfl⟩)
     ·have f45:=e45.trans (eq_false c45)
      have cd:=cn.resolve_left c45;rw[edg,decide_eq_true_eq] at cd;have f48:((48:Int)<=((peek (blanks r)).toNat:Int))=True:=eq_true (by omega)
      have f57:(((peek (blanks r)).toNat:Int)<=57)=True:=eq_true (by omega)
      refine o8 [] [.cell 4 35] 87 Tryz.func346 ?_;repeat' first|refine l9 ?_|simp -dsimp -implicitDefEqProofs (disch:=(simp only[ll];omega)) only[go_sem,aa6 hkl,ak1 hkl,ai6,ak8,af7 hkl,aq2 hkl,h0,h1,h2,f34,f45,f48,f57]|refine l7 (ad8 (by rw[af7 hkl];exact hk) hs hl) ?_|refine l7 (at6 (aa6 hkl) hs1 hl) ?_|refine l7 (ac2 (w:=[110,117,108,108]) (aa6 hkl) hs1 hl (by decide)) ?_|refine l7 (ac2 (w:=[116,114,117,101]) (aa6 hkl) hs1 hl (by decide)) ?_|refine l7 (ac2 (w:=[102,97,108,115,101]) (aa6 hkl) hs1 hl (by decide)) ?_|refine l7 (hq) ?_|fail
      exact ai4 de0 (ae5 (ab1 _) rfl ag1 ⟨rfl,rfl⟩)
    have f45:=e45.trans (eq_false fun h=>cn (.inl h))
    have cd: ¬isDigit (peek (blanks r))=true:=fun h=>cn (.inr h)
    rw[edg,decide_eq_true_eq] at cd;have hdd:(((48:Int)<=((peek (blanks r)).toNat:Int))=False)\/(((48:Int)<=((peek (blanks r)).toNat:Int))=True/\((((peek (blanks r)).toNat:Int)<=57))=False):=by
     by_cases h:(48:Int)<=((peek (blanks r)).toNat:Int)
     ·exact .inr ⟨eq_true h,eq_false (by omega)⟩
     ·exact .inl (eq_false h)
    by_cases cb:peek (blanks r)≠91/\peek (blanks r)≠123
    ·have hv:al9 n r=(aa9,blanks r,2):=aN0 (by unfold aD2 aP5 aP4 aH7;simp only[h0,h1,h2];rw[if_neg c34,if_neg cn,if_pos cb])
     rw[hv];have f91:=e91.trans (eq_false cb.1);have f123:=e123.trans (eq_false cb.2);rcases hdd with f48|⟨f48,f57⟩
     ·skip
      refine o8 [] [.cell 4 35] 87 Tryz.func346 ?_;repeat' first|refine l9 ?_|simp -dsimp -implicitDefEqProofs (disch:=(simp only[ll];omega)) only[go_sem,aa6 hkl,ak1 hkl,ai6,ak8,af7 hkl,aq2 hkl,h0,h1,h2,f34,f45,f91,f123,f48]|refine l7 (ad8 (by rw[af7 hkl];exact hk) hs hl) ?_|refine l7 (at6 (aa6 hkl) hs1 hl) ?_|refine l7 (ac2 (w:=[110,117,108,108]) (aa6 hkl) hs1 hl (by decide)) ?_|refine l7 (ac2 (w:=[116,114,117,101]) (aa6 hkl) hs1 hl (by decide)) ?_|refine l7 (ac2 (w:=[102,97,108,115,101]) (aa6 hkl) hs1 hl (by decide)) ?_|refine l7 (aj9 (aa6 hkl)) ?_|fail
      exact ai4 le_zero (ae5 (ab1 _) rfl ag1 ⟨rfl,rfl⟩)
     ·skip
      refine o8 [] [.cell 4 35] 87 Tryz.func346 ?_;repeat' first|refine l9 ?_|simp -dsimp -implicitDefEqProofs (disch:=(simp only[ll];omega)) only[go_sem,aa6 hkl,ak1 hkl,ai6,ak8,af7 hkl,aq2 hkl,h0,h1,h2,f34,f45,f91,f123,f48,f57]|refine l7 (ad8 (by rw[af7 hkl];exact hk) hs hl) ?_|refine l7 (at6 (aa6 hkl) hs1 hl) ?_|refine l7 (ac2 (w:=[110,117,108,108]) (aa6 hkl) hs1 hl (by decide)) ?_|refine l7 (ac2 (w:=[116,114,117,101]) (aa6 hkl) hs1 hl (by decide)) ?_|refine l7 (ac2 (w:=[102,97,108,115,101]) (aa6 hkl) hs1 hl (by decide)) ?_|refine l7 (aj9 (aa6 hkl)) ?_|fail
      exact ai4 le_zero (ae5 (ab1 _) rfl ag1 ⟨rfl,rfl⟩)
    have hlf:aD2 (blanks r)=none:=by unfold aD2 aP5 aP4 aH7;simp only[h0,h1,h2];rw[if_neg c34,if_neg cn,if_neg cb]
    have hp0:peek (blanks r)≠0:=fun h=>cb (by rw[h];decide)
    have hdl:=di4 hp0;have hs5:=as2 hs1 1;have hpo:AObj.cells (.one 438) [.str t,.lit (.int .i64 (((t.length - (blanks r).length:Nat):Int)+1)),.lit (.int .i64 0)]=ad4 t ((blanks r).drop 1) 0:=pc (by omega)
    cases n with
    |zero=>
     rw[cO7 hlf];have fw:((12:Int)<=w)=True:=eq_true (by omega)
     rcases hdd with f48|⟨f48,f57⟩
     ·skip
      by_cases c91:peek (blanks r)=91
      ·have f91:=e91.trans (eq_true c91)
       refine o8 [] [.cell 4 35] 87 Tryz.func346 ?_;repeat' first|refine l9 ?_|simp -dsimp -implicitDefEqProofs (disch:=(simp only[ll];omega)) only[go_sem,aa6 hkl,ak1 hkl,ai6,ak8,af7 hkl,aq2 hkl,h0,h1,h2,f34,f45,f91,fw,f48]|refine l7 (ad8 (by rw[af7 hkl];exact hk) hs hl) ?_|refine l7 (at6 (aa6 hkl) hs1 hl) ?_|refine l7 (ac2 (w:=[110,117,108,108]) (aa6 hkl) hs1 hl (by decide)) ?_|refine l7 (ac2 (w:=[116,114,117,101]) (aa6 hkl) hs1 hl (by decide)) ?_|refine l7 (ac2 (w:=[102,97,108,115,101]) (aa6 hkl) hs1 hl (by decide)) ?_|refine l7 (aj9 (aa6 hkl)) ?_|fail
       exact ai4 le_zero (ae5 (ab1 _) rfl ag1 ⟨rfl,rfl⟩)
      ·have f91:=e91.trans (eq_false c91)
       have f123:=e123.trans (eq_true (Classical.byContradiction fun h=>cb ⟨c91,h⟩))
       refine o8 [] [.cell 4 35] 87 Tryz.func346 ?_;repeat' first|refine l9 ?_|simp -dsimp -implicitDefEqProofs (disch:=(simp only[ll];omega)) only[go_sem,aa6 hkl,ak1 hkl,ai6,ak8,af7 hkl,aq2 hkl,h0,h1,h2,f34,f45,f91,f123,fw,f48]|refine l7 (ad8 (by rw[af7 hkl];exact hk) hs hl) ?_|refine l7 (at6 (aa6 hkl) hs1 hl) ?_|refine l7 (ac2 (w:=[110,117,108,108]) (aa6 hkl) hs1 hl (by decide)) ?_|refine l7 (ac2 (w:=[116,114,117,101]) (aa6 hkl) hs1 hl (by decide)) ?_|refine l7 (ac2 (w:=[102,97,108,115,101]) (aa6 hkl) hs1 hl (by decide)) ?_|refine l7 (aj9 (aa6 hkl)) ?_|fail
       exact ai4 le_zero (ae5 (ab1 _) rfl ag1 ⟨rfl,rfl⟩)
     ·skip
      by_cases c91:peek (blanks r)=91
      ·have f91:=e91.trans (eq_true c91)
       refine o8 [] [.cell 4 35] 87 Tryz.func346 ?_;repeat' first|refine l9 ?_|simp -dsimp -implicitDefEqProofs (disch:=(simp only[ll];omega)) only[go_sem,aa6 hkl,ak1 hkl,ai6,ak8,af7 hkl,aq2 hkl,h0,h1,h2,f34,f45,f91,fw,f48,f57]|refine l7 (ad8 (by rw[af7 hkl];exact hk) hs hl) ?_|refine l7 (at6 (aa6 hkl) hs1 hl) ?_|refine l7 (ac2 (w:=[110,117,108,108]) (aa6 hkl) hs1 hl (by decide)) ?_|refine l7 (ac2 (w:=[116,114,117,101]) (aa6 hkl) hs1 hl (by decide)) ?_|refine l7 (ac2 (w:=[102,97,108,115,101]) (aa6 hkl) hs1 hl (by decide)) ?_|refine l7 (aj9 (aa6 hkl)) ?_|fail
       exact ai4 le_zero (ae5 (ab1 _) rfl ag1 ⟨rfl,rfl⟩)
      ·have f91:=e91.trans (eq_false c91)
       have f123:=e123.trans (eq_true (Classical.byContradiction fun h=>cb ⟨c91,h⟩))
       refine o8 [] [.cell 4 35] 87 Tryz.func346 ?_;repeat' first|refine l9 ?_|simp -dsimp -implicitDefEqProofs (disch:=(simp only[ll];omega)) only[go_sem,aa6 hkl,ak1 hkl,ai6,ak8,af7 hkl,aq2 hkl,h0,h1,h2,f34,f45,f91,f123,fw,f48,f57]|refine l7 (ad8 (by rw[af7 hkl];exact hk) hs hl) ?_|refine l7 (at6 (aa6 hkl) hs1 hl) ?_|refine l7 (ac2 (w:=[110,117,108,108]) (aa6 hkl) hs1 hl (by decide)) ?_|refine l7 (ac2 (w:=[116,114,117,101]) (aa6 hkl) hs1 hl (by decide)) ?_|refine l7 (ac2 (w:=[102,97,108,115,101]) (aa6 hkl) hs1 hl (by decide)) ?_|refine l7 (aj9 (aa6 hkl)) ?_|fail
       exact ai4 le_zero (ae5 (ab1 _) rfl ag1 ⟨rfl,rfl⟩)
    |succ m=>
     rw[cO6 hlf];have hih:=ih m rfl;have hsv:=bk9 m;have fw:((12:Int)<=w)=False:=eq_false (by omega)
     have hw1:0<=w/\w<=100:=by omega
     generalize al9 m=f at*;rcases hdd with f48|⟨f48,f57⟩
     ·skip
      by_cases c91:peek (blanks r)=91
      ·have f91:=e91.trans (eq_true c91)
       rw[if_pos c91];have ht:=fun H h=>cG7 (k:=k) (H:=H) hw1 h hs5 hl hsv hih
       generalize an3 f 93 aK5 ((blanks r).drop 1)=q at*;refine o8 [] [.cell 4 35] 87 Tryz.func346 ?_;repeat' first|refine l9 ?_|simp -dsimp -implicitDefEqProofs (disch:=first|omega|simp only[ll];omega) only[go_sem,aa6 hkl,ak1 hkl,ai6,ak8,af7 hkl,aq2 hkl,h0,h1,h2,f34,f45,f91,fw,ad4,f48]|refine l7 (ad8 (by rw[af7 hkl];exact hk) hs hl) ?_|refine l7 (at6 (aa6 hkl) hs1 hl) ?_|refine l7 (ac2 (w:=[110,117,108,108]) (aa6 hkl) hs1 hl (by decide)) ?_|refine l7 (ac2 (w:=[116,114,117,101]) (aa6 hkl) hs1 hl (by decide)) ?_|refine l7 (ac2 (w:=[102,97,108,115,101]) (aa6 hkl) hs1 hl (by decide)) ?_|refine l7 (ht _ ((aa6 hkl).trans (congrArg some hpo))) ?_|fail
       exact ae5 (ab1 _) rfl (ag1 (t:=t) (r:=q.2.1) (e:=q.2.2)) ⟨rfl,rfl⟩
      ·have f91:=e91.trans (eq_false c91)
       rw[if_neg c91];have f123:=e123.trans (eq_true (Classical.byContradiction fun h=>cb ⟨c91,h⟩))
       have ht:=fun H h=>cG6 (k:=k) (H:=H) hw1 h hs5 hl hsv hih
       generalize an3 f 125 as6 ((blanks r).drop 1)=q at*;refine o8 [] [.cell 4 35] 87 Tryz.func346 ?_;repeat' first|refine l9 ?_|simp -dsimp -implicitDefEqProofs (disch:=first|omega|simp only[ll];omega) only[go_sem,aa6 hkl,ak1 hkl,ai6,ak8,af7 hkl,aq2 hkl,h0,h1,h2,f34,f45,f91,f123,fw,ad4,f48]|refine l7 (ad8 (by rw[af7 hkl];exact hk) hs hl) ?_|refine l7 (at6 (aa6 hkl) hs1 hl) ?_|refine l7 (ac2 (w:=[110,117,108,108]) (aa6 hkl) hs1 hl (by decide)) ?_|refine l7 (ac2 (w:=[116,114,117,101]) (aa6 hkl) hs1 hl (by decide)) ?_|refine l7 (ac2 (w:=[102,97,108,115,101]) (aa6 hkl) hs1 hl (by decide)) ?_|refine l7 (ht _ ((aa6 hkl).trans (congrArg some hpo))) ?_|fail
       exact ae5 (ab1 _) rfl (ag1 (t:=t) (r:=q.2.1) (e:=q.2.2)) ⟨rfl,rfl⟩
     ·skip
      by_cases c91:peek (blanks r)=91
      ·have f91:=e91.trans (eq_true c91)
       rw[if_pos c91];have ht:=fun H h=>cG7 (k:=k) (H:=H) hw1 h hs5 hl hsv hih
       generalize an3 f 93 aK5 ((blanks r).drop 1)=q at*;refine o8 [] [.cell 4 35] 87 Tryz.func346 ?_;repeat' first|refine l9 ?_|simp -dsimp -implicitDefEqProofs (disch:=first|omega|simp only[ll];omega) only[go_sem,aa6 hkl,ak1 hkl,ai6,ak8,af7 hkl,aq2 hkl,h0,h1,h2,f34,f45,f91,fw,ad4,f48,f57]|refine l7 (ad8 (by rw[af7 hkl];exact hk) hs hl) ?_|refine l7 (at6 (aa6 hkl) hs1 hl) ?_|refine l7 (ac2 (w:=[110,117,108,108]) (aa6 hkl) hs1 hl (by decide)) ?_|refine l7 (ac2 (w:=[116,114,117,101]) (aa6 hkl) hs1 hl (by decide)) ?_|refine l7 (ac2 (w:=[102,97,108,115,101]) (aa6 hkl) hs1 hl (by decide)) ?_|refine l7 (ht _ ((aa6 hkl).trans (congrArg some hpo))) ?_|fail
       exact ae5 (ab1 _) rfl (ag1 (t:=t) (r:=q.2.1) (e:=q.2.2)) ⟨rfl,rfl⟩
      ·have f91:=e91.trans (eq_false c91)
       rw[if_neg c91];have f123:=e123.trans (eq_true (Classical.byContradiction fun h=>cb ⟨c91,h⟩))
       have ht:=fun H h=>cG6 (k:=k) (H:=H) hw1 h hs5 hl hsv hih
       generalize an3 f 125 as6 ((blanks r).drop 1)=q at*;refine o8 [] [.cell 4 35] 87 Tryz.func346 ?_;repeat' first|refine l9 ?_|simp -dsimp -implicitDefEqProofs (disch:=first|omega|simp only[ll];omega) only[go_sem,aa6 hkl,ak1 hkl,ai6,ak8,af7 hkl,aq2 hkl,h0,h1,h2,f34,f45,f91,f123,fw,ad4,f48,f57]|refine l7 (ad8 (by rw[af7 hkl];exact hk) hs hl) ?_|refine l7 (at6 (aa6 hkl) hs1 hl) ?_|refine l7 (ac2 (w:=[110,117,108,108]) (aa6 hkl) hs1 hl (by decide)) ?_|refine l7 (ac2 (w:=[116,114,117,101]) (aa6 hkl) hs1 hl (by decide)) ?_|refine l7 (ac2 (w:=[102,97,108,115,101]) (aa6 hkl) hs1 hl (by decide)) ?_|refine l7 (ht _ ((aa6 hkl).trans (congrArg some hpo))) ?_|fail
       exact ae5 (ab1 _) rfl (ag1 (t:=t) (r:=q.2.1) (e:=q.2.2)) ⟨rfl,rfl⟩
theorem dL0{t:bytes}(hl:t.length<=10000): ∀(n:Nat) (w:Int),n<=12->w=12 - (n:Int)->bP9 (al9 n) t w:=by
 intro n;induction n with
 |zero=>exact fun w _ hw=>b72 hl 0 w (by omega) hw fun m hm=>by omega
 |succ n ih=>
  intro w hn hw;refine b72 hl (n+1) w hn hw ?_;intro m hm;cases hm
  exact ih (w+1) (by omega) (by omega)
theorem bf1{x y z:AV}(h:Le x y):Le (.tup [x,z]) (.tup [y,z]):=ba6 (LeAll.cons h (LeAll.cons (Le.refl _) LeAll.nil))
def ar2(p:JV×Int):AV:=.tup [jAV p.1,.int .i64 p.2]
theorem aG1{m:Nat}{p:JV×Int}:Low m (ar2 p):=ae2 (o9 (ab1 _) (o9 (.lit _) aa4))
theorem at1{H M:List AObj}{a b:AObj}:(H++(a::b::M))[H.length+1]?=some b:=by rw[xq5 (by omega),au2];rfl
theorem d06(s:bytes)(H:List AObj)(hl:s.length<=10000):o7 Tryz.prog 264 [.str s] H (fun x H'=>x=ar2 (bB9 s)/\H'=H):=by
 unfold bB9;by_cases c1:8192 < s.length
 ·rw[if_pos c1]
  refine o8 [3,1000011,1000011004005] [.cell 2 35,.tmp 3] 48 Tryz.func264 ?_;repeat' first|refine l9 ?_|simp -dsimp -implicitDefEqProofs (disch:=(simp only[ll];omega)) only[go_sem]|refine vcA ?_ ?_|omega|refine aa8 fun _=>?_
  exact ai4 (bf1 le_zero) (aa1 (ar2 (aa9,3)) (Le.refl _) aG1 ⟨rfl,rfl⟩)
 ·rw[if_neg c1]
  cases c2:Lib.validD s with
  |false=>
   rw[if_pos rfl];refine o8 [3,1000011,1000011004005] [.cell 2 35,.tmp 3] 48 Tryz.func264 ?_;repeat' first|refine l9 ?_|simp -dsimp -implicitDefEqProofs (disch:=(simp only[ll];omega)) only[go_sem,c2]|refine l7 (aO3 s _ (aE0 hl (by decide))) ?_|refine vcA ?_ ?_|omega|refine aa8 fun _=>?_
   exact ai4 (bf1 le_zero) (aa1 (ar2 (aa9,2)) (Le.refl _) aG1 ⟨rfl,rfl⟩)
  |true=>
   rw[if_neg (by simp)]
   have hv:=fun k H h=>dL0 hl 12 0 (by omega) (by omega) k s H h (aJ1 s)
   have hs1:=bk9 12 s;generalize al9 12 s=q at*;obtain⟨v,r,e⟩:=q;dsimp only at hv hs1⊢;have hs2:=ai0 hs1;have p0:AObj.cells (.one 438) [.str s,.lit (.int .i64 0),.lit (.int .i64 0)]=ad4 s s 0:=by rw[ad4,ao4];rfl
   have hbl:=hs2.length_le;by_cases hb:blanks r=[]
   ·have hlt:(((s.length - (blanks r).length:Nat):Int) < (s.length:Int))=False:=eq_false (by rw[hb];simp)
    by_cases he:e=0
    ·subst he
     rw[if_neg (by simp),if_neg (by simp[hb])]
     refine o8 [20,1000011,1000011004005] [.cell 2 35,.tmp 3] 48 Tryz.func264 ?_;repeat' first|refine l9 ?_|simp -dsimp -implicitDefEqProofs (disch:=first|omega|simp only[ll];omega) only[go_sem,c2,hlt]|refine l7 (aO3 s _ (aE0 hl (by decide))) ?_|refine l7 (hv _ _ (at1.trans (congrArg some p0))) ?_|refine l7 (ad8 at1 hs1 hl) ?_|refine vcA ?_ ?_|omega|refine aa8 fun _=>?_
     exact aa1 (ar2 (v,0)) (Le.refl _) aG1 ⟨rfl,rfl⟩
    ·rw[if_pos he]
     refine o8 [20,1000011,1000011004005] [.cell 2 35,.tmp 3] 48 Tryz.func264 ?_;repeat' first|refine l9 ?_|simp -dsimp -implicitDefEqProofs (disch:=first|omega|simp only[ll];omega) only[go_sem,c2,hlt,he]|refine l7 (aO3 s _ (aE0 hl (by decide))) ?_|refine l7 (hv _ _ (at1.trans (congrArg some p0))) ?_|refine l7 (ad8 at1 hs1 hl) ?_|refine vcA ?_ ?_|omega|refine aa8 fun _=>?_
     exact ai4 (bf1 le_zero) (aa1 (ar2 (aa9,e)) (Le.refl _) aG1 ⟨rfl,rfl⟩)
   ·have hlp:=aD7.2 hb
    have hlt:(((s.length - (blanks r).length:Nat):Int) < (s.length:Int))=True:=eq_true (by omega)
    by_cases he:e=0
    ·subst he
     rw[if_neg (by simp),if_pos hb]
     refine o8 [20,1000011,1000011004005] [.cell 2 35,.tmp 3] 48 Tryz.func264 ?_;repeat' first|refine l9 ?_|simp -dsimp -implicitDefEqProofs (disch:=first|omega|simp only[ll];omega) only[go_sem,c2,hlt]|refine l7 (aO3 s _ (aE0 hl (by decide))) ?_|refine l7 (hv _ _ (at1.trans (congrArg some p0))) ?_|refine l7 (ad8 at1 hs1 hl) ?_|refine l7 (aj9 at1) ?_|refine vcA ?_ ?_|omega|refine aa8 fun _=>?_
     exact ai4 (bf1 le_zero) (aa1 (ar2 (aa9,2)) (Le.refl _) aG1 ⟨rfl,rfl⟩)
    ·rw[if_pos he]
     refine o8 [20,1000011,1000011004005] [.cell 2 35,.tmp 3] 48 Tryz.func264 ?_;repeat' first|refine l9 ?_|simp -dsimp -implicitDefEqProofs (disch:=first|omega|simp only[ll];omega) only[go_sem,c2,hlt,he]|refine l7 (aO3 s _ (aE0 hl (by decide))) ?_|refine l7 (hv _ _ (at1.trans (congrArg some p0))) ?_|refine l7 (ad8 at1 hs1 hl) ?_|refine l7 (aj9 at1) ?_|refine vcA ?_ ?_|omega|refine aa8 fun _=>?_
     exact ai4 (bf1 le_zero) (aa1 (ar2 (aa9,e)) (Le.refl _) aG1 ⟨rfl,rfl⟩)
end
section
open Go V
def c06(most:Int):List bytes->Int->Int
 |[],n=>n
 |s::r,n=>if n<=most then c06 most r (n+1+min (s.length:Int) most) else n
mutual
def weigh:JV->Int->Int
 |.mk _ _ t ns is,most=>c07 most is (c06 most ns (1+min (t.length:Int) most))
def c07(most:Int):List JV->Int->Int
 |[],n=>n
 |v::r,n=>if n<=most then c07 most r (n+weigh v (most - n)) else n
end
theorem drop_cons{α:Type}{l:List α}{i:Nat}(d:α)(h:i < l.length):l.drop i=l.getD i d::l.drop (i+1):=by
 rw[List.getD,xq1 h,Option.getD_some,<-aL3 h]
end
section
open Go V
theorem cH3: ∀{l:List bytes},(∀j,j+1 < l.length->af8 (l.getD j []) (l.getD (j+1) [])=true)->srt l=true
 |[],_=>rfl
 |[_],_=>rfl
 |a::b::r,h=>by
  rw[srt,xq3];exact⟨h 0 (by simp),cH3 fun j hj=>h (j+1) (by simpa using hj)⟩
theorem d43{l:List bytes}(h:srt l=true){j:Nat}(hj:j+1 < l.length):af8 (l.getD j []) (l.getD (j+1) [])=true:=by
 refine ck7 h (Nat.lt_succ_self j) (xq1 (by omega)|>.trans ?_) (xq1 hj|>.trans ?_)
 ·rw[List.getD,xq1 (by omega)];rfl
 ·rw[List.getD,xq1 hj];rfl
theorem ee8{l:List bytes}{p:bytes->Bool}(h:l.all p=true){j:Nat}(hj:j < l.length):p (l.getD j [])=true:=xq6.1 h _ (ag9 hj)
theorem ee7{l:List bytes}{p:bytes->Bool}(h: ∀j,j < l.length->p (l.getD j [])=true):l.all p=true:=by
 rw[xq6];intro x hx;obtain⟨j,hj,rfl⟩:=cM9.1 hx;have:=h j hj;rwa [List.getD,xq1 hj] at this
theorem cU5{v:JV}(h: ¬v.names.length=v.items.length):aF5 v=false:=by simp[aF5,h]
theorem cq3{v:JV}{j:Nat}(hj:j < v.names.length)(h:Lib.validD (v.names.getD j [])=false):aF5 v=false:=by
 cases e:aF5 v with
 |false=>rfl
 |true=>
  simp only[aF5,xq3] at e;have:=ee8 e.1.2 hj;rw[h] at this;cases this
theorem cC4{v:JV}{j:Nat}(hj:j < v.names.length)(h0:0 < j)(h:af8 (v.names.getD (j - 1) []) (v.names.getD j [])=false):aF5 v=false:=by
 cases e:aF5 v with
 |false=>rfl
 |true=>
  simp only[aF5,xq3] at e;have:=d43 e.2 (j:=j - 1) (by omega)
  rw[show j - 1+1=j by omega,h] at this
  cases this
theorem dc5{v:JV}(hl:v.names.length=v.items.length)(h: ∀j,j < v.names.length->Lib.validD (v.names.getD j [])=true/\(0 < j->af8 (v.names.getD (j - 1) []) (v.names.getD j [])=true)):aF5 v=true:=by
 simp only[aF5,xq3,decide_eq_true_eq];exact⟨⟨hl,ee7 fun j hj=>(h j hj).1⟩,cH3 fun j hj=>(h (j+1) hj).2 (by omega)⟩
theorem b50(v:JV)(H:List AObj)(hs:am5 v<=40000):o7 Tryz.prog 311 [jAV v] H (fun x H'=>x=.bool (aF5 v)/\H'=H):=by
 have h1:=bU4 v;have h2:=bd5 v;have h3: ∀i,i < v.names.length->(v.names.getD i []).length<=100000:=fun i hi=>by have:=b77 (v:=v) (ag9 (d:=[]) hi);omega
 refine o8 [] [.tmp 2] 39 Tryz.func311 ?_;repeat' first|refine l9 ?_|simp -dsimp -implicitDefEqProofs (disch:=omega) only[go_sem]|refine vcA ?_ ?_|refine aa8 fun _=>?_
 ·rename_i h
  exact o5 ⟨ad5 (cU5 (by omega)).symm,rfl⟩
 ·rename_i h
  refine aa7 ab6 mixed [] [1,13,14] (fun i:Nat=>i<=v.names.length/\ ∀j,j < i->Lib.validD (v.names.getD j [])=true/\(0 < j->af8 (v.names.getD (j - 1) []) (v.names.getD j [])=true)) (fun i=>[(15,.int .i64 i)]) (fun _=>H) (fun i=>v.names.length - i) (by kernel_rfl) ?_ 0 ⟨by omega,fun j hj=>by omega⟩ aa3 rfl
  rintro i ⟨hi,hp⟩
  have h4:=h3 i;repeat' first|refine l9 ?_|simp -dsimp -implicitDefEqProofs (disch:=omega) only[go_sem]|refine l7 (aO3 _ _ (h4 (by omega))) ?_|refine vcA ?_ ?_|omega|refine aa8 fun _=>?_
  ·rename_i h5 h6
   exact o5 ⟨ad5 (cq3 (by omega) h6).symm,rfl⟩
  ·rename_i h5 h6 h7 h8
   rw[show ((i:Int) - 1).toNat=i - 1 by omega] at h8
   exact o5 ⟨ad5 (cC4 (by omega) (by omega) h8).symm,rfl⟩
  ·rename_i h5 h6 h7 h8
   rw[show ((i:Int) - 1).toNat=i - 1 by omega] at h8
   refine again (i+1) ?_ ?_ rfl aa3
   ·omega
   ·exact⟨by omega,upto_succ hp ⟨h6,fun _=>h8⟩⟩
  ·rename_i h5 h6 h7
   refine again (i+1) ?_ ?_ rfl aa3
   ·omega
   ·exact⟨by omega,upto_succ hp ⟨h6,fun h8=>by omega⟩⟩
  ·obtain rfl:i=v.names.length:=by omega
   exact o5 ⟨ad5 (dc5 (by omega) hp).symm,rfl⟩
theorem c78(d:Nat)(v:JV):am0 d v=(bi5 v||(a15 v&&(decide (0 < d)&&v.items.all (am0 (d - 1))))):=by cases d<;>simp[am0]
theorem not_any{l:List JV}{p:JV->Bool}:(!(l.any fun x=>!p x))=l.all p:=by
 induction l with
 |nil=>rfl
 |cons a l ih=>simp only[List.any_cons,List.all_cons,Bool.not_or,Bool.not_not,ih]
theorem right_step(d:Nat)(v:JV)(w:Int)(H:List AObj)(hw:w=12 - (d:Int))(hd:d<=12)(hs:am5 v<=40000)
  (hq:0 < d-> ∀x∈v.items,∀H,o7 Tryz.prog 313 (jAV x::[.ip (.lit (.int .i64 w))]) H (fun y H'=>y=.bool (!am0 (d - 1) x)/\H'=H)):
  o7 Tryz.prog 231 [jAV v,.lit (.int .i64 w)] H (fun x H'=>x=.bool (am0 d v)/\H'=H):=by
 have h1:=bU4 v;have h2:=bd5 v;have h3:=size_text v;refine o8 [] [.tmp 4] 95 Tryz.func231 ?_;repeat' first|refine l9 ?_|simp -dsimp -implicitDefEqProofs (disch:=omega) only[go_sem]|refine l7 (aO3 _ _ (by omega)) ?_|refine l7 (b50 v _ hs) ?_|refine l7 (b70 _ _ (fun x=>!am0 (d - 1) x) _ _ (by omega) (fun x hx=>hq (by omega) x hx _)) ?_|refine vcA ?_ ?_|omega|refine aa8 fun _=>?_
 all_goals
  refine o5 ⟨ad5 ?_,rfl⟩;rw[c78];first
   |(have hd0:0 < d:=by omega
     clear hq hw hd hs h1 h2 h3;simp_all [bi5,a15,a95,bm1,not_any,hd0];done)
   |(have hd0:d=0:=by omega
     clear hq hw hd hs h1 h2 h3;simp_all [bi5,a15,a95,bm1,not_any,hd0];done)
   |(clear hq hw hd hs h1 h2 h3
     simp_all [bi5,a15,a95,bm1,not_any];done)
   |(clear hq hw hd hs h1 h2 h3
     simp_all [bi5,a15,a95,bm1,not_any];omega)
theorem cH5: ∀(d:Nat) (v:JV) (w:Int) (H:List AObj),w=12 - (d:Int)->d<=12->am5 v<=40000->o7 Tryz.prog 231 [jAV v,.lit (.int .i64 w)] H (fun x H'=>x=.bool (am0 d v)/\H'=H)
 |0,v,w,H,hw,hd,hs=>right_step 0 v w H hw hd hs fun h=>by omega
 |d+1,v,w,H,hw,hd,hs=>right_step (d+1) v w H hw hd hs fun _ x hx H=>by
  have h4:=bA8 hx;refine o8 [] [.tmp 3] 9 Tryz.func313 ?_;repeat' first|simp -dsimp -implicitDefEqProofs (disch:=omega) only[go_sem]|refine l7 (cH5 d x _ _ (by omega) (by omega) (by omega)) ?_|fail
  exact o5 ⟨rfl,rfl⟩
theorem cL4(v:JV)(H:List AObj)(hs:am5 v<=40000):o7 Tryz.prog 147 [jAV v] H (fun x H'=>x=.bool (am0 12 v)/\H'=H):=by
 refine o8 [] [.tmp 2] 5 Tryz.func147 ?_;repeat' first|simp -dsimp -implicitDefEqProofs only[go_sem]|refine l7 (cH5 12 v _ _ (by omega) (by omega) hs) ?_|fail
 exact o5 ⟨rfl,rfl⟩
end
section
open Go
end
section
open Go V
end
section
open Go V Go.RowKit
end
section
open Go V
end
section
open Go V
end
section
open Go V
end
section
open Go V
end
section
open Go V
end
section
open Go V
abbrev Prs:=List (bytes×JV)
def ay2(s:bytes)(x:JV):Prs->Prs
 |[]=>[(s,x)]
 |p::r=>if af8 p.1 s=true then p::ay2 s x r else if p.1=s then(s,x)::r else(s,x)::p::r
def bp4(s:bytes):Prs->Option JV
 |[]=>none
 |p::r=>if p.1=s then some p.2 else bp4 s r
def ofP(v:JV)(l:Prs):JV:=.mk v.kind v.num v.text (l.map (·.1)) (l.map (·.2))
theorem ct9(s:bytes)(x:JV): ∀l:Prs,(if(l.map (·.1))[pos (l.map (·.1)) s]?=some s then(l.map (·.1),(l.map (·.2)).set (pos (l.map (·.1)) s) x) else((l.map (·.1)).insertIdx (pos (l.map (·.1)) s) s,(l.map (·.2)).insertIdx (pos (l.map (·.1)) s) x))=((ay2 s x l).map (·.1),(ay2 s x l).map (·.2))
 |[]=>by simp[ay2,pos]
 |p::r=>by
  have ih:=ct9 s x r;rw[List.map_cons,List.map_cons,bv7,ay2];by_cases h:af8 p.1 s=true
  ·rw[if_pos h,if_pos h,List.getElem?_cons_succ,List.map_cons,List.map_cons,List.set_cons_succ,bt8,bt8]
   by_cases h2:(r.map (·.1))[pos (r.map (·.1)) s]?=some s
   ·rw[if_pos h2] at ih⊢
    simp only[Prod.mk.injEq] at ih;rw[<-ih.1,<-ih.2]
   ·rw[if_neg h2] at ih⊢
    simp only[Prod.mk.injEq] at ih;rw[<-ih.1,<-ih.2]
  ·rw[if_neg h,if_neg h,List.getElem?_cons_zero]
   by_cases h2:p.1=s
   ·rw[if_pos (congrArg some h2),if_pos h2,List.map_cons,List.map_cons,List.set_cons_zero,h2]
   ·rw[if_neg (fun e=>h2 (Option.some.inj e)),if_neg h2,bz5,bz5]
    rfl
theorem dx9(v:JV)(l:Prs)(s:bytes)(x:JV):bp0 (ofP v l) s x=ofP v (ay2 s x l):=by
 have h:=ct9 s x l;by_cases h2:(l.map (·.1))[pos (l.map (·.1)) s]?=some s
 ·rw[if_pos h2] at h
  simp only[Prod.mk.injEq] at h;rw[bN8 (v:=ofP v l) h2];have:ofP v (ay2 s x l)=.mk v.kind v.num v.text ((ay2 s x l).map (·.1)) ((ay2 s x l).map (·.2)):=rfl;rw[this,<-h.1,<-h.2];rfl
 ·rw[if_neg h2] at h
  simp only[Prod.mk.injEq] at h;rw[bw4 (v:=ofP v l) h2];have:ofP v (ay2 s x l)=.mk v.kind v.num v.text ((ay2 s x l).map (·.1)) ((ay2 s x l).map (·.2)):=rfl;rw[this,<-h.1,<-h.2];rfl
theorem b97(s:bytes): ∀l:Prs,(match(l.map (·.1)).findIdx? (fun n=>n==s) with|some i=>(l.map (·.2))[i]?|none=>none)=bp4 s l
 |[]=>rfl
 |p::r=>by
  have ih:=b97 s r;rw[List.map_cons,List.map_cons,List.findIdx?_cons,bp4];by_cases h:p.1=s
  ·rw[if_pos h,if_pos (by simpa using h)]
   rfl
  ·rw[if_neg h,if_neg (by simpa using h),<-ih]
   cases(r.map (·.1)).findIdx? (fun n=>n==s) with
   |none=>rfl
   |some i=>rfl
theorem dy1{v:JV}(hk:v.kind=6)(l:Prs)(s:bytes):aR3 (ofP v l) s=bp4 s l:=by
 rw[<-b97,aR3];exact if_pos hk
theorem bs2{s:bytes}{x:JV}: ∀{l:Prs} {t:bytes},t∈(ay2 s x l).map (·.1)↔t=s\/t∈l.map (·.1)
 |[],t=>by simp[ay2]
 |p::r,t=>by
  rw[ay2];split
  ·rw[List.map_cons,an8,bs2 (l:=r),List.map_cons,an8]
   constructor
   ·rintro(h|h|h)
    ·exact .inr (.inl h)
    ·exact .inl h
    ·exact .inr (.inr h)
   ·rintro(h|h|h)
    ·exact .inr (.inl h)
    ·exact .inl h
    ·exact .inr (.inr h)
  ·split
   ·rename_i h
    rw[List.map_cons,an8,List.map_cons,an8,h];constructor
    ·rintro(h|h)
     ·exact .inl h
     ·exact .inr (.inr h)
    ·rintro(h|h|h)
     ·exact .inl h
     ·exact .inl h
     ·exact .inr h
   ·rw[List.map_cons,an8]
theorem cH2{s:bytes}{x:JV}: ∀{l:Prs},srt (l.map (·.1))=true->srt ((ay2 s x l).map (·.1))=true
 |[],_=>rfl
 |p::r,h=>by
  have h0:=h;rw[List.map_cons] at h;rw[ay2];split
  ·rename_i hl
   rw[List.map_cons];refine bg9 (fun b hb=>?_) (cH2 (bM5 h))
   rcases bs2.1 hb with rfl|hb
   ·exact hl
   ·exact aX9 h b hb
  ·rename_i hl
   split
   ·rename_i he
    rw[List.map_cons];simp only;rw[<-he];exact h
   ·rename_i he
    have h1:af8 s p.1=true:=by
     cases e:af8 s p.1 with
     |true=>rfl
     |false=>exact absurd (b89 (by simpa using hl) e) he
    rw[List.map_cons];refine bg9 (fun b hb=>?_) h0
    rw[List.map_cons] at hb;rcases an8.1 hb with rfl|hb
    ·exact h1
    ·exact aO9 h1 (aX9 h b hb)
def bq1:Prs->Prs->Option Prs
 |a,[]=>some a
 |a,p::r=>if(bp4 p.1 a).isSome then none else bq1 (ay2 p.1 p.2 a) r
theorem aY2{n:Nat}{v:JV}(h:am0 n v=true):bi5 v=true\/(0 < n/\a15 v=true/\v.items.all (am0 (n - 1))=true):=by
 cases n with
 |zero=>exact .inl h
 |succ n=>
  rw[am0,bz9,xq3] at h;rcases h with h|h
  ·exact .inl h
  ·exact .inr ⟨Nat.succ_pos _,h.1,h.2⟩
theorem bi4{v:JV}(h:bi5 v=true): ¬(v.kind=5\/v.kind=6):=by
 unfold bi5 at h;intro hk;split at h
 ·omega
 ·split at h
  ·omega
  ·split at h
   ·omega
   ·cases h
theorem b80{n:Nat}{v:JV}(h:am0 n v=true)(hk:v.kind=6):0 < n/\v.num=0/\v.text=[]/\v.names.length=v.items.length/\v.names.all Lib.validD=true/\srt v.names=true/\v.items.all (am0 (n - 1))=true:=by
 rcases aY2 h with h|⟨h3,h4,h5⟩
 ·exact absurd (.inr hk) (bi4 h)
 ·unfold a15 at h4
  rw[if_neg (by omega),if_pos hk] at h4
  simp only[a95,aF5,xq3,decide_eq_true_eq] at h4;exact⟨h3,h4.1.1,h4.1.2,h4.2.1.1,h4.2.1.2,h4.2.2,h5⟩
theorem cQ1{l:Prs}{p:bytes×JV->Bool}(h:srt (l.map (·.1))=true):srt ((l.filter p).map (·.1))=true:=
 cz8 ((ck6 h).sublist (List.Sublist.map _ ce2))
end
section
open Go V
theorem dn8{α:Type}{l:List α}{i:Nat}{a:α}(h:l[i]?=some a):l.take (i+1)=l.take i++[a]:=by
 rw[b23,h];rfl
theorem dB6{α:Type}{l:List α}{i:Nat}{a:α}(h:l[i]?=some a):l.drop i=a::l.drop (i+1):=by
 have hi:=aa0 h;rw[aL3 hi];rw[xq1 hi] at h;cases h
 rfl
structure PS where
 i:Nat
 d:Bool
 o:Prs
end
section
open Go V
theorem bx6{H M:List AObj}{p:JV×Int}{e:Int}(h:p=(aa9,e)):Done H (fun x H'=>x=ar2 p/\H'=H) (.tup [.agg aw7,.lit (.int .i64 e)]) (H++M):=by
 subst h;exact ai4 (bf1 le_zero) (aa1 (ar2 (aa9,e)) (Le.refl _) aG1 ⟨rfl,rfl⟩)
end
section
open Go V
end
section
open Go V
def bY6(p:bytes×JV):Bool:=am0 12 p.2&&Lib.validD p.1
def bd4(p:bytes×JV):Bool:=decide (12<=aE9 13 p.2)
def bH6(l:Prs):JV×Int:=
 if l.all bY6=true then(match bq1 [] l with|none=>(aa9,6)|some a=>if l.any bd4=true then(aa9,4) else(ofP as6 a,0)) else(aa9,1)
theorem b87{l:Prs}{i:Nat}{p:bytes×JV}(h:l[i]?=some p)(k:bY6 p=false):bH6 l=(aa9,1):=by
 refine if_neg fun e=>?_
 rw[xq6.1 e p (bF9 h)] at k;cases k
theorem dd2{l:Prs}(h: ∀j,j < l.length->bY6 (l.getD j ([],aa9))=true):bH6 l=(match bq1 [] l with|none=>(aa9,6)|some a=>if l.any bd4=true then(aa9,4) else(ofP as6 a,0)):=by
 refine if_pos (xq6.2 fun p hp=>?_)
 obtain⟨j,hj,rfl⟩:=cM9.1 hp;have:=h j hj;rwa [List.getD,xq1 hj] at this
theorem dl1{l acc:Prs}{i:Nat}{p:bytes×JV}(h:l[i]?=some p):bq1 acc (l.drop i)=if(bp4 p.1 acc).isSome then none else bq1 (ay2 p.1 p.2 acc) (l.drop (i+1)):=by
 rw[dB6 h,bq1]
theorem cJ8(s:bytes)(x:JV): ∀l:Prs,(ay2 s x l).length<=l.length+1
 |[]=>by simp[ay2]
 |p::r=>by
  have:=cJ8 s x r;rw[ay2];split
  ·simp;omega
  ·split<;>simp
theorem ef3{acc:Prs}(h:srt (acc.map (·.1))=true)(hl:acc.length<=20000):bW6 (ofP as6 acc):=⟨by simp[ofP,JV.names,JV.items],h,by simpa [ofP,JV.names] using hl⟩
theorem ea2(acc:Prs)(s:bytes):aR3 (ofP as6 acc) s=bp4 s acc:=dy1 rfl acc s
def bH7(H:List AObj)(v:JV):List AObj:=H++[.cells (.one 35) aw7,.cells (.one 35) (au7 v)]
theorem d90{m:Nat}: ∀z∈aw7,Low m z:=fun z hz=>by
 simp only[aw7,an8,aJ2,or_false] at hz;rcases hz with rfl|rfl|rfl|rfl|rfl
 ·exact .lit _
 ·exact .lit _
 ·exact .str _
 ·exact ac1 (fun k e=>by cases e)
 ·exact ac1 (fun k e=>by cases e)
theorem dS5{m:Nat}(v:JV): ∀z∈au7 v,Low m z:=fun z hz=>by
 have:=ab1 (m:=m) v;rw[az6] at this;cases this with
 |agg _ h=>exact h z hz
theorem bC4(H:List AObj)(v v':JV): ∀(k:Nat) (o:AObj),(bH7 H v')[k]?=some o->(bH7 H v)[k]?=some o\/o.low (H.length+2):=
 aF4 fun o ho sh cs e=>by
  simp only[an8,aJ2,or_false] at ho;subst e;rcases ho with h|h
  ·cases h;exact d90
  ·cases h;exact dS5 v'
structure MS where
 i:Nat
 a:Prs
 t:Bool
theorem c41{l:Prs}{i:Nat}{p:bytes×JV}(h:l[i]?=some p):(l.take (i+1)).any bd4=((l.take i).any bd4||bd4 p):=by
 rw[dn8 h,List.any_append];simp
theorem dn7(p:bytes×JV):bd4 p=decide (12<=((aE9 13 p.2:Nat):Int)):=decide_eq_decide.2 (by omega)
abbrev bW2(p:bytes×JV):List AV:=[.str p.1,.lit (.int .i64 p.2.kind),.lit (.int .i64 p.2.num),.str p.2.text,.sl .sh 1 (p.2.names.map .str),.sl .sh 5 (p.2.items.map jAV)]
theorem dm4(H:List AObj): ∀(k:Nat) (o:AObj),(H++[AObj.cells (.one 35) aw7])[k]?=some o->(H++[AObj.cells (.one 35) aw7])[k]?=some o\/o.low (H.length+1):=fun _ _ e=>.inl e
theorem bO5(p:bytes×JV):bY6 p=(am0 12 p.2&&Lib.validD p.1):=rfl
theorem ef7(l:Prs)(H:List AObj)(hl:l.length<=1000)(hsz: ∀p∈l,am5 p.2<=10000/\p.1.length<=10000):o7 Tryz.prog 65 [.sl .sh 6 (l.map aI0)] H (fun y H'=>y=ar2 (bH6 l)/\H'=H):=by
 have hsz': ∀i,i < l.length->am5 (l.getD i ([],aa9)).2<=10000/\(l.getD i ([],aa9)).1.length<=10000:=fun i hi=>hsz _ (ag9 hi)
 refine o8 [] [.cell 2 35,.tmp 3] 64 Tryz.func65 ?_;repeat' simp -dsimp -implicitDefEqProofs only[go_sem]
 refine aa7 ab6 mixed [] [0,2,12,13] (fun i:Nat=>i<=l.length/\ ∀j,j < i->bY6 (l.getD j ([],aa9))=true) (fun i=>[(14,.int .i64 i)]) (fun _=>H++[.cells (.one 35) aw7]) (fun i=>l.length - i) (by kernel_rfl) ?_ 0 ⟨by omega,fun j hj=>by omega⟩ aa3 rfl
 rintro i ⟨hi,hp⟩
 dsimp only[aw7];by_cases hil:i < l.length
 ·have hg:=aZ2 ([],aa9) hil
  obtain⟨z1,z2⟩:=hsz' i hil;have cR:=fun H=>cL4 (l.getD i ([],aa9)).2 H (aE0 z1 (by decide))
  have filt:((i:Int) < ((l.length:Nat):Int))=True:=eq_true (by omega)
  cases g1:am0 12 (l.getD i ([],aa9)).2 with
  |false=>
   rw[b87 hg (by rw[bO5,g1];rfl)]
   repeat' first|refine l9 ?_|simp -dsimp -implicitDefEqProofs (disch:=first|assumption|omega|simp only[ll];omega) only[go_sem,filt,g1]|refine l7 (cR _) ?_|fail
   exact bx6 rfl
  |true=>
   cases g2:Lib.validD (l.getD i ([],aa9)).1 with
   |false=>
    rw[b87 hg (by rw[bO5,g1,g2];rfl)]
    repeat' first|refine l9 ?_|simp -dsimp -implicitDefEqProofs (disch:=first|assumption|omega|simp only[ll];omega) only[go_sem,filt,g1,g2]|refine l7 (cR _) ?_|refine l7 (aO3 _ _ (aE0 z2 (by decide))) ?_|fail
    exact bx6 rfl
   |true=>
    repeat' first|refine l9 ?_|simp -dsimp -implicitDefEqProofs (disch:=first|assumption|omega|simp only[ll];omega) only[go_sem,filt,g1,g2]|refine l7 (cR _) ?_|refine l7 (aO3 _ _ (aE0 z2 (by decide))) ?_|fail
    refine ak5 (H.length+1) [.cells (.one 140) (bW2 (l.getD i ([],aa9)))] (i+1) ?_ ?_ ?_ ?_ ?_ (by repeat(first|exact ae1|(refine ad3 ?_ ?_;focus(first|exact bH9|exact .lit _|exact .str _|exact .mp _ _ (by omega))))) ?_ aa3
    ·omega
    ·exact⟨by omega,upto_succ hp (by rw[bO5,g1,g2];rfl)⟩
    ·simp
    ·simp
    ·simp
    ·exact dm4 H
 ·obtain rfl:i=l.length:=by omega
  rw[dd2 hp];clear hp;generalize hQ:(match bq1 [] l with|none=>((aa9,6):JV×Int)|some a=>if l.any bd4=true then(aa9,4) else(ofP as6 a,0))=Q
  repeat' first|refine l9 ?_|simp -dsimp -implicitDefEqProofs only[go_sem]|refine vcA ?_ ?_|omega|refine aa8 fun _=>?_
  refine cx3 (H.length+1) (sh:=.one 35) (cs:=[.lit (.int .i64 6),.lit (.int .i64 0),.str [],.sl .full 0 [],.sl .full 0 []]) (cs':=au7 as6) (by simp) (.cons (Le.refl _) (.cons (Le.refl _) (.cons (Le.refl _) (.cons (ab7) (.cons (ab7) .nil))))) ?_
  refine aa7 ab6 mixed [] [2,6,32,33] (fun y:MS=>y.i<=l.length/\y.a.length<=y.i/\srt (y.a.map (·.1))=true/\y.t=(l.take y.i).any bd4/\bq1 y.a (l.drop y.i)=bq1 [] l) (fun y=>[(34,.int .i64 y.i),(7,.bool y.t)]) (fun y=>bH7 H (ofP as6 y.a)) (fun y=>l.length - y.i) (by kernel_rfl) ?_ ⟨0,[],false⟩ ⟨by simp,by simp,rfl,rfl,rfl⟩ aa3 (by rw[show ofP as6 []=as6 from rfl];simp[bH7])
  rintro⟨i,a,t⟩ ⟨hi,hal,hsrt,htl,hall⟩
  dsimp only at hi hal hsrt htl hall⊢;by_cases hil:i < l.length
  ·have hg:=aZ2 ([],aa9) hil
   obtain⟨z1,z2⟩:=hsz' i hil;have filt:((i:Int) < ((l.length:Nat):Int))=True:=eq_true (by omega)
   have hok:=ef3 hsrt (by omega)
   rw[dl1 hg] at hall;have tt:=c41 hg;rw[<-htl] at tt;have ti:=dn7 (l.getD i ([],aa9));have cG:=fun H=>by4 (ofP as6 a) (l.getD i ([],aa9)).1 H (by have:=hok.2.2;omega) (by have:=hok.2.2;have:=hok.1;omega)
   rw[a81,ea2] at cG;have cP:=fun H=>dJ1 (ofP as6 a) (l.getD i ([],aa9)).1 (l.getD i ([],aa9)).2 H hok
   rw[dx9] at cP;have cD:=fun H=>eg3 (l.getD i ([],aa9)).2 H (aE0 z1 (by decide))
   have hln:=cJ8 (l.getD i ([],aa9)).1 (l.getD i ([],aa9)).2 a;have hsr2:=cH2 (s:=(l.getD i ([],aa9)).1) (x:=(l.getD i ([],aa9)).2) hsrt;generalize hv0:ofP as6 a=v0 at*;generalize hv1:ofP as6 (ay2 (l.getD i ([],aa9)).1 (l.getD i ([],aa9)).2 a)=v1 at*;unfold bH7;dsimp only[au7,aw7];cases hj:(bp4 (l.getD i ([],aa9)).1 a).isSome with
   |true=>
    rw[if_pos hj] at hall;rw[<-hall] at hQ;subst hQ;repeat' first|refine l9 ?_|simp -dsimp -implicitDefEqProofs (disch:=first|assumption|omega|simp only[ll];omega) only[go_sem,filt,hj]|refine l7 (cG _) ?_|fail
    exact bx6 rfl
   |false=>
    have hz:(bp4 (l.getD i ([],aa9)).1 a).getD aa9=aa9:=by
     cases e:bp4 (l.getD i ([],aa9)).1 a with
     |none=>rfl
     |some x=>rw[e] at hj;cases hj
    rw[if_neg (by rw[hj];decide)] at hall
    cases t with
    |true=>
     repeat' first|refine l9 ?_|simp -dsimp -implicitDefEqProofs (disch:=first|assumption|omega|simp only[ll];omega) only[go_sem,filt,hj,hz]|refine l7 (cG _) ?_|refine l7 (cP _) ?_|fail
     refine ak5 (H.length+2) [.cells (.one 140) (bW2 (l.getD i ([],aa9))),.cells (.one 35) (au7 aa9)] ⟨i+1,ay2 (l.getD i ([],aa9)).1 (l.getD i ([],aa9)).2 a,true⟩ ?_ ?_ ?_ ?_ ?_ (by repeat(first|exact ae1|(refine ad3 ?_ ?_;focus(first|exact bH9|exact .lit _|exact .str _|exact .mp _ _ (by omega))))) ?_ aa3
     ·dsimp only;omega
     ·exact⟨by dsimp only;omega,by dsimp only;omega,hsr2,by rw[tt];rfl,hall⟩
     ·dsimp only
      rw[hv1];simp
     ·simp
     ·simp
     ·exact bC4 H _ _
    |false=>
     cases hd:bd4 (l.getD i ([],aa9)) with
     |true=>
      rw[hd] at ti;have hdi:(12<=((aE9 13 (l.getD i ([],aa9)).2:Nat):Int))=True:=eq_true (of_decide_eq_true ti.symm);repeat' first|refine l9 ?_|simp -dsimp -implicitDefEqProofs (disch:=first|assumption|omega|simp only[ll];omega) only[go_sem,filt,hj,hz,hdi]|refine l7 (cG _) ?_|refine l7 (cP _) ?_|refine l7 (cD _) ?_|fail
      refine ak5 (H.length+2) [.cells (.one 140) (bW2 (l.getD i ([],aa9))),.cells (.one 35) (au7 aa9)] ⟨i+1,ay2 (l.getD i ([],aa9)).1 (l.getD i ([],aa9)).2 a,true⟩ ?_ ?_ ?_ ?_ ?_ (by repeat(first|exact ae1|(refine ad3 ?_ ?_;focus(first|exact bH9|exact .lit _|exact .str _|exact .mp _ _ (by omega))))) ?_ aa3
      ·dsimp only;omega
      ·exact⟨by dsimp only;omega,by dsimp only;omega,hsr2,by rw[tt,hd];rfl,hall⟩
      ·dsimp only
       rw[hv1];simp
      ·simp
      ·simp
      ·exact bC4 H _ _
     |false=>
      rw[hd] at ti;have hdi:(12<=((aE9 13 (l.getD i ([],aa9)).2:Nat):Int))=False:=eq_false (of_decide_eq_false ti.symm);repeat' first|refine l9 ?_|simp -dsimp -implicitDefEqProofs (disch:=first|assumption|omega|simp only[ll];omega) only[go_sem,filt,hj,hz,hdi]|refine l7 (cG _) ?_|refine l7 (cP _) ?_|refine l7 (cD _) ?_|fail
      refine ak5 (H.length+2) [.cells (.one 140) (bW2 (l.getD i ([],aa9))),.cells (.one 35) (au7 aa9)] ⟨i+1,ay2 (l.getD i ([],aa9)).1 (l.getD i ([],aa9)).2 a,false⟩ ?_ ?_ ?_ ?_ ?_ (by repeat(first|exact ae1|(refine ad3 ?_ ?_;focus(first|exact bH9|exact .lit _|exact .str _|exact .mp _ _ (by omega))))) ?_ aa3
      ·dsimp only;omega
      ·exact⟨by dsimp only;omega,by dsimp only;omega,hsr2,by rw[tt,hd];rfl,hall⟩
      ·dsimp only
       rw[hv1];simp
      ·simp
      ·simp
      ·exact bC4 H _ _
  ·obtain rfl:i=l.length:=by omega
   rw[bF7,bq1] at hall;rw[aL1] at htl;rw[<-hall] at hQ;dsimp only at hQ;unfold bH7;dsimp only[au7,aw7];cases t with
   |true=>
    rw[if_pos htl.symm] at hQ;subst hQ;repeat' first|refine l9 ?_|simp -dsimp -implicitDefEqProofs (disch:=(simp only[ll];omega)) only[go_sem]|refine vcA ?_ ?_|omega|refine aa8 fun _=>?_
    exact bx6 rfl
   |false=>
    rw[if_neg (by rw[<-htl];decide)] at hQ
    subst hQ;repeat' first|refine l9 ?_|simp -dsimp -implicitDefEqProofs (disch:=(simp only[ll];omega)) only[go_sem]|refine vcA ?_ ?_|omega|refine aa8 fun _=>?_
    exact aa1 (ar2 (ofP as6 a,0)) (Le.refl _) aG1 ⟨rfl,rfl⟩
end
section
open Go V
end
section
open Go V
def de9(c:UInt8):Bool:=c==91||c==93||c==123||c==125||c==44||c==58
def dJ3(w t:Bool)(c:UInt8):Bool:=if t then w else if w&&c==92 then w else if c==34 then !w else w
def dJ4(w t:Bool)(c:UInt8):Bool:=if t then false else w&&c==92
inductive Wide:Bool->Bool->bytes->bytes->Prop
 |nil (w t:Bool):Wide w t [] []
 |cons (w t:Bool) (c:UInt8) (p q r m:bytes) (hp: ∀b∈p,aN7 b=true) (hq: ∀b∈q,aN7 b=true) (hs:(w=false/\de9 c=true)\/(p=[]/\q=[])) (h:Wide (dJ3 w t c) (dJ4 w t c) r m):Wide w t (c::r) (p++c::(q++m))
inductive Tight:bytes->bytes->Prop
 |nil:Tight [] []
 |cons (c:UInt8) (q r m:bytes) (hc:aN7 c=false) (hq: ∀b∈q,aN7 b=true) (hs:de9 c=true\/q=[]) (h:Wide (dJ3 false false c) (dJ4 false false c) r m):Tight (c::r) (c::(q++m))
end
section
open Go V
def hexS(n:Nat):UInt8:=[48,49,50,51,52,53,54,55,56,57,97,98,99,100,101,102].getD n 0
def aJ8(c:UInt8):bytes:=
 if c=34 then[92,34] else if c=92 then[92,92] else if c=8 then[92,98] else if c=9 then[92,116] else if c=10 then[92,110] else if c=12 then[92,102] else if c=13 then[92,114]
 else if c.toNat < 32 then[92,117,48,48,UInt8.ofNat (48+c.toNat/16),hexS (c.toNat%16)] else[c]
def aU8(s:bytes):bytes:=34::(s.flatMap aJ8++[34])
def aW0(first obj:Bool)(n:bytes):bytes:=(if first then[] else[44])++(if obj then aU8 n++[58] else[])
mutual
def am6:JV->bytes
 |.mk k n t ns is=>
  if k=1 then aP4 else if k=2 then aH7 else if k=3 then Lib.itoa n else if k=4 then aU8 t
  else if k=5 then 91::(az7 false is true ns++[93])
  else if k=6 then 123::(az7 true is true ns++[125])
  else aP5
def az7(obj:Bool):List JV->Bool->List bytes->bytes
 |[],_,_=>[]
 |v::r,first,ns=>aW0 first obj (ns.headD [])++(am6 v++az7 obj r false ns.tail)
end
theorem aC7(v:JV):am6 v=if v.kind=1 then aP4 else if v.kind=2 then aH7 else if v.kind=3 then Lib.itoa v.num else if v.kind=4 then aU8 v.text
  else if v.kind=5 then 91::(az7 false v.items true v.names++[93]) else if v.kind=6 then 123::(az7 true v.items true v.names++[125]) else aP5:=by
 cases v;rw[am6];rfl
theorem bY0(obj first:Bool)(ns:List bytes):az7 obj [] first ns=[]:=by rw[az7]
theorem bp1(obj first:Bool)(ns:List bytes)(v:JV)(r:List JV):az7 obj (v::r) first ns=aW0 first obj (ns.headD [])++(am6 v++az7 obj r false ns.tail):=by rw[az7]
theorem dB3(c:UInt8):(aJ8 c).length<=6/\1<=(aJ8 c).length:=by
 unfold aJ8;repeat' split
 all_goals simp
theorem cv4(s:bytes):(s.flatMap aJ8).length<=6*s.length:=by
 induction s with
 |nil=>simp
 |cons c s ih=>
  have:=(dB3 c).1;rw[List.flatMap_cons,List.length_append,List.length_cons];omega
theorem bd6(s:bytes):(aU8 s).length<=6*s.length+2:=by
 have:=cv4 s;unfold aU8;simp only[List.length_cons,List.length_append,List.length_nil];omega
theorem cX5{d:Nat}(h:d < 10):(UInt8.ofNat (48+d)).toNat=48+d:=by
 rw[UInt8.toNat_ofNat_of_lt' (by show 48+d < 256;omega)]
theorem cw2{d:Nat}(h:d < 10):isDigit (UInt8.ofNat (48+d))=true:=by
 unfold isDigit;rw[cX5 h];exact decide_eq_true (by omega)
theorem dB8(u:Nat): ∀b∈Lib.decDigits u,isDigit b=true:=by
 induction u using Nat.strongRecOn with
 |ind u ih=>
  intro b hb;rw[Lib.decDigits] at hb;split at hb
  ·rename_i h
   simp only[an8,aJ2,or_false] at hb;subst hb;exact cw2 h
  ·rename_i h
   rcases aT2.1 hb with hb|hb
   ·exact ih (u/10) (by omega) b hb
   ·simp only[an8,aJ2,or_false] at hb
    subst hb;exact cw2 (by omega)
theorem cK7(u:Nat):Lib.decDigits u≠[]:=by
 rw[Lib.decDigits];split<;>simp
theorem cX4(u:Nat):isDigit (peek (Lib.decDigits u))=true:=by
 have h2:=cK7 u;have h3:=dB8 u;cases hd:Lib.decDigits u with
 |nil=>exact absurd hd h2
 |cons a b=>rw[hd] at h3;exact h3 a (aD9 ..)
end
section
open Go V
def c66(c:UInt8):Bool:=c==110||c==116||c==102||c==34||c==45||c==91||c==123||isDigit c
theorem cV4(n:Int): ∃c l,Lib.itoa n=c::l/\(c=45\/isDigit c=true):=by
 unfold Lib.itoa;split
 ·exact⟨_,_,rfl,.inl rfl⟩
 ·have h2:=cK7 n.toNat
  have h3:=cX4 n.toNat;cases hd:Lib.decDigits n.toNat with
  |nil=>exact absurd hd h2
  |cons a b=>rw[hd] at h3;exact⟨a,b,rfl,.inr h3⟩
theorem cB7(v:JV): ∃c l,am6 v=c::l/\c66 c=true:=by
 rw[aC7];split
 ·exact⟨_,_,rfl,rfl⟩
 split
 ·exact⟨_,_,rfl,rfl⟩
 split
 ·obtain⟨c,l,h1,h2⟩:=cV4 v.num
  refine⟨c,l,h1,?_⟩;unfold c66;rcases h2 with rfl|h2
  ·rfl
  ·rw[h2,Bool.or_true]
 split
 ·exact⟨_,_,rfl,rfl⟩
 split
 ·exact⟨_,_,rfl,rfl⟩
 split
 ·exact⟨_,_,rfl,rfl⟩
 ·exact⟨_,_,rfl,rfl⟩
theorem b56{k n:Int}{t:bytes}{ns:List bytes}{is:List JV}:(JV.mk k n t ns is).kind=k:=rfl
theorem cQ6{n:Nat}{v:JV}(h:am0 n v=true)(hk:v.kind=5): ∃k,n=k+1/\v=.mk 5 0 [] [] v.items/\v.items.all (am0 k)=true:=by
 rcases aY2 h with h|⟨h0,h1,h2⟩
 ·exact absurd (.inl hk) (bi4 h)
 ·unfold a15 a95 at h1
  rw[if_pos hk] at h1;simp only[xq3,decide_eq_true_eq] at h1;refine⟨n - 1,by omega,?_,h2⟩
  obtain⟨k,nu,t,ns,is⟩:=v;simp only[JV.kind,JV.num,JV.text,JV.names,JV.items] at hk h1⊢;obtain⟨⟨rfl,rfl⟩,rfl⟩:=h1;rw[hk]
theorem d96(v:JV):v=.mk v.kind v.num v.text v.names v.items:=by cases v;rfl
theorem bv4{n:Nat}{v:JV}(h:am0 n v=true)(hk:v.kind≠5/\v.kind≠6):v=.mk v.kind v.num v.text [] []/\((v.kind=0\/v.kind=1\/v.kind=2)/\v.num=0/\v.text=[]\/v.kind=3/\v.text=[]/\ -9007199254740991<=v.num/\v.num<=9007199254740991\/v.kind=4/\v.num=0/\Lib.validD v.text=true):=by
 have he:=d96 v;rcases aY2 h with h|⟨_,h,_⟩
 ·unfold bi5 a95 bm1 at h
  by_cases h2:v.kind=0\/v.kind=1\/v.kind=2
  ·rw[if_pos h2] at h
   simp only[xq3,decide_eq_true_eq] at h;obtain⟨⟨e1,e2⟩,e3,e4⟩:=h;rw[e3,e4] at he;exact⟨he,.inl ⟨h2,e1,e2⟩⟩
  rw[if_neg h2] at h;by_cases h3:v.kind=3
  ·rw[if_pos h3] at h
   simp only[xq3,decide_eq_true_eq] at h;obtain⟨⟨⟨e3,e4⟩,e2⟩,h4⟩:=h;rw[e3,e4] at he;exact⟨he,.inr (.inl ⟨h3,e2,h4⟩)⟩
  rw[if_neg h3] at h;by_cases h4:v.kind=4
  ·rw[if_pos h4] at h
   simp only[xq3,decide_eq_true_eq] at h;obtain⟨⟨⟨e3,e4⟩,e1⟩,h5⟩:=h;rw[e3,e4] at he;exact⟨he,.inr (.inr ⟨h4,e1,h5⟩)⟩
  rw[if_neg h4] at h;cases h
 ·unfold a15 at h
  rw[if_neg hk.1,if_neg hk.2] at h;cases h
theorem ct4{n:Int}(h1: -9007199254740991<=n)(h2:n<=9007199254740991):(Lib.itoa n).length<=17:=by
 have hd: ∀(k u:Nat),u < 10^k->(Lib.decDigits u).length<=max k 1:=by
  intro k;induction k with
  |zero=>
   intro u h;have:u < 1:=h;obtain rfl:u=0:=by omega
   rw[Lib.decDigits_one (by omega)]
   simp
  |succ k ih=>
   intro u h;rw[Lib.decDigits];split
   ·simp
    try omega
   ·rename_i h3
    have:=ih (u/10) (by rw[Nat.pow_succ] at h;omega)
    rw[List.length_append,List.length_cons,List.length_nil];cases k with
    |zero=>have:u < 10:=h;omega
    |succ k=>omega
 have h16:(10:Nat)^16=10000000000000000:=by decide
 unfold Lib.itoa;split
 ·have:=hd 16 n.natAbs (by omega)
  rw[List.length_cons];omega
 ·have:=hd 16 n.toNat (by omega)
  omega
theorem bw5(obj:Bool): ∀(l:List JV) (b:Bool) (ns:List bytes),(∀x∈l,(am6 x).length+1<=24*am5 x)->(obj=true->ns.length=l.length)->(az7 obj l b ns).length<=24*(l.map am5).sum+24*(ns.map aV4).sum
 |[],b,ns,_,_=>by rw[bY0];simp
 |x::l,b,ns,h,hn=>by
  have h1:=h x (aD9 ..);have h2:=bw5 obj l false ns.tail (fun y hy=>h y (aJ4 _ hy)) (fun e=>by have:=hn e;simp only[List.length_cons] at this;rw[List.length_tail];omega)
  have h3:(aW0 b obj (ns.headD [])).length+24*(ns.tail.map aV4).sum<=1+24*(ns.map aV4).sum:=by
   unfold aW0;have hb:(if b=true then([]:bytes) else[44]).length<=1:=by cases b<;>simp
   rw[List.length_append];cases obj with
   |false=>
    cases ns with
    |nil=>simp;cases b<;>simp
    |cons s ns=>simp;cases b<;>simp<;>omega
   |true=>
    cases ns with
    |nil=>simp at hn
    |cons s ns=>
     have:=bd6 s;have hw:aV4 s=1+s.length:=rfl;simp only[if_true,bL9,List.tail_cons,List.map_cons,bQ9,List.length_append,List.length_cons,List.length_nil,hw];omega
  rw[bp1,List.map_cons,bQ9];simp only[List.length_append];omega
theorem cR6: ∀(n:Nat) (v:JV),am0 n v=true->(am6 v).length+1<=24*am5 v:=by
 intro n;induction n with
 |zero=>
  intro v h;have h0:=bA9 v;have ht:=size_text v;have hq:=bd6 v.text;by_cases hk:v.kind≠5/\v.kind≠6
  ·obtain⟨h1,h2⟩:=bv4 h hk
   rw[aC7];repeat' split
   all_goals first|omega|(simp[aP4,aH7,aP5];omega)|skip
   have:=ct4 (n:=v.num) (by omega) (by omega)
   omega
  ·rcases aY2 h with h|⟨h,_⟩
   ·exact absurd (by omega) (bi4 h)
   ·omega
 |succ n ih=>
  intro v h;have h0:=bA9 v;have ht:=size_text v;have hq:=bd6 v.text;by_cases hk:v.kind≠5/\v.kind≠6
  ·obtain⟨h1,h2⟩:=bv4 h hk
   rw[aC7];repeat' split
   all_goals first|omega|(simp[aP4,aH7,aP5];omega)|skip
   have:=ct4 (n:=v.num) (by omega) (by omega)
   omega
  ·have hsz:am5 v=1+v.text.length+(v.names.map aV4).sum+(v.items.map am5).sum:=by rw[aL9,bl0]
   by_cases h5:v.kind=5
   ·obtain⟨k,e,h1,h2⟩:=cQ6 h h5
    obtain rfl:n=k:=by omega
    have:=bw5 false v.items true v.names (fun x hx=>ih x (xq6.1 h2 x hx)) (fun e=>by cases e)
    rw[aC7,if_neg (by omega),if_neg (by omega),if_neg (by omega),if_neg (by omega),if_pos h5]
    simp only[List.length_cons,List.length_append,List.length_nil];omega
   ·obtain⟨_,h1,h2,h3,h4,h6,h7⟩:=b80 h (by omega)
    have:=bw5 true v.items true v.names (fun x hx=>ih x (xq6.1 h7 x hx)) (fun _=>h3)
    rw[aC7,if_neg (by omega),if_neg (by omega),if_neg (by omega),if_neg (by omega),if_neg h5,if_pos (by omega)]
    simp only[List.length_cons,List.length_append,List.length_nil];omega
end
section
open Go V
theorem dg8{s:bytes}{i:Nat}(h:i < s.length):(s.take (i+1)).flatMap aJ8=(s.take i).flatMap aJ8++aJ8 (s.getD i 0):=by
 rw[b23,xq1 h,List.getD,xq1 h,List.flatMap_append];simp
end
section
open Go V
theorem cL7(x:Nat)(H:List AObj)(hx:x < 18446744073709551616):o7 Tryz.prog 279 [.lit (.int .u64 x)] H (fun y H'=>y=.lit (.int .i64 ((Lib.bitLen x:Nat):Int))/\H'=H):=by
 refine o8 [] [.tmp 2] 25 Tryz.func279 ?_;go_name_bytes B hB
 have hT: ∀i:Fin 256,(B.data.toList.getD i.val 0).toNat=Lib.bitLen i.val:=by rw[<-hB];decide+kernel
 have hl:B.data.toList.length=256:=by rw[<-hB];decide+kernel
 clear hB;have hT': ∀v,v < 256->(B.data.toList.getD v 0).toNat=Lib.bitLen v:=fun v h=>hT ⟨v,h⟩
 have hb: ∀v,v < 256->Lib.bitLen v<=8:=fun v h=>Lib.bitLen_le8 ⟨v,h⟩
 clear hT;repeat' first|refine l9 ?_|simp -dsimp -implicitDefEqProofs (disch:=omega) only[go_sem,hl]|refine vcA ?_ ?_|omega|refine aa8 fun _=>?_
 ·have e1:=hT' (((x/4294967296)/65536)/256) (by omega)
  have e2:=hb (((x/4294967296)/65536)/256) (by omega)
  rw[e1,IntWalk.i64_in _ (by omega)]
  refine o5 ⟨int_eq ?_,rfl⟩;rw[Lib.bitLen_shift32 x (by omega) hx,Lib.bitLen_shift16 (x/4294967296) (by omega) (by omega),Lib.bitLen_shift8 ((x/4294967296)/65536) (by omega) (by omega)]
  omega
 ·have e1:=hT' ((x/4294967296)/65536) (by omega)
  have e2:=hb ((x/4294967296)/65536) (by omega)
  rw[e1,IntWalk.i64_in _ (by omega)]
  refine o5 ⟨int_eq ?_,rfl⟩;rw[Lib.bitLen_shift32 x (by omega) hx,Lib.bitLen_shift16 (x/4294967296) (by omega) (by omega)]
  omega
 ·have e1:=hT' ((x/4294967296)/256) (by omega)
  have e2:=hb ((x/4294967296)/256) (by omega)
  rw[e1,IntWalk.i64_in _ (by omega)]
  refine o5 ⟨int_eq ?_,rfl⟩;rw[Lib.bitLen_shift32 x (by omega) hx,Lib.bitLen_shift8 (x/4294967296) (by omega) (by omega)]
  omega
 ·have e1:=hT' (x/4294967296) (by omega)
  have e2:=hb (x/4294967296) (by omega)
  rw[e1,IntWalk.i64_in _ (by omega)]
  refine o5 ⟨int_eq ?_,rfl⟩;rw[Lib.bitLen_shift32 x (by omega) hx]
  omega
 ·have e1:=hT' ((x/65536)/256) (by omega)
  have e2:=hb ((x/65536)/256) (by omega)
  rw[e1,IntWalk.i64_in _ (by omega)]
  refine o5 ⟨int_eq ?_,rfl⟩;rw[Lib.bitLen_shift16 x (by omega) (by omega),Lib.bitLen_shift8 (x/65536) (by omega) (by omega)]
  omega
 ·have e1:=hT' (x/65536) (by omega)
  have e2:=hb (x/65536) (by omega)
  rw[e1,IntWalk.i64_in _ (by omega)]
  refine o5 ⟨int_eq ?_,rfl⟩;rw[Lib.bitLen_shift16 x (by omega) (by omega)]
  omega
 ·have e1:=hT' (x/256) (by omega)
  have e2:=hb (x/256) (by omega)
  rw[e1,IntWalk.i64_in _ (by omega)]
  refine o5 ⟨int_eq ?_,rfl⟩;rw[Lib.bitLen_shift8 x (by omega) (by omega)]
  omega
 ·have e1:=hT' x (by omega)
  have e2:=hb x (by omega)
  rw[e1,IntWalk.i64_in _ (by omega)]
  refine o5 ⟨int_eq ?_,rfl⟩;omega
theorem cC7(x:Nat)(H:List AObj)(hx:x<=64):o7 Tryz.prog 362 [.lit (.int .i64 x)] H (fun y H'=>y=.lit (.int .i64 ((Lib.l10 x:Nat):Int))/\H'=H):=by
 refine o8 [] [.tmp 2] 6 Tryz.func362 ?_;repeat' simp -dsimp -implicitDefEqProofs (disch:=omega) only[go_sem]
 refine o5 ⟨int_eq ?_,rfl⟩;unfold Lib.l10;omega
theorem dY4(b:Bool)(H:List AObj):o7 Tryz.prog 363 [.lit (.bool b)] H (fun y H'=>y=.lit (.int .i64 (if b then 1 else 0))/\H'=H):=by
 cases b
 all_goals
  refine o8 [] [.tmp 2] 4 Tryz.func363 ?_;repeat' first|refine l9 ?_|simp -dsimp -implicitDefEqProofs only[go_sem]
  exact o5 ⟨rfl,rfl⟩
theorem dM7(i:Nat)(H:List AObj)(hi:i < 100):o7 Tryz.prog 289 [.lit (.int .i64 i)] H (fun y H'=>y=.str (Lib.decDigits i)/\H'=H):=by
 by_cases h:i < 10
 ·have ht:((i:Int) < 10)=True:=eq_true (by omega)
  refine o8 [] [.tmp 2] 15 Tryz.func289 ?_;go_name_bytes B hB
  have hBs:B=Lib.digits36:=by rw[<-hB];decide+kernel
  have hl:B.data.toList.length=36:=by rw[hBs];exact Lib.digits36_size
  clear hB;repeat' first|refine l9 ?_|simp -dsimp -implicitDefEqProofs (disch:=omega) only[go_sem,ht,hl]|refine vcA ?_ ?_|omega
  have:=Lib.digits36_piece h;rw[<-hBs] at this;rw[show ((i:Int)+1).toNat=i+1 by omega,this]
  exact o5 ⟨rfl,rfl⟩
 ·have ht:((i:Int) < 10)=False:=eq_false (by omega)
  refine o8 [] [.tmp 2] 15 Tryz.func289 ?_;go_name_bytes B hB
  go_name_bytes C hC
  have hCs:C=Lib.smalls:=by rw[<-hC];decide+kernel
  have hl:C.data.toList.length=200:=by rw[hCs];exact Lib.smalls_size
  clear hB hC;repeat' first|refine l9 ?_|simp -dsimp -implicitDefEqProofs (disch:=omega) only[go_sem,ht,hl]|refine vcA ?_ ?_|omega
  have:=Lib.smalls_piece h hi;rw[<-hCs] at this;rw[show ((i:Int)*2+2).toNat=i*2+2 by omega,show ((i:Int)*2).toNat=i*2 by omega,this]
  exact o5 ⟨rfl,rfl⟩
theorem bK0(u:Nat)(H:List AObj)(h1:1<=u)(h2:u < 18446744073709551616):o7 Tryz.prog 290 [.lit (.int .u64 u)] H (fun y H'=>y=.lit (.int .i64 ((Lib.nDigits u:Nat):Int))/\H'=H):=by
 obtain⟨e1,e2⟩:=Lib.numDigits_eq u h1 h2;have e3:=Lib.bitLen_le u 64 (xq0 _) h2;have cL:=fun H=>cL7 u H h2
 have cP:=fun H=>cC7 (Lib.bitLen u) H e3
 generalize Lib.l10 (Lib.bitLen u)=q at*;have hg:aq3 5=.ip (.agg aY7):=cW0 rfl rfl;have hp:=cm6 (i:=q) (by omega)
 refine o8 [] [.tmp 2] 15 Tryz.func290 ?_;repeat' first|simp -dsimp -implicitDefEqProofs (disch:=omega) only[go_sem,hg,hp,bJ9]|refine l7 (cL _) ?_|refine l7 (cP _) ?_|refine l7 (dY4 _ _) ?_|refine vcA ?_ ?_|omega
 refine o5 ⟨int_eq ?_,rfl⟩;rw[<-e1];by_cases h:10^q<=u
 ·have hc:((10^q:Nat):Int)<=(u:Int):=Int.ofNat_le.mpr h
  simp only[if_pos h,if_pos hc];omega
 ·have hc: ¬((10^q:Nat):Int)<=(u:Int):=fun h'=>h (Int.ofNat_le.mp h')
  simp only[if_neg h,if_neg hc];omega
end
section
open Go V
def c24(d:Array UInt8):List AV:=o6 0::(d.toList.map o6++List.replicate (23 - d.size) (AV.lit (.int .u8 0)))
theorem cL0{d:Array UInt8}(h:d.size<=23):(c24 d).length=24:=by
 unfold c24;simp
 omega
theorem b62{d:Array UInt8}{i j:Nat}{v:Int}(x:UInt8)(h:i < d.size)(hj:j=1+i)(hv:v=(x.toNat:Int)):(c24 d).set j (AV.lit (.int .u8 v))=c24 (d.setIfInBounds i x):=by
 subst hj hv;unfold c24;rw[show 1+i=i+1 by omega,List.set_cons_succ,bf8 _ _ (by simp;exact h)]
 rw[ce3,Array.size_setIfInBounds,bz6];rfl
def bA3(d:Array UInt8)(k w:Nat):Array UInt8:=(d.setIfInBounds (k+1) (Lib.sm (w*2+1))).setIfInBounds k (Lib.sm (w*2))
theorem aj0(d:Array UInt8)(k w:Nat):(bA3 d k w).size=d.size:=by simp[bA3]
theorem av6{nd0 u k v:Nat}{d:Array UInt8}(h:Lib.FmtInv nd0 u (k+2) v d):Lib.FmtInv nd0 u k (v/100) (bA3 d k (v%100)):=h.step2'
theorem av9{B:ByteArray}{d:Array UInt8}{i1 i0 a1 a0:Nat}(k w:Nat)(hB:B=Lib.smalls)(hk:k+1 < d.size)(h1:i1=w*2+1)(h0:i0=w*2)(ha1:a1=1+(k+1))(ha0:a0=1+k):
  ((c24 d).set a1 (AV.lit (.int .u8 (((B.data.toList.getD i1 0).toNat:Nat):Int)))).set a0 (AV.lit (.int .u8 (((B.data.toList.getD i0 0).toNat:Nat):Int)))=c24 (bA3 d k w):=by
 subst hB h1 h0;show ((c24 d).set a1 (AV.lit (.int .u8 (((Lib.sm (w*2+1)).toNat:Nat):Int)))).set a0 (AV.lit (.int .u8 (((Lib.sm (w*2)).toNat:Nat):Int)))=_
 rw[b62 (i:=k+1) (Lib.sm (w*2+1)) hk ha1 rfl,b62 (i:=k) (Lib.sm (w*2)) (by simp;omega) ha0 rfl]
 rfl
theorem bI8{d:Array UInt8}{z:Int}(w:Nat)(h:0 < d.size)(hw:w < 10)(hz:z=48+(w:Int)):(c24 d).set 1 (AV.lit (.int .u8 z))=c24 (d.setIfInBounds 0 (UInt8.ofNat (48+w))):=
 b62 (UInt8.ofNat (48+w)) h rfl (by
  rw[hz,UInt8.toNat_ofNat_of_lt' (by show 48+w < 256;omega)]
  omega)
theorem dz3(u:Nat)(d0:Array UInt8)(H:List AObj)(hd:d0.size=Lib.nDigits u)(h2:u < 18446744073709551616)(h3:d0.size<=20):
  o7 Tryz.prog 291 [.msl H.length 1 d0.size 23,.lit (.int .u64 u)] (H++[.cells (.one 374) (c24 d0)]) (fun y H'=> ∃dk v',Lib.FmtInv d0.size u 0 v' dk/\y=.tup []/\H'=H++[.cells (.one 374) (c24 dk)]):=by
 have hst:Lib.FmtInv d0.size u d0.size u d0:=Lib.FmtInv.start d0 u (by rw[hd];exact Lib.lt_pow_nDigits u)
 refine o8 [1000007,1000008,1000009,1000010,1000017,1000018,1000023] [] 167 Tryz.func291 ?_;go_name_bytes B hB
 have hBs:B=Lib.smalls:=by rw[<-hB];decide+kernel
 have hl:B.data.toList.length=200:=by rw[hBs];exact Lib.smalls_size
 clear hB;repeat' simp -dsimp -implicitDefEqProofs only[go_sem]
 refine aa7 ab6 mixed [1000007,1000008,1000009,1000010,1000017,1000018,1000023] [0] (fun(x:Nat×Nat×Array UInt8)=>Lib.FmtInv d0.size u x.1 x.2.1 x.2.2) (fun x=>[(4,.int .i64 x.1),(1,.int .u64 x.2.1)]) (fun x=>H++[.cells (.one 374) (c24 x.2.2)]) (fun x=>x.1) (by kernel_rfl) ?_ (d0.size,u,d0) hst aa3 rfl
 rintro⟨nd,v,d⟩ hI
 dsimp only at*;by_cases h8:8<=nd
 ·have hc:((nd:Int)≥8)=True:=eq_true (by omega)
  have hle:=hI.le;have hcl:=cL0 (d:=d) (by rw[hI.size];omega)
  obtain⟨k,rfl⟩: ∃k,nd=k+8:=⟨nd - 8,by omega⟩
  have hvb:v < 18446744073709551616:=by
   rw[hI.rest];exact Nat.lt_of_le_of_lt (Nat.div_le_self _ _) h2
  have j1:=av6 (k:=k+6) hI;have j2:=av6 (k:=k+4) j1;have j3:=av6 (k:=k+2) j2;have j4:=av6 (k:=k) j3;have hs:=hI.size;generalize hv4:v/100/100/100/100=v4 at j4;generalize hd4:bA3 (bA3 (bA3 (bA3 d (k+6) (v%100)) (k+4) (v/100%100)) (k+2) (v/100/100%100)) k (v/100/100/100%100)=d4 at j4;clear j1 j2 j3;repeat' first|refine l9 ?_|simp -dsimp -implicitDefEqProofs (disch:=omega) only[go_sem,hc,hl,hcl]|refine vcA ?_ ?_|omega
  refine again ((k,v4,d4)) ?_ ?_ ?_ aa3
  ·show k < k+8
   omega
  ·exact j4
  ·rw[av9 (d:=d) (k+6) (v%100) hBs (by omega) (by omega) (by omega) (by omega) (by omega),
    av9 (k+4) (v/100%100) hBs (by rw[aj0];omega) (by omega) (by omega) (by omega) (by omega),
    av9 (k+2) (v/100/100%100) hBs (by rw[aj0,aj0];omega) (by omega) (by omega) (by omega) (by omega),
    av9 k (v/100/100/100%100) hBs (by rw[aj0,aj0,aj0];omega) (by omega) (by omega) (by omega) (by omega),hd4]
 ·have hc:((nd:Int)≥8)=False:=eq_false (by omega)
  have hv7:=hI.lt7 (by omega)
  have hcl:=cL0 (d:=d) (by rw[hI.size];omega)
  have hle:=hI.le;have hs:=hI.size;repeat' first|refine l9 ?_|simp -dsimp -implicitDefEqProofs (disch:=omega) only[go_sem,hc,hl,hcl]|refine vcA ?_ ?_|omega|refine aa8 fun _=>?_
  ·obtain rfl:nd=7:=by omega
   have j1:=av6 (k:=5) hI;have j2:=av6 (k:=3) j1;have j3:=av6 (k:=1) j2;have e1:v/100/100/100 < 10:=by simpa using j3.small
   refine aa5 _ (Le.refl _) (by simp) ⟨_,_,j3.step1,rfl,?_⟩
   rw[av9 (d:=_) 5 (v%100) hBs (by(try simp only[aj0]);omega) (by omega) (by omega) (by omega) (by omega),av9 (d:=_) 3 (v/100%100) hBs (by(try simp only[aj0]);omega) (by omega) (by omega) (by omega) (by omega),av9 (d:=_) 1 (v/100/100%100) hBs (by(try simp only[aj0]);omega) (by omega) (by omega) (by omega) (by omega),bI8 (v/100/100/100) (by(try simp only[aj0]);omega) e1 (by omega)]
  ·obtain rfl:nd=6:=by omega
   have j1:=av6 (k:=4) hI;have j2:=av6 (k:=2) j1;have j3:=av6 (k:=0) j2;refine aa5 _ (Le.refl _) (by simp) ⟨_,_,j3,rfl,?_⟩
   rw[av9 (d:=_) 4 (v%100) hBs (by(try simp only[aj0]);omega) (by omega) (by omega) (by omega) (by omega),av9 (d:=_) 2 (v/100%100) hBs (by(try simp only[aj0]);omega) (by omega) (by omega) (by omega) (by omega),av9 (d:=_) 0 (v/100/100%100) hBs (by(try simp only[aj0]);omega) (by omega) (by omega) (by omega) (by omega)]
  ·obtain rfl:nd=5:=by omega
   have j1:=av6 (k:=3) hI;have j2:=av6 (k:=1) j1;have e1:v/100/100 < 10:=by simpa using j2.small
   refine aa5 _ (Le.refl _) (by simp) ⟨_,_,j2.step1,rfl,?_⟩
   rw[IntWalk.u8_in (48+(v:Int)/10000) (by omega)]
   rw[av9 (d:=_) 3 (v%100) hBs (by(try simp only[aj0]);omega) (by omega) (by omega) (by omega) (by omega),av9 (d:=_) 1 (v/100%100) hBs (by(try simp only[aj0]);omega) (by omega) (by omega) (by omega) (by omega),bI8 (v/100/100) (by(try simp only[aj0]);omega) e1 (by omega)]
  ·obtain rfl:nd=4:=by omega
   have j1:=av6 (k:=2) hI;have j2:=av6 (k:=0) j1;refine aa5 _ (Le.refl _) (by simp) ⟨_,_,j2,rfl,?_⟩
   rw[av9 (d:=_) 2 (v%100) hBs (by(try simp only[aj0]);omega) (by omega) (by omega) (by omega) (by omega),av9 (d:=_) 0 (v/100%100) hBs (by(try simp only[aj0]);omega) (by omega) (by omega) (by omega) (by omega)]
  ·obtain rfl:nd=3:=by omega
   have j1:=av6 (k:=1) hI;have e1:v/100 < 10:=by simpa using j1.small
   refine aa5 _ (Le.refl _) (by simp) ⟨_,_,j1.step1,rfl,?_⟩
   rw[IntWalk.u8_in (48+(v:Int)/100) (by omega)]
   rw[av9 (d:=_) 1 (v%100) hBs (by(try simp only[aj0]);omega) (by omega) (by omega) (by omega) (by omega),bI8 (v/100) (by(try simp only[aj0]);omega) e1 (by omega)]
  ·obtain rfl:nd=2:=by omega
   have j1:=av6 (k:=0) hI;refine aa5 _ (Le.refl _) (by simp) ⟨_,_,j1,rfl,?_⟩
   rw[av9 (d:=_) 0 (v%100) hBs (by(try simp only[aj0]);omega) (by omega) (by omega) (by omega) (by omega)]
  ·obtain rfl:nd=1:=by omega
   have e1:v < 10:=by simpa using hI.small
   refine aa5 _ (Le.refl _) (by simp) ⟨_,_,hI.step1,rfl,?_⟩
   rw[IntWalk.u8_in (48+(v:Int)) (by omega)]
   rw[bI8 (v) (by(try simp only[aj0]);omega) e1 (by omega)]
  ·obtain rfl:nd=0:=by omega
   refine aa5 _ (Le.refl _) (by simp) ⟨_,_,hI,rfl,?_⟩
   rfl
end
section
open Go V
def l24(l:List UInt8):List AV:=o6 0::(l.map o6++List.replicate (23 - l.length) (AV.lit (.int .u8 0)))
theorem dD0{n:Nat}(h:n<=23):c24 (Array.replicate n 0)=List.replicate 24 (AV.lit (.int .u8 0)):=by
 unfold c24;have e:o6 0=AV.lit (.int .u8 0):=rfl;rw[Array.toList_replicate,bL3,Array.size_replicate,e,bG0,show n+(23 - n)=23 by omega]
 rfl
theorem dD1{u v':Nat}{dk:Array UInt8}(h:Lib.FmtInv (Lib.nDigits u) u 0 v' dk):c24 dk=l24 (Lib.decDigits u):=by
 have e:dk.toList=Lib.decDigits u:=by
  refine List.ext_getElem (by rw[bR9,h.size,Lib.decDigits_length]) fun j h1 h2=>?_
  rw[Lib.row_is_numeral h j h2,Array.getElem_toList];exact(getElem!_pos dk j (by simpa using h1)).symm
 unfold c24 l24;rw[e,h.size,Lib.decDigits_length]
theorem cJ4{l:List UInt8}(h:l.length<=23):(l24 l).length=24:=by
 unfold l24;simp
 omega
theorem dT7{l:List UInt8}{n:Nat}(h:l.length=n):((l24 l).set 0 (AV.lit (.int .u8 45))).take (n+1)=(45::l).map o6:=by
 subst h;unfold l24;rw[List.set_cons_zero,an7,cd4 (by simp)]
 rfl
theorem dT6{l:List UInt8}{n:Nat}(h:l.length=n):((l24 l).drop 1).take n=l.map o6:=by
 subst h;unfold l24;rw[ao5,List.drop_zero,cd4 (by simp)]
theorem bw0{u:Nat}(h:u < 18446744073709551616):Lib.nDigits u<=20:=by
 rcases bb9 u with e|e
 ·subst e
  rw[Lib.nDigits_small (by omega)]
  omega
 ·have:=Lib.numDigits_eq u e h
  split at this<;>omega
theorem cv2(u:Nat)(H:List AObj)(h2:u < 18446744073709551616):
  o7 Tryz.prog 291 [.msl H.length 1 (Lib.nDigits u) 23,.lit (.int .u64 u)] (H++[.cells (.one 374) (List.replicate 24 (AV.lit (.int .u8 0)))]) (fun y H'=>y=.tup []/\H'=H++[.cells (.one 374) (l24 (Lib.decDigits u))]):=by
 have hn:=bw0 h2;have:=dz3 u (Array.replicate (Lib.nDigits u) 0) H (by simp) h2 (by simpa using hn)
 rw[dD0 (by omega),Array.size_replicate] at this
 refine this.mono fun _ H' ⟨dk,v',hI,ey,e⟩=>⟨ey,?_⟩
 rw[e,dD1 hI]
theorem cG0(i:Int)(H:List AObj)(h1: -9223372036854775808 < i)(h2:i < 9223372036854775808):o7 Tryz.prog 215 [.lit (.int .i64 i),.lit (.int .i64 10)] H (fun y H'=>y=.str (Lib.itoa i)/\H'=H):=by
 by_cases hs:0<=i/\i < 100
 ·obtain⟨n,rfl⟩:=bR8 hs.1
  have hc1:((0:Int)<=(n:Int))=True:=eq_true (by omega)
  have hc2:((n:Int) < 100)=True:=eq_true (by omega)
  rw[Lib.itoa_nonneg];refine o8 [5] [.tmp 4] 54 Tryz.func215 ?_;repeat' first|refine l9 ?_|simp -dsimp -implicitDefEqProofs only[go_sem,hc1,hc2]|refine l7 (dM7 _ _ (by omega)) ?_|fail
  exact o5 ⟨rfl,rfl⟩
 ·by_cases hn:i < 0
  ·obtain⟨u,rfl⟩: ∃u:Nat,i= -(u:Int):=⟨i.natAbs,by omega⟩
   have hc1:((0:Int)<= -(u:Int))=False:=eq_false (by omega)
   have hc2:(-(u:Int) < 0)=True:=eq_true (by omega)
   have hd:=bw0 (u:=u) (by omega)
   have hz:(1+((Lib.nDigits u:Nat):Int)).toNat - 1=Lib.nDigits u:=by omega
   have hl:=Lib.decDigits_length u;have hu1:IntKind.u64.wrap (-(u:Int))=18446744073709551616 - (u:Int):=by
    show (-(u:Int))%18446744073709551616=_
    omega
   have hu2:IntKind.u64.wrap (0 - (18446744073709551616 - (u:Int)))=(u:Int):=by
    show (0 - (18446744073709551616 - (u:Int)))%18446744073709551616=_
    omega
   rw[Lib.itoa_neg u (by omega)]
   refine o8 [5] [.tmp 4] 54 Tryz.func215 ?_;have hl24:=cJ4 (l:=Lib.decDigits u) (by omega)
   have hn1:=dT7 hl;have hz2:(1+((Lib.nDigits u:Nat):Int)).toNat - 0=Lib.nDigits u+1:=by omega
   repeat' first|refine l9 ?_|simp -dsimp -implicitDefEqProofs (disch:=omega) only[go_sem,hc1,hc2,hu1,hu2,hz,hz2,hl24,hn1]|refine l7 (bK0 _ _ ?_ ?_) ?_|refine l7 (cv2 _ _ ?_) ?_|refine vcA ?_ ?_|omega
   ·exact bK5 (45::Lib.decDigits u)
   ·rw[show ax3 (o6 45::(Lib.decDigits u).map o6)=45::Lib.decDigits u from bo6 (45::Lib.decDigits u)]
    exact aa1 _ (Le.refl _) (.str _) ⟨rfl,rfl⟩
  ·obtain⟨u,rfl⟩:=bR8 (show 0<=i by omega)
   have hc1:((0:Int)<=(u:Int))=True:=eq_true (by omega)
   have hc2:((u:Int) < 0)=False:=eq_false (by omega)
   have hc3:((u:Int) < 100)=False:=eq_false (by omega)
   have hd:=bw0 (u:=u) (by omega)
   have hz:(1+((Lib.nDigits u:Nat):Int)).toNat - 1=Lib.nDigits u:=by omega
   have hl:=Lib.decDigits_length u;rw[Lib.itoa_nonneg];refine o8 [5] [.tmp 4] 54 Tryz.func215 ?_;have hl24:=cJ4 (l:=Lib.decDigits u) (by omega)
   have hp1:=dT6 hl;repeat' first|refine l9 ?_|simp -dsimp -implicitDefEqProofs (disch:=omega) only[go_sem,hc1,hc2,hc3,hz,hl24,hp1]|refine l7 (bK0 _ _ ?_ ?_) ?_|refine l7 (cv2 _ _ ?_) ?_|refine vcA ?_ ?_|omega
   exact aa1 _ (Le.refl _) (.str _) ⟨rfl,rfl⟩
theorem eg1(i:Int)(H:List AObj)(h1: -9223372036854775808 < i)(h2:i < 9223372036854775808):o7 Tryz.prog 126 [.lit (.int .i64 i)] H (fun y H'=>y=.str (Lib.itoa i)/\H'=H):=by
 have c:=fun H=>cG0 i H h1 h2
 refine o8 [] [.tmp 2] 5 Tryz.func126 ?_;repeat' first|simp -dsimp -implicitDefEqProofs only[go_sem]|refine l7 (c _) ?_|fail
 exact o5 ⟨rfl,rfl⟩
theorem eg2(i:Int)(H:List AObj)(h1: -9223372036854775808 < i)(h2:i < 9223372036854775808):o7 Tryz.prog 50 [.lit (.int .i64 i)] H (fun y H'=>y=.str (Lib.itoa i)/\H'=H):=by
 have c:=fun H=>eg1 i H h1 h2
 refine o8 [] [.tmp 2] 5 Tryz.func50 ?_;repeat' first|simp -dsimp -implicitDefEqProofs only[go_sem]|refine l7 (c _) ?_|fail
 exact o5 ⟨rfl,rfl⟩
end
section
open Go V
mutual
def trT:JV->bytes->bytes
 |.mk k n t ns is,o=>
  if 8192 < o.length then o
  else if k=5 then itT false is true ns (o++[91])++[93]
  else if k=6 then itT true is true ns (o++[123])++[125]
  else o++am6 (.mk k n t ns is)
def itT(obj:Bool):List JV->Bool->List bytes->bytes->bytes
 |[],_,_,o=>o
 |v::r,first,ns,o=>itT obj r false ns.tail (trT v (o++aW0 first obj (ns.headD [])))
end
theorem bT0(v:JV)(o:bytes):trT v o=if 8192 < o.length then o else if v.kind=5 then itT false v.items true v.names (o++[91])++[93] else if v.kind=6 then itT true v.items true v.names (o++[123])++[125] else o++am6 v:=by
 cases v;rw[trT];rfl
theorem cJ6(obj first:Bool)(ns:List bytes)(o:bytes):itT obj [] first ns o=o:=by rw[itT]
theorem ct6(obj first:Bool)(ns:List bytes)(v:JV)(r:List JV)(o:bytes):itT obj (v::r) first ns o=itT obj r false ns.tail (trT v (o++aW0 first obj (ns.headD []))):=by rw[itT]
def Cut(o p x:bytes):Prop:=o.length<=x.length/\x.length<=o.length+p.length/\(x=o++p\/(8192 < x.length/\8192 < o.length+p.length))
theorem aZ9(o p:bytes):Cut o p (o++p):=⟨by simp,by simp,.inl rfl⟩
theorem bb6{o p q x y:bytes}(h:Cut o p x)(k:Cut x q y):Cut o (p++q) y:=by
 obtain⟨h1,h2,h3⟩:=h;obtain⟨k1,k2,k3⟩:=k;refine⟨by omega,by rw[List.length_append];omega,?_⟩
 rw[List.length_append];rcases h3 with rfl|h3
 ·rcases k3 with rfl|k3
  ·left;rw[List.append_assoc]
  ·right;rw[List.length_append] at k3;omega
 ·right;omega
theorem cK8{o p x:bytes}(h:Cut o p x)(q:bytes):Cut o (p++q) (x++q):=bb6 h (aZ9 x q)
theorem ct5{obj:Bool}: ∀(l:List JV) (first:Bool) (ns:List bytes) (o:bytes),(∀x∈l,∀o,Cut o (am6 x) (trT x o))->Cut o (az7 obj l first ns) (itT obj l first ns o)
 |[],first,ns,o,_=>by
  rw[cJ6,bY0];have:=aZ9 o [];rw[List.append_nil] at this;exact this
 |v::r,first,ns,o,h=>by
  rw[ct6,bp1,<-List.append_assoc];exact bb6 (bb6 (aZ9 o _) (h v (aD9 ..) _)) (ct5 r false ns.tail _ fun x hx=>h x (aJ4 _ hx))
theorem cj1: ∀(v:JV) (o:bytes),Cut o (am6 v) (trT v o):=by
 refine JV.induct fun k n t ns is ih o=>?_
 rw[bT0];by_cases h:8192 < o.length
 ·rw[if_pos h]
  exact⟨xq0 _,by omega,.inr ⟨h,by omega⟩⟩
 rw[if_neg h];by_cases h5:k=5
 ·subst h5
  rw[aC7,b56,if_pos rfl,if_neg (by decide),if_neg (by decide),if_neg (by decide),if_neg (by decide),if_pos rfl]
  exact cK8 (bb6 (p:=[91]) (aZ9 o [91]) (ct5 is true ns _ ih)) [93]
 by_cases h6:k=6
 ·subst h6
  rw[aC7,b56,if_neg (by decide),if_pos rfl,if_neg (by decide),if_neg (by decide),if_neg (by decide),if_neg (by decide),if_neg (by decide),if_pos rfl]
  exact cK8 (bb6 (p:=[123]) (aZ9 o [123]) (ct5 is true ns _ ih)) [125]
 rw[b56,if_neg h5,if_neg h6];exact aZ9 _ _
theorem d35(v:JV):(8192 < (trT v []).length↔8192 < (am6 v).length)/\((am6 v).length<=8192->trT v []=am6 v):=by
 obtain⟨h1,h2,h3⟩:=cj1 v [];simp only[List.length_nil,Nat.zero_add,List.nil_append] at h2 h3;rcases h3 with h|h
 ·rw[h];exact⟨Iff.rfl,fun _=>rfl⟩
 ·exact⟨⟨fun _=>h.2,fun _=>h.1⟩,fun k=>by omega⟩
theorem bY4{α:Type}(l:List α)(i:Nat)(d:α):(l.drop i).headD d=l.getD i d:=by
 rw[List.headD_eq_head?_getD,List.head?_drop,List.getD]
theorem d97{obj:Bool}{v:JV}{i:Nat}(h:i < v.items.length)(o:bytes):itT obj (v.items.drop i) (i==0) (v.names.drop i) o=itT obj (v.items.drop (i+1)) (i+1==0) (v.names.drop (i+1)) (trT (v.items.getD i aa9) (o++aW0 (i==0) obj (v.names.getD i []))):=by
 rw[drop_cons aa9 h,ct6,bY4,bL2];rfl
theorem de8{obj:Bool}{v:JV}{i:Nat}(h:i < v.items.length):az7 obj (v.items.drop i) (i==0) (v.names.drop i)=aW0 (i==0) obj (v.names.getD i [])++(am6 (v.items.getD i aa9)++az7 obj (v.items.drop (i+1)) (i+1==0) (v.names.drop (i+1))):=by
 rw[drop_cons aa9 h,bp1,bY4,bL2];rfl
end
section
open Go V
def pA(a:AV)(H:List AObj)(k m:Nat)(o:bytes):List AObj:=(H.set k (ap7 345 m a o)).set m (ax7 o.length)
theorem c94{a b:AV}{H:List AObj}{k m:Nat}{o p:bytes}(h:k≠m):((pA a H k m o).set k (ap7 345 m b p)).set m (ax7 p.length)=pA b H k m p:=by
 unfold pA;rw[List.set_comm _ _ (Ne.symm h),List.set_set,List.set_set]
theorem ai7{a:AV}{H:List AObj}{k m:Nat}{o:bytes}:(pA a H k m o).length=H.length:=by simp[pA]
structure PAt(H:List AObj)(k m:Nat):Prop where
 kl:k < H.length
 ml:m < H.length
 ne:k≠m
theorem cn4{a:AV}{H:List AObj}{k m:Nat}{o:bytes}(h:PAt H k m):(pA a H k m o)[k]?=some (ap7 345 m a o):=by
 unfold pA;rw[ar6 h.ne.symm,aA0 h.kl]
theorem dq8{a:AV}{H:List AObj}{k m:Nat}{o:bytes}(h:PAt H k m):(pA a H k m o)[m]?=some (ax7 o.length):=by
 unfold pA;rw[aA0 (by rw[List.length_set];exact h.ml)]
theorem ee0:bT 345:=by unfold bT;kernel_rfl
theorem aQ0{a:AV}{H:List AObj}{k m:Nat}{o:bytes}{z:Int}(c:UInt8)(hz:z=(c.toNat:Int))(h:PAt H k m)(ha:aD5 k a)(hl:o.length<=100000000):
  o7 Tryz.prog 325 [.mp k 0,.lit (.int .u8 z)] (pA a H k m o) (fun x H'=>x=.lit .nilIface/\H'=pA (.mp k 0) H k m (o++[c])):=by
 subst hz;have:=a96 (c:=c) ee0 (cn4 h) ha (dq8 h) hl;rw[c94 h.ne] at this;exact this
theorem bs0{a:AV}{H:List AObj}{k m:Nat}{o l:bytes}(h:PAt H k m)(ha:aD5 k a)(hl:o.length<=100000000)(hl2:l.length<=100000000):
  o7 Tryz.prog 341 [.mp k 0,.str l] (pA a H k m o) (fun x H'=>x=.tup [.int .i64 l.length,.lit .nilIface]/\H'=pA (.mp k 0) H k m (o++l)):=by
 have:=cc9 (l:=l) ee0 (cn4 h) ha (dq8 h) hl hl2;rw[c94 h.ne] at this;exact this
theorem dh7(c:UInt8):(∃j,j < 7/\aw2 [34,92,8,9,10,12,13] c=((j:Nat):Int)/\aJ8 c=[92,([34,92,98,116,110,102,114]:bytes).getD j 0])\/(aw2 [34,92,8,9,10,12,13] c= -1/\c.toNat < 32/\aJ8 c=[92,117,48,48,hexS (c.toNat/16),hexS (c.toNat%16)])\/(aw2 [34,92,8,9,10,12,13] c= -1/\ ¬c.toNat < 32/\aJ8 c=[c]):=by
 have: ∀n:Fin 256,(∃j,j < 7/\aw2 [34,92,8,9,10,12,13] (UInt8.ofNat n.val)=((j:Nat):Int)/\aJ8 (UInt8.ofNat n.val)=[92,([34,92,98,116,110,102,114]:bytes).getD j 0])\/(aw2 [34,92,8,9,10,12,13] (UInt8.ofNat n.val)= -1/\(UInt8.ofNat n.val).toNat < 32/\aJ8 (UInt8.ofNat n.val)=[92,117,48,48,hexS ((UInt8.ofNat n.val).toNat/16),hexS ((UInt8.ofNat n.val).toNat%16)])\/(aw2 [34,92,8,9,10,12,13] (UInt8.ofNat n.val)= -1/\ ¬(UInt8.ofNat n.val).toNat < 32/\aJ8 (UInt8.ofNat n.val)=[UInt8.ofNat n.val]):=by decide+kernel
 have:=this ⟨c.toNat,c.toNat_lt⟩;simp only[UInt8.ofNat_toNat] at this;exact this
theorem bN0{a:AV}{H:List AObj}{k m:Nat}{o:bytes}(s:bytes)(h:PAt H k m)(ha:aD5 k a)(hl:o.length<=10000000)(hs:s.length<=100000):
  o7 Tryz.prog 342 [.mp k 0,.str s] (pA a H k m o) (fun x H'=>x=.tup []/\H'=pA (.mp k 0) H k m (o++aU8 s)):=by
 refine o8 [1000009,1000012,1000013] [] 65 Tryz.func342 ?_;repeat' first|simp -dsimp -implicitDefEqProofs only[go_sem]|refine l7 (aQ0 34 rfl h ha (by omega)) ?_|fail
 refine aa7 ab6 mixed [1000009,1000012,1000013] [0,1,12] (fun i:Nat=>i<=s.length) (fun i=>[(13,.int .i64 i)]) (fun i=>pA (.mp k 0) H k m (o++34::(s.take i).flatMap aJ8)) (fun i=>s.length - i) (by kernel_rfl) ?_ 0 (by omega) aa3 rfl
 intro i hi;have hfl:=cv4 (s.take i);have htl:(s.take i).length<=100000:=by rw[List.length_take];omega
 have hlo:(o++34::(s.take i).flatMap aJ8).length<=20000000:=by simp only[List.length_append,List.length_cons];omega
 by_cases hil:i < s.length
 ·have ht:=dg8 hil
  generalize hc:s.getD i 0=c at ht;generalize hf:(s.take i).flatMap aJ8=f at*;have hcl:=c.toNat_lt;rcases dh7 c with⟨j,hj,hi1,hi2⟩|⟨hi1,hi3,hi2⟩|⟨hi1,hi3,hi2⟩
  ·have hI:=fun H=>al7 [34,92,8,9,10,12,13] c H
   rw[hi1] at hI;rw[hi2] at ht;repeat' first|refine l9 ?_|simp -dsimp -implicitDefEqProofs (disch:=omega) only[go_sem,hc,List.length_append,List.length_cons,List.length_nil]|refine l7 (hI _) ?_|refine l7 (aQ0 92 rfl h an4 ?_) ?_|refine⟨_,_,aQ0 _ rfl h an4 ?_,?_⟩|refine vcA ?_ ?_|omega|refine aa8 fun _=>?_
   rw[<-ht];refine again (i+1) ?_ ?_ rfl aa3
   ·omega
   ·omega
  ·have hI:=fun H=>al7 [34,92,8,9,10,12,13] c H
   rw[hi1] at hI;rw[hi2] at ht;have hct:((c.toNat:Int) < 32)=True:=eq_true (by omega)
   repeat' first|refine l9 ?_|simp -dsimp -implicitDefEqProofs (disch:=omega) only[go_sem,hc,hct,List.length_append,List.length_cons,List.length_nil]|refine l7 (hI _) ?_|refine l7 (bs0 h an4 ?_ ?_) ?_|refine⟨_,_,aQ0 _ rfl h an4 ?_,?_⟩|refine vcA ?_ ?_|omega|refine aa8 fun _=>?_
   have ht2:(s.take (i+1)).flatMap aJ8=f++[92,117,48,48,([48,49,50,51,52,53,54,55,56,57,97,98,99,100,101,102]:bytes).getD (c.toNat/16) 0,([48,49,50,51,52,53,54,55,56,57,97,98,99,100,101,102]:bytes).getD (c.toNat%16) 0]:=ht;rw[show ((c.toNat:Int)%16).toNat=c.toNat%16 by omega,<-ht2]
   refine again (i+1) ?_ ?_ rfl aa3
   ·omega
   ·omega
  ·have hI:=fun H=>al7 [34,92,8,9,10,12,13] c H
   rw[hi1] at hI;rw[hi2] at ht;have hct:((c.toNat:Int) < 32)=False:=eq_false (by omega)
   repeat' first|refine l9 ?_|simp -dsimp -implicitDefEqProofs (disch:=omega) only[go_sem,hc,hct,List.length_append,List.length_cons,List.length_nil]|refine l7 (hI _) ?_|refine l7 (aQ0 c rfl h an4 ?_) ?_|refine vcA ?_ ?_|omega|refine aa8 fun _=>?_
   rw[<-ht];refine again (i+1) ?_ ?_ rfl aa3
   ·omega
   ·omega
 ·obtain rfl:i=s.length:=by omega
  rw[aL1] at*;repeat' first|refine l9 ?_|simp -dsimp -implicitDefEqProofs only[go_sem,List.length_append,List.length_cons,List.length_nil]|refine l7 (aQ0 34 rfl h an4 ?_) ?_|refine vcA ?_ ?_|omega|refine aa8 fun _=>?_
  exact aa5 _ (Le.refl _) (by rw[ai7,ai7];exact xq0 _) ⟨rfl,rfl⟩
end
section
open Go V
theorem bH8{m:Nat}{x:AV}(h:Low m x:=by(first|(first|exact .lit _|exact .str _|exact .any|exact ac8|exact ad1|exact .mp _ _ (by omega)|exact .msl _ _ _ _ (by omega)|exact ac1 (fun k e=>by cases e)|exact ab1 _|exact ae4|exact ae7|exact af2|exact af1 _|exact ab5|exact ab2)|(refine ae2 ?_;repeat(first|exact aa4|(refine o9 ?_ ?_;focus(first|exact .lit _|exact .str _|exact .any|exact ac8|exact ad1|exact .mp _ _ (by omega)|exact .msl _ _ _ _ (by omega)|exact ac1 (fun k e=>by cases e)|exact ab1 _|exact ae4|exact ae7|exact af2|exact af1 _|exact ab5|exact ab2))))|(refine am9 ?_;repeat(first|exact aa4|(refine o9 ?_ ?_;focus(first|exact .lit _|exact .str _|exact .any|exact ac8|exact ad1|exact .mp _ _ (by omega)|exact .msl _ _ _ _ (by omega)|exact ac1 (fun k e=>by cases e)|exact ab1 _|exact ae4|exact ae7|exact af2|exact af1 _|exact ab5|exact ab2)))))):Low m x:=h
theorem PAt.app{H:List AObj}{k m:Nat}(h:PAt H k m)(M:List AObj):PAt (H++M) k m:=⟨by have:=h.kl;rw[List.length_append];omega,by have:=h.ml;rw[List.length_append];omega,h.ne⟩
theorem aM2{a:AV}{H:List AObj}{k m:Nat}{o:bytes}{M:List AObj}(h:PAt H k m):pA a H k m o++M=pA a (H++M) k m o:=by
 unfold pA;rw[bf8 _ _ h.kl,bf8 _ _ (by rw[List.length_set];exact h.ml)]
theorem bW4{a:AV}{H:List AObj}{k m:Nat}{o:bytes}{M:List AObj}(h:PAt H k m):(pA a (H++M) k m o)[H.length]?=M[0]?:=by
 rw[<-aM2 h,xq5 (by rw[ai7];exact xq0 _),ai7,ao4]
theorem bH3{a:AV}{H:List AObj}{k m:Nat}{o:bytes}{M:List AObj}{x:AObj}(h:PAt H k m):(pA a (H++M) k m o).set H.length x=pA a (H++M.set 0 x) k m o:=by
 rw[<-aM2 h,<-aM2 h,az0 _ _ (by rw[ai7];exact xq0 _),ai7,ao4]
theorem dS3{m k:Nat}{a:AV}(h:aD5 k a)(hk:k < m):Low m a:=by
 rcases h with rfl|rfl
 ·exact .lit _
 ·exact .mp _ _ hk
theorem bW3{a b:AV}{H:List AObj}{k m mm:Nat}{o p:bytes}(h:PAt H k m)(hb:aD5 k b)(hmm:H.length<=mm): ∀(j:Nat) (u:AObj),(pA b H k m p)[j]?=some u->(pA a H k m o)[j]?=some u\/u.low mm:=fun j u e=>by
 have h1:=h.kl;have h2:=h.ml;by_cases hj:j=m
 ·subst hj
  rw[dq8 h] at e;cases e
  exact .inr trivial
 ·by_cases hk:j=k
  ·subst hk
   rw[cn4 h] at e;cases e
   right
   refine fun z hz=>?_
   simp only[an8,aJ2,or_false] at hz;rcases hz with rfl|rfl
   ·exact dS3 hb (by omega)
   ·exact a18 (fun x hx=>by
     obtain⟨c,_,rfl⟩:=xq9.1 hx;exact⟨_,rfl⟩) (fun k e=>by cases e;omega)
  ·left
   unfold pA at e⊢;rw[ar6 (Ne.symm hj),ar6 (Ne.symm hk)] at e⊢;exact e
theorem af1{m:Nat}(v:JV):Low m (jAV v).ip:=by
 rw[az6];refine .ip _ fun y hy=>?_
 simp[AV.flat,aa2] at hy
 rcases hy with rfl|rfl|rfl|rfl|rfl
 ·exact .lit _
 ·exact .lit _
 ·exact .str _
 ·exact ae7
 ·exact ae4
theorem dp8{a:AV}{H:List AObj}{k m:Nat}{o:bytes}{d:Nat}(v:JV)(f l:UInt8)(h:PAt H k m)(ha:aD5 k a)(hr:am0 (d+1) v=true)(hk:v.kind=5\/v.kind=6)(hs:o.length+(am6 v).length<=1000000)(hsz:am5 v<=40000)
  (ih: ∀x∈v.items,∀(H:List AObj) (o:bytes),PAt H k m->o.length+(am6 x).length<=1000000->o7 Tryz.prog 258 [.mp k 0,jAV x] (pA (.mp k 0) H k m o) (fun x' H'=>x'=.tup []/\H'=pA (.mp k 0) H k m (trT x o))):
  o7 Tryz.prog 343 [.mp k 0,jAV v,.lit (.int .u8 f.toNat),.lit (.int .u8 l.toNat)] (pA a H k m o) (fun x H'=>x=.tup []/\H'=pA (.mp k 0) H k m (itT (decide (v.kind=6)) v.items true v.names (o++[f])++[l])):=by
 have hpe:(am6 v).length=(az7 (decide (v.kind=6)) v.items true v.names).length+2:=by
  rw[aC7,if_neg (by omega),if_neg (by omega),if_neg (by omega),if_neg (by omega)]
  rcases hk with e|e
  ·rw[if_pos e,decide_eq_false (by omega)];simp
  ·rw[if_neg (by omega),if_pos e,decide_eq_true e];simp
 have hn:v.kind=6->v.names.length=v.items.length:=fun e=>(b80 hr e).2.2.2.1
 have hszi:=bd5 v;have hszn:=fun i (hi:i < v.names.length)=>b77 (v:=v) (ag9 (d:=[]) hi)
 have hkl:=h.kl;generalize hF:itT (decide (v.kind=6)) v.items true v.names (o++[f])=F;refine o8 [] [] 52 Tryz.func343 ?_;repeat' first|simp -dsimp -implicitDefEqProofs only[go_sem]|refine l7 (aQ0 f rfl h ha (by omega)) ?_|fail
 refine aa7 ab6 mixed [] [0,3,5,16,17] (fun p:Nat×bytes=>p.1<=v.items.length/\itT (decide (v.kind=6)) (v.items.drop p.1) (p.1==0) (v.names.drop p.1) p.2=F/\p.2.length+(az7 (decide (v.kind=6)) (v.items.drop p.1) (p.1==0) (v.names.drop p.1)).length+1<=1000000) (fun p=>[(18,.int .i64 p.1)]) (fun p=>pA (.mp k 0) H k m p.2) (fun p=>v.items.length - p.1) (by kernel_rfl) ?_ (0,o++[f]) ⟨by simp,hF,by simp only[List.drop_zero,List.length_append,List.length_cons,List.length_nil];rw[show ((0:Nat)==0)=true from rfl];omega⟩ aa3 rfl
 rintro⟨i,x⟩ ⟨hi,hx,hxl⟩
 dsimp only at hi hx hxl⊢;by_cases hil:i < v.items.length
 ·rw[d97 hil] at hx
  rw[de8 hil] at hxl;have hcut:=cj1 (v.items.getD i aa9) (x++aW0 (i==0) (decide (v.kind=6)) (v.names.getD i []));have hih:=ih _ (ag9 (d:=aa9) hil);have hnm:v.kind=6->i < v.names.length:=fun e=>by have:=hn e;omega
  simp only[List.length_append] at hxl;have h44:aW0 (i==0) (decide (v.kind=6)) (v.names.getD i [])=(if i=0 then[] else[44])++(if v.kind=6 then aU8 (v.names.getD i [])++[58] else[]):=by
   unfold aW0;by_cases e:i=0
   ·subst e;simp
   ·rw[show (i==0)=false from beq_eq_false_iff_ne.2 e];simp[e]
  rw[h44] at hx hxl hcut;have hq:=bd6 (v.names.getD i []);have hqs:v.kind=6->(v.names.getD i []).length<=100000:=fun e=>by have:=hszn i (hnm e);omega
  generalize hsn:v.names.getD i []=s at*;generalize hy:v.items.getD i aa9=y at*;have hp1:=cB7 y;obtain⟨c1,c2,c3⟩:=hcut;simp only[List.length_append] at c2;have hlen1: ∀z:bytes,(trT y z).length<=10000000->(trT y z).length<=100000000:=fun z h=>by omega
  by_cases h0:i=0
  ·have hc0:((0:Int) < (i:Int))=False:=eq_false (by omega)
   rw[if_pos h0] at hx hxl c1 c2 c3;by_cases h6:v.kind=6
   ·have hc6:(v.kind=6)=True:=eq_true h6
    have hn6:=hnm h6;have hq6:=hqs h6;rw[if_pos h6] at hx hxl c1 c2 c3;simp only[List.length_append,List.length_cons,List.length_nil] at hxl c2;repeat' first|refine l9 ?_|simp -dsimp -implicitDefEqProofs (disch:=first|assumption|omega|simp only[ll];omega) only[go_sem,hc0,hc6,hy,hsn,aM2 h,ai7,bW4 h,bH3 h,List.length_append,List.length_cons,List.length_nil]|refine l7 (bN0 _ (h.app _) an4 ?_ ?_) ?_|refine l7 (aQ0 58 rfl (h.app _) an4 ?_) ?_|refine l7 (hih _ _ (h.app _) ?_) ?_|refine vcA ?_ ?_|omega|refine aa8 fun _=>?_
    refine ak5 (H.length) ([.cells (.one 35) (au7 y)]) ((i+1,trT y (x++([]++(aU8 s++[58]))))) ?_ ?_ ?_ ?_ ?_ (by repeat(first|exact ae1|(refine ad3 ?_ ?_;focus exact bH8))) ?_ aa3
    ·dsimp only;omega
    ·refine⟨by dsimp only;omega,hx,?_⟩
     dsimp only;omega
    ·dsimp only
     rw[aM2 h];simp[au7]
    ·exact ai7
    ·exact aQ7 ai7
    ·exact bW3 h an4 (xq0 _)
   ·have hc6:(v.kind=6)=False:=eq_false h6
    rw[if_neg h6] at hx hxl c1 c2 c3;simp only[List.length_append,List.length_cons,List.length_nil] at hxl c2;repeat' first|refine l9 ?_|simp -dsimp -implicitDefEqProofs (disch:=first|assumption|omega|simp only[ll];omega) only[go_sem,hc0,hc6,hy,hsn,aM2 h,ai7,bW4 h,bH3 h,List.length_append,List.length_cons,List.length_nil]|refine l7 (hih _ _ (h.app _) ?_) ?_|refine vcA ?_ ?_|omega|refine aa8 fun _=>?_
    refine ak5 (H.length) ([.cells (.one 35) (au7 y)]) ((i+1,trT y (x++([]++[])))) ?_ ?_ ?_ ?_ ?_ (by repeat(first|exact ae1|(refine ad3 ?_ ?_;focus exact bH8))) ?_ aa3
    ·dsimp only;omega
    ·refine⟨by dsimp only;omega,hx,?_⟩
     dsimp only;omega
    ·dsimp only
     rw[aM2 h];simp[au7]
    ·exact ai7
    ·exact aQ7 ai7
    ·exact bW3 h an4 (xq0 _)
  ·have hc0:((0:Int) < (i:Int))=True:=eq_true (by omega)
   rw[if_neg h0] at hx hxl c1 c2 c3;by_cases h6:v.kind=6
   ·have hc6:(v.kind=6)=True:=eq_true h6
    have hn6:=hnm h6;have hq6:=hqs h6;rw[if_pos h6] at hx hxl c1 c2 c3;simp only[List.length_append,List.length_cons,List.length_nil] at hxl c2;repeat' first|refine l9 ?_|simp -dsimp -implicitDefEqProofs (disch:=first|assumption|omega|simp only[ll];omega) only[go_sem,hc0,hc6,hy,hsn,aM2 h,ai7,bW4 h,bH3 h,List.length_append,List.length_cons,List.length_nil]|refine l7 (aQ0 44 rfl (h.app _) an4 ?_) ?_|refine l7 (bN0 _ (h.app _) an4 ?_ ?_) ?_|refine l7 (aQ0 58 rfl (h.app _) an4 ?_) ?_|refine l7 (hih _ _ (h.app _) ?_) ?_|refine vcA ?_ ?_|omega|refine aa8 fun _=>?_
    refine ak5 (H.length) ([.cells (.one 35) (au7 y)]) ((i+1,trT y (x++([44]++(aU8 s++[58]))))) ?_ ?_ ?_ ?_ ?_ (by repeat(first|exact ae1|(refine ad3 ?_ ?_;focus exact bH8))) ?_ aa3
    ·dsimp only;omega
    ·refine⟨by dsimp only;omega,hx,?_⟩
     dsimp only;omega
    ·dsimp only
     rw[aM2 h];simp[au7]
    ·exact ai7
    ·exact aQ7 ai7
    ·exact bW3 h an4 (xq0 _)
   ·have hc6:(v.kind=6)=False:=eq_false h6
    rw[if_neg h6] at hx hxl c1 c2 c3;simp only[List.length_append,List.length_cons,List.length_nil] at hxl c2;repeat' first|refine l9 ?_|simp -dsimp -implicitDefEqProofs (disch:=first|assumption|omega|simp only[ll];omega) only[go_sem,hc0,hc6,hy,hsn,aM2 h,ai7,bW4 h,bH3 h,List.length_append,List.length_cons,List.length_nil]|refine l7 (aQ0 44 rfl (h.app _) an4 ?_) ?_|refine l7 (hih _ _ (h.app _) ?_) ?_|refine vcA ?_ ?_|omega|refine aa8 fun _=>?_
    refine ak5 (H.length) ([.cells (.one 35) (au7 y)]) ((i+1,trT y (x++([44]++[])))) ?_ ?_ ?_ ?_ ?_ (by repeat(first|exact ae1|(refine ad3 ?_ ?_;focus exact bH8))) ?_ aa3
    ·dsimp only;omega
    ·refine⟨by dsimp only;omega,hx,?_⟩
     dsimp only;omega
    ·dsimp only
     rw[aM2 h];simp[au7]
    ·exact ai7
    ·exact aQ7 ai7
    ·exact bW3 h an4 (xq0 _)
 ·obtain rfl:i=v.items.length:=by omega
  repeat' first|refine l9 ?_|simp -dsimp -implicitDefEqProofs only[go_sem]|refine l7 (aQ0 l rfl h an4 ?_) ?_|refine vcA ?_ ?_|omega|refine aa8 fun _=>?_
  rw[bF7,cJ6] at hx;rw[hx];exact aa5 _ (Le.refl _) (by rw[ai7,ai7];exact xq0 _) ⟨rfl,rfl⟩
theorem cG8{v:JV}{o:bytes}(h:8192 < o.length):trT v o=o:=by rw[bT0,if_pos h]
theorem dL7{v:JV}{o:bytes}(h: ¬8192 < o.length)(hk:v.kind≠5/\v.kind≠6):trT v o=o++am6 v:=by rw[bT0,if_neg h,if_neg hk.1,if_neg hk.2]
theorem bV9{a:AV}{H:List AObj}{k m:Nat}{o:bytes}{d:Nat}(v:JV)(h:PAt H k m)(ha:aD5 k a)(ha2:8192 < o.length->a=.mp k 0)(hr:am0 d v=true)(hk:v.kind≠5/\v.kind≠6)(hs:o.length+(am6 v).length<=1000000)(hsz:am5 v<=40000):
  o7 Tryz.prog 258 [.mp k 0,jAV v] (pA a H k m o) (fun x H'=>x=.tup []/\H'=pA (.mp k 0) H k m (trT v o)):=by
 have hkl:=h.kl;have hL:=ch8 (T:=345) (cn4 (a:=a) (o:=o) h);by_cases hol:8192 < o.length
 ·have hc:(8192 < ((o.length:Nat):Int))=True:=eq_true (by omega)
  have e:=ha2 hol;subst e;rw[cG8 hol];refine o8 [1000010] [] 54 Tryz.func258 ?_;repeat' first|refine l9 ?_|simp -dsimp -implicitDefEqProofs only[go_sem,hc]|refine l7 (hL) ?_|fail
  exact aa5 _ (Le.refl _) (by exact xq0 _) ⟨rfl,rfl⟩
 ·have hc:(8192 < ((o.length:Nat):Int))=False:=eq_false (by omega)
  rw[dL7 hol hk];obtain⟨h1,h2⟩:=bv4 hr hk;have hpe:=aC7 v;have htx:=size_text v;rcases h2 with⟨h2,_⟩|⟨h2,_,h3,h4⟩|⟨h2,_⟩
  ·rcases h2 with e|e|e
   ·rw[e,if_neg (by decide),if_neg (by decide),if_neg (by decide),if_neg (by decide),if_neg (by decide),if_neg (by decide)] at hpe
    rw[hpe];refine o8 [1000010] [] 54 Tryz.func258 ?_;repeat' first|refine l9 ?_|simp -dsimp -implicitDefEqProofs (disch:=omega) only[go_sem,hc,e]|refine l7 (hL) ?_|refine l7 (bs0 h ha (by omega) (by decide)) ?_|fail
    exact aa5 _ (Le.refl _) (by rw[ai7,ai7];exact xq0 _) ⟨rfl,rfl⟩
   ·rw[e,if_pos rfl] at hpe
    rw[hpe];refine o8 [1000010] [] 54 Tryz.func258 ?_;repeat' first|refine l9 ?_|simp -dsimp -implicitDefEqProofs (disch:=omega) only[go_sem,hc,e]|refine l7 (hL) ?_|refine l7 (bs0 h ha (by omega) (by decide)) ?_|fail
    exact aa5 _ (Le.refl _) (by rw[ai7,ai7];exact xq0 _) ⟨rfl,rfl⟩
   ·rw[e,if_neg (by decide),if_pos rfl] at hpe
    rw[hpe];refine o8 [1000010] [] 54 Tryz.func258 ?_;repeat' first|refine l9 ?_|simp -dsimp -implicitDefEqProofs (disch:=omega) only[go_sem,hc,e]|refine l7 (hL) ?_|refine l7 (bs0 h ha (by omega) (by decide)) ?_|fail
    exact aa5 _ (Le.refl _) (by rw[ai7,ai7];exact xq0 _) ⟨rfl,rfl⟩
  ·rw[h2,if_neg (by decide),if_neg (by decide),if_pos rfl] at hpe
   rw[hpe] at hs⊢;refine o8 [1000010] [] 54 Tryz.func258 ?_;repeat' first|refine l9 ?_|simp -dsimp -implicitDefEqProofs (disch:=omega) only[go_sem,hc,h2]|refine l7 (hL) ?_|refine⟨_,_,eg2 _ _ ?_ ?_,?_⟩|refine⟨_,_,bs0 h ha ?_ ?_,?_⟩|omega
   exact aa5 _ (Le.refl _) (by rw[ai7,ai7];exact xq0 _) ⟨rfl,rfl⟩
  ·rw[h2,if_neg (by decide),if_neg (by decide),if_neg (by decide),if_pos rfl] at hpe
   rw[hpe];refine o8 [1000010] [] 54 Tryz.func258 ?_;repeat' first|refine l9 ?_|simp -dsimp -implicitDefEqProofs (disch:=omega) only[go_sem,hc,h2]|refine l7 (hL) ?_|refine l7 (bN0 _ h ha ?_ ?_) ?_|omega
   exact aa5 _ (Le.refl _) (by rw[ai7,ai7];exact xq0 _) ⟨rfl,rfl⟩
theorem dN7: ∀(d:Nat) (v:JV) (a:AV) (H:List AObj) (k m:Nat) (o:bytes),PAt H k m->aD5 k a->(8192 < o.length->a=.mp k 0)->am0 d v=true->o.length+(am6 v).length<=1000000->am5 v<=40000->
  o7 Tryz.prog 258 [.mp k 0,jAV v] (pA a H k m o) (fun x H'=>x=.tup []/\H'=pA (.mp k 0) H k m (trT v o)):=by
 intro d;induction d with
 |zero=>
  intro v a H k m o h ha ha2 hr hs hsz;by_cases hk:v.kind≠5/\v.kind≠6
  ·exact bV9 v h ha ha2 hr hk hs hsz
  ·rcases aY2 hr with h|⟨h,_⟩
   ·exact absurd (by omega) (bi4 h)
   ·omega
 |succ d ih=>
  intro v a H k m o h ha ha2 hr hs hsz;by_cases hk:v.kind≠5/\v.kind≠6
  ·exact bV9 v h ha ha2 hr hk hs hsz
  have hk56:v.kind=5\/v.kind=6:=by omega
  have hkl:=h.kl;have hL:=ch8 (T:=345) (cn4 (a:=a) (o:=o) h);by_cases hol:8192 < o.length
  ·have hc:(8192 < ((o.length:Nat):Int))=True:=eq_true (by omega)
   have e:=ha2 hol;subst e;rw[cG8 hol];refine o8 [1000010] [] 54 Tryz.func258 ?_;repeat' first|refine l9 ?_|simp -dsimp -implicitDefEqProofs only[go_sem,hc]|refine l7 (hL) ?_|fail
   exact aa5 _ (Le.refl _) (by exact xq0 _) ⟨rfl,rfl⟩
  ·have hc:(8192 < ((o.length:Nat):Int))=False:=eq_false (by omega)
   have hall:v.items.all (am0 d)=true:=by
    rcases aY2 hr with h|⟨_,_,h⟩
    ·exact absurd hk56 (bi4 h)
    ·exact h
   have hit:=fun(f l:UInt8)=>dp8 (a:=a) (H:=H) (k:=k) (m:=m) (o:=o) (d:=d) v f l h ha hr hk56 hs hsz fun x hx H o h ho=>ih x (.mp k 0) H k m o h an4 (fun _=>rfl) (xq6.1 hall x hx) ho (by have:=bA8 hx;omega)
   have htr:=bT0 v o;rw[if_neg hol] at htr;rcases hk56 with e|e
   ·have hi:=hit 91 93
    rw[e,if_pos rfl] at htr;rw[e,decide_eq_false (by decide)] at hi
    rw[htr];refine o8 [1000010] [] 54 Tryz.func258 ?_;repeat' first|refine l9 ?_|simp -dsimp -implicitDefEqProofs (disch:=omega) only[go_sem,hc,e]|refine l7 (hL) ?_|refine l7 (hi) ?_|refine vcA ?_ ?_
    ·rw[az6,e]
    ·exact aa5 _ (Le.refl _) (by rw[ai7,ai7];exact xq0 _) ⟨rfl,rfl⟩
   ·have hi:=hit 123 125
    rw[e,if_neg (by decide),if_pos rfl] at htr
    rw[e,decide_eq_true rfl] at hi;rw[htr];refine o8 [1000010] [] 54 Tryz.func258 ?_;repeat' first|refine l9 ?_|simp -dsimp -implicitDefEqProofs (disch:=omega) only[go_sem,hc,e]|refine l7 (hL) ?_|refine l7 (hi) ?_|refine vcA ?_ ?_
    ·rw[az6,e]
    ·exact aa5 _ (Le.refl _) (by rw[ai7,ai7];exact xq0 _) ⟨rfl,rfl⟩
def aQ1(H:List AObj)(a:AV)(o:bytes):List AObj:=H++[ap7 345 (H.length+1) a o,ax7 o.length]
theorem dv1(H:List AObj)(a:AV)(o:bytes):PAt (aQ1 H a o) H.length (H.length+1):=⟨by simp[aQ1],by simp[aQ1],by omega⟩
theorem cq5(H:List AObj)(a b:AV)(o p:bytes):pA b (aQ1 H a o) H.length (H.length+1) p=aQ1 H b p:=by
 unfold pA aQ1;rw[az0 _ _ (xq0 _),ao4,az0 _ _ (by omega),au2]
 rfl
theorem cI6(H:List AObj)(a:AV)(o:bytes):(aQ1 H a o)[H.length]?=some (ap7 345 (H.length+1) a o):=by
 unfold aQ1;rw[xq5 (xq0 _),ao4];rfl
theorem dS0(H:List AObj)(a:AV)(o:bytes):(aQ1 H a o)[H.length+1]?=some (ax7 o.length):=by
 unfold aQ1;rw[xq5 (by omega),au2]
 rfl
def aU9(v:JV):bytes×Int:=if am0 12 v=true then(if 8192 < (am6 v).length then([],3) else(am6 v,0)) else([],1)
def cI1(p:bytes×Int):AV:=.tup [.str p.1,.lit (.int .i64 p.2)]
theorem d04(v:JV)(H:List AObj)(hs:am5 v<=40000):o7 Tryz.prog 177 [jAV v] H (fun x H'=>x=cI1 (aU9 v)/\H'=H):=by
 have hR:=fun H=>cL4 v H hs
 cases hr:am0 12 v with
 |false=>
  rw[hr] at hR;refine o8 [3000004005] [.tmp 2,.tmp 3] 15 Tryz.func177 ?_;repeat' first|refine l9 ?_|simp -dsimp -implicitDefEqProofs only[go_sem]|refine l7 (hR _) ?_|fail
  exact o5 ⟨by rw[aU9,hr];rfl,rfl⟩
 |true=>
  rw[hr] at hR;have hps:=cR6 12 v hr;have ht:=dN7 12 v (.lit (.pointer none)) (aQ1 H (.lit (.pointer none)) []) H.length (H.length+1) [] (dv1 _ _ _) b65 (fun h=>absurd h (by decide)) hr (by rw[List.length_nil];omega) hs
  rw[cq5,cq5] at ht;obtain⟨t1,t2⟩:=d35 v;have hcut:=(cj1 v []).2.1;generalize trT v []=y at*;have hL:=ch8 (T:=345) (cI6 H (.mp H.length 0) y);have hS:=bQ0 (T:=345) (cI6 H (.mp H.length 0) y) (dS0 H (.mp H.length 0) y) (by rw[List.length_nil] at hcut;omega)
  have hre:aU9 v=if 8192 < (am6 v).length then([],3) else(am6 v,0):=by rw[aU9,hr,if_pos rfl]
  rw[hre];unfold aQ1 at ht;by_cases hl:8192 < (am6 v).length
  ·have hy:=t1.2 hl
   have hc:(8192 < ((y.length:Nat):Int))=True:=eq_true (by omega)
   rw[if_pos hl];refine o8 [3000004005] [.tmp 2,.tmp 3] 15 Tryz.func177 ?_;repeat' first|refine l9 ?_|simp -dsimp -implicitDefEqProofs only[go_sem,hc]|refine l7 (hR _) ?_|refine l7 (ht) ?_|refine l7 (hL) ?_|fail
   exact aa1 _ (Le.refl _) (ae2 (o9 (.str _) (o9 (.lit _) aa4))) ⟨rfl,rfl⟩
  ·have hy:=t2 (by omega)
   have hc:(8192 < ((y.length:Nat):Int))=False:=eq_false (by have:=t1.1;omega)
   rw[if_neg hl,<-hy];refine o8 [3000004005] [.tmp 2,.tmp 3] 15 Tryz.func177 ?_;repeat' first|refine l9 ?_|simp -dsimp -implicitDefEqProofs only[go_sem,hc]|refine l7 (hR _) ?_|refine l7 (ht) ?_|refine l7 (hL) ?_|refine l7 (hS) ?_|fail
   exact aa1 _ (Le.refl _) (ae2 (o9 (.str _) (o9 (.lit _) aa4))) ⟨rfl,rfl⟩
end
section
open Go V
end
section
open Go V
def ac5(s:bytes):JV:=.mk 4 0 s [] []
structure OkL(l:Prs):Prop where
 srt:srt (l.map (·.1))=true
 valid: ∀s∈l.map (·.1),Lib.validD s=true
 items: ∀x∈l.map (·.2),am0 11 x=true
theorem OkL.filter{l:Prs}(h:OkL l)(p:bytes×JV->Bool):OkL (l.filter p):=
 ⟨cQ1 h.srt,fun s hs=>by
  obtain⟨q,hq,rfl⟩:=xq9.1 hs;exact h.valid _ (List.mem_map_of_mem (bz8.1 hq).1),fun x hx=>by
  obtain⟨q,hq,rfl⟩:=xq9.1 hx;exact h.items _ (List.mem_map_of_mem (bz8.1 hq).1)⟩
end
section
open Go V
theorem dg2{H:List AObj}{k:Nat}{sh:Shape}{l:bytes}{cap:Nat}(hk:H[k]?=some (.cells sh (l.map o6))):Frz1 H k (.msl k 0 l.length cap) (.sl .sh 1 (l.map o6)):=by
 have hfl:aa2 (l.map o6)=l.map o6:=au8 o6 (fun _=>rfl) l
 refine .msl 0 l.length cap 1 sh (l.map o6) (l.map o6) hk (by simp) (fun x hx=>by obtain⟨c,_,rfl⟩:=xq9.1 hx;exact⟨rfl,rfl⟩) (by rw[hfl];simp) fun j c y e1 e2=>?_
 rw[hfl] at e2;rw[Nat.zero_add,e2] at e1;cases e1
 exact .keep _
theorem ao3{l:bytes}:(l.map o6).all AV.scalar=true:=xq6.2 (bi3 fun _=>rfl)
end
section
open Go V
end
section
namespace V
open Go
section
variable {P:Program}{L:Tab}{mu:List Nat}{n:Nat}{Q:Exit->Env->List AObj->Prop}{env:Env}{H:List AObj}
def bu6(P:Program)(L:Tab)(mu:List Nat)(n:Nat):Nat->Code->(Exit->Env->List AObj->Prop)->Env->List AObj->Prop
 |k+1,.seq x y,Q,env,H=>vcC P L mu n x (Ex (fun env H=>bu6 P L mu n k y Q env H) Q) env H
 |_,c,Q,env,H=>AW P n c Q env H
theorem bo5(hL:ac7 P L)(hm:P.follows .mixedOrders=true): ∀(k:Nat) (c:Code) {Q:Exit->Env->List AObj->Prop} {env:Env} {H:List AObj},okC mu n c=true->bu6 P L mu n k c Q env H->AW P n c Q env H
 |0,c,_,_,_,_,h=>by
  cases c<;>exact h
 |k+1,.seq x y,Q,env,H,ho,h=>by
  simp only[okC,xq3] at ho;exact bJ1 ((ad2 hL hm x ho.1 h).mono fun e env' H' q=>by
   cases e with
   |normal=>exact bo5 hL hm k y ho.2 q
   |_=>exact q)
 |k+1,.skip,_,_,_,_,h=>h
 |k+1,.cond _ _ _,_,_,_,_,h=>h
 |k+1,.block _ _,_,_,_,_,h=>h
 |k+1,.exit _,_,_,_,_,h=>h
 |k+1,.ret,_,_,_,_,h=>h
 |k+1,.region _ _ _,_,_,_,_,h=>h
 |k+1,.loop _,_,_,_,_,h=>h
 |k+1,.scope _,_,_,_,_,h=>h
 |k+1,.rangeFunc _ _ _ _,_,_,_,_,h=>h
 |k+1,.label _,_,_,_,_,h=>h
 |k+1,.goto _,_,_,_,_,h=>h
 |k+1,.refuse _,_,_,_,_,h=>h
theorem dC0{c:Code}:bu6 P L mu n 0 c Q env H=AW P n c Q env H:=by cases c<;>rfl
theorem dC1{k:Nat}{x y:Code}:bu6 P L mu n (k+1) (.seq x y) Q env H=vcC P L mu n x (Ex (fun env H=>bu6 P L mu n k y Q env H) Q) env H:=rfl
theorem dK2(hL:ac7 P L)(hm:P.follows .mixedOrders=true)(mu:List Nat){c:Code}(ho:okC mu n c=true)(h:vcC P L mu n c Q env H):AW P n c Q env H:=ad2 hL hm c ho h
theorem by3(hL:ac7 P L)(hm:P.follows .mixedOrders=true)(mu:List Nat)(k:Nat){f:FuncId}{fn:Func}{c:Code}{n:Nat}{rs:List ResultVar}{args:List AV}{H:List AObj}{R:AV->List AObj->Prop}(hf:P.funcs[f]?=some fn)(hb:fn.body=some c)(hname:(fn.name== "runtime.NumGoroutine")=false)(hn:fn.ntmps=n)
  (hrs:fn.results.toList=rs) (hargs:args.length<=n) (ho:okC mu n c=true) (h:bu6 P L mu n k c (by5 L rs H R) (aF6 0 args) H):o7 P f args H R:=
 bF3 hL hf hb hname hn hrs hargs (bo5 hL hm k c ho h)
end
attribute [go_sem] dC0 dC1
end V
end
section
namespace V
open Go
variable {ds:List Deferred}{ro:Option Nat}{N:Nat}
theorem cR1{P:Program}(hm:P.follows .mixedOrders=true){rid:Nat}{ops:List Oper}(hdr:aI2 ops=true){Q:Exit->Act->World->Prop}{a:Act}{w:World}(I:(Nat->Bool)->Act->World->Prop)
  (h0:I (fun _=>false) a {w with drawn:=w.drawn+1})
  (hstep: ∀(l:Nat->Bool) (i:Nat) (o:Oper) (a':Act) (w':World) (K:Act->World->Prop),ops[i]?=some o->l i=false->(∀j,j∈(ak7 ops []).getD i []->l j=true)->(∀(j:Nat) q,ops[j]?=some q->i∈(ak7 ops []).getD j []->l j=false)->I l a' w'->
   (∀a'' w'',I (fun j=>if j=i then true else l j) a'' w''->K a'' w'')->wpOpIn (fw ro) N P ops.toArray Q i K a' w')
  (hend: ∀(l:Nat->Bool) a' w',(∀i,i < ops.length->l i=true)->I l a' w'->Q .normal a' w'):(Code.region rid ops.toArray true).wpIn (fw ro) N P Q a w:=by
 refine wpIn_region_draw fun t=>?_
 simp only[Region.schedule,hm,Bool.true_or,if_true];have hord: ∀(i:Nat) o,ops[i]?=some o->ordered (ak7 ops []) ops i o 0 ops=true/\ ∀e∈o.after.toList,Region.binds .any e=true->e.on < i:=fun i o e=>by
  have:=ay9 ops 0 hdr i o e;rwa [Nat.zero_add] at this
 have key: ∀(fuel:Nat) (listed:Array Bool) (a:Act) (w':World),listed.size=ops.length->Past ops (fun j=>listed.getD j false)->I (fun j=>listed.getD j false) a w'->
   (∀i,i < ops.length->listed.getD i false=false->0 < fuel)->(fuel+(listed.toList.filter id).length=ops.length)->wpAnyIn (fw ro) N P .any ops.toArray Q fuel listed a w':=by
  intro fuel;induction fuel with
  |zero=>
   intro listed a w' hsz hpast hI hf _;have hall: ∀i,i < ops.length->listed.getD i false=true:=fun i hi=>by
    cases hl:listed.getD i false with
    |true=>rfl
    |false=>exact absurd (hf i hi hl) (bc6 _)
   refine⟨?_,hend _ a w' hall hI⟩;unfold Region.ready;rw[cN3];intro i hi;have hi':i < ops.length:=by simpa using hi
   have:=hall i hi';have h2:listed.getD i true=true:=by
    rw[ap3,xq2 (by omega)] at this⊢
    exact this
   simp[h2]
  |succ fuel ih=>
   intro listed a w' hsz hpast hI hf hcount;refine⟨fun hnil=>?_,fun i hi=>?_⟩
   ·
    have hall: ∀i,i < ops.length->listed.getD i false=true:=by
     intro i;induction i using Nat.strongRecOn with
     |_ i ihi=>
      intro hi;cases hl:listed.getD i false with
      |true=>rfl
      |false=>
       exfalso
       have hmem:i∈Region.ready .any ops.toArray listed:=by
        unfold Region.ready;rw[bz8];refine⟨by simpa using hi,?_⟩
        have h2:listed.getD i true=false:=by
         rw[ap3,xq2 (by omega)] at hl⊢
         exact hl
        have ho:ops.toArray[i]?=some ops[i]:=by simp[hi]
        rw[h2,ho];simp only[Bool.not_false,Bool.true_and,Option.map_some,Option.getD_some];rw[b24];intro e he;have:=(hord i ops[i] (xq1 hi)).2 e (aT5.2 he);cases hb:Region.binds .any e with
        |false=>rfl
        |true=>
         have h3:=this hb;rw[ihi e.on h3 (by omega)]
         rfl
       rw[hnil] at hmem;cases hmem
    exact hend _ a w' hall hI
   ·unfold Region.ready at hi
    rw[bz8] at hi;obtain⟨hi1,hi2⟩:=hi;have hi':i < ops.length:=by simpa using hi1
    have ho:ops.toArray[i]?=some ops[i]:=by simp[hi']
    rw[ho] at hi2;simp only[Option.map_some,Option.getD_some,xq3,Bool.not_eq_true'] at hi2;obtain⟨hl0,hready⟩:=hi2;have hl:listed.getD i false=false:=by
     rw[ap3,xq2 (by omega)] at hl0⊢
     exact hl0
    have hpre: ∀e∈(ops[i]).after.toList,Region.binds .any e=true->listed.getD e.on false=true:=fun e he hb=>by
     rw[b24] at hready;have:=hready e (aT5.1 he);rw[hb] at this;simpa using this
    have hoi:ops[i]?=some ops[i]:=xq1 hi';obtain⟨hor,hback⟩:=hord i ops[i] hoi;have hbi: ∀j,j∈(ak7 ops []).getD i []->listed.getD j false=true:=fun j hj=>
     ay4 hpast ops [] [] rfl rfl (fun i j o hi=>by simp at hi) i j ops[i] hj hoi hpre
    have hlater: ∀(j:Nat) q,ops[j]?=some q->i∈(ak7 ops []).getD j []->listed.getD j false=false:=fun j q hq hij=>by
     cases hlj:listed.getD j false with
     |false=>rfl
     |true=>
      have:=ay4 hpast ops [] [] rfl rfl (fun i j o hi=>by simp at hi) j i q hij hq (hpast j q hq hlj)
      rw[hl] at this;cases this
    have hgd: ∀j,(listed.setIfInBounds i true).getD j false=if j=i then true else listed.getD j false:=fun j=>by
     simp only[ap3,b31];by_cases hji:j=i
     ·subst hji
      simp[show j < listed.size by omega]
     ·simp[hji,show¬(i=j) from fun h=>hji h.symm]
    have hcnt:fuel+((listed.setIfInBounds i true).toList.filter id).length=ops.length:=by
     have:((listed.setIfInBounds i true).toList.filter id).length=(listed.toList.filter id).length+1:=by
      rw[ce3];have hli:i < listed.toList.length:=by simp;omega
      have hlf:listed.toList[i]=false:=by
       rw[ap3,xq2 (by omega)] at hl
       simpa using hl
      have key2: ∀(l:List Bool) (i:Nat) (hi:i < l.length),l[i]=false->((l.set i true).filter id).length=(l.filter id).length+1:=by
       intro l;induction l with
       |nil=>intro i hi;simp at hi
       |cons b r ih=>
        intro i hi he;cases i with
        |zero=>simp at he;subst he;simp
        |succ i=>
         simp only[List.set_cons_succ,List.filter_cons];have:=ih i (by simpa using hi) (by simpa using he)
         cases b<;>simp[this]
      exact key2 _ i hli hlf
     omega
    refine hstep _ i ops[i] a w' _ hoi hl hbi hlater hI fun a'' w'' hI'=>?_
    have hfe:(fun j=>(listed.setIfInBounds i true).getD j false)=fun j=>if j=i then true else listed.getD j false:=funext hgd
    refine ih _ a'' w'' (by simp[hsz]) (fun j q hq hlj e he hb=>?_) (hfe▸hI') (fun j hj hlj=>?_) hcnt
    ·simp only[hgd] at hlj⊢
     by_cases hji:j=i
     ·subst hji
      have hqe:q=ops[j]:=by rw[hoi] at hq;exact(Option.some.inj hq).symm
      subst hqe;split
      ·rfl
      ·exact hpre e he hb
     ·rw[if_neg hji] at hlj
      split
      ·rfl
      ·exact hpast j q hq hlj e he hb
    ·
     rcases bb9 fuel with h0|h0
     ·exfalso
      rw[h0,Nat.zero_add] at hcnt;have hfull: ∀(l:List Bool),(l.filter id).length=l.length-> ∀b∈l,b=true:=fun l hl b hb=>by
       have:=cN2.1 (List.Sublist.eq_of_length (ce2 (l:=l) (p:=id)) hl) b hb;simpa using this
      have hlen:((listed.setIfInBounds i true).toList.filter id).length=(listed.setIfInBounds i true).toList.length:=by rw[hcnt];simp[hsz]
      have hjs:j < (listed.setIfInBounds i true).size:=by simp;omega
      have:=hfull _ hlen ((listed.setIfInBounds i true)[j]) (by rw[aT5];exact Array.getElem_mem hjs)
      rw[ap3,xq2 hjs] at hlj;simp only[Option.getD_some] at hlj;rw[this] at hlj;cases hlj
     ·exact h0
 refine wpAnyIn_sound ops.toArray.size t _ a _ (key ops.toArray.size _ a _ (by simp) (fun i o ho hl=>?_) ?_ (fun i hi _=>by simp;omega) (by simp))
 ·simp only[ap3,bL5] at hl
  split at hl<;>cases hl
 ·have:(fun j=>(Array.replicate ops.toArray.size false).getD j false)=fun _=>false:=funext fun j=>by
   rw[ap3,bL5];split<;>rfl
  rw[this];exact h0
theorem aM6{R:AV->AV->Prop}{z z':Nat->AV}{l l':Nat->Bool}{t:Nat}: ∀(ops:List Oper) (i:Nat) (env env':Env),R (get env t) (get env' t)->(∀(j:Nat) o,ops[j]?=some o->o.dst=some t->l (i+j)=l' (i+j)/\(l (i+j)=true->R (z (i+j)) (z' (i+j))))->R (get (ab8 l z i ops env) t) (get (ab8 l' z' i ops env') t)
 |[],_,_,_,h,_=>h
 |o::r,i,env,env',h,hl=>by
  simp only[ab8];refine aM6 r (i+1) _ _ ?_ fun j o' e hd=>by have:=hl (j+1) o' (by simpa using e) hd;rwa [show i+(j+1)=i+1+j by omega] at this
  by_cases hd:o.dst=some t
  ·obtain⟨h1,h2⟩:=hl 0 o rfl hd
   rw[aD8] at h1 h2;rw[<-h1];cases hli:l i with
   |false=>simpa using h
   |true=>
    simp only[if_true];rw[get_put,get_put,if_pos hd,if_pos hd];exact h2 hli
  ·have e1: ∀(b:Bool) (x:AV) (e:Env),get (if b then put o.dst x e else e) t=get e t:=fun b x e=>by
    cases b
    ·rfl
    ·simp only[if_true]
     rw[get_put,if_neg hd]
   rw[e1,e1];exact h
theorem bp2{k i:Nat}(h:i < k):(List.range k).idxOf i=i:=by
 have hm:i∈List.range k:=bg1.2 h;have h1:=bR5 hm;have h2:=bR6 h1;rw[List.getElem_range] at h2;exact h2
def bG3(P:Program)(f:AV)(args:List AV)(H:List AObj)(K:AV->Prop)[Tag K]:Prop:=
 match f with
 |.fn (.func g) fs cs=> ∃z,(∀M,o7 P g (fs++args++cs) (H++M) (fun x H'=>x=z/\H'=H++M))/\K z
 |_=>False
def b42(o:Oper):Bool:=o.guard.isNone&&match o.op with
 |.alloc _=>false
 |.store .. =>false
 |_=>true
def stOp(o:Oper):Bool:=match o.op with
 |.store .. =>true
 |_=>false
section
variable {P:Program}{L:Tab}{H:List AObj}
end
section
variable {P:Program}{L:Tab}{H M:List AObj}{r:List Oper}{env:Env}{j m:Nat}{K:Env->List AObj->Prop}{d:Option Tmp}{ty:TypeId}{pos:String}{af:Array Edge}
theorem dj3{f:FuncId}{args:List AV}{D:AV->Prop}:bG3 P (.fn (.func f) [] []) args H D= ∃z,(∀N M,N=H++M->o7 P f args N (fun x H'=>x=z/\H'=N))/\aW6 (D z):=by
 show (∃z,(∀M,o7 P f ([]++args++[]) (H++M) (fun x H'=>x=z/\H'=H++M))/\D z)=_
 simp only[List.nil_append,List.append_nil,aZ1];apply propext
 exact⟨fun⟨z,h,k⟩=>⟨z,fun N M e=>e▸h M,k⟩,fun⟨z,h,k⟩=>⟨z,fun M=>h _ M rfl,k⟩⟩
end
attribute [go_sem] dj3
end V
end
section
namespace Fe
open Go V
abbrev W:=BitVec 64
def mW:W:=2251799813685247#64
def bn0(l:List W):Nat->List W×W
 |0=>(l,0)
 |i+1=>((bn0 l i).1.set i (((bn0 l i).1.getD i 0+(bn0 l i).2)&&&mW),((bn0 l i).1.getD i 0+(bn0 l i).2)>>>51)
def dK1(l:List W):List W:=(bn0 l 5).1.set 0 ((bn0 l 5).1.getD 0 0+19*(bn0 l 5).2)
def cw7(l:List W):List W:=dK1 (dK1 l)
def em8(f:Nat->W)(l:List W)(i:Nat):List W:=(List.range l.length).map fun j=>if j < i then f j else l.getD j 0
def ei3(l m:List W):List W:=cw7 (em8 (fun j=>l.getD j 0+m.getD j 0) l 5)
def d28(n:Nat)(x y:W):Nat:=(n+x.toNat*y.toNat)%340282366920938463463374607431768211456
def em0(l m:List W)(n:Nat)(all:List Nat):List Nat:=all.set ((n/5+n%5)%5) (d28 (all.getD ((n/5+n%5)%5) 0) (l.getD (n/5) 0) (if n/5+n%5 < 5 then m.getD (n%5) 0 else 19*m.getD (n%5) 0))
def dK3(l m:List W):Nat->List Nat
 |0=>[0,0,0,0,0]
 |n+1=>em0 l m n (dK3 l m n)
def d75(all:List Nat)(c:W)(i:Nat):Nat:=d28 (all.getD i 0) c 1
def cf9(all:List Nat):Nat->List W×W
 |0=>([0,0,0,0,0],0)
 |i+1=>((cf9 all i).1.set i (BitVec.ofNat 64 (d75 all (cf9 all i).2 i)&&&mW),BitVec.ofNat 64 (d75 all (cf9 all i).2 i/2251799813685248))
def c39(l m:List W):List W:=
 let s:=cf9 (dK3 l m 25) 5
 cw7 ((s.1.set 0 (s.1.getD 0 0+(BitVec.ofNat 64 (s.2.toNat*19)&&&mW))).set 1 (s.1.getD 1 0+BitVec.ofNat 64 (s.2.toNat*19/2251799813685248)))
end Fe
end
section
namespace Fe
open Go V
end Fe
end
section
namespace Fe
open Go V
end Fe
end
section
namespace Fe
open Go V
end Fe
end
section
namespace Fe
open Go V
end Fe
end
section
namespace Fe
open Go V
theorem t5{l:List W}(h:l.length=5):(l.map (wAV .u64)).take 5=l.map (wAV .u64):=aF0 (by rw[List.length_map];omega)
end Fe
end
section
namespace Fe
open Go V
end Fe
end
section
namespace Fe
open Go V
def limbs(w:List W):List W:=[w.getD 0 0&&&mW,(w.getD 0 0>>>51|||w.getD 1 0<<<13)&&&mW,(w.getD 1 0>>>38|||w.getD 2 0<<<26)&&&mW,(w.getD 2 0>>>25|||w.getD 3 0<<<39)&&&mW,w.getD 3 0>>>12]
def chain(x:W)(t:Nat):List UInt8->W
 |[]=>x
 |b::l=>chain (x|||BitVec.ofNat 64 b.toNat<<<t) (t+8) l
end Fe
end
section
namespace Fe
open Go V
end Fe
end
section
namespace Fe
open Go V
end Fe
end
section
namespace Fe
open Go V
def ei7(l:List Nat):List W:=l.map (BitVec.ofNat 64)
end Fe
end
section
namespace Sc
open Go V Fe
end Sc
end
section
namespace Sc
open Go V Fe
theorem t4{l:List W}(h:l.length=4):(l.map (wAV .u64)).take 4=l.map (wAV .u64):=aF0 (by rw[List.length_map];omega)
end Sc
end
section
namespace Sc
open Go V Fe
end Sc
end
section
namespace Cu
open Go V Fe
def pT(p:List W):List W:=(p.drop 15).take 5
def dJ2:List W:=ei7 cT3
def d32:List W:=ei3 dJ2 dJ2
def cP(p q:List W):List W:=c39 (c39 (pT p) (pT q)) d32
end Cu
end
section
namespace Cu
open Go V Fe
end Cu
end
section
namespace Cu
open Go V Fe
end Cu
end
section
namespace Cu
open Go V Fe
end Cu
end
section
namespace Ed
open Go V
abbrev Part:=Own×List UInt8
end Ed
end
section
namespace Ed
open Go V Fe Sc Cu
end Ed
end
section
namespace Ed
open Go V Fe Sc Cu
end Ed
end
section
open Go V
namespace V
end V
theorem cr4{m k s:Nat}{l:List UInt8}(h:k < m):Low m (.sl (.tok k) s (l.map o6)):=a18 (fun x hx=>by
 obtain⟨b,_,rfl⟩:=xq9.1 hx;exact⟨_,rfl⟩) (fun j e=>by cases e;exact h)
end
end Go.Proofs.YtdkpdjfimckdgaaGreatDoor
