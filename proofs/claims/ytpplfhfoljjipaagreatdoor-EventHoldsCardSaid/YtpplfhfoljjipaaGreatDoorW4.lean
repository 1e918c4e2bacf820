/- Ranges over functions: a round, out of its body's walk; the statement; the end of a function that holds one. -/
import Derived.Test.YtpplfhfoljjipaaGreatDoorW3
import Derived.RangeFuncIn
import Derived.RangeFuncLeaves
import Derived.Test.YtpplfhfoljjipaaGreatDoorW1
import Derived.Lib.TrimUEq
import Derived.Lib.Walk
import Derived.Lib.RuneCount
import Derived.Laws.RangeString
import Derived.Laws.RangeAny
import Derived.LoopTactic
set_option linter.unusedVariables false
set_option linter.unusedSimpArgs false
set_option maxRecDepth 10000
set_option maxHeartbeats 4000000
namespace Go.Proofs.YtpplfhfoljjipaaGreatDoor
section
namespace V
open Go
variable {ds:List Deferred}
def NC(o:Obj):Prop:= ∀a t f,o≠ .cells a t f
theorem az2(r:Loop):NC (.loop r):=fun _ _ _ e=>by cases e
theorem aP0(x:Option (List Deferred)):NC (.deferred x):=fun _ _ _ e=>by cases e
section
variable {w:World}{r:Nat}{o o':Obj}
theorem aZ4(h:w.heap[r]?=some o)(hn:NC o)(hn':NC o')(a:Addr):(w.putObj r o').cell? a=w.cell? a:=by
 have hr:=(b05.1 h).1;unfold World.cell?;by_cases e:a.block=r
 ·rw[e,World.putObj_heap_same hr,h]
  cases o' with
  |cells x y z=>exact absurd rfl (hn' x y z)
  |_=>cases o with
   |cells x y z=>exact absurd rfl (hn x y z)
   |_=>rfl
 ·rw[World.putObj_heap_other e]
theorem cn5(h:w.heap[r]?=some o)(hn:NC o)(hn':NC o')(a:Addr):(w.putObj r o').frozen? a=w.frozen? a:=by
 have hr:=(b05.1 h).1;unfold World.frozen?;by_cases e:a.block=r
 ·rw[e,World.putObj_heap_same hr,h]
  cases o' with
  |cells x y z=>exact absurd rfl (hn' x y z)
  |_=>cases o with
   |cells x y z=>exact absurd rfl (hn x y z)
   |_=>rfl
 ·rw[World.putObj_heap_other e]
theorem a14(h:w.heap[r]?=some o)(hn:NC o){b:Nat}{arr:Array Value}{T:TypeId}{fr:Nat×Nat}(hb:w.heap[b]?=some (.cells arr T fr)):(w.putObj r o').heap[b]?=some (.cells arr T fr):=by
 have:b≠r:=fun e=>by
  subst e;rw[h] at hb;cases hb
  exact hn _ _ _ rfl
 rw[World.putObj_heap_other this];exact hb
end
theorem Rel.turn{G:Gh}{H H':List AObj}{w w':World}(hc: ∀a,w'.cell? a=w.cell? a)(hH: ∀(k:Nat) o,H[k]?=some o->(∃o',H'[k]?=some o')/\(o.isBlk=true-> ∃o',H'[k]?=some o'/\o'.isBlk=true)/\(∀s n t,o=.grow s n t->H'[k]?=some o)){x:AV}{v:Value}(r:Rel G H w x v):Rel G H' w' x v:=by
 induction r with
 |any v=>exact .any v
 |lit v=>exact .lit v
 |str l=>exact .str l
 |sl o s xs a len cap val hl hcap hs hcc hr hf ha ho ih=>
  exact .sl o s xs a len cap val hl hcap hs (fun j x e=>let ⟨b,off,h1,h2,h3⟩:=hcc j x e;⟨b,off,h1,h2,(hc _).trans h3⟩) ih hf ha (fun k e=>let ⟨n,t,e1,h⟩:=ho k e;⟨n,t,(hH k _ e1).2.2 _ _ _ rfl,h⟩)
 |agg cs arr hl hr ih=>exact .agg cs arr hl ih
 |tup cs arr hl hr ih=>exact .tup cs arr hl ih
 |ip x b off val hcc hr ih=>exact .ip x b off val (fun j y e=>⟨(hcc j y e).1,(hc _).trans (hcc j y e).2⟩) ih
 |mp k off o h1 ho=>obtain⟨o',h2,h3⟩:=(hH k o h1).2.1 ho;exact .mp k off o' h2 h3
 |msl k off len cap o h1 ho hcap=>obtain⟨o',h2,h3⟩:=(hH k o h1).2.1 ho;exact .msl k off len cap o' h2 h3 hcap
 |mrow k len o h1 ho hcap=>obtain⟨o',h2,h3⟩:=(hH k o h1).2.1 ho;exact .mrow k len o' h2 h3 hcap
 |fn f fs cs fa ca hf hc' hrf hrc ih1 ih2=>exact .fn f fs cs fa ca hf hc' ih1 ih2
 |ifc t x v hr ih=>exact .ifc t x v ih
 |err u v=>exact .err u v
 |data x a len cap hr hc' ih=>exact .data x a len cap ih hc'
 |yld k l o ho e=>obtain⟨o',h2⟩:=(hH k o ho).1;exact .yld k l o' h2 e
theorem bV0{H:List AObj}: ∀(k:Nat) o,H[k]?=some o->(∃o',H[k]?=some o')/\(o.isBlk=true-> ∃o',H[k]?=some o'/\o'.isBlk=true)/\(∀s n t,o=.grow s n t->H[k]?=some o):=fun _ o h=>⟨⟨o,h⟩,fun hb=>⟨o,h,hb⟩,fun _ _ _ _=>h⟩
theorem cC8{H:List AObj}{k:Nat}{r r':Loop}{E E':Env}(hk:H[k]?=some (.loop r E)): ∀(i:Nat) o,H[i]?=some o->(∃o',(H.set k (.loop r' E'))[i]?=some o')/\(o.isBlk=true-> ∃o',(H.set k (.loop r' E'))[i]?=some o'/\o'.isBlk=true)/\(∀s n t,o=.grow s n t->(H.set k (.loop r' E'))[i]?=some o):=fun i o h=>by
 have hs:(H.set k (AObj.loop r' E'))[k]?=some (.loop r' E'):=ay8 (aa0 hk);by_cases e:i=k
 ·subst e
  rw[hk] at h;cases h
  exact⟨⟨_,hs⟩,fun hb=>(by cases hb),fun s n t e=>(by cases e)⟩
 ·have:(H.set k (.loop r' E'))[i]?=some o:=by rw[ar4 (Ne.symm e)];exact h
  exact⟨⟨o,this⟩,fun hb=>⟨o,this,hb⟩,fun _ _ _ _=>this⟩
theorem HInv.turn{G:Gh}{H:List AObj}{w:World}(hi:HInv G H w){k l:Nat}{r:Loop}{E:Env}(r':Loop)(hk:H[k]?=some (.loop r E))(hl:G.lp k=some l)(ht:r'.tmps=r.tmps):HInv G (H.set k (.loop r' E)) (w.putObj l (.loop r')):=by
 obtain⟨himm,hrec,henv⟩:=hi.tabs.2.2.2 k l r E hl hk;have hkl:=aa0 hk;have hsz:l < w.heap.size:=(b05.1 hrec).1;have hc:=fun a=>aZ4 (o':=.loop r') hrec (az2 _) (az2 _) a
 have hf:=fun a=>cn5 (o':=.loop r') hrec (az2 _) (az2 _) a
 have tr: ∀{x v},Rel G H w x v->Rel G (H.set k (.loop r' E)) (w.putObj l (.loop r')) x v:=fun h=>h.turn hc (cC8 hk)
 have bk: ∀(i:Nat) o,(∀r E,o≠ .loop r E)->(H.set k (.loop r' E))[i]?=some o->H[i]?=some o:=fun i o ho h=>by
  by_cases e:i=k
  ·subst e
   rw[ay8 hkl] at h;cases h
   exact absurd rfl (ho _ _)
  ·rw[ar4 (Ne.symm e)] at h
   exact h
 refine⟨fun b off e=>by rw[World.putObj_size];exact hi.lt b off e,fun i sh cs e=>?_,fun i s n t e=>?_,fun i j b e1 e2=>?_,⟨⟨fun g j v e=>⟨(hi.tabs.1.1 g j v e).1,(hc _).trans (hi.tabs.1.1 g j v e).2⟩,fun g t e=>⟨(hi.tabs.1.2.1 g t e).1,let ⟨u,v,h⟩:=(hi.tabs.1.2.1 g t e).2;⟨u,v,(hc _).trans h⟩⟩,fun g e=>⟨(hi.tabs.1.2.2 g e).1,let ⟨n,h⟩:=(hi.tabs.1.2.2 g e).2;⟨n,(hc _).trans h⟩⟩⟩,fun i m e=>by rw[World.putObj_size];exact hi.tabs.2.1 i m e,hi.tabs.2.2.1,fun i m r1 E1 e1 e2=>?_⟩⟩
 ·obtain⟨arr,T,fr,hb,hs,hr,hn,hz,hsh⟩:=hi.cells i sh cs (bk i _ (fun _ _ e=>by cases e) e)
  exact⟨arr,T,fr,a14 hrec (az2 _) hb,hs,fun j x v ex ev=>tr (hr j x v ex ev),hn,fun off ho=>(hf _).trans (hz off ho),hsh⟩
 ·obtain⟨h0,h1,h2,hty⟩:=hi.grow i s n t (bk i _ (fun _ _ e=>by cases e) e)
  refine⟨h0,h1,fun hn=>?_,ap7 hty rfl (xq0 _) (fun b arr e fr hb=>⟨arr,a14 hrec (az2 _) hb,rfl⟩) (fun b off arr e fr _ _ _ _ hx _=>hx)⟩
  obtain⟨b,off,arr,T,fr,ea,hb,hle,hj⟩:=h2 hn;exact⟨b,off,arr,T,fr,ea,a14 hrec (az2 _) hb,hle,fun j h3 h4=>⟨(hj j h3 h4).1,(hf _).trans (hj j h3 h4).2⟩⟩
 ·have hs: ∀i b,site G (H.set k (.loop r' E)) i=some b->site G H i=some b:=fun i b e=>by
   unfold site at e⊢;cases ho:(H.set k (AObj.loop r' E))[i]? with
   |none=>rw[ho] at e;cases e
   |some o=>
    rw[ho] at e;cases o with
    |loop _ _=>cases e
    |gone=>cases e
    |cells _ _=>rw[bk i _ (fun _ _ e=>by cases e) ho];exact e
    |grow _ _ _=>rw[bk i _ (fun _ _ e=>by cases e) ho];exact e
  exact hi.apart i j b (hs i b e1) (hs j b e2)
 ·by_cases e:i=k
  ·subst e
   rw[hl] at e1;cases e1
   rw[ay8 hkl] at e2;cases e2
   exact⟨himm,World.putObj_heap_same hsz,fun t=>⟨(henv t).1,by rw[ht];exact tr (henv t).2⟩⟩
  ·rw[ar4 (Ne.symm e)] at e2
   obtain⟨h1,h2,h3⟩:=hi.tabs.2.2.2 i m r1 E1 e1 e2;have hne:m≠l:=fun h=>e (hi.tabs.2.2.1 i k l (by rw[<-h];exact e1) hl)
   exact⟨h1,(World.putObj_heap_other hne).trans h2,fun t=>⟨(h3 t).1,tr (h3 t).2⟩⟩
def busy(r:Loop):Loop:={r with state:=.busy}
theorem d37{r:Loop}{p:Nat}{v:Value}(hp:r.params= #[p]):(r.params.zip #[v]).foldl (fun t (q,x)=>t.setIfInBounds q x) r.tmps=r.tmps.setIfInBounds p v:=by rw[hp];simp
theorem bS4{P:Program}{k n p:Nat}{r:Loop}{E:Env}{arg:AV}{H B:List AObj}(hk:H[k]?=some (.loop r E))(hst:r.state=.ready)(hpd:r.pending=none)(hp:r.params= #[p])(hn:r.tmps.size=n)(hpn:p < n)
  (h:AW P n r.assign (Ex (fun env1 H1=>AW P n r.body (fun e env2 H2=>e=.normal/\H2=B) env1 (H1.set k (.loop (busy r) E))/\H1[k]?=some (.loop r E)) (fun _ _ _=>False)) ((p,arg)::E) H):
  a95 P k [arg] H (fun x H2=>x=.lit (.bool true)/\H2=B.set k (.loop r E)):=by
 intro ro N G w vs l hi ha hl;obtain⟨himm,hrec,henv⟩:=hi.tabs.2.2.2 k l r E hl hk;obtain⟨v,rfl,hv⟩: ∃v,vs= #[v]/\Rel G H w arg v:=by
  obtain⟨h1,h2⟩:=ha;have:vs.size=1:=h1;refine⟨vs[0],?_,h2 0 arg _ rfl (xq2 (by omega))⟩
  apply Array.ext
  ·simp[this]
  ·intro i h1 h2
   have:i=0:=by omega
   subst this;rfl
 refine⟨r.fn,_,r.assign,r.body,run_yield hrec (by rw[hp];rfl),?_⟩
 rw[d37 hp];refine roundIn_of_wpIn trivial ?_;have s0:Sat n [] G ((p,arg)::E) H {tmps:=r.tmps.setIfInBounds p v,defers:=[]} w:=by
  refine⟨by simp[hn],rfl,fun t=>?_,hi⟩
  simp only[get];rw[cV3 (by rw[hn];exact hpn)]
  by_cases e:p=t
  ·simp only[e,if_true];exact hv
  ·simp only[e,if_false];exact(henv t).2
 refine wpIn_mono (h (some l) N [] G _ w s0) fun e a1 w1 ⟨G1,env1,H1,s1,st1,q⟩=>?_
 cases e with
 |normal=>
  obtain⟨q,hk1⟩:=q;have hl1:G1.lp k=some l:=by rw[st1.lp];exact hl
  obtain⟨himm1,hrec1,henv1⟩:=s1.inv.tabs.2.2.2 k l r E hl1 hk1;have hsz1:l < w1.heap.size:=(b05.1 hrec1).1;refine⟨_,run_beginRound hrec1 hst,?_⟩;have hc1:=fun a=>aZ4 (o':=.loop (busy r)) hrec1 (az2 _) (az2 _) a
  have s2:Sat n [] G1 env1 (H1.set k (.loop (busy r) E)) a1 (w1.putObj l (.loop (busy r))):=⟨s1.size,s1.defers,fun t=>(s1.env t).turn hc1 (cC8 hk1),s1.inv.turn (busy r) hk1 hl1 rfl⟩
  refine wpIn_mono (q (some l) N [] G1 a1 _ s2) fun e a3 w3 ⟨G3,env3,H3,s3,st3,hq⟩=>?_
  obtain⟨rfl,rfl⟩:=hq;have hkb:(H1.set k (AObj.loop (busy r) E))[k]?=some (.loop (busy r) E):=ay8 (aa0 hk1);have hk3:H3[k]?=some (.loop (busy r) E):=by
   have:=st3.obj k;rw[hkb] at this;exact this.1
  have hl3:G3.lp k=some l:=by rw[st3.lp];exact hl1
  obtain⟨himm3,hrec3,henv3⟩:=s3.inv.tabs.2.2.2 k l _ E hl3 hk3;have hsz3:l < w3.heap.size:=(b05.1 hrec3).1;have hback:({busy r with state:=.ready,pending:=none}:Loop)=r:=by
   obtain⟨a,b,c,d,e,f,g,i⟩:=r;simp only at hst hpd;subst hst hpd;rfl
  have hend:=run_endRound (P:=P) none hrec3;simp only[Option.isNone_none,if_true] at hend;rw[hback] at hend;refine⟨_,_,hend,.bool true,.lit (.bool true),G3,H3.set k (.loop r E),rfl,s3.inv.turn r hk3 hl3 rfl,?_,.lit _,rfl,rfl⟩;have hc3:=fun a=>aZ4 (o':=.loop r) hrec3 (az2 _) (az2 _) a
  refine⟨?_,?_,?_,?_,fun b off h=>st3.imm _ _ (st1.imm _ _ h),fun b off h=>?_,fun b h=>?_,fun i=>?_⟩
  ·exact st3.os.trans st1.os
  ·exact st3.tape.trans st1.tape
  ·exact st3.output.trans st1.output
  ·have:=st1.size
   have:=st3.size;rw[World.putObj_size] at this⊢;omega
  ·exact(hc3 _).trans ((st3.cell b off (st1.imm _ _ h)).trans ((hc1 _).trans (st1.cell b off h)))
  ·have h3:=st3.whole b fun off=>st1.imm _ _ (h off)
   have h1:=st1.whole b h;by_cases e:b=l
   ·subst e
    rw[World.putObj_heap_same hsz3,<-h1,hrec1]
   ·exact(World.putObj_heap_other e).trans (h3.trans ((World.putObj_heap_other e).trans h1))
  ·have o1:=st1.obj i
   have o3:=st3.obj i;by_cases e:i=k
   ·subst e
    rw[hk] at o1⊢;rw[hkb] at o3;exact⟨ay8 (aa0 hk3),o3.2.1.trans o1.2.1,o3.2.2.trans o1.2.2⟩
   ·rw[ar4 (Ne.symm e)] at o3
    have:=cC4 o1 o3;unfold aO9 at this⊢;rw[ar4 (Ne.symm e)];exact this
 |_=>exact q.elim
def aK7(G:Gh)(f:Nat->Option Nat):Gh:={G with lp:=f}
theorem Rel.lp{G:Gh}{H:List AObj}{w:World}{f:Nat->Option Nat}(hf: ∀k,k < H.length->f k=G.lp k){x:AV}{v:Value}(r:Rel G H w x v):Rel (aK7 G f) H w x v:=by
 induction r with
 |any v=>exact .any v
 |lit v=>exact .lit v
 |str l=>exact .str l
 |sl o s xs a len cap val hl hcap hs hcc hr hf ha ho ih=>exact .sl o s xs a len cap val hl hcap hs hcc ih hf ha ho
 |agg cs arr hl hr ih=>exact .agg cs arr hl ih
 |tup cs arr hl hr ih=>exact .tup cs arr hl ih
 |ip x b off val hcc hr ih=>exact .ip x b off val hcc ih
 |mp k off o h1 ho=>exact .mp (G:=aK7 G f) k off o h1 ho
 |msl k off len cap o h1 ho hcap=>exact .msl (G:=aK7 G f) k off len cap o h1 ho hcap
 |mrow k len o h1 ho hcap=>exact .mrow (G:=aK7 G f) k len o h1 ho hcap
 |fn f fs cs fa ca hf hc' hrf hrc ih1 ih2=>exact .fn f fs cs fa ca hf hc' ih1 ih2
 |ifc t x v hr ih=>exact .ifc t x v ih
 |err u v=>exact .err u v
 |data x a len cap hr hc' ih=>exact .data x a len cap ih hc'
 |yld k l o ho e=>exact .yld k l o ho ((hf k (aa0 ho)).trans e)
theorem HInv.lp{G:Gh}{H:List AObj}{w:World}(hi:HInv G H w){f:Nat->Option Nat}(hf: ∀k,k < H.length->f k=G.lp k)(hb: ∀k l,f k=some l->l < w.heap.size)(hj: ∀k k' l,f k=some l->f k'=some l->k=k'):HInv (aK7 G f) H w:=by
 refine⟨hi.lt,fun k sh cs e=>?_,hi.grow,hi.apart,hi.tabs.1,hb,hj,fun k l r E e1 e2=>?_⟩
 ·obtain⟨arr,T,fr,h1,hs,hr,hn,hz,hsh⟩:=hi.cells k sh cs e
  exact⟨arr,T,fr,h1,hs,fun j x v ex ev=>(hr j x v ex ev).lp hf,hn,hz,hsh⟩
 ·have e1':f k=some l:=e1
  rw[hf k (aa0 e2)] at e1';obtain⟨h1,h2,h3⟩:=hi.tabs.2.2.2 k l r E e1' e2;exact⟨h1,h2,fun t=>⟨(h3 t).1,(h3 t).2.lp hf⟩⟩
theorem HInv.put{G:Gh}{H:List AObj}{w:World}(hi:HInv G H w){l:Nat}{o o':Obj}(h:w.heap[l]?=some o)(hn:NC o)(hn':NC o')(hl: ∀k,G.lp k≠some l):HInv G H (w.putObj l o'):=by
 have hc:=fun a=>aZ4 (o':=o') h hn hn' a
 have hf:=fun a=>cn5 (o':=o') h hn hn' a
 have tr: ∀{x v},Rel G H w x v->Rel G H (w.putObj l o') x v:=fun h=>h.turn hc bV0
 refine⟨fun b off e=>by rw[World.putObj_size];exact hi.lt b off e,fun i sh cs e=>?_,fun i s n t e=>?_,hi.apart,⟨⟨fun g j v e=>⟨(hi.tabs.1.1 g j v e).1,(hc _).trans (hi.tabs.1.1 g j v e).2⟩,fun g t e=>⟨(hi.tabs.1.2.1 g t e).1,let ⟨u,v,h⟩:=(hi.tabs.1.2.1 g t e).2;⟨u,v,(hc _).trans h⟩⟩,fun g e=>⟨(hi.tabs.1.2.2 g e).1,let ⟨n,h⟩:=(hi.tabs.1.2.2 g e).2;⟨n,(hc _).trans h⟩⟩⟩,fun i m e=>by rw[World.putObj_size];exact hi.tabs.2.1 i m e,hi.tabs.2.2.1,fun i m r1 E1 e1 e2=>?_⟩⟩
 ·obtain⟨arr,T,fr,hb,hs,hr,hn2,hz,hsh⟩:=hi.cells i sh cs e
  exact⟨arr,T,fr,a14 h hn hb,hs,fun j x v ex ev=>tr (hr j x v ex ev),hn2,fun off ho=>(hf _).trans (hz off ho),hsh⟩
 ·obtain⟨h0,h1,h2,hty⟩:=hi.grow i s n t e
  refine⟨h0,h1,fun hn2=>?_,ap7 hty rfl (xq0 _) (fun b arr e fr hb=>⟨arr,a14 h hn hb,rfl⟩) (fun b off arr e fr _ _ _ _ hx _=>hx)⟩
  obtain⟨b,off,arr,T,fr,ea,hb,hle,hj⟩:=h2 hn2;exact⟨b,off,arr,T,fr,ea,a14 h hn hb,hle,fun j h3 h4=>⟨(hj j h3 h4).1,(hf _).trans (hj j h3 h4).2⟩⟩
 ·obtain⟨h1,h2,h3⟩:=hi.tabs.2.2.2 i m r1 E1 e1 e2
  have hne:m≠l:=fun h=>hl i (by rw[<-h];exact e1)
  exact⟨h1,(World.putObj_heap_other hne).trans h2,fun t=>⟨(h3 t).1,tr (h3 t).2⟩⟩
theorem Step.put{G G':Gh}{H H':List AObj}{w w':World}(st:Step G H w G' H' w'){l:Nat}{o o':Obj}(h:w'.heap[l]?=some o)(hn:NC o)(hn':NC o')(hl: ¬ ∀off,G.imm l off):Step G H w G' H' (w'.putObj l o'):=
 ⟨st.os,st.tape,st.output,by rw[World.putObj_size];exact st.size,st.imm,fun b off e=>(aZ4 h hn hn' _).trans (st.cell b off e),fun b e=>(World.putObj_heap_other (fun e'=>by subst e';exact hl e)).trans (st.whole b e),st.obj⟩
theorem cA7{H:List AObj}{x:AObj}: ∀(k:Nat) o,H[k]?=some o->(∃o',(H++[x])[k]?=some o')/\(o.isBlk=true-> ∃o',(H++[x])[k]?=some o'/\o'.isBlk=true)/\(∀s n t,o=.grow s n t->(H++[x])[k]?=some o):=fun k o h=>by
 have:(H++[x])[k]?=some o:=by rw[xq4 (aa0 h)];exact h
 exact⟨⟨o,this⟩,fun hb=>⟨o,this,hb⟩,fun _ _ _ _=>this⟩
theorem HInv.tell{G:Gh}{H:List AObj}{w:World}(hi:HInv G H w){l:Nat}{r:Loop}{E:Env}(hl:G.lp H.length=some l)(himm: ∀off,G.imm l off)(hrec:w.heap[l]?=some (.loop r))(henv: ∀t,Rel G H w (get E t) (r.tmps.getD t undef)):HInv G (H++[.loop r E]) w:=by
 have tr: ∀{x v},Rel G H w x v->Rel G (H++[.loop r E]) w x v:=fun h=>h.turn (fun _=>rfl) cA7
 have bk: ∀(i:Nat) o,(∀r E,o≠ .loop r E)->(H++[.loop r E])[i]?=some o->H[i]?=some o:=fun i o ho h=>by
  rcases an9 i H.length with hi|hi
  ·rw[xq4 hi] at h;exact h
  ·rw[xq7 hi] at h
   cases hn:i - H.length with
   |zero=>rw[hn] at h;cases h;exact absurd rfl (ho _ _)
   |succ n=>rw[hn] at h;cases h
 refine⟨hi.lt,fun i sh cs e=>?_,fun i s n t e=>hi.grow i s n t (bk i _ (fun _ _ e=>by cases e) e),fun i j b e1 e2=>?_,hi.tabs.1,hi.tabs.2.1,hi.tabs.2.2.1,fun i m r1 E1 e1 e2=>?_⟩
 ·obtain⟨arr,T,fr,hb,hs,hr,hn2,hz,hsh⟩:=hi.cells i sh cs (bk i _ (fun _ _ e=>by cases e) e)
  exact⟨arr,T,fr,hb,hs,fun j x v ex ev=>tr (hr j x v ex ev),hn2,hz,hsh⟩
 ·have hs: ∀i b,site G (H++[.loop r E]) i=some b->site G H i=some b:=fun i b e=>by
   unfold site at e⊢;cases ho:(H++[AObj.loop r E])[i]? with
   |none=>rw[ho] at e;cases e
   |some o=>
    rw[ho] at e;cases o with
    |loop _ _=>cases e
    |gone=>cases e
    |cells _ _=>rw[bk i _ (fun _ _ e=>by cases e) ho];exact e
    |grow _ _ _=>rw[bk i _ (fun _ _ e=>by cases e) ho];exact e
  exact hi.apart i j b (hs i b e1) (hs j b e2)
 ·rcases an9 i H.length with hil|hil
  ·rw[xq4 hil] at e2
   obtain⟨h1,h2,h3⟩:=hi.tabs.2.2.2 i m r1 E1 e1 e2;exact⟨h1,h2,fun t=>⟨(h3 t).1,tr (h3 t).2⟩⟩
  ·rw[xq7 hil] at e2
   cases hn:i - H.length with
   |succ n=>rw[hn] at e2;cases e2
   |zero=>
    rw[hn] at e2;cases e2
    obtain rfl:i=H.length:=by omega
    rw[hl] at e1;cases e1
    exact⟨himm,hrec,fun t=>⟨(henv t).low,tr (henv t)⟩⟩
def Marks(G:Gh)(w:World)(b0:Nat):List Deferred->Prop
 |[]=>True
 |d::r=>(∃D,d={target:=.collected D,args:= #[]}/\b0<=D/\(∀off,G.imm D off)/\(∀k,G.lp k≠some D)/\w.heap[D]?=some (.deferred (some []))/\ ∀d'∈r,d'≠d)/\Marks G w b0 r
def cK0(n:Nat)(ds:List Deferred)(G:Gh)(H:List AObj)(w:World)(Q:Exit->Env->List AObj->Prop):Exit->Act->World->Prop:=
 fun e a' w'=> ∃ms G' env' H',Sat n (ms++ds) G' env' H' a' w'/\Step G H w G' H' w'/\Marks G' w' w.heap.size ms/\Q e env' H'
def AWm(P:Program)(n:Nat)(c:Code)(Q:Exit->Env->List AObj->Prop)(env:Env)(H:List AObj):Prop:=
 ∀N ds G a w,Sat n ds G env H a w->c.wpIn (fw none) N P (cK0 n ds G H w Q) a w
section
variable {P:Program}{n:Nat}{Q:Exit->Env->List AObj->Prop}{env:Env}{H:List AObj}
theorem a88{c:Code}(h:AW P n c Q env H):AWm P n c Q env H:=fun N ds G a w s=>
 wpIn_mono (h none N ds G a w s) fun _ _ _ ⟨G',env',H',s',st,q⟩=>⟨[],G',env',H',s',st,trivial,q⟩
theorem Marks.step{G G':Gh}{H H':List AObj}{w w':World}{b0:Nat}(st:Step G H w G' H' w'): ∀{ms:List Deferred},Marks G w b0 ms->Marks G' w' b0 ms
 |[],_=>trivial
 |d::r,⟨⟨D,h1,h2,h3,h4,h5,h6⟩,hr⟩=>⟨⟨D,h1,h2,fun off=>st.imm _ _ (h3 off),by rw[st.lp];exact h4,(st.whole D h3).trans h5,h6⟩,hr.step st⟩
theorem Marks.le{G:Gh}{w:World}{b0 b1:Nat}(h:b0<=b1): ∀{ms:List Deferred},Marks G w b1 ms->Marks G w b0 ms
 |[],_=>trivial
 |d::r,⟨⟨D,h1,h2,h3⟩,hr⟩=>⟨⟨D,h1,by omega,h3⟩,hr.le h⟩
theorem Marks.lt{G:Gh}{w:World}{b0:Nat}: ∀{ms:List Deferred},Marks G w b0 ms-> ∀d∈ms,∃D,d={target:=.collected D,args:= #[]}/\b0<=D/\D < w.heap.size
 |[],_,d,hd=>by cases hd
 |d::r,⟨⟨D,h1,h2,h3,h4,h5,h6⟩,hr⟩,d',hd=>by
  rcases xq8.1 hd with rfl|hd
  ·exact⟨D,h1,h2,(b05.1 h5).1⟩
  ·exact hr.lt d' hd
theorem Marks.app{G:Gh}{w:World}{b0 b1:Nat}{ms1:List Deferred}(h1:Marks G w b0 ms1)(hlt: ∀d∈ms1,∃D,d={target:=.collected D,args:= #[]}/\D < b1)(hb:b0<=b1): ∀{ms2:List Deferred},Marks G w b1 ms2->Marks G w b0 (ms2++ms1)
 |[],_=>h1
 |d::r,⟨⟨D,e1,e2,e3,e4,e5,e6⟩,hr⟩=>⟨⟨D,e1,by omega,e3,e4,e5,fun d' hd=>by
  rcases aR3.1 hd with hd|hd
  ·exact e6 d' hd
  ·obtain⟨D',e7,e8⟩:=hlt d' hd
   intro e;rw[e7,e1] at e;injection e with e
   injection e with e
   omega⟩,h1.app hlt hb hr⟩
theorem cK0.trans{ms:List Deferred}{ds:List Deferred}{G G':Gh}{H H':List AObj}{w w':World}(hs:Step G H w G' H' w')(hm:Marks G' w' w.heap.size ms){e:Exit}{a:Act}{w'':World}(h:cK0 n (ms++ds) G' H' w' Q e a w''):cK0 n ds G H w Q e a w'':=by
 obtain⟨ms2,G'',env'',H'',s,st,hm2,q⟩:=h;exact⟨ms2++ms,G'',env'',H'',by rw[List.append_assoc];exact s,hs.trans st,(hm.step st).app (fun d hd=>let ⟨D,e1,_,e3⟩:=hm.lt d hd;⟨D,e1,e3⟩) hs.size hm2,q⟩
theorem bt4{x y:Code}(h:AWm P n x (Ex (fun env H=>AWm P n y Q env H) Q) env H):AWm P n (.seq x y) Q env H:=fun N ds G a w s=>by
 refine wpIn_seq (wpIn_mono (h N ds G a w s) fun e a' w' ⟨ms,G',env',H',s',st,hm,q⟩=>?_)
 cases e with
 |normal=>exact wpIn_mono (q N (ms++ds) G' a' w' s') fun _ _ _ p=>p.trans st hm
 |_=>exact⟨ms,G',env',H',s',st,hm,q⟩
theorem cE8{id:Nat}{c:Code}(h:AWm P n c (InB id Q) env H):AWm P n (.block id c) Q env H:=fun N ds G a w s=>
 wpIn_block (wpIn_mono (h N ds G a w s) fun e a' w' ⟨ms,G',env',H',s',st,hm,q⟩=>by
  cases e with
  |exit id'=>
   simp only[Exit.inBlock];simp only[InB] at q;split<;>rename_i hid
   ·exact⟨ms,G',env',H',s',st,hm,by simpa [hid] using q⟩
   ·exact⟨ms,G',env',H',s',st,hm,by simpa [hid] using q⟩
  |_=>exact⟨ms,G',env',H',s',st,hm,q⟩)
theorem df4{G:Gh}{H:List AObj}{w:World}(hi:HInv G H w){k:Nat}{sh:Shape}{cs:List AV}(h:H[k]?=some (.cells sh cs)): ∀x∈cs,Low H.length x:=fun x hx=>by
 obtain⟨arr,T,fr,_,hl,hr,_⟩:=hi.cells k sh cs h;obtain⟨j,hj⟩:=au9.1 hx;have:j < arr.size:=by have:=aa0 hj;omega
 exact(hr j x arr[j] hj (xq2 this)).low
theorem cE7{g:Operand}{ps:Array Tmp}{assign body:Code}{gf:FuncId}{caps:List AV}{fn:Func}(hg:ev env g=.fn (.func gf) [] caps)(hfn:P.funcs[gf]?=some fn)(hbody:fn.body.isSome=true)(hname:(fn.name== "runtime.NumGoroutine")=false)
  (h: ∀r:Loop,r.state=.ready->r.pending=none->r.params=ps->r.assign=assign->r.body=body->r.tmps.size=n->
   o8 P gf (.yld H.length::caps) (H++[.loop r env]) (fun _ H'=> ∃H2 M,H'=H2++ .loop r env::M/\H2.length=H.length/\(∀(k:Nat) sh cs,H2[k]?=some (.cells sh cs)->H[k]?=some (.cells sh cs)\/ ∀x∈cs,Low H.length x)/\Q .normal env H2)):
  AWm P n (.rangeFunc g ps assign body) Q env H:=fun N ds G a w s=>by
 have hge:=s.ev g;rw[hg] at hge;generalize hv:a.eval g=gv at hge;cases hge with
 |fn _ _ _ fa lb hf hc hrf hrc=>
 obtain rfl:fa= #[]:=dj5 hf;refine wpIn_rangeFunc fun f0 _=>?_
 obtain⟨rec,hrec⟩: ∃rec:Loop,rec={state:=.ready,pending:=none,fn:=f0,tmps:=a.tmps,params:=ps,assign,body,defers:=w.heap.size}:=⟨_,rfl⟩;obtain⟨W1,hW1⟩: ∃W1,(w.alloc (.deferred (some []))).alloc (.loop rec)=W1:=⟨_,rfl⟩;have hL1:W1.heap[w.heap.size+1]?=some (.loop rec):=by
  rw[<-hW1];have:=World.alloc_heap_new (w.alloc (.deferred (some []))) (.loop rec);rwa [World.size_alloc] at this
 have hK1:W1.heap[w.heap.size]?=some (.deferred (some [])):=by
  rw[<-hW1];exact(RowKit.Below.heap_alloc _ _ _ (by simp)).trans (World.alloc_heap_new w _)
 have hm1:More w W1:=by rw[<-hW1];exact((More.refl w).alloc _).alloc _
 have hsz1:W1.heap.size=w.heap.size+2:=by rw[<-hW1];simp
 let f1:Nat->Option Nat:=fun i=>if i=H.length then some (w.heap.size+1) else if i < H.length then G.lp i else none
 have hf1: ∀k,k < H.length->f1 k=(aL9 G w W1).lp k:=fun k hk=>by
  show (if k=H.length then some (w.heap.size+1) else if k < H.length then G.lp k else none)=G.lp k
  rw[if_neg (by omega),if_pos hk]
 have hfb: ∀k l,f1 k=some l->l < W1.heap.size:=fun k l e=>by
  have e:(if k=H.length then some (w.heap.size+1) else if k < H.length then G.lp k else none)=some l:=e
  split at e
  ·cases e;omega
  ·split at e
   ·have:=s.inv.tabs.2.1 k l e
    omega
   ·cases e
 have hfj: ∀k k' l,f1 k=some l->f1 k'=some l->k=k':=fun k k' l e e'=>by
  have e:(if k=H.length then some (w.heap.size+1) else if k < H.length then G.lp k else none)=some l:=e
  have e':(if k'=H.length then some (w.heap.size+1) else if k' < H.length then G.lp k' else none)=some l:=e'
  split at e
  ·cases e
   split at e'
   ·omega
   ·split at e'
    ·have:=s.inv.tabs.2.1 k' _ e'
     omega
    ·cases e'
  ·split at e
   ·split at e'
    ·cases e'
     have:=s.inv.tabs.2.1 k _ e;omega
    ·split at e'
     ·exact s.inv.tabs.2.2.1 k k' l e e'
     ·cases e'
   ·cases e
 have hi1:HInv (aK7 (aL9 G w W1) f1) H W1:=(hm1.inv s.inv).lp hf1 hfb hfj;have himm: ∀b,w.heap.size<=b->b < W1.heap.size-> ∀off,(aK7 (aL9 G w W1) f1).imm b off:=fun b h1 h2 off=>.inr ⟨h1,h2⟩
 have tr1: ∀{x v},Rel G H w x v->Rel (aK7 (aL9 G w W1) f1) H W1 x v:=fun r=>(r.mono (hm1.step s.inv)).lp hf1
 have hlp:f1 H.length=some (w.heap.size+1):=if_pos rfl;have hi2:HInv (aK7 (aL9 G w W1) f1) (H++[.loop rec env]) W1:=hi1.tell hlp (himm _ (by omega) (by omega)) hL1 (fun t=>by
  rw[hrec];exact tr1 (s.env t))
 have tr2: ∀{x v},Rel G H w x v->Rel (aK7 (aL9 G w W1) f1) (H++[.loop rec env]) W1 x v:=fun r=>(tr1 r).turn (fun _=>rfl) cA7
 have hargs:ay7 (aK7 (aL9 G w W1) f1) (H++[.loop rec env]) W1 (.yld H.length::caps) (#[.func (.yield (w.heap.size+1)) #[] #[]]++lb):=by
  refine⟨by simp[hc];omega,fun j x v ex ev=>?_⟩
  cases j with
  |zero=>
   rw[bJ8 (by simp)] at ev
   cases ex
   cases ev
   exact .yld _ _ (.loop rec env) (by simp) hlp
  |succ j=>
   simp only[List.getElem?_cons_succ] at ex;rw[dj4 (by simp)] at ev
   exact tr2 (hrc j x v ex (by simpa using ev))
 have hcall:=(h rec (by rw[hrec]) (by rw[hrec]) (by rw[hrec]) (by rw[hrec]) (by rw[hrec]) (by rw[hrec];exact s.size)) _ W1 _ hi2 hargs
 have hcalls:=hcall.calls hfn hbody hname;have eg: ∀args w,(callFunc gf args).run P w=.ok (.enter gf args) w:=fun args w=>by
  have hb':fn.body≠none:=by intro e;rw[e] at hbody;cases hbody
  have hn':fn.name≠ "runtime.NumGoroutine" :=by simpa using hname
  simp[callFunc,hfn,hb',hn']
 refine⟨w.heap.size+1,[{target:=.collected w.heap.size,args:= #[]}],W1,{target:=.fn (.func gf) lb,args:= #[.func (.yield (w.heap.size+1)) #[] #[]]},W1,gf,
  #[.func (.yield (w.heap.size+1)) #[] #[]]++lb,W1,?_,?_,fun _ _=>trivial,?_,fun e=>?_,?_⟩
 ·rw[<-hW1,hrec];exact run_enterLoop_outer _ _ _ _ _
 ·simp only[resolve,hv]
  simp[go_sem]
 ·simp only[invoke]
  exact eg _ _
 ·simp[fw,Fence.wide] at e
 ·refine ct9 (Calls.mono hcalls ?_)
  rintro e w3 ⟨v,rfl,x,G3,H3,hi3,st3,hx3,H2,M,rfl,hlen,hlow,hq⟩
  have hst:rec.state=.ready:=by rw[hrec]
  have hpd:rec.pending=none:=by rw[hrec]
  have hlp3:G3.lp H.length=some (w.heap.size+1):=by rw[st3.lp];exact hlp
  have hlpk: ∀k,k < H.length->G3.lp k=G.lp k:=fun k hk=>by rw[st3.lp];exact hf1 k hk
  have hk3:(H2++ .loop rec env::M)[H.length]?=some (.loop rec env):=by
   rw[xq7 (by omega),hlen,ap6];rfl
  obtain⟨himm3,hrec3,_⟩:=hi3.tabs.2.2.2 H.length _ _ _ hlp3 hk3;have htake:(H2++AObj.loop rec env::M).take H.length=H2:=by rw[<-hlen,bf5]
  have hsz3:=st3.size;refine⟨_,_,run_endLoop hrec3 (by rw[hst];simp),?_⟩
  rw[hpd];have hne: ∀k,G.lp k≠some (w.heap.size+1):=fun k e=>by have:=s.inv.tabs.2.1 k _ e;omega
  have hneD: ∀k,G.lp k≠some w.heap.size:=fun k e=>by have:=s.inv.tabs.2.1 k _ e;omega
  have hc4:=fun x a=>aZ4 (o':=.loop x) hrec3 (az2 _) (az2 _) a
  have hcut:=hi3.cut H.length (fun k sh cs hk e=>by
   rw[xq4 (by omega)] at e
   rcases hlow k sh cs e with h|h
   ·exact df4 s.inv h
   ·exact h)
  rw[htake] at hcut;have hcut2:=hcut.lp (f:=G.lp) (fun k hk=>(hlpk k (by omega)).symm) (fun k l e=>by have:=s.inv.tabs.2.1 k l e;omega) s.inv.tabs.2.2.1
  have tr4: ∀{x v o},Rel G H w x v->Rel (aK7 G3 G.lp) H2 (w3.putObj (w.heap.size+1) (.loop o)) x v:=fun r=>by
   have h3:=((tr2 r).mono st3).cut H.length r.low;rw[htake] at h3;exact(h3.lp (f:=G.lp) (fun k hk=>(hlpk k (by omega)).symm)).turn (hc4 _) bV0
  have hD3:w3.heap[w.heap.size]?=some (.deferred (some [])):=(st3.whole _ (himm _ (xq0 _) (by omega))).trans hK1
  refine⟨[{target:=.collected w.heap.size,args:= #[]}],aK7 G3 G.lp,env,H2,⟨s.size,by rw[<-s.defers],fun t=>tr4 (s.env t),hcut2.put hrec3 (az2 _) (az2 _) hne⟩,?_,?_,hq⟩
  ·refine⟨?_,st3.tape.trans hm1.tape,st3.output.trans hm1.output,by rw[World.putObj_size];omega,fun b off e=>st3.imm _ _ (.inl e),fun b off e=>?_,fun b e=>?_,fun k=>?_⟩
   ·exact congrArg (fun o=>(o,G.lp)) (st3.osEq.trans hm1.os)
   ·exact(hc4 _ _).trans ((st3.cell b off (.inl e)).trans (World.cell?_of_block (w:=w) (hm1.old b (s.inv.lt b off e))))
   ·have hlt:=s.inv.lt b 0 (e 0)
    exact(World.putObj_heap_other (by omega)).trans ((st3.whole b fun off=>.inl (e off)).trans (hm1.old b hlt))
   ·have o3:=st3.obj k
    rcases an9 k H.length with hk|hk
    ·rw[xq4 hk] at o3
     unfold aO9 at o3⊢;rw[xq4 (by omega)] at o3
     exact o3
    ·rw[av1 hk]
     exact bs7 (av1 (by omega))
  ·refine⟨⟨w.heap.size,rfl,xq0 _,fun off=>st3.imm _ _ (himm _ (xq0 _) (by omega) off),hneD,(World.putObj_heap_other (by omega)).trans hD3,fun d' hd=>by cases hd⟩,trivial⟩
end
theorem d44{P:Program}{L:Tab}(hL:ad9 P L){fn:Func}{n:Nat}{rs:List ResultVar}(hrs:fn.results.toList=rs){H H':List AObj}{R:AV->List AObj->Prop}{G G':Gh}{w w':World}{env':Env}{a:Act}(hi:HInv G H w)(s:Sat n ds G' env' H' a w')(st:Step G H w G' H' w')(hfin:Fin L rs H R env' H'):
  ∃v,(results fn a.tmps).run P w'=.ok v w'/\ ∃x G'' H'',HInv G'' H'' w'/\Step G H w G'' H'' w'/\Rel G'' H'' w' x v/\R x H'':=by
 unfold Fin at hfin;split at hfin
 ·rename_i p xs hres
  obtain⟨hp,x,H'',hends,hR⟩:=hfin;obtain⟨us,hrun,hlen,hrel⟩:=cw6 (P:=P) hL s rs hres hp;have hres':(results fn a.tmps).run P w'=.ok (if h:us.length=1 then us[0] else .tuple us.toArray) w':=by
   rw[cm6,dj6,hrs];simp only[Sem.run_bind,Sem.run_map];rw[hrun];simp only[Result.andThen_ok,Sem.run_pure,aR2,List.getElem_toArray]
  have hrx:Rel G' H' w' (aX0 xs) (if h:us.length=1 then us[0] else .tuple us.toArray):=by
   unfold aX0;split
   ·have h1:us.length=1:=by simpa using hlen
    rw[dif_pos h1];exact hrel 0 _ _ rfl (by simp[h1])
   ·rename_i hne
    have h1:us.length≠1:=by
     intro h1;rw[hlen] at h1;obtain⟨y,hy⟩:=List.length_eq_one_iff.1 h1;exact hne y hy
    rw[dif_neg h1];exact .tup _ _ (by simpa using hlen) fun j x v e e'=>hrel j x v e (by simpa using e')
  obtain⟨G'',hi'',st'',hrx''⟩:=hends G w G' w' _ hi s.inv st hrx;exact⟨_,hres',x,G'',H'',hi'',st'',hrx'',hR⟩
 ·exact hfin.elim
theorem cb7{P:Program}{F:Fence}{N:Nat}{fn:Func}{n:Nat}{H H':List AObj}{G G':Gh}{w:World}{env':Env}{a:Act}{R:Ending->World->Prop}(hi:HInv G H w)
  (hend: ∀w',Sat n a.defers G' env' H' a w'->Step G H w G' H' w'-> ∃v,(results fn a.tmps).run P w'=.ok v w'/\R (.returned v) w'):
  ∀(ms:List Deferred) (w':World),Sat n a.defers G' env' H' a w'->Step G H w G' H' w'->Marks G' w' w.heap.size ms->LeavesInM F N P fn a.tmps R ms .returning w'
 |[],w',s,st,_=>hend w' s st
 |d::r,w',s,st,⟨⟨D,h1,h2,h3,h4,h5,h6⟩,hr⟩=>by
  have hnD: ¬ ∀off,G.imm D off:=fun e=>by have:=hi.lt D 0 (e 0);omega
  have hc:=fun x=>aZ4 (o':=.deferred none) h5 (aP0 _) (aP0 _) x
  refine⟨by simp,.inl ⟨D,w'.putObj D (.deferred none),by rw[h1],run_takeDeferred h5,?_⟩⟩
  refine cb7 hi hend r _ ⟨s.size,s.defers,fun t=>(s.env t).turn hc bV0,s.inv.put h5 (aP0 _) (aP0 _) h4⟩ (st.put h5 (aP0 _) (aP0 _) hnD) ?_
  have: ∀(ms:List Deferred),(∀d'∈ms,d'≠d)->Marks G' w' w.heap.size ms->Marks G' (w'.putObj D (.deferred none)) w.heap.size ms:=by
   intro ms;induction ms with
   |nil=>intro _ _;trivial
   |cons d2 r2 ih=>
    rintro hne ⟨⟨D2,k1,k2,k3,k4,k5,k6⟩,hr2⟩
    refine⟨⟨D2,k1,k2,k3,k4,?_,k6⟩,ih (fun d' hd=>hne d' (aA0 _ hd)) hr2⟩
    have:D2≠D:=fun e=>hne d2 (au8 ..) (by rw[k1,h1,e])
    exact(World.putObj_heap_other this).trans k5
  exact this r h6 hr
theorem bS5{P:Program}{L:Tab}(hL:ad9 P L){f:FuncId}{fn:Func}{c:Code}{n:Nat}{rs:List ResultVar}{args:List AV}{H:List AObj}{R:AV->List AObj->Prop}(hf:P.funcs[f]?=some fn)(hb:fn.body=some c)(hname:(fn.name== "runtime.NumGoroutine")=false)(hn:fn.ntmps=n)
  (hrs:fn.results.toList=rs) (hargs:args.length<=n) (h:AWm P n c (bR8 L rs H R) (aL8 0 args) H):o8 P f args H R:=by
 intro G w vs hi hr;refine .inl ⟨fn,hf,by rw[hb];rfl,hname,?_⟩
 have hs0:Sat n [] G (aL8 0 args) H {tmps:=vs++Array.replicate (fn.ntmps - vs.size) undef,defers:=[]} w:=by
  refine⟨by simp[hr.1];omega,rfl,fun t=>?_,hi⟩
  rw[cg3];simp only[aP7,if_true,a99];by_cases ht:t < args.length
  ·rw[xq1 ht]
   have hv:t < vs.size:=by rw[hr.1];exact ht
   rw[as3,bJ8 hv,xq2 hv];exact hr.2 t _ _ (xq1 ht) (xq2 hv)
  ·rw[av1 (by omega)]
   exact .any _
 refine(callsIn_wide (n:=0)).1 (callsIn_of_wp_marks (F:=fw none) hf hb trivial (wpIn_mono (h 0 [] G _ w hs0) fun e a w' hq=>?_))
 obtain⟨ms,G',env',H',s,st,hm,q⟩:=hq;have hd:a.defers=ms:=by rw[s.defers,List.append_nil]
 have key:Fin L rs H R env' H'->LeavesInM (fw none) 0 P fn a.tmps (fun e w'=> ∃v,e=.returned v/\ ∃x G' H',HInv G' H' w'/\Step G H w G' H' w'/\Rel G' H' w' x v/\R x H') a.defers .returning w':=fun hfin=>by
  rw[hd];refine cb7 hi (fun w' s st=>?_) ms w' (by rw[hd,<-List.append_nil ms];exact s) st hm
  obtain⟨v,h1,x,G'',H'',h2⟩:=d44 hL hrs hi s st hfin;exact⟨v,h1,v,rfl,x,G'',H'',h2⟩
 cases e with
 |normal=>exact key q
 |ret=>exact key q
 |exit _=>exact q.elim
 |goto _=>exact q.elim
 |panic _=>exact q.elim
 |outgrown=>exact q.elim
end V
end
section
open Go V
theorem di0{xs:List AV}{n:Nat}{H:List AObj}(hn:1<=n)(hn2:n<=1000000):o8 Tryz.prog 169 [.sl .sh 1 xs,.lit (.int .i64 (n:Int))] H (fun y H'=>y=.fn (.func 204) [] [.ip (.sl .sh 1 xs),.ip (.lit (.int .i64 (n:Int)))]/\H'=H):=by
 have h1:((n:Int) < 1)=False:=eq_false (by omega)
 refine y8 [] [.tmp 4] 9 Tryz.func169 ?_;repeat' first|refine o6 ?_|simp -dsimp -implicitDefEqProofs only[go_sem,h1]
 exact o9 ⟨rfl,rfl⟩
theorem cY1{k c n:Nat}(b:List UInt8)(Hs:Nat->List AObj)(hn:1<=n)(hc:b.length=c*n)(hb:b.length<=1000000000)(hlen:(Hs 0).length<=(Hs c).length)
  (hy: ∀i,i < c->a95 Tryz.prog k [.sl .full 1 (((b.drop (i*n)).take n).map o7)] (Hs i) (fun x H'=>x=.lit (.bool true)/\H'=Hs (i+1))):
  o8 Tryz.prog 204 [.yld k,.ip (.sl .sh 1 (b.map o7)),.ip (.lit (.int .i64 (n:Int)))] (Hs 0) (fun x H'=>x=.tup []/\H'=Hs c):=by
 refine y8 [1000003] [] 31 Tryz.func204 ?_;repeat' simp -dsimp -implicitDefEqProofs only[go_sem]
 refine aa8 ab2 mixed [1000003] [0,1,2] (fun i:Nat=>i<=c) (fun i=>[(4,.lit (.int .i64 ((i*n:Nat):Int)))]) Hs (fun i=>c - i) (by kernel_rfl) ?_ 0 (by omega) y9 rfl
 intro i hi;by_cases hic:i < c
 ·have h1:(i+1)*n<=c*n:=aR6 n (by omega)
  have h2:(i+1)*n=i*n+n:=by rw[aD3,bf4]
  have hY:=hy i hic;rw[h2] at h1;generalize hin:i*n=a at*;have hlt:((a:Int) < ((b.length:Nat):Int))=True:=eq_true (by omega)
  have hm:min ((n:Int)) (((b.length - a:Nat)):Int)=(n:Int):=by omega
  have hz:((a:Int)+(n:Int)).toNat - a=n:=by omega
  repeat' first|refine o6 ?_|simp -dsimp -implicitDefEqProofs (disch:=first|omega|simp only[ll];omega) only[go_sem,hlt,hm,hz]|refine cY8 (hY) ?_|refine vcA ?_ ?_|omega
  refine again (i+1) ?_ ?_ ?_ y9
  ·omega
  ·omega
  ·rfl
 ·obtain rfl:i=c:=by omega
  have hlt:(((i*n:Nat):Int) < ((b.length:Nat):Int))=False:=eq_false (by omega)
  repeat' first|refine o6 ?_|simp -dsimp -implicitDefEqProofs only[go_sem,hlt]
  exact ae7 _ (Le.refl _) hlen ⟨rfl,rfl⟩
def aq9(s:Sha.St 32)(b:List UInt8)(i:Nat):Sha.St 32:=((chunks 64 b).take i).foldl (fun s c=>ae3.take s (wordsOf 32 c)) s
theorem bP6{s:Sha.St 32}{b:List UInt8}{i:Nat}(h:i < b.length/64):aq9 s b (i+1)=ae3.take (aq9 s b i) (wordsOf 32 ((b.drop (i*64)).take 64)):=by
 have hl:(chunks 64 b).length=b.length/64:=by simp[chunks]
 unfold aq9;rw[bf3 (by omega),ci4]
 simp[chunks]
theorem dR5(x:BitVec 32):IntKind.u32.wrap ((x.toNat:Int)*256)=((x<<<8).toNat:Int):=by
 rw[bC6,bC5];simp[IntKind.wrap,IntKind.signed,IntKind.bits]
theorem ee8(x:BitVec 32)(b:UInt8):IntKind.u32.wrap (((BitVec.ofInt IntKind.u32.bits (x.toNat:Int)|||BitVec.ofInt IntKind.u32.bits (b.toNat:Int)).toNat:Nat):Int)=((x|||BitVec.ofNat 32 b.toNat).toNat:Int):=by
 have:(b.toNat:Int)=((BitVec.ofNat 32 b.toNat).toNat:Int):=by
  rw[aC2,ar2 (by have:=b.toNat_lt;omega)]
 rw[this,u32_or]
theorem cZ0{P:Program}{n:Nat}{c:Code}{env:Env}{H B:List AObj}(hB:H.length<=B.length)(hlow: ∀(k:Nat) sh cs,B[k]?=some (.cells sh cs)->H[k]?=some (.cells sh cs)\/ ∀x∈cs,Low B.length x)(h:AW P n c (fun e _ H2=>e=.normal/\ ∃M,H2=B++M) env H):AW P n c (fun e _ H2=>e=.normal/\H2=B) env H:=fun ro N ds G a w s=>by
 refine wpIn_mono (h ro N ds G a w s) fun e a' w' ⟨G',env',H',s',st,he,M,hM⟩=>?_
 subst hM;have hcut:=s'.inv.cut B.length (fun k sh cs hk e=>by
  rw[xq4 hk] at e;rcases hlow k sh cs e with h|h
  ·exact fun x hx=>(df4 s.inv h x hx).mono hB
  ·exact h)
 rw[bf5] at hcut;refine⟨G',[],B,⟨s'.size,s'.defers,fun t=>.any _,hcut⟩,?_,he,rfl⟩
 refine⟨st.os,st.tape,st.output,st.size,st.imm,st.cell,st.whole,fun k=>?_⟩
 have o:=st.obj k;rcases an9 k H.length with hk|hk
 ·unfold aO9 at o⊢
  rw[xq4 (by omega)] at o
  exact o
 ·rw[av1 hk] at o⊢
  intro r E e;rcases an9 k B.length with hb|hb
  ·exact o r E (by rw[xq4 hb];exact e)
  ·rw[av1 hb] at e;cases e
theorem bytes4(x:Nat):bytesOf 4 x=[UInt8.ofNat (x/16777216),UInt8.ofNat (x/65536),UInt8.ofNat (x/256),UInt8.ofNat x]:=by
 have:bytesOf 4 x=[UInt8.ofNat (x/256^3),UInt8.ofNat (x/256^2),UInt8.ofNat (x/256^1),UInt8.ofNat (x/256^0)]:=rfl;rw[this];simp
theorem dr1(a:List UInt8)(n:Nat):a.map o7++[.lit (.int .u8 (IntKind.u8.wrap (n:Int)))]=(a++[UInt8.ofNat n]).map o7:=by
 rw[dk8];simp[o7]
theorem bT6{blk:List UInt8}{j:Nat}(hb:blk.length=64)(h:j < 64):((wordsOf 32 (blk.take j)).map (wAV .u32)).set (j/4) (wAV .u32 ((wordsOf 32 (blk.take j)).getD (j/4) 0<<<8|||BitVec.ofNat 32 (blk.getD j 0).toNat))=(wordsOf 32 (blk.take (j+1))).map (wAV .u32):=by
 have hl:(blk.take j).length=j:=by rw[List.length_take];omega
 have:=bT7 (w:=32) (l:=blk.take j) (b:=blk.getD j 0) (by decide) (by rw[hl];show j < 16*4;omega)
 rw[hl] at this;rw[<-ar1];congr 1
 rw[bf3 (by omega),show blk[j]'(by omega)=blk.getD j 0 by simp[List.getD,xq1 (show j < blk.length by omega)]]
 exact this.symm
theorem cw4{k:Nat}{s:Sha.St 32}{H:List AObj}{r:Loop}{E:Env}{assign body:Code}(blk:List UInt8)(hkl:k < H.length)(hbl:blk.length=64)(hE:get E 3=.ip (.mp k 0)/\get E 5=.ip (.lit (.int .i64 4)))
  (hr1:r.state=.ready) (hr2:r.pending=none) (hr3:r.params= #[19]) (hr6:r.tmps.size=67) (hr4:r.assign=assign) (hr5:r.body=body)
  (hA:AW Tryz.prog 67 assign (Ex (fun env1 H1=>AW Tryz.prog 67 body (fun e _ H2=>e=.normal/\H2=H.set k (ao0 (ae3.take s (wordsOf 32 blk)))++[.loop (busy r) E]) env1 (H1.set H.length (.loop (busy r) E))/\H1[H.length]?=some (.loop r E)) (fun _ _ _=>False)) ((19,.sl .full 1 (blk.map o7))::E) (H.set k (ao0 s)++[.loop r E])):
  a95 Tryz.prog H.length [.sl .full 1 (blk.map o7)] (H.set k (ao0 s)++[.loop r E]) (fun x H'=>x=.lit (.bool true)/\H'=H.set k (ao0 (ae3.take s (wordsOf 32 blk)))++[.loop r E]):=by
 have hlen: ∀o,(H.set k o).length=H.length:=fun o=>List.length_set
 have hat: ∀o x,(H.set k o++[x])[H.length]?=some x:=fun o x=>by
  rw[xq7 (by rw[hlen];exact xq0 _),hlen,ap6]
  rfl
 have hst: ∀o x y,(H.set k o++[x]).set H.length y=H.set k o++[y]:=fun o x y=>by
  rw[aD2 _ _ (by rw[hlen];exact xq0 _),hlen,ap6]
  rfl
 have:=bS4 (P:=Tryz.prog) (k:=H.length) (n:=67) (p:=19) (r:=r) (E:=E) (arg:=.sl .full 1 (blk.map o7)) (H:=H.set k (ao0 s)++[.loop r E]) (B:=H.set k (ao0 (ae3.take s (wordsOf 32 blk)))++[.loop (busy r) E]) (hat _ _) hr1 hr2 hr3 hr6 (by omega) (by rw[hr4,hr5];exact hA)
 rw[hst] at this;exact this
theorem dv7{k:Nat}{s:Sha.St 32}{H:List AObj}(b:List UInt8)(hk:H[k]?=some (ao0 s))(hb:b.length=b.length/64*64)(hb2:b.length<=1000000000):
  o8 Tryz.prog 197 [.mp k 0,.sl .sh 1 (b.map o7),.lit (.int .i64 4)] H (fun x H'=>x=.sl .sh 1 (((aq9 s b (b.length/64)).list.flatMap fun x=>bytesOf 4 x.toNat).map o7)/\H'=H.set k (ao0 (aq9 s b (b.length/64)))):=by
 have hkl:=aa0 hk;refine bS5 ab2 (rs:=[.tmp 6]) (n:=67) Tryz.func197 rfl rfl rfl rfl (nlb rfl) ?_;refine bt4 (a88 (ak7 ab2 mixed (mu:=[]) _ ?ok ?_));case ok=>kernel_rfl
 repeat' simp -dsimp -implicitDefEqProofs only[go_sem]
 refine bt4 ?_;refine bt4 (a88 (ak7 ab2 mixed (mu:=[]) _ ?ok ?_));case ok=>kernel_rfl
 have hch:=fun H=>di0 (xs:=b.map o7) (n:=64) (H:=H) (by omega) (by omega)
 repeat' first|simp -dsimp -implicitDefEqProofs (disch:=omega) only[go_sem]|refine o5 (hch _) ?_|fail
 refine cE8 ?_;refine cE7 rfl Tryz.func204 rfl rfl ?_;intro r hr1 hr2 hr3 hr4 hr5 hr6;have hs0:aq9 s b 0=s:=rfl;have h0:H.set k (ao0 (aq9 s b 0))=H:=by rw[hs0];exact bz3 hk
 generalize hE:[(18,AV.fn (.func 204) [] [.ip (.sl .sh 1 (b.map o7)),.ip (.lit (.int .i64 64))]),(17,.int .i64 64),(16,.lit (.int .i64 4)),(15,.sl .sh 1 (b.map o7)),(6,.sl .full 0 []),(5,.ip (.lit (.int .i64 4))),(3,.ip (.mp k 0)),(0,.mp k 0),(1,.sl .sh 1 (b.map o7)),(2,.lit (.int .i64 4))]=E;have hE3:get E 3=.ip (.mp k 0):=by rw[<-hE];rfl
 have hE5:get E 5=.ip (.lit (.int .i64 4)):=by rw[<-hE];rfl
 have hE6:get E 6=.sl .full 0 []:=by rw[<-hE];rfl
 have hC:=cY1 (k:=H.length) (c:=b.length/64) (n:=64) b (fun i=>H.set k (ao0 (aq9 s b i))++[.loop r E]) (by omega) hb hb2 (by simp) (fun i hi=>by
  have hbl:((b.drop (i*64)).take 64).length=64:=by rw[List.length_take,List.length_drop];omega
  rw[bP6 hi];generalize (b.drop (i*64)).take 64=blk at*;generalize aq9 s b i=st at*;refine cw4 blk hkl hbl ⟨hE3,hE5⟩ hr1 hr2 hr3 hr6 hr4 hr5 ?_;have hlen: ∀o,(H.set k o).length=H.length:=fun o=>List.length_set
  have hat: ∀o x,(H.set k o++[x])[H.length]?=some x:=fun o x=>by
   rw[xq7 (by rw[hlen];exact xq0 _),hlen,ap6]
   rfl
  have hst: ∀o x y,(H.set k o++[x]).set H.length y=H.set k o++[y]:=fun o x y=>by
   rw[aD2 _ _ (by rw[hlen];exact xq0 _),hlen,ap6]
   rfl
  have hnl: ∀sh cs,AObj.loop (busy r) E≠ .cells sh cs:=fun _ _ h=>by cases h
  generalize AObj.loop (busy r) E=lpb at*;generalize AObj.loop r E=lp at*;subst hE;refine ak7 ab2 mixed (mu:=[]) _ ?ok ?_;case ok=>kernel_rfl
  repeat' simp -dsimp -implicitDefEqProofs only[go_sem]
  all_goals first|exact hat _ _|rw[hst]|skip
  refine cZ0 (by simp) (fun j sh cs e=>?_) (ak7 ab2 mixed (mu:=[1000007]) _ ?ok ?_)
  case ok=>kernel_rfl
  ·rcases an9 j H.length with hj|hj
   ·by_cases hjk:j=k
    ·subst hjk
     rw[xq4 (by rw[hlen];exact hj),ay8 hj] at e
     exact .inr (bN1 sh cs (Option.some.inj e))
    ·rw[xq4 (by rw[hlen];exact hj),ar4 (Ne.symm hjk)] at e
     exact .inl (by rw[xq4 (by rw[hlen];exact hj),ar4 (Ne.symm hjk)];exact e)
   ·rw[xq7 (by rw[hlen];exact hj),hlen] at e
    cases hn:j - H.length with
    |zero=>rw[hn] at e;exact absurd (Option.some.inj e) (hnl _ _)
    |succ n=>rw[hn] at e;cases e
  repeat' simp -dsimp -implicitDefEqProofs only[go_sem]
  refine aa8 ab2 mixed [1000007] [3,5,8,20,21] (fun j:Nat=>j<=64) (fun j=>[(22,.lit (.int .i64 j))]) (fun j=>H.set k (ao0 st)++[lpb,.cells (.one 248) ((wordsOf 32 (blk.take j)).map (wAV .u32))]) (fun j=>64 - j) (by kernel_rfl) ?_ 0 (by omega) y9 (by rw[xq9,b91,aY9];rfl)
  intro j hj;have hwl:=bD0 32 (blk.take j);by_cases hjl:j < 64
  ·have hws:=bT6 hbl hjl
   have hjc:((j:Int) < 64)=True:=eq_true (by omega)
   have z1:((j:Int)/4).toNat=j/4:=by omega
   have hgw:=ac9 (K:=.u32) (m:=wordsOf 32 (blk.take j)) (i:=j/4) (by omega)
   repeat' first|refine o6 ?_|simp -dsimp -implicitDefEqProofs (disch:=omega) only[go_sem,hjc,hbl,z1,hwl,hgw,dR5,ee8,hws]|refine vcA ?_ ?_|omega
   refine again (j+1) ?_ ?_ ?_ y9
   ·omega
   ·omega
   ·rfl
  ·obtain rfl:j=64:=by omega
   rw[al2 (by omega)] at hwl⊢
   repeat' first|refine o6 ?_|simp -dsimp -implicitDefEqProofs (disch:=(simp only[ll];omega)) only[go_sem,hbl,hwl,bs4 hkl,bM6 hkl]|refine o5 (cL5 (s:=st) (wordsOf 32 blk) (bs4 hkl) hwl) ?_|fail
   exact⟨[.cells (.one 248) ((wordsOf 32 blk).map (wAV .u32))],by simp⟩)
 rw[h0] at hC;refine hC.mono fun x H' ⟨_,hH⟩=>⟨H.set k (ao0 (aq9 s b (b.length/64))),[],hH,by simp,fun j sh cs e=>?_,?_⟩
 ·by_cases hjk:j=k
  ·subst hjk
   rw[ay8 hkl] at e;exact .inr (bN1 sh cs (Option.some.inj e))
  ·rw[ar4 (Ne.symm hjk)] at e
   exact .inl e
 ·rw[bX4,bX8]
  clear hC h0 hs0 hE3 hE5 hE6;subst hE;generalize aq9 s b (b.length/64)=st at*;have hro:ao0 st=.cells (.one 225) (st.list.map (wAV .u32)++ao5):=bF9 st;have hlw:=fun(m:Nat)=>bN1 (m:=m) (s:=st)
  rw[hro] at hlw⊢;have hsl:st.list.length=8:=rfl;generalize st.list=hl at*;have ht8:(hl.map (wAV .u32)++ao5).take 8=hl.map (wAV .u32):=ci2 (by rw[List.length_map];exact hsl)
  have hat0:(H.set k (.cells (.one 225) (hl.map (wAV .u32)++ao5)))[k]?=some (.cells (.one 225) (hl.map (wAV .u32)++ao5)):=ay8 hkl;have hlen: ∀o,(H.set k o).length=H.length:=fun o=>List.length_set
  generalize hq:(hl.map (wAV .u32)++ao5)=qs at*;have hql:8<=qs.length:=by rw[<-hq,List.length_append,List.length_map];omega
  refine a88 (ak7 ab2 mixed (mu:=[]) _ ?ok ?_);case ok=>kernel_rfl
  repeat' simp -dsimp -implicitDefEqProofs only[go_sem,hat0,ht8,hql]
  refine bI7 11 1 rfl (by decide) (fun h=>absurd rfl h) ?_
  rw[List.length_set];refine aa8 ab2 mixed [] [5,6] (fun i:Nat=>i<=8) (fun i=>[(47,.agg (hl.map (wAV .u32))),(48,.lit (.int .i64 i)),(11,.sl (.tok H.length) 1 (((hl.take i).flatMap fun x=>bytesOf 4 x.toNat).map o7))]) (fun i=>H.set k (.cells (.one 225) qs)++[.grow 1 (4*i) none]) (fun i=>8 - i) (by kernel_rfl) ?_ 0 (by omega) y9 rfl
  intro i hi;have hfl: ∀l:List (BitVec 32),(l.flatMap fun x=>bytesOf 4 x.toNat).length=4*l.length:=fun l=>by
   induction l with
   |nil=>rfl
   |cons x r ih=>rw[b04,List.length_append,ih,bD9,List.length_cons];omega
  by_cases hi8:i < 8
  ·have hic:((i:Int) < 8)=True:=eq_true (by omega)
   have hgx:=ac9 (K:=.u32) (m:=hl) (i:=i) (by omega)
   have hnx:(hl.take (i+1)).flatMap (fun x=>bytesOf 4 x.toNat)=(hl.take i).flatMap (fun x=>bytesOf 4 x.toNat)++bytesOf 4 (hl.getD i 0).toNat:=by
    rw[bf3 (by omega),ci1,List.getD,xq1 (by omega)]
    simp
   have hol:=hfl (hl.take i);rw[List.length_take,bt9 (by omega)] at hol
   rw[bytes4] at hnx;generalize (hl.take i).flatMap (fun x=>bytesOf 4 x.toNat)=out at*
   generalize hl.getD i 0=x at*;obtain⟨g,g0,g1,g2,g3,g4,gl⟩: ∃g:Nat->List UInt8,out=g 0/\g 0++[UInt8.ofNat (x.toNat/16777216)]=g 1/\g 1++[UInt8.ofNat (x.toNat/65536)]=g 2/\g 2++[UInt8.ofNat (x.toNat/256)]=g 3/\g 3++[UInt8.ofNat x.toNat]=g 4/\ ∀q,q<=4->(g q).length=4*i+q:=
    ⟨fun q=>out++[UInt8.ofNat (x.toNat/16777216),UInt8.ofNat (x.toNat/65536),UInt8.ofNat (x.toNat/256),UInt8.ofNat x.toNat].take q,by simp,by simp,by simp,by simp,by simp,fun q hq=>by rw[List.length_append,List.length_take,hol];simp only[List.length_cons,List.length_nil];omega⟩
   have hnx4:(hl.take (i+1)).flatMap (fun x=>bytesOf 4 x.toNat)=g 4:=by
    rw[hnx,g0,<-g4,<-g3,<-g2,<-g1];simp
   clear hnx;subst g0;repeat' first|refine o6 ?_|simp -dsimp -implicitDefEqProofs (disch:=omega) only[go_sem,hic,hgx,hsl]|refine vcA ?_ ?_|omega
   refine aa8 ab2 mixed [] [5,6,13,47,48] (fun q:Nat=>q<=4) (fun q=>[(14,.lit (.int .i64 (3 - (q:Int)))),(11,.sl (.tok H.length) 1 ((g q).map o7))]) (fun q=>H.set k (.cells (.one 225) qs)++[.grow 1 (4*i+q) none]) (fun q=>4 - q) (by kernel_rfl) ?_ 0 (by omega) y9 rfl
   intro q hq4;have hmB:=fun a n=>dr1 a n
   have hmB0: ∀a:List UInt8,a.map o7++[.lit (.int .u8 ((x.toNat/16777216:Nat):Int))]=(a++[UInt8.ofNat (x.toNat/16777216)]).map o7:=fun a=>by
    rw[<-dr1,IntWalk.u8_in _ (by have:=x.isLt;omega)]
   have hgq:=gl q hq4;have p24:(x.toNat:Int).fdiv 16777216=((x.toNat/16777216:Nat):Int):=ao4 (by decide)
   have p16:(x.toNat:Int).fdiv 65536=((x.toNat/65536:Nat):Int):=ao4 (by decide)
   have p8:(x.toNat:Int).fdiv 256=((x.toNat/256:Nat):Int):=ao4 (by decide)
   rcases(by omega:q=0\/q=1\/q=2\/q=3\/q=4) with rfl|rfl|rfl|rfl|rfl
   ·repeat' first|refine o6 ?_|simp -dsimp -implicitDefEqProofs (disch:=omega) only[go_sem,hmB,hmB0,g1,hgq]|refine vcA ?_ ?_|omega
    refine again (1) ?_ ?_ ?_ y9
    ·omega
    ·omega
    ·rfl
   ·repeat' first|refine o6 ?_|simp -dsimp -implicitDefEqProofs (disch:=omega) only[go_sem,hmB,hmB0,g2,hgq]|refine vcA ?_ ?_|omega
    refine again (2) ?_ ?_ ?_ y9
    ·omega
    ·omega
    ·rfl
   ·repeat' first|refine o6 ?_|simp -dsimp -implicitDefEqProofs (disch:=omega) only[go_sem,hmB,hmB0,g3,hgq]|refine vcA ?_ ?_|omega
    refine again (3) ?_ ?_ ?_ y9
    ·omega
    ·omega
    ·rfl
   ·repeat' first|refine o6 ?_|simp -dsimp -implicitDefEqProofs (disch:=omega) only[go_sem,hmB,hmB0,g4,hgq,by7]|refine vcA ?_ ?_|omega
    refine again (4) ?_ ?_ ?_ y9
    ·omega
    ·omega
    ·rfl
   ·repeat' first|refine o6 ?_|simp -dsimp -implicitDefEqProofs (disch:=omega) only[go_sem]
    rw[<-hnx4];refine again (i+1) ?_ ?_ ?_ y9
    ·omega
    ·omega
    ·rfl
  ·obtain rfl:i=8:=by omega
   have htk:hl.take 8=hl:=al2 (by omega)
   rw[htk];repeat' first|refine o6 ?_|simp -dsimp -implicitDefEqProofs only[go_sem]
   exact bQ3 (.sl .sh 1 ((hl.flatMap fun x=>bytesOf 4 x.toNat).map o7)) aG7 (af5) (hlw _) ⟨rfl,rfl⟩
def bE1(i:Nat):List (BitVec 32):=(List.range 8).map fun j=>if j < i then hOf 32 j else 0
theorem cY6(i:Nat):(bE1 i).length=8:=by simp[bE1]
theorem d79{i:Nat}(h:i < 8):(bE1 i).set i (hOf 32 i)=bE1 (i+1):=by
 have hg: ∀i j,(bE1 i)[j]?=if j < 8 then some (if j < i then hOf 32 j else 0) else none:=fun i j=>by
  unfold bE1;rw[ak8];by_cases h1:j < 8
  ·rw[aI7 h1,if_pos h1]
   rfl
  ·rw[av1 (by simp;omega),if_neg h1]
   rfl
 apply aW4
 intro j;rw[bf8,hg,hg,cY6];by_cases h1:j < 8
 ·rw[if_pos h1,if_pos h1]
  split
  ·rename_i e
   subst e;rw[if_pos (by omega)]
  ·rename_i e
   by_cases h3:j < i
   ·rw[if_pos h3,if_pos (by omega)]
   ·rw[if_neg h3,if_neg (by omega)]
 ·rw[if_neg h1,if_neg h1,if_neg (by omega)]
theorem eo2(i:Nat):IntKind.u32.wrap ((bj7.getD i 0/4294967296:Nat):Int)=((hOf 32 i).toNat:Int):=by
 have h1:hOf 32 i=BitVec.ofNat 32 (bj7.getD i 0/4294967296):=rfl;rw[h1,aC2];simp[IntKind.wrap,IntKind.signed,IntKind.bits]
theorem cd1(b:List UInt8):(aq9 (aH2 32) (padded 32 b) ((padded 32 b).length/64)).list.flatMap (fun x=>bytesOf 4 x.toNat)=sum256 b:=by
 have hl:(chunks 64 (padded 32 b)).length=(padded 32 b).length/64:=by simp[chunks]
 unfold aq9;rw[<-hl,bf9];rfl
theorem bN6(b:List UInt8):(padded 32 b).length=ao7 32 b.length:=by
 have:=bN7 (w:=32) (b:=b) (t:=8*b.length) (.inl rfl);rw[bN8] at this
 ·exact this
 ·exact bK5 (Nat.lt_pow_self (by decide))
theorem at1{m:Nat}{l:List UInt8}:Low m (.agg (l.map o7)):=.agg _ fun x hx=>by
 obtain⟨c,_,rfl⟩:=xq6.1 hx;exact .lit _
theorem dQ0{o o2:Own}(l:List UInt8)(H:List AObj)(hl:l.length<=1000000):o8 Tryz.prog 123 [.sl o 1 [.sl o2 1 (l.map o7)],.sl .full 0 []] H (fun y H'=>y=.sl .sh 1 (l.map o7)/\H'=H):=by
 refine y8 [] [.tmp 4] 92 Tryz.func123 ?_;repeat' first|refine o6 ?_|simp -dsimp -implicitDefEqProofs only[go_sem]|refine vcA ?_ ?_|omega
 all_goals exact aa5 (.sl .sh 1 (l.map o7)) aG7 af5 ⟨rfl,rfl⟩
theorem d91{o o2:Own}(l:List UInt8)(H:List AObj)(hl:l.length<=1000000):o8 Tryz.prog 143 [.sl o 1 [.sl o2 1 (l.map o7)]] H (fun y H'=>y=.agg ((sum256 l).map o7)/\H'=H):=by
 have hJ:=fun H=>dQ0 (o:=o) (o2:=o2) l H hl
 have hP:=fun H=>ce2 (o:=.sh) l H (by omega)
 have hpl:=aN6 (w:=32) (n:=l.length) (.inl rfl);have hpd:=bN6 l;have hp64:(padded 32 l).length=(padded 32 l).length/64*64:=by
  rw[hpd];unfold ao7;omega
 have hS:=cd1 l;have hsl:=bL9 l;generalize padded 32 l=pd at*;have hr: ∀H:List AObj,∀o1 o2:AObj,(H++[o1,o2])[H.length+1]?=some o2:=fun H o1 o2=>by
  rw[xq7 (by omega),aM6]
  rfl
 have hA:=fun(o1:AObj)=>dv7 (k:=H.length+1) (s:=aH2 32) (H:=H++[o1,.cells (.one 225) ((bE1 8).map (wAV .u32)++ao5)]) pd (by rw[hr];rfl) hp64 (by omega)
 rw[hS] at hA;have hset: ∀(H:List AObj) (o1 o2 x:AObj),(H++[o1,o2]).set (H.length+1) x=H++[o1,x]:=fun H o1 o2 x=>by
  rw[aD2 _ _ (by omega),aM6]
  rfl
 have hft:(aa1 ((sum256 l).map o7)).take 32=(sum256 l).map o7:=by
  rw[an5 o7 (fun _=>rfl),al2 (by rw[List.length_map];omega)]
 have hat:ag0 (List.replicate 32 (AV.lit (.int .u8 0))) 0 ((sum256 l).map o7)=(sum256 l).map o7:=by
  rw[aF0 _ _ _ (by simp;omega)]
  simp[hsl]
 have htk:((sum256 l).map o7).take 32=(sum256 l).map o7:=al2 (by rw[List.length_map];omega)
 generalize sum256 l=sm at*;generalize aq9 (aH2 32) pd (pd.length/64)=fs at*;refine y8 [7] [.cell 2 28] 29 Tryz.func143 ?_;repeat' simp -dsimp -implicitDefEqProofs only[go_sem]
 refine aa8 ab2 mixed [7] [0,2,3,8] (fun i:Nat=>i<=8) (fun i=>[(9,.lit (.int .i64 i))]) (fun i=>H++[.cells (.one 28) (List.replicate 32 (.lit (.int .u8 0))),.cells (.one 225) ((bE1 i).map (wAV .u32)++ao5)]) (fun i=>8 - i) (by kernel_rfl) ?_ 0 (by omega) y9 rfl
 intro i hi;have hbl:=cY6 i;by_cases h:i < 8
 ·have hic:((i:Int) < 8)=True:=eq_true (by omega)
  have hms:=d79 h;have ho:=eo2 i;have hs1: ∀x,((bE1 i).map (wAV .u32)++ao5).set i (wAV .u32 x)=((bE1 i).set i x).map (wAV .u32)++ao5:=fun x=>by
   rw[bC7 _ _ (by rw[List.length_map];omega),ar1]
  repeat' first|refine o6 ?_|simp -dsimp -implicitDefEqProofs (disch:=first|assumption|omega) only[go_sem,hic,ho,hs1,hms,hbl]|refine vcA ?_ ?_|omega
  refine again (i+1) ?_ ?_ ?_ y9
  ·omega
  ·omega
  ·rfl
 ·obtain rfl:i=8:=by omega
  have hal:(sm.map o7).all AV.scalar=true:=xq5.2 (bh6 fun _=>rfl)
  repeat' first|refine o6 ?_|simp -dsimp -implicitDefEqProofs (disch:=omega) only[go_sem,hset,hft,hat,htk,hsl,hal]|refine o5 (hJ _) ?_|refine o5 (hP _) ?_|refine o5 (hA _) ?_|fail
  exact aa5 _ (Le.refl _) at1 ⟨rfl,rfl⟩
end
section
def aJ6(b:List UInt8)(k:Nat):Nat:=(b.getD (k/8) 0).toNat/2^(7 - k%8)%2
def aV2(b:List UInt8)(k:Nat):Nat->Nat
 |0=>0
 |t+1=>2*aV2 b k t+aJ6 b (k+t)
def aD5(b:List UInt8)(j:Nat):Nat:=aV2 b (6*j) 6
def ac5(letters b:List UInt8):List UInt8:=(List.range ((8*b.length+5)/6)).map fun j=>letters.getD (aD5 b j) 0
theorem et1(b:List UInt8)(k:Nat):aJ6 b k < 2:=a96 _ (by decide)
theorem dU9(b:List UInt8)(k t:Nat):aV2 b k t < 2^t:=by
 induction t with
 |zero=>simp[aV2]
 |succ t ih=>
  have:=et1 b (k+t);rw[aV2,aM5];omega
theorem dS6(b:List UInt8)(j:Nat):aD5 b j < 64:=dU9 b _ 6
theorem az4(letters b:List UInt8):(ac5 letters b).length=(8*b.length+5)/6:=by simp[ac5]
theorem ar0(b:List UInt8){k q r:Nat}(h:k=8*q+r)(hr:r < 8):aJ6 b k=(b.getD q 0).toNat/2^(7 - r)%2:=by
 unfold aJ6;rw[show k/8=q by omega,show k%8=r by omega]
theorem dA8(b:List UInt8)(q:Nat):aD5 b (4*q)=(b.getD (3*q) 0).toNat/4:=by
 simp only[aD5,aV2];rw[ar0 b (q:=3*q) (r:=0) (by omega) (by omega),ar0 b (q:=3*q) (r:=1) (by omega) (by omega),ar0 b (q:=3*q) (r:=2) (by omega) (by omega),ar0 b (q:=3*q) (r:=3) (by omega) (by omega),ar0 b (q:=3*q) (r:=4) (by omega) (by omega),ar0 b (q:=3*q) (r:=5) (by omega) (by omega)]
 have:=(b.getD (3*q) 0).toNat_lt;generalize (b.getD (3*q) 0).toNat=x at*;simp only[Nat.reduceSub,Nat.reducePow];omega
theorem dA7(b:List UInt8)(q:Nat):aD5 b (4*q+1)=(b.getD (3*q) 0).toNat%4*16+(b.getD (3*q+1) 0).toNat/16:=by
 simp only[aD5,aV2];rw[ar0 b (q:=3*q) (r:=6) (by omega) (by omega),ar0 b (q:=3*q) (r:=7) (by omega) (by omega),ar0 b (q:=3*q+1) (r:=0) (by omega) (by omega),ar0 b (q:=3*q+1) (r:=1) (by omega) (by omega),ar0 b (q:=3*q+1) (r:=2) (by omega) (by omega),ar0 b (q:=3*q+1) (r:=3) (by omega) (by omega)]
 have:=(b.getD (3*q) 0).toNat_lt;have:=(b.getD (3*q+1) 0).toNat_lt;generalize (b.getD (3*q) 0).toNat=x at*;generalize (b.getD (3*q+1) 0).toNat=y at*;simp only[Nat.reduceSub,Nat.reducePow];omega
theorem dA6(b:List UInt8)(q:Nat):aD5 b (4*q+2)=(b.getD (3*q+1) 0).toNat%16*4+(b.getD (3*q+2) 0).toNat/64:=by
 simp only[aD5,aV2];rw[ar0 b (q:=3*q+1) (r:=4) (by omega) (by omega),ar0 b (q:=3*q+1) (r:=5) (by omega) (by omega),ar0 b (q:=3*q+1) (r:=6) (by omega) (by omega),ar0 b (q:=3*q+1) (r:=7) (by omega) (by omega),ar0 b (q:=3*q+2) (r:=0) (by omega) (by omega),ar0 b (q:=3*q+2) (r:=1) (by omega) (by omega)]
 have:=(b.getD (3*q+1) 0).toNat_lt;have:=(b.getD (3*q+2) 0).toNat_lt;generalize (b.getD (3*q+1) 0).toNat=x at*;generalize (b.getD (3*q+2) 0).toNat=y at*;simp only[Nat.reduceSub,Nat.reducePow];omega
theorem dA5(b:List UInt8)(q:Nat):aD5 b (4*q+3)=(b.getD (3*q+2) 0).toNat%64:=by
 simp only[aD5,aV2];rw[ar0 b (q:=3*q+2) (r:=2) (by omega) (by omega),ar0 b (q:=3*q+2) (r:=3) (by omega) (by omega),ar0 b (q:=3*q+2) (r:=4) (by omega) (by omega),ar0 b (q:=3*q+2) (r:=5) (by omega) (by omega),ar0 b (q:=3*q+2) (r:=6) (by omega) (by omega),ar0 b (q:=3*q+2) (r:=7) (by omega) (by omega)]
 have:=(b.getD (3*q+2) 0).toNat_lt;generalize (b.getD (3*q+2) 0).toNat=x at*;simp only[Nat.reduceSub,Nat.reducePow];omega
theorem cl5(b:List UInt8)(q i:Nat)(hi:i < 4):aD5 b (4*q+i)=((b.getD (3*q) 0).toNat*65536+(b.getD (3*q+1) 0).toNat*256+(b.getD (3*q+2) 0).toNat)/2^(18 - 6*i)%64:=by
 have h0:=dA8 b q;have h1:=dA7 b q;have h2:=dA6 b q;have h3:=dA5 b q;have:=(b.getD (3*q) 0).toNat_lt;have:=(b.getD (3*q+1) 0).toNat_lt;have:=(b.getD (3*q+2) 0).toNat_lt;generalize (b.getD (3*q) 0).toNat=x at*;generalize (b.getD (3*q+1) 0).toNat=y at*;generalize (b.getD (3*q+2) 0).toNat=z at*;match i,hi with
 |0,_=>rw[ar7,h0];simp only[Nat.reduceSub,Nat.reducePow,Nat.reduceMul];omega
 |1,_=>rw[h1];simp only[Nat.reduceSub,Nat.reducePow,Nat.reduceMul];omega
 |2,_=>rw[h2];simp only[Nat.reduceSub,Nat.reducePow,Nat.reduceMul];omega
 |3,_=>rw[h3];simp only[Nat.reduceSub,Nat.reducePow,Nat.reduceMul];omega
end
section
open Go V
end
section
open Go V
end
section
open Go V
theorem d06{m:Nat}{x:AV}(h:Low m x:=by(first|(first|exact .lit _|exact .str _|exact .any|exact af5|exact ah5|exact .mp _ _ (by omega)|exact .msl _ _ _ _ (by omega)|exact af6 (fun k e=>by cases e)|exact ae5 _|exact ak1|exact ak0|exact an0|exact am9 _)|(refine ah9 ?_;repeat(first|exact ac4|(refine aa3 ?_ ?_;focus(first|exact .lit _|exact .str _|exact .any|exact af5|exact ah5|exact .mp _ _ (by omega)|exact .msl _ _ _ _ (by omega)|exact af6 (fun k e=>by cases e)|exact ae5 _|exact ak1|exact ak0|exact an0|exact am9 _))))|(refine aB8 ?_;repeat(first|exact ac4|(refine aa3 ?_ ?_;focus(first|exact .lit _|exact .str _|exact .any|exact af5|exact ah5|exact .mp _ _ (by omega)|exact .msl _ _ _ _ (by omega)|exact af6 (fun k e=>by cases e)|exact ae5 _|exact ak1|exact ak0|exact an0|exact am9 _)))))):Low m x:=h
def bO5(f:JV->Nat)(l:List JV)(i:Nat):Nat:=((l.take i).map f).foldl max 0
theorem dr0{f:JV->Nat}{l:List JV}{i:Nat}(h:i < l.length):bO5 f l (i+1)=max (bO5 f l i) (f (l.getD i aa7)):=by
 unfold bO5;rw[ci8,xq1 h,List.getD,xq1 h,b34,ci4];rfl
theorem dF8{f:JV->Nat}{l:List JV}:bO5 f l l.length=(l.map f).foldl max 0:=by unfold bO5;rw[bf9]
theorem bd8{m:Nat}: ∀(l:List Nat) (a:Nat),a<=m->(∀x∈l,x<=m)->l.foldl max a<=m
 |[],a,h,_=>h
 |b::l,a,h,k=>bd8 l (max a b) (Nat.max_le.2 ⟨h,k b (au8 ..)⟩) fun x hx=>k x (aA0 _ hx)
theorem cX8: ∀(d:Nat) (v:JV),al6 d v<=d
 |0,v=>by simp[al6]
 |d+1,v=>by
  rw[al6];split
  ·have:=bd8 (m:=d) (v.items.map (al6 d)) 0 (aP7 _) fun x hx=>by
    obtain⟨y,_,rfl⟩:=xq6.1 hx;exact cX8 d y
   omega
  ·omega
theorem d02(d:Nat)(l:List JV)(i:Nat):bO5 (al6 d) l i<=d:=bd8 _ _ (aP7 _) fun x hx=>by
 obtain⟨y,_,rfl⟩:=xq6.1 hx;exact cX8 d y
theorem eI3: ∀(d:Nat) (v:JV) (w:Int) (H:List AObj),w=(d:Int)->d<=13->aa2 v<=40000->o8 Tryz.prog 138 [jAV v,.lit (.int .i64 w)] H (fun x H'=>x=.int .i64 (al6 d v:Nat)/\H'=H):=by
 intro d;induction d with
 |zero=>
  intro v w H hw hd hs;subst hw;refine y8 [] [.tmp 4] 36 Tryz.func138 ?_;repeat' first|refine o6 ?_|simp -dsimp -implicitDefEqProofs only[go_sem]
  exact o9 ⟨rfl,rfl⟩
 |succ d ih=>
  intro v w H hw hd hs;subst hw;have h2:=aM9 v;have h3: ∀i,i < v.items.length->aa2 (v.items.getD i aa7)<=40000:=fun i hi=>by have:=aS1 (v:=v) (az3 (d:=aa7) hi);omega
  refine y8 [] [.tmp 4] 36 Tryz.func138 ?_;repeat' first|refine o6 ?_|simp -dsimp -implicitDefEqProofs (disch:=omega) only[go_sem]|refine vcA ?_ ?_|omega|refine ac8 fun _=>?_
  ·rename_i h4 h5 h6
   exact o9 ⟨by rw[al6,if_neg (by omega)];rfl,rfl⟩
  all_goals
   have hk:v.kind=5\/v.kind=6:=by omega
   refine aa8 ab2 mixed [] [1,4,21,22] (fun i:Nat=>i<=v.items.length) (fun i=>[(23,.int .i64 i),(5,.int .i64 (bO5 (al6 d) v.items i:Nat))]) (fun _=>H) (fun i=>v.items.length - i) (by kernel_rfl) ?_ 0 (by omega) y9 rfl
   rintro i hi
   have h4:=h3 i;have h5:=d02 d v.items i;have h6:= @dr0 (al6 d) v.items i;repeat' first|refine o6 ?_|simp -dsimp -implicitDefEqProofs (disch:=first|omega|simp only[ll];omega) only[go_sem]|refine o5 (ih _ _ _ (by omega) (by omega) (h4 (by omega))) ?_|refine vcA ?_ ?_|omega|refine ac8 fun _=>?_
   ·have h7:=h6 (by omega)
    refine a90 (i+1) ?_ ?_ (by repeat(first|exact ah0|(refine ag1 ?_ ?_;focus exact d06))) y9
    ·omega
    ·omega
   ·obtain rfl:i=v.items.length:=by omega
    refine o9 ⟨int_eq ?_,rfl⟩;rw[al6,if_pos hk,<-dF8];omega
theorem cf5{v:JV}{s:bytes}(hk:v.kind=6):(bd3 v.names s < 0->ae1 v s=none)/\(0<=bd3 v.names s->(v.items.length:Int)<=bd3 v.names s->ae1 v s=none)/\(0<=bd3 v.names s->bd3 v.names s < (v.items.length:Int)->ae1 v s=some (v.items.getD (bd3 v.names s).toNat aa7)):=by
 unfold ae1 bd3;rw[if_pos hk];cases h:v.names.findIdx? (fun n=>n==s) with
 |none=>exact⟨fun _=>rfl,fun h=>absurd h (by decide),fun h=>absurd h (by decide)⟩
 |some i=>
  refine⟨fun h=>absurd h (by simp only;omega),fun _ h=>?_,fun _ h=>?_⟩
  ·simp only at h⊢
   exact av1 (by omega)
  ·simp only at h⊢
   rw[Int.toNat_natCast,List.getD,xq1 (by omega)]
   rfl
def aQ7(v:JV)(s:bytes):AV:=.tup [jAV ((ae1 v s).getD aa7),.bool (ae1 v s).isSome]
theorem bm3(v:JV)(s:bytes)(H:List AObj)(h1:v.names.length<=100000)(h2:v.items.length<=100000):o8 Tryz.prog 24 [jAV v,.str s] H (fun x H'=>x=aQ7 v s/\H'=H):=by
 refine y8 [] [.cell 4 25,.tmp 5] 30 Tryz.func24 ?_;repeat' first|refine o6 ?_|simp -dsimp -implicitDefEqProofs (disch:=first|omega|simp only[ll];omega) only[go_sem]|refine o5 (dh9 v.names s _ (by omega)) ?_|refine vcA ?_ ?_|omega|refine ac8 fun _=>?_
 ·rename_i h3
  refine aa5 (.tup [jAV aa7,.bool false]) (aL7 (.cons b67 (.cons (Le.refl _) .nil))) (ah9 (aa3 (ae5 _) (aa3 (.lit _) ac4))) ⟨?_,rfl⟩;rw[aQ7,ae1,if_neg h3];rfl
 ·rename_i h3 h4
  refine aa5 (.tup [jAV aa7,.bool false]) (aL7 (.cons b67 (.cons (Le.refl _) .nil))) (ah9 (aa3 (ae5 _) (aa3 (.lit _) ac4))) ⟨?_,rfl⟩;rw[aQ7,(cf5 h3).1 h4];rfl
 ·rename_i h3 h4 h5
  refine aa5 (.tup [jAV aa7,.bool false]) (aL7 (.cons b67 (.cons (Le.refl _) .nil))) (ah9 (aa3 (ae5 _) (aa3 (.lit _) ac4))) ⟨?_,rfl⟩;rw[aQ7,(cf5 h3).2.1 h4 h5];rfl
 ·rename_i h3 h4 h5
  refine aa5 _ (Le.refl _) (ah9 (aa3 (ae5 _) (aa3 (.lit _) ac4))) ⟨?_,rfl⟩;rw[aQ7,(cf5 h3).2.2 h4 h5];rfl
open Classical in
theorem eq2: ∀(v w:JV) (H:List AObj),aa2 v<=40000->o8 Tryz.prog 53 [jAV v,jAV w] H (fun x H'=>x=.bool (decide (v=w))/\H'=H):=by
 refine JV.induct fun k n t ns is ih w H hs=>?_
 obtain⟨k',n',t',ns',is'⟩:=w;have h1:=aU6 (.mk k n t ns is);have h2:=aM9 (.mk k n t ns is);have h3: ∀x∈is,aa2 x<=40000:=fun x hx=>by have:=aS1 (v:=.mk k n t ns is) hx;omega
 refine y8 [] [.tmp 4] 38 Tryz.func53 ?_;repeat' first|refine o6 ?_|simp -dsimp -implicitDefEqProofs (disch:=omega) only[go_sem]|refine o5 (ev4 _ _ _ (by omega)) ?_|refine o5 (db0 _ _ _ _ (by omega) (fun x hx y M=>ih x hx y _ (h3 x hx))) ?_|refine vcA ?_ ?_|refine ac8 fun _=>?_
 all_goals
  refine o9 ⟨ae6 ?_,rfl⟩;clear ih h1 h2 h3 hs;rw[b06];simp_all [JV.kind,JV.num,JV.text,JV.names,JV.items]
  try exact decide_eq_true_iff
theorem dQ4(v:JV)(H:List AObj)(hs:aa2 v<=40000):o8 Tryz.prog 76 [jAV v] H (fun x H'=>x=.int .i64 (al6 13 v:Nat)/\H'=H):=by
 refine y8 [] [.tmp 2] 5 Tryz.func76 ?_;repeat' first|simp -dsimp -implicitDefEqProofs only[go_sem]|refine o5 (eI3 13 v _ _ (by omega) (by omega) hs) ?_|fail
 exact o9 ⟨rfl,rfl⟩
end
section
open Go V
section
variable {H M:List AObj}{k:Nat}{o x:AObj}
theorem cS3(h:k < H.length):(H.set k o++M)[k]?=some o:=by rw[xq4 (by rw[List.length_set];exact h)];exact hss h
theorem cy5:(H.set k o++M)[H.length]?=M[0]?:=by rw[xq7 (by rw[List.length_set];exact xq0 _),List.length_set,ap6]
theorem dm3:(H.set k o++M).set H.length x=H.set k o++M.set 0 x:=by rw[aD2 _ _ (by rw[List.length_set];exact xq0 _),List.length_set,ap6]
theorem ex5(h:k < H.length):(H.set k o++M).set k x=H.set k x++M:=by rw[bC7 _ _ (by rw[List.length_set];exact h),List.set_set]
end
structure QS where
 r:bytes
 o:bytes
 a:AV
 e:Int
theorem cE3{H₀:List AObj}{k:Nat}{o:AObj}{M:List AObj}{R:AV->List AObj->Prop}{x:AV}(hx:Low H₀.length x)(hlow:o=o)(hcs: ∀sh cs,o=.cells sh cs-> ∀y∈cs,Low H₀.length y)(hr:R x (H₀.set k o)):Done H₀ R x (H₀.set k o++M):=by
 unfold Done;refine⟨x,(H₀.set k o++M).take H₀.length,bx2 (Le.refl x) (xq0 _) hx fun i sh cs hi e=>?_,?_⟩
 ·rw[xq4 (by rw[List.length_set];exact hi)] at e
  rcases aq3 e with⟨_,e'⟩|⟨_,e',_⟩
  ·exact .inl e'
  ·exact .inr (hcs sh cs e'.symm)
 ·rw[by9 (by rw[List.length_set];exact xq0 _),al2 (by rw[List.length_set];exact xq0 _)]
  exact hr
end
section
namespace V
open Go
theorem eO6{G:Gh}{H:List AObj}{w:World}(hi:HInv G H w){k i s z:Nat}{sh:Shape}{cs:List AV}(hk:H[k]?=some (.cells sh cs))(hci:cs[i]?=some (.sl .full z []))(hs:0 < s):
  ∃G',HInv G' (H.set k (.cells sh (cs.set i (.sl (.tok H.length) s [])))++[.grow s 0 none]) w/\Step G H w G' (H.set k (.cells sh (cs.set i (.sl (.tok H.length) s [])))++[.grow s 0 none]) w:=by
 have hkl:=aa0 hk;obtain⟨arr,T,fr,hb,hsz,hr,hf1,hf2,hsh⟩:=hi.cells k sh cs hk;have hil:=aa0 hci;obtain⟨v,hv⟩: ∃v,arr[i]?=some v:=⟨_,xq2 (by omega)⟩
 have r:=hr i _ v hci hv;have r0:=r;cases r with
 |sl _ _ _ ad len cap val hl hcap hs' hc hr' hf ha ho=>
  obtain⟨hi1,st1,r1⟩:=cR7 none hi r0 hs (fun h=>absurd rfl h) (fun h=>absurd rfl h)
  have hk1:(H++[AObj.grow s ([]:List AV).length none])[k]?=some (.cells sh cs):=by rw[xq4 hkl];exact hk
  have hrel:aR0 (aD0 G H.length ad cap) (H++[AObj.grow s ([]:List AV).length none]) w (cs.set i (.sl (.tok H.length) s [])) arr:=by
   refine⟨by rw[List.length_set];exact hsz,fun j x u e1 e2=>?_⟩
   rcases aq3 e1 with⟨_,e1'⟩|⟨rfl,e1',_⟩
   ·exact(hr j x u e1' e2).mono st1
   ·subst e1'
    rw[hv] at e2;cases e2
    exact r1
  have hown:(aD0 G H.length ad cap).own k=G.own k:=by simp[aD0];intro e;omega
  obtain⟨hi2,st2⟩:=cw5 hi1 hk1 (sh':=sh) (cs':=cs.set i (.sl (.tok H.length) s [])) hb hrel (by rw[List.length_set];exact bk9 hown hsh)
  have hset:(H++[AObj.grow s ([]:List AV).length none]).set k (.cells sh (cs.set i (.sl (.tok H.length) s [])))=H.set k (.cells sh (cs.set i (.sl (.tok H.length) s [])))++[.grow s 0 none]:=bC7 _ _ hkl;rw[hset] at hi2 st2;exact⟨_,hi2,st1.trans st2⟩
theorem cg9{P:Program}{n:Nat}{c:Code}{Q:Exit->Env->List AObj->Prop}{env:Env}{H:List AObj}(k i s:Nat){z:Nat}{sh:Shape}{cs:List AV}(hk:H[k]?=some (.cells sh cs))(hci:cs[i]?=some (.sl .full z []))(hs:0 < s)
  (h:AW P n c Q env (H.set k (.cells sh (cs.set i (.sl (.tok H.length) s [])))++[.grow s 0 none])):AW P n c Q env H:=by
 intro ro N ds G a w sat;obtain⟨G',hi,st⟩:=eO6 sat.inv hk hci hs;exact wpIn_mono (h ro N ds G' a w ⟨sat.size,sat.defers,fun u=>(sat.env u).mono st,hi⟩) fun _ _ _ p=>p.trans st
theorem d16{xs ys:List AV}(h:LeAll xs ys){j:Nat}{y:AV}(e:ys[j]?=some y): ∃x,xs[j]?=some x/\Le x y:=h.get.2 j y e
theorem leC{G:Gh}{H:List AObj}{w:World}(hi:HInv G H w){k:Nat}{sh:Shape}{cs cs':List AV}(hk:H[k]?=some (.cells sh cs))(hle:LeAll cs cs'):HInv G (H.set k (.cells sh cs')) w/\Step G H w G (H.set k (.cells sh cs')) w:=by
 obtain⟨arr,T,fr,hb,hsz,hr,hf1,hf2,hsh⟩:=hi.cells k sh cs hk;have hl:=hle.get.1;have hrel:aR0 G H w cs' arr:=⟨by omega,fun j x u e1 e2=>by
  obtain⟨z,hz,hzx⟩:=d16 hle e1;exact hzx _ _ _ _ (hr j z u hz e2)⟩
 exact cw5 hi hk (sh':=sh) (cs':=cs') hb hrel (by rw[<-hl];exact hsh)
theorem cu5{P:Program}{n:Nat}{c:Code}{Q:Exit->Env->List AObj->Prop}{env:Env}{H:List AObj}(k:Nat){sh:Shape}{cs cs':List AV}(hk:H[k]?=some (.cells sh cs))(hle:LeAll cs cs')
  (h:AW P n c Q env (H.set k (.cells sh cs'))):AW P n c Q env H:=by
 intro ro N ds G a w sat;obtain⟨hi,st⟩:=leC sat.inv hk hle;exact wpIn_mono (h ro N ds G a w ⟨sat.size,sat.defers,fun u=>(sat.env u).mono st,hi⟩) fun _ _ _ p=>p.trans st
theorem dn3{H₀ H' M:List AObj}{env env':Env}(h:aK2 env env')(hlen:H₀.length<=H'.length)(hl:by2 H'.length env')(hobj: ∀(k:Nat) (sh:Shape) (cs:List AV),H'[k]?=some (.cells sh cs)->H₀[k]?=some (.cells sh cs)\/ ∀y∈cs,Low H'.length y):Shift H₀ env (H'++M) env' H':=fun G₀ w₀ G w vs h0 hi hs r=>by
 have htk:(H'++M).take H'.length=H':=bf5;have hc:=hi.cut H'.length fun k sh cs hk e y hy=>by
  rw[xq4 hk] at e;rcases hobj k sh cs e with e|e
  ·obtain⟨arr,T,fr,hb',hsz,hr',_⟩:=h0.cells k sh cs e
   obtain⟨j,hj⟩:=au9.1 hy;have hja:j < arr.size:=aC3 (aa0 hj) hsz;exact((hr' j y _ hj (xq2 hja)).low).mono hlen
  ·exact e y hy
 have hs':=hs.cut (m:=H'.length) hlen;rw[htk] at hc hs';refine⟨G,hc,hs',fun t=>?_⟩
 have:=(h t _ _ _ _ (r t)).cut H'.length (hl t);rwa [htk] at this
theorem an7{α:Type}{I:α->Prop}{E:α->Env}{Hf:α->List AObj}{m:α->Nat}{x:α}{env:Env}{H:List AObj}(mm:Nat)(M:List AObj)(y:α)(hm:m y < m x)(hI:I y)(hH:H=Hf y++M)(h1:(Hf y).length=mm)(h2:(Hf x).length<=mm)(hL:by2 mm (E y))
  (hobj: ∀(k:Nat) (sh:Shape) (cs:List AV),(Hf y)[k]?=some (.cells sh cs)->(Hf x)[k]?=some (.cells sh cs)\/ ∀z∈cs,Low mm z) (hE:aK2 env (E y)):bm5 I E Hf m x env H:=by
 subst hH;subst h1;exact da2 y hm hI (dn3 hE h2 hL hobj)
theorem a15{H L L':List AObj}{m:Nat}(h: ∀o∈L',∀(sh:Shape) (cs:List AV),o=.cells sh cs-> ∀z∈cs,Low m z): ∀(k:Nat) (sh:Shape) (cs:List AV),(H++L')[k]?=some (.cells sh cs)->(H++L)[k]?=some (.cells sh cs)\/ ∀z∈cs,Low m z:=fun k sh cs e=>by
 by_cases hk:k < H.length
 ·rw[xq4 hk] at e
  exact .inl (by rw[xq4 hk];exact e)
 ·rw[xq7 (by omega)] at e
  exact .inr (h _ (bC3 e) sh cs rfl)
end V
end
section
open Go V
theorem el2{m:Nat}{x:AV}(h:Low m x:=by(first|(first|exact .lit _|exact .str _|exact .any|exact af5|exact ah5|exact .mp _ _ (by omega)|exact .msl _ _ _ _ (by omega)|exact af6 (fun k e=>by cases e)|exact ae5 _|exact ak1|exact ak0|exact an0|exact am9 _)|(refine ah9 ?_;repeat(first|exact ac4|(refine aa3 ?_ ?_;focus(first|exact .lit _|exact .str _|exact .any|exact af5|exact ah5|exact .mp _ _ (by omega)|exact .msl _ _ _ _ (by omega)|exact af6 (fun k e=>by cases e)|exact ae5 _|exact ak1|exact ak0|exact an0|exact am9 _))))|(refine aB8 ?_;repeat(first|exact ac4|(refine aa3 ?_ ?_;focus(first|exact .lit _|exact .str _|exact .any|exact af5|exact ah5|exact .mp _ _ (by omega)|exact .msl _ _ _ _ (by omega)|exact af6 (fun k e=>by cases e)|exact ae5 _|exact ak1|exact ak0|exact an0|exact am9 _)))))):Low m x:=h
theorem dV3{x y z:Nat}(hx:x < 256)(hy:y < 256)(hz:z < 256):IntKind.i64.wrap (((BitVec.ofInt IntKind.i64.bits (IntKind.i64.wrap (((BitVec.ofInt IntKind.i64.bits ((x:Int)*65536)|||BitVec.ofInt IntKind.i64.bits ((y:Int)*256)).toNat:Nat):Int))|||BitVec.ofInt IntKind.i64.bits (z:Int)).toNat:Nat):Int)=((x*65536+y*256+z:Nat):Int):=by
 show IntKind.i64.wrap (((BitVec.ofInt 64 (IntKind.i64.wrap (((BitVec.ofInt 64 ((x:Int)*65536)|||BitVec.ofInt 64 ((y:Int)*256)).toNat:Nat):Int))|||BitVec.ofInt 64 (z:Int)).toNat:Nat):Int)=_
 have h1:x*65536+y*256=x*65536|||y*256:=by
  have:=ci7 (b:=y*256) (i:=16) (by omega) x
  rw[show 2^16*x=x*65536 by omega] at this
  exact this
 have h2:x*65536+y*256+z=(x*65536+y*256)|||z:=by
  have:=ci7 (b:=z) (i:=8) (by omega) (x*256+y)
  rw[show 2^8*(x*256+y)=x*65536+y*256 by omega] at this
  exact this
 rw[show (x:Int)*65536=((x*65536:Nat):Int) by omega,show (y:Int)*256=((y*256:Nat):Int) by omega,cu1 (w:=64) (by omega) (by omega),<-h1,IntWalk.i64_in ((x*65536+y*256:Nat):Int) (by omega),cu1 (w:=64) (by omega) (by omega),<-h2,IntWalk.i64_in _ (by omega)]
theorem bB7{a:Int}(h:0<=a/\a < 18446744073709551616):((BitVec.ofInt IntKind.i64.bits a&&&BitVec.ofInt IntKind.i64.bits 63).toNat:Int)=a%64:=bo5 (k:=64) (m:=6) h.1 h.2 (by omega)
def adB(k g i:Nat):AV:=if g=0/\i=0 then .lit (.pointer none) else .mp k 0
theorem dP1{k g i:Nat}:aO0 k (adB k g i):=by
 unfold adB;split
 ·exact dh6
 ·exact af2
theorem cu9{k g i:Nat}:adB k g (i+1)=.mp k 0:=if_neg (by omega)
theorem eR2{k g i:Nat}:adB k (g+1) i=.mp k 0:=if_neg (by omega)
def br5(H:List AObj)(a:AV)(o:bytes):List AObj:=H++[aG1 119 (H.length+1) a o,aQ2 o.length]
theorem dM1{H:List AObj}{a b:AV}{o p:bytes}{mm:Nat}(hb:aO0 H.length b)(hmm:H.length+2<=mm): ∀(j:Nat) (sh:Shape) (cs:List AV),(br5 H b p)[j]?=some (.cells sh cs)->(br5 H a o)[j]?=some (.cells sh cs)\/ ∀z∈cs,Low mm z:=fun j sh cs e=>by
 unfold br5 at e⊢;rcases an9 j H.length with hj|hj
 ·rw[xq4 hj] at e⊢
  exact .inl e
 ·right
  rw[xq7 hj] at e;cases hn:j - H.length with
  |zero=>
   rw[hn] at e;unfold aG1 at e;cases e
   intro z hz;simp only[xq8,aK4,or_false] at hz;rcases hz with rfl|rfl
   ·rcases hb with rfl|rfl
    ·exact .lit _
    ·exact .mp _ _ (by omega)
   ·refine .sl _ _ _ (fun k e=>by cases e;omega) fun x hx=>?_
    rw[an5 o7 (fun _=>rfl)] at hx
    obtain⟨c,_,rfl⟩:=xq6.1 hx;exact .lit _
  |succ n=>
   rw[hn] at e;cases n with
   |zero=>unfold aQ2 at e;cases e
   |succ n=>simp at e
def bH7(letters:bytes)(x y z n:Nat):bytes:=(List.range (n+1)).map fun i=>letters.getD ((x*65536+y*256+z)/2^(18 - 6*i)%64) 0
theorem d55{letters b:bytes}{g n:Nat}(hn:n=min 3 (b.length - 3*g))(h:3*g < b.length):(ac5 letters b).take (4*g)++bH7 letters (b.getD (3*g) 0).toNat (b.getD (3*g+1) 0).toNat (b.getD (3*g+2) 0).toNat n=(ac5 letters b).take (4*(g+1)):=by
 have hl:=az4 letters b;have hk:4*g+(n+1)=min (4*(g+1)) ((8*b.length+5)/6):=by omega
 apply List.ext_getElem
 ·simp only[List.length_append,List.length_take,bH7,List.length_map,List.length_range,hl]
  omega
 ·intro j h1 h2
  rw[List.length_take,hl] at h2;rw[List.getElem_take];have hen: ∀i (hi:i < (ac5 letters b).length),(ac5 letters b)[i]=letters.getD (aD5 b i) 0:=fun i hi=>by simp[ac5]
  rw[hen];by_cases hj:j < 4*g
  ·rw[List.getElem_append_left (by rw[List.length_take,hl];omega),List.getElem_take,hen]
  ·obtain⟨i,rfl⟩: ∃i,j=4*g+i:=⟨j - 4*g,by omega⟩
   have hi:i < n+1:=by omega
   rw[List.getElem_append_right (by rw[List.length_take,hl];omega)]
   have hlt:4*g+i - ((ac5 letters b).take (4*g)).length=i:=by rw[List.length_take,hl];omega
   simp only[hlt,bH7,List.getElem_map,List.getElem_range];rw[cl5 b g i (by omega)]
theorem cX4{o:Own}(letters b:bytes)(H:List AObj)(hL:letters.length=64)(h:b.length<=10000000):o8 Tryz.prog 139 [.str letters,.sl o 1 (b.map o7)] H (fun y H'=>y=.str (ac5 letters b)/\H'=H):=by
 refine y8 [3000005005,1000005] [.tmp 4] 53 Tryz.func139 ?_;repeat' simp -dsimp -implicitDefEqProofs only[go_sem]
 refine aa8 ab2 mixed [3000005005,1000005] [0,4,5] (fun g:Nat=>3*g<=b.length+2) (fun g=>[(1,.sl .sh 1 ((b.drop (3*g)).map o7))]) (fun g=>br5 H (adB H.length g 0) ((ac5 letters b).take (4*g))) (fun g=>b.length+3 - 3*g) (by kernel_rfl) ?_ 0 (by omega) y9 rfl
 intro g hg;by_cases hlt:3*g < b.length
 ·obtain⟨n,hn⟩: ∃n,n=min 3 (b.length - 3*g):=⟨_,rfl⟩
  have hnx:=d55 (letters:=letters) hn hlt;have hc0:(0 < ((b.length - 3*g:Nat):Int))=True:=eq_true (by omega)
  have hmin:min (3:Int) ((b.length - 3*g:Nat):Int)=(n:Int):=by omega
  have hdr:(b.drop (3*g+n))=b.drop (3*(g+1)):=by
   rcases(by omega:n=3\/b.length<=3*g+n) with h|h
   ·rw[h];rfl
   ·rw[bg0 h,bg0 (by omega)]
  have hcp:ag0 [.lit (.int .u8 0),.lit (.int .u8 0),.lit (.int .u8 0)] 0 (((b.drop (3*g)).take (n - 0)).map o7)=[.lit (.int .u8 ((b.getD (3*g) 0).toNat:Int)),.lit (.int .u8 ((b.getD (3*g+1) 0).toNat:Int)),.lit (.int .u8 ((b.getD (3*g+2) 0).toNat:Int))]:=by
   rw[a99];have g0:b.getD (3*g) 0=(b.drop (3*g)).getD 0 0:=by simp[List.getD]
   have g1:b.getD (3*g+1) 0=(b.drop (3*g)).getD 1 0:=by simp[List.getD]
   have g2:b.getD (3*g+2) 0=(b.drop (3*g)).getD 2 0:=by simp[List.getD]
   have hl:(b.drop (3*g)).length=b.length - 3*g:=List.length_drop;rw[g0,g1,g2];generalize b.drop (3*g)=r at*;rcases r with _|⟨x,_|⟨y,_|⟨z,r⟩⟩⟩
   ·simp at hl;omega
   ·obtain rfl:n=1:=by simp at hl;omega
    rfl
   ·obtain rfl:n=2:=by simp at hl;omega
    rfl
   ·obtain rfl:n=3:=by simp at hl;omega
    rfl
  have hX:(ac5 letters b).length<=20000000:=by rw[az4];omega
  have hXl:((ac5 letters b).take (4*g)).length<=20000000:=by rw[List.length_take];omega
  have x0:=(b.getD (3*g) 0).toNat_lt;have x1:=(b.getD (3*g+1) 0).toNat_lt;have x2:=(b.getD (3*g+2) 0).toNat_lt;have hor:=dV3 x0 x1 x2;generalize (ac5 letters b).take (4*g)=X at*;unfold br5;repeat' first|refine o6 ?_|simp -dsimp -implicitDefEqProofs (disch:=first|omega|simp only[ll];omega) only[go_sem,hc0,hmin,hdr,hcp,hor]|refine vcA ?_ ?_|omega
  obtain⟨N,hN⟩: ∃N,N=(b.getD (3*g) 0).toNat*65536+(b.getD (3*g+1) 0).toNat*256+(b.getD (3*g+2) 0).toNat:=⟨_,rfl⟩;have hNl:N < 16777216:=by omega
  obtain⟨P,hP⟩: ∃P,P=bH7 letters (b.getD (3*g) 0).toNat (b.getD (3*g+1) 0).toNat (b.getD (3*g+2) 0).toNat n:=⟨_,rfl⟩;have hPl:P.length=n+1:=by rw[hP];simp[bH7]
  have hPg: ∀i,i < n+1->P.take (i+1)=P.take i++[letters.getD (N/2^(18 - 6*i)%64) 0]:=fun i hi=>by
   rw[bf3 (by omega)]
   congr 1
   subst hP;simp[bH7,hN]
  rw[<-hP] at hnx;rw[<-hN];generalize [AV.lit (.int .u8 ((b.getD (3*g) 0).toNat:Int)),.lit (.int .u8 ((b.getD (3*g+1) 0).toNat:Int)),.lit (.int .u8 ((b.getD (3*g+2) 0).toNat:Int))]=gc;refine aa8 ab2 mixed [3000005005,1000005] [0,1,4,5,8,38] (fun i:Nat=>i<=n+1) (fun i=>[(39,.lit (.int .i64 i))]) (fun i=>H++[aG1 119 (H.length+1) (adB H.length g i) (X++P.take i),aQ2 (X++P.take i).length,.cells (.one 181) gc]) (fun i=>n+1 - i) (by kernel_rfl) ?_ 0 (by omega) y9 (by simp)
  intro i hi;have hB: ∀x y z:AObj,(H++[x,y,z])[H.length]?=some x:=fun x y z=>by rw[xq7 (xq0 _),ap6];rfl
  have hG: ∀x y z:AObj,(H++[x,y,z])[H.length+1]?=some y:=fun x y z=>by rw[xq7 (by omega),aM6];rfl
  have hst: ∀x y z u v:AObj,((H++[x,y,z]).set H.length u).set (H.length+1) v=H++[u,v,z]:=fun x y z u v=>by
   rw[aD2 _ _ (xq0 _),ap6,aD2 _ _ (by omega),aM6]
   rfl
  have hpl:(P.take i).length<=4:=by rw[List.length_take];omega
  by_cases hin:i < n+1
  ·have hic:((i:Int) < (n:Int)+1)=True:=eq_true (by omega)
   have hpn:=hPg i hin;have hap:X++P.take i++[letters.getD (N/2^(18 - 6*i)%64) 0]=X++P.take (i+1):=by rw[hpn,List.append_assoc]
   have hw:=fun c=>cc3 (T:=119) (k:=H.length) (m:=H.length+1) (a:=adB H.length g i) (bs:=X++P.take i) (c:=c) (H:=H++[aG1 119 (H.length+1) (adB H.length g i) (X++P.take i),aQ2 (X++P.take i).length,.cells (.one 181) gc]) et3 (hB _ _ _) dP1 (hG _ _ _) (by rw[List.length_append];omega)
   have hw2:=hw (letters.getD (N/2^(18 - 6*i)%64) 0);rw[hst,hap] at hw2;have hlt64:(((N/2^(18 - 6*i)%64:Nat)):Int) < 64:=by omega
   have hidx:(((N:Int).fdiv (2^(18 - 6*i))%64)).toNat=N/2^(18 - 6*i)%64:=by
    rw[ao4 (ci5 (Int.pow_pos (by decide)))]
    have:((2:Int)^(18 - 6*i))=((2^(18 - 6*i):Nat):Int):=by simp
    rw[this,Int.toNat_natCast];omega
   obtain⟨Z,hZ⟩: ∃Z,Z=X++P.take i:=⟨_,rfl⟩;obtain⟨Z',hZ'⟩: ∃Z',Z'=X++P.take (i+1):=⟨_,rfl⟩;rw[<-hZ,<-hZ'] at hw2;rw[<-hZ];clear hw hap hidx hpn;rcases(by omega:i=0\/i=1\/i=2\/i=3) with rfl|rfl|rfl|rfl
   ·simp only[Nat.reduceMul,Nat.reduceSub,Nat.reducePow] at hw2
    have e1:(((N/262144:Nat):Int)%64).toNat=N/262144%64:=by omega
    have e2:(N:Int).fdiv 262144=((N/262144:Nat):Int):=ao4 (by decide)
    repeat' first|refine o6 ?_|simp -dsimp -implicitDefEqProofs (disch:=omega) only[go_sem,hic,hL,bB7,e1]|refine o5 (hw2) ?_|refine vcA ?_ ?_|omega|refine ac8 fun _=>?_
    refine again (1) ?_ ?_ ?_ y9
    ·omega
    ·omega
    ·rw[hZ',cu9]
   ·simp only[Nat.reduceMul,Nat.reduceSub,Nat.reducePow] at hw2
    have e1:(((N/4096:Nat):Int)%64).toNat=N/4096%64:=by omega
    have e2:(N:Int).fdiv 4096=((N/4096:Nat):Int):=ao4 (by decide)
    repeat' first|refine o6 ?_|simp -dsimp -implicitDefEqProofs (disch:=omega) only[go_sem,hic,hL,bB7,e1]|refine o5 (hw2) ?_|refine vcA ?_ ?_|omega|refine ac8 fun _=>?_
    refine again (2) ?_ ?_ ?_ y9
    ·omega
    ·omega
    ·rw[hZ',cu9]
   ·simp only[Nat.reduceMul,Nat.reduceSub,Nat.reducePow] at hw2
    have e1:(((N/64:Nat):Int)%64).toNat=N/64%64:=by omega
    have e2:(N:Int).fdiv 64=((N/64:Nat):Int):=ao4 (by decide)
    repeat' first|refine o6 ?_|simp -dsimp -implicitDefEqProofs (disch:=omega) only[go_sem,hic,hL,bB7,e1]|refine o5 (hw2) ?_|refine vcA ?_ ?_|omega|refine ac8 fun _=>?_
    refine again (3) ?_ ?_ ?_ y9
    ·omega
    ·omega
    ·rw[hZ',cu9]
   ·simp only[Nat.reduceMul,Nat.reduceSub,Nat.reducePow] at hw2
    have e1:(((N/1:Nat):Int)%64).toNat=N/1%64:=by omega
    have e2:(N:Int).fdiv 1=((N/1:Nat):Int):=ao4 (by decide)
    repeat' first|refine o6 ?_|simp -dsimp -implicitDefEqProofs (disch:=omega) only[go_sem,hic,hL,bB7,e1]|refine o5 (hw2) ?_|refine vcA ?_ ?_|omega|refine ac8 fun _=>?_
    refine again (4) ?_ ?_ ?_ y9
    ·omega
    ·omega
    ·rw[hZ',cu9]
  ·obtain rfl:i=n+1:=by omega
   have htk:P.take (n+1)=P:=al2 (by omega)
   rw[htk,hnx,cu9];have hic:(((n+1:Nat):Int) < (n:Int)+1)=False:=eq_false (by omega)
   repeat' first|refine o6 ?_|simp -dsimp -implicitDefEqProofs only[go_sem,hic]
   refine an7 (H.length+2) ([.cells (.one 181) gc]) (g+1) ?_ ?_ ?_ ?_ ?_ (by repeat(first|exact ah0|(refine ag1 ?_ ?_;focus exact el2))) ?_ y9
   ·omega
   ·omega
   ·simp[br5,eR2]
   ·simp[br5]
   ·simp[br5]
   ·exact dM1 dP1 (xq0 _)
 ·have hc0:(0 < ((b.length - 3*g:Nat):Int))=False:=eq_false (by omega)
  have htk:(ac5 letters b).take (4*g)=ac5 letters b:=al2 (by rw[az4];omega)
  have hX:(ac5 letters b).length<=20000000:=by rw[az4];omega
  rw[htk];generalize ac5 letters b=Y at*;unfold br5;have hS:=cZ7 (T:=119) (k:=H.length) (m:=H.length+1) (a:=adB H.length g 0) (bs:=Y) (H:=H++[aG1 119 (H.length+1) (adB H.length g 0) Y,aQ2 Y.length]) (by rw[xq7 (xq0 _),ap6];rfl) (by rw[xq7 (by omega),aM6];rfl) (by omega)
  repeat' first|refine o6 ?_|simp -dsimp -implicitDefEqProofs only[go_sem,hc0]|refine o5 (hS) ?_|fail
  exact aa5 _ (Le.refl _) (.str _) ⟨rfl,rfl⟩
theorem c09{o:Own}(b:bytes)(H:List AObj)(h:b.length<=10000000):o8 Tryz.prog 81 [.sl o 1 (b.map o7)] H (fun y H'=>y=.str (ac5 [65,66,67,68,69,70,71,72,73,74,75,76,77,78,79,80,81,82,83,84,85,86,87,88,89,90,97,98,99,100,101,102,103,104,105,106,107,108,109,110,111,112,113,114,115,116,117,118,119,120,121,122,48,49,50,51,52,53,54,55,56,57,43,47] b)/\H'=H):=by
 have he:=fun H=>cX4 (o:=o) [65,66,67,68,69,70,71,72,73,74,75,76,77,78,79,80,81,82,83,84,85,86,87,88,89,90,97,98,99,100,101,102,103,104,105,106,107,108,109,110,111,112,113,114,115,116,117,118,119,120,121,122,48,49,50,51,52,53,54,55,56,57,43,47] b H rfl h
 refine y8 [] [.tmp 2] 5 Tryz.func81 ?_;repeat' first|simp -dsimp -implicitDefEqProofs only[go_sem]|refine o5 (he _) ?_|fail
 exact o9 ⟨rfl,rfl⟩
theorem eL7{o:Own}(b:bytes)(H:List AObj)(h:b.length<=10000000):o8 Tryz.prog 87 [.sl o 1 (b.map o7)] H (fun y H'=>y=.str (ac5 [65,66,67,68,69,70,71,72,73,74,75,76,77,78,79,80,81,82,83,84,85,86,87,88,89,90,97,98,99,100,101,102,103,104,105,106,107,108,109,110,111,112,113,114,115,116,117,118,119,120,121,122,48,49,50,51,52,53,54,55,56,57,45,95] b)/\H'=H):=by
 have he:=fun H=>cX4 (o:=o) [65,66,67,68,69,70,71,72,73,74,75,76,77,78,79,80,81,82,83,84,85,86,87,88,89,90,97,98,99,100,101,102,103,104,105,106,107,108,109,110,111,112,113,114,115,116,117,118,119,120,121,122,48,49,50,51,52,53,54,55,56,57,45,95] b H rfl h
 refine y8 [] [.tmp 2] 5 Tryz.func87 ?_;repeat' first|simp -dsimp -implicitDefEqProofs only[go_sem]|refine o5 (he _) ?_|fail
 exact o9 ⟨rfl,rfl⟩
end
section
open Go V
def spB(c:UInt8):Bool:=decide (c=32)||decide (9<=c.toNat/\c.toNat<=13)
theorem bg7(c:UInt8):bU5 c.toNat=if spB c=true then 1 else 0:=by
 unfold bU5 spB;have h:c=32↔c.toNat=32:=⟨fun e=>by rw[e];rfl,fun e=>aZ0.1 e⟩
 by_cases h1:c=32
 ·simp[h1]
 ·by_cases h2:9<=c.toNat/\c.toNat<=13
  ·simp[h1,h2]
  ·have h3: ¬c.toNat=32:=fun e=>h1 (h.2 e)
   rw[if_neg (by omega)]
   simp[h1,h2]
def fieldsGo:bytes->bytes->List bytes
 |[],cur=>if cur=[] then[] else[cur]
 |c::r,cur=>if spB c=true then(if cur=[] then fieldsGo r [] else cur::fieldsGo r []) else fieldsGo r (cur++[c])
def a19(s:bytes):List bytes:=fieldsGo s []
def cntF:bytes->Bool->Nat
 |[],_=>0
 |c::r,p=>(if p&&!spB c then 1 else 0)+cntF r (spB c)
theorem br3: ∀(s cur:bytes),(fieldsGo s cur).length=cntF s (decide (cur=[]))+if cur=[] then 0 else 1
 |[],cur=>by
  unfold fieldsGo cntF;split<;>rfl
 |c::r,cur=>by
  unfold fieldsGo cntF;by_cases h:spB c=true
  ·rw[if_pos h,h]
   by_cases h2:cur=[]
   ·rw[if_pos h2,if_pos h2,br3 r []]
    simp
   ·rw[if_neg h2,if_neg h2,List.length_cons,br3 r []]
    simp
  ·rw[if_neg h,br3 r (cur++[c])]
   have h0:spB c=false:=by simpa using h
   rw[h0,if_neg (by simp)]
   by_cases h2:cur=[]
   ·simp[h2];omega
   ·simp[h2]
theorem bP9(s:bytes):(a19 s).length=cntF s true:=by
 have:=br3 s [];rw[if_pos rfl] at this;exact this
theorem d64{s:bytes}{i:Nat}(h:i < s.length)(p:Bool):cntF (s.drop i) p=(if p&&!spB (s.getD i 0) then 1 else 0)+cntF (s.drop (i+1)) (spB (s.getD i 0)):=by
 rw[bC9 h,cntF,List.getD,xq1 h];rfl
theorem dh1: ∀(s:bytes) (p:Bool),cntF s p<=s.length
 |[],_=>xq0 _
 |c::r,p=>by
  have:=dh1 r (spB c);unfold cntF;split<;>simp<;>omega
theorem aX3{s:bytes}{i:Nat}(h:i < s.length)(cur:bytes):fieldsGo (s.drop i) cur=if spB (s.getD i 0)=true then(if cur=[] then fieldsGo (s.drop (i+1)) [] else cur::fieldsGo (s.drop (i+1)) []) else fieldsGo (s.drop (i+1)) (cur++[s.getD i 0]):=by
 rw[bC9 h,fieldsGo,List.getD,xq1 h];rfl
def aL3(s:bytes)(a b:Nat):bytes:=(s.drop a).take (b - a)
theorem co4{s:bytes}{a b:Nat}(hab:a<=b)(h:b < s.length):aL3 s a b++[s.getD b 0]=aL3 s a (b+1):=by
 unfold aL3;have e:s[a+(b - a)]'(by omega)=s[b]:=by congr 1;omega
 rw[show b+1 - a=(b - a)+1 by omega,bf3 (by rw[List.length_drop];omega),List.getElem_drop,List.getD,xq1 h,e]
 rfl
theorem piece_nil(s:bytes)(a:Nat):aL3 s a a=[]:=by simp[aL3]
theorem piece_ne{s:bytes}{a b:Nat}(hab:a < b)(h:b<=s.length):aL3 s a b≠[]:=fun e=>by
 have h2:=congrArg List.length e;unfold aL3 at h2;rw[List.length_take,List.length_drop,List.length_nil] at h2;omega
def gF(F:List bytes)(na:Nat):List bytes:=F.take na++List.replicate (F.length - na) []
theorem dJ6(F:List bytes){na:Nat}(h:na<=F.length):(gF F na).length=F.length:=by
 unfold gF;rw[List.length_append,List.length_take,List.length_replicate];omega
theorem ep1(F:List bytes):gF F 0=List.replicate F.length []:=by simp[gF]
theorem cs3(F:List bytes):gF F F.length=F:=by simp[gF]
theorem cr9{F R:List bytes}{na:Nat}{p:bytes}(h:F=F.take na++p::R)(hna:na<=F.length):na < F.length/\(gF F na).set na p=gF F (na+1)/\F=F.take (na+1)++R:=by
 have hl:=congrArg List.length h;rw[List.length_append,List.length_take,List.length_cons] at hl;have hlt:na < F.length:=by omega
 have ht:F.take (na+1)=F.take na++[p]:=by
  have h2:F[na]?=some p:=by
   rw[h,xq7 (by rw[List.length_take];omega),List.length_take,bt9 (by omega),ap6]
   rfl
  rw[bf3 hlt];rw[xq1 hlt] at h2;rw[Option.some.inj h2]
 refine⟨hlt,?_,by rw[ht,List.append_assoc];exact h⟩
 unfold gF;rw[ht,aD2 _ _ (by rw[List.length_take];omega),List.length_take,bt9 (by omega),ap6,show F.length - na=(F.length - (na+1))+1 by omega,di6,List.set_cons_zero]
 simp
end
section
open Go V
theorem bq6{x y:Nat}(hx:x < 2^8)(hy:y < 2^8):IntKind.u8.wrap ((BitVec.ofInt IntKind.u8.bits (x:Int)|||BitVec.ofInt IntKind.u8.bits (y:Int)).toNat:Int)=((x|||y:Nat):Int):=by
 show IntKind.u8.wrap ((BitVec.ofInt 8 (x:Int)|||BitVec.ofInt 8 (y:Int)).toNat:Int)=_
 rw[cu1 hx hy,bk4 (bK4 hx hy)]
theorem cU9:IntKind.i64.wrap (((BitVec.ofInt IntKind.i64.bits (if IntKind.i64.signed=true then -1 else IntKind.i64.max)^^^BitVec.ofInt IntKind.i64.bits 0).toNat:Nat):Int)= -1:=by decide
theorem cU8:IntKind.i64.wrap (((BitVec.ofInt IntKind.i64.bits (if IntKind.i64.signed=true then -1 else IntKind.i64.max)^^^BitVec.ofInt IntKind.i64.bits 1).toNat:Nat):Int)= -2:=by decide
theorem d31:IntKind.i64.wrap (((BitVec.ofInt IntKind.i64.bits 0&&&BitVec.ofInt IntKind.i64.bits (-1)).toNat:Nat):Int)=0:=by decide
theorem d30:IntKind.i64.wrap (((BitVec.ofInt IntKind.i64.bits 1&&&BitVec.ofInt IntKind.i64.bits (-1)).toNat:Nat):Int)=1:=by decide
theorem d29:IntKind.i64.wrap (((BitVec.ofInt IntKind.i64.bits 0&&&BitVec.ofInt IntKind.i64.bits (-2)).toNat:Nat):Int)=0:=by decide
theorem d28:IntKind.i64.wrap (((BitVec.ofInt IntKind.i64.bits 1&&&BitVec.ofInt IntKind.i64.bits (-2)).toNat:Nat):Int)=0:=by decide
def cK7(b:Bool):Int:=if b then 1 else 0
theorem bm1{H:List AObj}(F:List bytes):Done H (fun y H'=>y=.sl .sh 1 (F.map .str)/\H'=H) (.msl H.length 0 F.length F.length) (H++[.cells (.one 9) (F.map .str)]):=by
 have hfl:aa1 (F.map AV.str)=F.map AV.str:=an5 AV.str (fun _=>rfl) F
 refine bx3 (.sl .sh 1 (F.map .str)) (.msl _ _ _ _ _ (.one 9) (F.map .str) _ (xq0 _) (by simp) (by simp) (fun x hx=>by obtain⟨c,_,rfl⟩:=xq6.1 hx;exact⟨rfl,rfl⟩) (by rw[hfl];simp) fun j c y e1 e2=>?_) ⟨rfl,rfl⟩
 rw[hfl] at e2;rw[Nat.zero_add,e2] at e1;cases e1
 obtain⟨c,_,rfl⟩:=xq6.1 (bC3 e2);exact .low _ (.str _)
theorem ea0(s:bytes)(H:List AObj)(ha: ∀c∈s,c.toNat < 128)(hl:s.length<=100000):o8 Tryz.prog 96 [.str s] H (fun y H'=>y=.sl .sh 1 ((a19 s).map .str)/\H'=H):=by
 have hN:=bP9 s;have hNl:=dh1 s true;refine y8 [] [.tmp 2] 106 Tryz.func96 ?_;repeat' simp -dsimp -implicitDefEqProofs only[go_sem]
 refine aa8 ab2 mixed [] [0,2] (fun p:Nat×Nat×Bool×Nat=>p.1<=s.length/\p.2.1+cntF (s.drop p.1) p.2.2.1=cntF s true/\p.2.2.2 < 128) (fun p=>[(3,.lit (.int .i64 p.2.1)),(4,.lit (.int .i64 (cK7 p.2.2.1))),(5,.lit (.int .u8 p.2.2.2)),(6,.lit (.int .i64 p.1))]) (fun _=>H) (fun p=>s.length - p.1) (by kernel_rfl) ?_ (0,0,true,0) ⟨by omega,by simp,by decide⟩ y9 rfl
 rintro⟨i,n,w,v⟩ ⟨hi,hc,hv⟩
 dsimp only at hi hc hv⊢;by_cases hil:i < s.length
 ·have hic:((i:Int) < ((s.length:Nat):Int))=True:=eq_true (by omega)
  rw[d64 hil] at hc;have hsp:=bg7 (s.getD i 0);have hc128:(s.getD i 0).toNat < 128:=ha _ (by rw[List.getD,xq1 hil];exact aR4 hil)
  have hor:=bq6 (x:=v) (y:=(s.getD i 0).toNat) (by omega) (by omega)
  have hvl:(v|||(s.getD i 0).toNat) < 128:=bK4 (n:=7) (by omega) (by omega)
  generalize (v|||(s.getD i 0).toNat)=v' at*
  cases hb:spB (s.getD i 0) with
  |true=>
   rw[hb] at hc hsp;rw[if_pos rfl] at hsp;cases w with
   |true=>
    repeat' first|refine o6 ?_|simp -dsimp -implicitDefEqProofs (disch:=omega) only[go_sem,hic,hor,hsp,cK7,cU8,d28]
    refine again ((i+1,n,true,v')) ?_ ?_ rfl y9
    ·dsimp only;omega
    ·exact⟨by dsimp only;omega,by simpa using hc,hvl⟩
   |false=>
    repeat' first|refine o6 ?_|simp -dsimp -implicitDefEqProofs (disch:=omega) only[go_sem,hic,hor,hsp,cK7,cU8,d29]
    refine again ((i+1,n,true,v')) ?_ ?_ rfl y9
    ·dsimp only;omega
    ·exact⟨by dsimp only;omega,by simpa using hc,hvl⟩
  |false=>
   rw[hb] at hc hsp;rw[if_neg (by decide)] at hsp
   cases w with
   |true=>
    repeat' first|refine o6 ?_|simp -dsimp -implicitDefEqProofs (disch:=omega) only[go_sem,hic,hor,hsp,cK7,cU9,d30]
    refine again ((i+1,n+1,false,v')) ?_ ?_ rfl y9
    ·dsimp only;omega
    ·exact⟨by dsimp only;omega,by simp at hc⊢;omega,hvl⟩
   |false=>
    repeat' first|refine o6 ?_|simp -dsimp -implicitDefEqProofs (disch:=omega) only[go_sem,hic,hor,hsp,cK7,cU9,d31]
    refine again ((i+1,n,false,v')) ?_ ?_ rfl y9
    ·dsimp only;omega
    ·exact⟨by dsimp only;omega,by simpa using hc,hvl⟩
 ·obtain rfl:i=s.length:=by omega
  have hic:(((s.length:Nat):Int) < ((s.length:Nat):Int))=False:=eq_false (by omega)
  rw[ci0,cntF,ar7] at hc;have hv8:(128<=(v:Int))=False:=eq_false (by omega)
  rw[<-hN] at hc hNl;unfold a19 at*;obtain⟨F,hF⟩: ∃F,F=fieldsGo s []:=⟨_,rfl⟩;rw[<-hF] at hc hNl⊢;subst hc;have hz:ah7 [AV.str []] F.length=(gF F 0).map AV.str:=by rw[bt6,ep1,aY9]
  have hFl:F.length<=100000:=by omega
  clear hN hNl;repeat' first|refine o6 ?_|simp -dsimp -implicitDefEqProofs only[go_sem,hic,hv8,hz]|refine vcA ?_ ?_|omega
  refine aa8 ab2 mixed [] [0,2,9,10,11] (fun i:Nat=>i<=s.length/\fieldsGo (s.drop i) []=F) (fun i=>[(12,.lit (.int .i64 i))]) (fun _=>H++[.cells (.one 9) ((gF F 0).map .str)]) (fun i=>s.length - i) (by kernel_rfl) ?_ 0 ⟨by omega,hF.symm⟩ y9 rfl
  rintro i ⟨hi,hd⟩
  by_cases hil:i < s.length
  ·have hic:((i:Int) < ((s.length:Nat):Int))=True:=eq_true (by omega)
   have hsp:=bg7 (s.getD i 0);have hc128:(s.getD i 0).toNat < 128:=ha _ (by rw[List.getD,xq1 hil];exact aR4 hil)
   have hfd:=aX3 hil [];cases hb:spB (s.getD i 0) with
   |true=>
    rw[hb,if_pos rfl] at hsp;rw[hb,if_pos rfl,if_pos rfl] at hfd;repeat' first|refine o6 ?_|simp -dsimp -implicitDefEqProofs (disch:=omega) only[go_sem,hic,hsp]
    refine again (i+1) ?_ ?_ rfl y9
    ·omega
    ·exact⟨by omega,by rw[<-hfd];exact hd⟩
   |false=>
    rw[hb,if_neg (by decide)] at hsp
    repeat' first|refine o6 ?_|simp -dsimp -implicitDefEqProofs (disch:=omega) only[go_sem,hic,hsp]
    refine aa8 ab2 mixed [] [0,2,9] (fun p:Nat×Nat×Nat=>p.2.1<=p.1/\p.1<=s.length/\p.2.2<=F.length/\F=F.take p.2.2++fieldsGo (s.drop p.1) (aL3 s p.2.1 p.1)/\(p.2.1 < s.length->spB (s.getD p.2.1 0)=false)) (fun p=>[(10,.lit (.int .i64 p.2.2)),(11,.lit (.int .i64 p.2.1)),(12,.lit (.int .i64 p.1))]) (fun p=>H++[.cells (.one 9) ((gF F p.2.2).map .str)]) (fun p=>s.length - p.1) (by kernel_rfl) ?_ (i,i,0) ⟨xq0 _,hi,aP7 _,by rw[piece_nil,hd];simp,fun _=>hb⟩ y9 rfl
    rintro⟨i,fs,na⟩ ⟨hfi,hi,hna,hd,hfs⟩
    dsimp only at hfi hi hna hd hfs⊢;have hgl:=dJ6 F hna;by_cases hil:i < s.length
    ·have hic:((i:Int) < ((s.length:Nat):Int))=True:=eq_true (by omega)
     have hsp:=bg7 (s.getD i 0);have hc128:(s.getD i 0).toNat < 128:=ha _ (by rw[List.getD,xq1 hil];exact aR4 hil)
     have hfd:=aX3 hil (aL3 s fs i);cases hb:spB (s.getD i 0) with
     |false=>
      rw[hb,if_neg (by decide)] at hsp
      rw[hb,if_neg (by decide),co4 hfi hil] at hfd
      repeat' first|refine o6 ?_|simp -dsimp -implicitDefEqProofs (disch:=omega) only[go_sem,hic,hsp]
      refine again ((i+1,fs,na)) ?_ ?_ rfl y9
      ·dsimp only;omega
      ·exact⟨by dsimp only;omega,by dsimp only;omega,hna,by rw[<-hfd];exact hd,hfs⟩
     |true=>
      rw[hb,if_pos rfl] at hsp;have hlt:fs < i:=by
       rcases an9 fs i with h|h
       ·exact h
       ·obtain rfl:fs=i:=by omega
        rw[hfs hil] at hb;cases hb
      rw[hb,if_pos rfl,if_neg (piece_ne hlt (by omega))] at hfd
      rw[hfd] at hd;obtain⟨hnl,hgs,hd2⟩:=cr9 hd hna;have hst:((gF F na).map AV.str).set na (.str ((s.drop fs).take (i - fs)))=(gF F (na+1)).map .str:=by
       rw[<-hgs,ar1];rfl
      repeat' first|refine o6 ?_|simp -dsimp -implicitDefEqProofs (disch:=omega) only[go_sem,hic,hsp,hgl,hst]|refine vcA ?_ ?_|omega
      refine aa8 ab2 mixed [] [0,2,9,10,11,57,58,59,60,61,62,63,64,65,66,67,68,69,70,71,72,73,74,75,76,77,78,79] (fun j:Nat=>j<=s.length/\i < j/\F=F.take (na+1)++fieldsGo (s.drop j) []) (fun j=>[(12,.lit (.int .i64 j)),(10,.lit (.int .i64 ((na+1:Nat):Int)))]) (fun _=>H++[.cells (.one 9) ((gF F (na+1)).map .str)]) (fun j=>s.length - j) (by kernel_rfl) ?_ (i+1) ⟨by omega,by omega,hd2⟩ y9 rfl
      rintro j ⟨hj,hij,hdj⟩
      by_cases hjl:j < s.length
      ·have hjc:((j:Int) < ((s.length:Nat):Int))=True:=eq_true (by omega)
       have hspj:=bg7 (s.getD j 0);have hcj:(s.getD j 0).toNat < 128:=ha _ (by rw[List.getD,xq1 hjl];exact aR4 hjl)
       have hfj:=aX3 hjl [];cases hbj:spB (s.getD j 0) with
       |true=>
        rw[hbj,if_pos rfl] at hspj;rw[hbj,if_pos rfl,if_pos rfl] at hfj;repeat' first|refine o6 ?_|simp -dsimp -implicitDefEqProofs (disch:=omega) only[go_sem,hjc,hspj]
        refine again (j+1) ?_ ?_ rfl y9
        ·omega
        ·exact⟨by omega,by omega,by rw[<-hfj];exact hdj⟩
       |false=>
        rw[hbj,if_neg (by decide)] at hspj
        repeat' first|refine o6 ?_|simp -dsimp -implicitDefEqProofs (disch:=omega) only[go_sem,hjc,hspj]
        refine again ((j,j,na+1)) ?_ ?_ rfl y9
        ·dsimp only;omega
        ·exact⟨xq0 _,hj,by dsimp only;omega,by dsimp only;rw[piece_nil];exact hdj,fun _=>hbj⟩
      ·obtain rfl:j=s.length:=by omega
       have hjc:(((s.length:Nat):Int) < ((s.length:Nat):Int))=False:=eq_false (by omega)
       repeat' first|refine o6 ?_|simp -dsimp -implicitDefEqProofs only[go_sem,hjc]
       refine again ((s.length,s.length,na+1)) ?_ ?_ rfl y9
       ·dsimp only;omega
       ·exact⟨xq0 _,xq0 _,by dsimp only;omega,by dsimp only;rw[piece_nil];exact hdj,fun h=>absurd h (by dsimp only;omega)⟩
    ·obtain rfl:i=s.length:=by omega
     have hic:(((s.length:Nat):Int) < ((s.length:Nat):Int))=False:=eq_false (by omega)
     rw[ci0,fieldsGo] at hd;by_cases hfl:fs < s.length
     ·have hfc:((fs:Int) < ((s.length:Nat):Int))=True:=eq_true (by omega)
      rw[if_neg (piece_ne hfl (xq0 _))] at hd;obtain⟨hnl,hgs,hd2⟩:=cr9 hd hna;have hst:((gF F na).map AV.str).set na (.str (s.drop fs))=F.map .str:=by
       have hF1:F.length=na+1:=by
        have:=congrArg List.length hd2;rw[List.append_nil,List.length_take] at this;omega
       have e:F.map AV.str=(gF F (na+1)).map AV.str:=by rw[<-hF1,cs3]
       have ep:aL3 s fs s.length=s.drop fs:=al2 (by rw[List.length_drop];omega)
       rw[e,<-hgs,ar1,ep]
      repeat' first|refine o6 ?_|simp -dsimp -implicitDefEqProofs (disch:=(simp only[ll];omega)) only[go_sem,hic,hfc,hgl,hst]|refine vcA ?_ ?_|omega
      exact bm1 F
     ·have hfc:((fs:Int) < ((s.length:Nat):Int))=False:=eq_false (by omega)
      obtain rfl:fs=s.length:=by omega
      rw[piece_nil,if_pos rfl,List.append_nil] at hd;have hgF:gF F na=F:=by
       have:=congrArg List.length hd;rw[List.length_take] at this;have h2:na=F.length:=by omega
       rw[h2];exact cs3 F
      rw[hgF];repeat' first|refine o6 ?_|simp -dsimp -implicitDefEqProofs only[go_sem,hic]
      exact bm1 F
  ·obtain rfl:i=s.length:=by omega
   have hic:(((s.length:Nat):Int) < ((s.length:Nat):Int))=False:=eq_false (by omega)
   repeat' first|refine o6 ?_|simp -dsimp -implicitDefEqProofs only[go_sem,hic]
   refine aa8 ab2 mixed [] [0,2,9] (fun p:Nat×Nat×Nat=>p.2.1<=p.1/\p.1<=s.length/\p.2.2<=F.length/\F=F.take p.2.2++fieldsGo (s.drop p.1) (aL3 s p.2.1 p.1)/\(p.2.1 < s.length->spB (s.getD p.2.1 0)=false)) (fun p=>[(10,.lit (.int .i64 p.2.2)),(11,.lit (.int .i64 p.2.1)),(12,.lit (.int .i64 p.1))]) (fun p=>H++[.cells (.one 9) ((gF F p.2.2).map .str)]) (fun p=>s.length - p.1) (by kernel_rfl) ?_ (s.length,s.length,0) ⟨xq0 _,hi,aP7 _,by rw[piece_nil,hd];simp,fun h=>absurd h (by dsimp only;omega)⟩ y9 rfl
   rintro⟨i,fs,na⟩ ⟨hfi,hi,hna,hd,hfs⟩
   dsimp only at hfi hi hna hd hfs⊢;have hgl:=dJ6 F hna;by_cases hil:i < s.length
   ·have hic:((i:Int) < ((s.length:Nat):Int))=True:=eq_true (by omega)
    have hsp:=bg7 (s.getD i 0);have hc128:(s.getD i 0).toNat < 128:=ha _ (by rw[List.getD,xq1 hil];exact aR4 hil)
    have hfd:=aX3 hil (aL3 s fs i);cases hb:spB (s.getD i 0) with
    |false=>
     rw[hb,if_neg (by decide)] at hsp
     rw[hb,if_neg (by decide),co4 hfi hil] at hfd
     repeat' first|refine o6 ?_|simp -dsimp -implicitDefEqProofs (disch:=omega) only[go_sem,hic,hsp]
     refine again ((i+1,fs,na)) ?_ ?_ rfl y9
     ·dsimp only;omega
     ·exact⟨by dsimp only;omega,by dsimp only;omega,hna,by rw[<-hfd];exact hd,hfs⟩
    |true=>
     rw[hb,if_pos rfl] at hsp;have hlt:fs < i:=by
      rcases an9 fs i with h|h
      ·exact h
      ·obtain rfl:fs=i:=by omega
       rw[hfs hil] at hb;cases hb
     rw[hb,if_pos rfl,if_neg (piece_ne hlt (by omega))] at hfd
     rw[hfd] at hd;obtain⟨hnl,hgs,hd2⟩:=cr9 hd hna;have hst:((gF F na).map AV.str).set na (.str ((s.drop fs).take (i - fs)))=(gF F (na+1)).map .str:=by
      rw[<-hgs,ar1];rfl
     repeat' first|refine o6 ?_|simp -dsimp -implicitDefEqProofs (disch:=omega) only[go_sem,hic,hsp,hgl,hst]|refine vcA ?_ ?_|omega
     refine aa8 ab2 mixed [] [0,2,9,10,11,57,58,59,60,61,62,63,64,65,66,67,68,69,70,71,72,73,74,75,76,77,78,79] (fun j:Nat=>j<=s.length/\i < j/\F=F.take (na+1)++fieldsGo (s.drop j) []) (fun j=>[(12,.lit (.int .i64 j)),(10,.lit (.int .i64 ((na+1:Nat):Int)))]) (fun _=>H++[.cells (.one 9) ((gF F (na+1)).map .str)]) (fun j=>s.length - j) (by kernel_rfl) ?_ (i+1) ⟨by omega,by omega,hd2⟩ y9 rfl
     rintro j ⟨hj,hij,hdj⟩
     by_cases hjl:j < s.length
     ·have hjc:((j:Int) < ((s.length:Nat):Int))=True:=eq_true (by omega)
      have hspj:=bg7 (s.getD j 0);have hcj:(s.getD j 0).toNat < 128:=ha _ (by rw[List.getD,xq1 hjl];exact aR4 hjl)
      have hfj:=aX3 hjl [];cases hbj:spB (s.getD j 0) with
      |true=>
       rw[hbj,if_pos rfl] at hspj;rw[hbj,if_pos rfl,if_pos rfl] at hfj;repeat' first|refine o6 ?_|simp -dsimp -implicitDefEqProofs (disch:=omega) only[go_sem,hjc,hspj]
       refine again (j+1) ?_ ?_ rfl y9
       ·omega
       ·exact⟨by omega,by omega,by rw[<-hfj];exact hdj⟩
      |false=>
       rw[hbj,if_neg (by decide)] at hspj
       repeat' first|refine o6 ?_|simp -dsimp -implicitDefEqProofs (disch:=omega) only[go_sem,hjc,hspj]
       refine again ((j,j,na+1)) ?_ ?_ rfl y9
       ·dsimp only;omega
       ·exact⟨xq0 _,hj,by dsimp only;omega,by dsimp only;rw[piece_nil];exact hdj,fun _=>hbj⟩
     ·obtain rfl:j=s.length:=by omega
      have hjc:(((s.length:Nat):Int) < ((s.length:Nat):Int))=False:=eq_false (by omega)
      repeat' first|refine o6 ?_|simp -dsimp -implicitDefEqProofs only[go_sem,hjc]
      refine again ((s.length,s.length,na+1)) ?_ ?_ rfl y9
      ·dsimp only;omega
      ·exact⟨xq0 _,xq0 _,by dsimp only;omega,by dsimp only;rw[piece_nil];exact hdj,fun h=>absurd h (by dsimp only;omega)⟩
   ·obtain rfl:i=s.length:=by omega
    have hic:(((s.length:Nat):Int) < ((s.length:Nat):Int))=False:=eq_false (by omega)
    rw[ci0,fieldsGo] at hd;by_cases hfl:fs < s.length
    ·have hfc:((fs:Int) < ((s.length:Nat):Int))=True:=eq_true (by omega)
     rw[if_neg (piece_ne hfl (xq0 _))] at hd;obtain⟨hnl,hgs,hd2⟩:=cr9 hd hna;have hst:((gF F na).map AV.str).set na (.str (s.drop fs))=F.map .str:=by
      have hF1:F.length=na+1:=by
       have:=congrArg List.length hd2;rw[List.append_nil,List.length_take] at this;omega
      have e:F.map AV.str=(gF F (na+1)).map AV.str:=by rw[<-hF1,cs3]
      have ep:aL3 s fs s.length=s.drop fs:=al2 (by rw[List.length_drop];omega)
      rw[e,<-hgs,ar1,ep]
     repeat' first|refine o6 ?_|simp -dsimp -implicitDefEqProofs (disch:=(simp only[ll];omega)) only[go_sem,hic,hfc,hgl,hst]|refine vcA ?_ ?_|omega
     exact bm1 F
    ·have hfc:((fs:Int) < ((s.length:Nat):Int))=False:=eq_false (by omega)
     obtain rfl:fs=s.length:=by omega
     rw[piece_nil,if_pos rfl,List.append_nil] at hd;have hgF:gF F na=F:=by
      have:=congrArg List.length hd;rw[List.length_take] at this;have h2:na=F.length:=by omega
      rw[h2];exact cs3 F
     rw[hgF];repeat' first|refine o6 ?_|simp -dsimp -implicitDefEqProofs only[go_sem,hic]
     exact bm1 F
end
section
namespace W64
open Go V
theorem bp5(x:BitVec 64):IntKind.u64.wrap (x.toNat:Int)=(x.toNat:Int):=ba1 x.isLt
theorem db8(x y:BitVec 64):IntKind.u64.wrap ((x.toNat:Int)+(y.toNat:Int))=((x+y).toNat:Int):=by
 rw[bK2];simp[IntKind.wrap,IntKind.signed,IntKind.bits]
theorem u64_xor(x y:BitVec 64):IntKind.u64.wrap (((BitVec.ofInt IntKind.u64.bits (x.toNat:Int)^^^BitVec.ofInt IntKind.u64.bits (y.toNat:Int)).toNat:Nat):Int)=((x^^^y).toNat:Int):=by
 show IntKind.u64.wrap (((BitVec.ofInt 64 (x.toNat:Int)^^^BitVec.ofInt 64 (y.toNat:Int)).toNat:Nat):Int)=_
 rw[as6,as6,bp5]
theorem u64_and(x y:BitVec 64):IntKind.u64.wrap (((BitVec.ofInt IntKind.u64.bits (x.toNat:Int)&&&BitVec.ofInt IntKind.u64.bits (y.toNat:Int)).toNat:Nat):Int)=((x&&&y).toNat:Int):=by
 show IntKind.u64.wrap (((BitVec.ofInt 64 (x.toNat:Int)&&&BitVec.ofInt 64 (y.toNat:Int)).toNat:Nat):Int)=_
 rw[as6,as6,bp5]
theorem u64_or(x y:BitVec 64):IntKind.u64.wrap (((BitVec.ofInt IntKind.u64.bits (x.toNat:Int)|||BitVec.ofInt IntKind.u64.bits (y.toNat:Int)).toNat:Nat):Int)=((x|||y).toNat:Int):=by
 show IntKind.u64.wrap (((BitVec.ofInt 64 (x.toNat:Int)|||BitVec.ofInt 64 (y.toNat:Int)).toNat:Nat):Int)=_
 rw[as6,as6,bp5]
theorem ee6(x:BitVec 64):IntKind.u64.wrap (((BitVec.ofInt IntKind.u64.bits (if IntKind.u64.signed=true then -1 else IntKind.u64.max)^^^BitVec.ofInt IntKind.u64.bits (x.toNat:Int)).toNat:Nat):Int)=((~~~ x).toNat:Int):=by
 show IntKind.u64.wrap (((BitVec.allOnes 64^^^BitVec.ofInt 64 (x.toNat:Int)).toNat:Nat):Int)=_
 rw[as6,BitVec.xor_comm,BitVec.xor_allOnes,bp5]
attribute [go_sem] db8 u64_xor u64_and u64_or ee6
theorem ew4(x:BitVec 64):x.toNat/128=(x>>>7).toNat:=by simp[aK5]
theorem ew5(x:BitVec 64):x.toNat/64=(x>>>6).toNat:=by simp[aK5]
theorem cM9{x:BitVec 64}{n:Nat}(h1:1<=n)(h2:n<=63):IntKind.u64.wrap (((BitVec.ofInt IntKind.u64.bits (IntKind.u64.wrap ((x.toNat:Int)*2^(64 - n)))|||BitVec.ofInt IntKind.u64.bits (((x.toNat/2^n:Nat)):Int)).toNat:Nat):Int)=((x.rotateRight n).toNat:Int):=by
 show IntKind.u64.wrap (((BitVec.ofInt 64 (IntKind.u64.wrap ((x.toNat:Int)*2^(64 - n)))|||BitVec.ofInt 64 (((x.toNat/2^n:Nat)):Int)).toNat:Nat):Int)=_
 have e1:BitVec.ofInt 64 (IntKind.u64.wrap ((x.toNat:Int)*2^(64 - n)))=x<<<(64 - n):=by
  have:IntKind.u64.wrap ((x.toNat:Int)*2^(64 - n))=((x<<<(64 - n)).toNat:Int):=by
   rw[bC6,bC5];simp[IntKind.wrap,IntKind.signed,IntKind.bits]
  rw[this,as6]
 have e2:BitVec.ofInt 64 (((x.toNat/2^n:Nat)):Int)=x>>>n:=by
  have:x.toNat/2^n=(x>>>n).toNat:=by simp[aK5]
  rw[this,as6]
 rw[e1,e2,bp5];congr 2
 rw[BitVec.rotateRight_def,ar2 (by omega),BitVec.or_comm]
theorem dO6{a:Int}(h:0<=a/\a < 18446744073709551616):((BitVec.ofInt IntKind.u64.bits a&&&BitVec.ofInt IntKind.u64.bits 63).toNat:Int)=a%64:=bo5 (k:=64) (m:=6) h.1 h.2 (by omega)
theorem dw0(x:BitVec 64)(n:Nat)(H:List AObj)(h1:1<=n)(h2:n<=63):o8 Tryz.prog 168 [wAV .u64 x,.lit (.int .i64 (0 - (n:Int)))] H (fun y H'=>y=wAV .u64 (x.rotateRight n)/\H'=H):=by
 have hr:=cM9 (x:=x) h1 h2;have w1:IntKind.u64.wrap (0 - (n:Int))=18446744073709551616 - n:=by
  simp[IntKind.wrap,IntKind.signed,IntKind.bits]<;>omega
 have w2:((BitVec.ofInt IntKind.u64.bits (18446744073709551616 - (n:Int))&&&BitVec.ofInt IntKind.u64.bits 63).toNat:Int)=64 - (n:Int):=by
  rw[dO6 (by omega)]
  omega
 have m1:min (64 - (n:Int)).toNat 64=64 - n:=by omega
 have m2:min (64 - (64 - (n:Int))).toNat 64=n:=by omega
 have m3:(x.toNat:Int).fdiv (2^n)=((x.toNat/2^n:Nat):Int):=by
  rw[ao4 (ci5 (Int.pow_pos (by decide)))]
  have:((2:Int)^n)=((2^n:Nat):Int):=by simp
  rw[this,Int.toNat_natCast]
 refine y8 [] [.tmp 4] 17 Tryz.func168 ?_;repeat' first|simp -dsimp -implicitDefEqProofs (disch:=omega) only[go_sem,w1,w2,m1,m2,m3,hr]|refine vcA ?_ ?_|omega
 exact o9 ⟨rfl,rfl⟩
theorem bp6{o:Own}(x:BitVec 64)(ns:List Nat)(H:List AObj)(hn: ∀n∈ns,1<=n/\n<=63)(hl:ns.length<=100):o8 Tryz.prog 117 [wAV .u64 x,.sl o 1 (ns.map fun n:Nat=>.lit (.int .i64 (n:Int)))] H (fun y H'=>y=wAV .u64 (ns.foldl (fun a n=>a^^^x.rotateRight n) 0)/\H'=H):=by
 refine y8 [] [.tmp 4] 22 Tryz.func117 ?_;repeat' simp -dsimp -implicitDefEqProofs only[go_sem]
 refine aa8 ab2 mixed [] [0,4,8,9] (fun i:Nat=>i<=ns.length) (fun i=>[(5,wAV .u64 ((ns.take i).foldl (fun a n=>a^^^x.rotateRight n) 0)),(10,.lit (.int .i64 i))]) (fun _=>H) (fun i=>ns.length - i) (by kernel_rfl) ?_ 0 (by omega) y9 rfl
 intro i hi;by_cases hil:i < ns.length
 ·have hx:(ns.map fun n:Nat=>AV.lit (.int .i64 (n:Int))).getD i .any=.lit (.int .i64 ((ns.getD i 0:Nat):Int)):=by simp[List.getD,xq1 hil]
  have hm:=hn _ (cC5 (d:=0) hil);have hs:(ns.take (i+1)).foldl (fun a n=>a^^^x.rotateRight n) 0=(ns.take i).foldl (fun a n=>a^^^x.rotateRight n) 0^^^x.rotateRight (ns.getD i 0):=by
   rw[bf3 hil,ci4,List.getD,xq1 hil];rfl
  generalize ns.getD i 0=n at*;repeat' first|refine o6 ?_|simp -dsimp -implicitDefEqProofs (disch:=omega) only[go_sem,hx]|refine o5 (dw0 x n _ hm.1 hm.2) ?_|refine vcA ?_ ?_|omega|refine ac8 fun _=>?_
  rw[<-hs];refine again (i+1) ?_ ?_ rfl y9
  ·omega
  ·omega
 ·obtain rfl:i=ns.length:=by omega
  rw[bf9];repeat' first|refine o6 ?_|simp -dsimp -implicitDefEqProofs only[go_sem]|refine vcA ?_ ?_|omega|refine ac8 fun _=>?_
  exact o9 ⟨rfl,rfl⟩
end W64
end
section
namespace W64
open Go V
theorem ey1: ∀i,i < 80->bm8.getD i 0=(kOf 64 i).toNat:=by decide+kernel
theorem bU8(i:Nat)(H:List AObj)(hi:i < 80):o8 Tryz.prog 115 [.lit (.int .i64 (i:Int))] H (fun y H'=>y=wAV .u64 (kOf 64 i)/\H'=H):=by
 have h:=ey1 i hi;refine y8 [] [.tmp 2] 6 Tryz.func115 ?_;repeat' first|simp -dsimp -implicitDefEqProofs (disch:=assumption) only[go_sem,h]|refine vcA ?_ ?_|omega
 exact o9 ⟨rfl,rfl⟩
theorem bx6{x:BitVec 64}(a b c:Nat):[a,b,c].foldl (fun o n=>o^^^x.rotateRight n) (0:BitVec 64)=bigT x (a,b,c):=by
 simp[bigT]
theorem ba6{x:BitVec 64}(a b c:Nat):[a,b].foldl (fun o n=>o^^^x.rotateRight n) (0:BitVec 64)^^^(x>>>c)=aH8 x (a,b,c):=by
 simp[aH8]
theorem bF2(x:BitVec 64)(H:List AObj):o8 Tryz.prog 116 [wAV .u64 x] H (fun y H'=>y=wAV .u64 (bigT x (28,34,39))/\H'=H):=by
 have ht:=fun H=>bp6 (o:=.full) x [28,34,39] H (by decide) (by decide)
 rw[bx6] at ht;refine y8 [] [.tmp 2] 6 Tryz.func116 ?_;repeat' first|simp -dsimp -implicitDefEqProofs only[go_sem]|refine o5 (ht _) ?_|refine⟨_,_,ht _,?_⟩|fail
 exact o9 ⟨rfl,rfl⟩
theorem bF1(x:BitVec 64)(H:List AObj):o8 Tryz.prog 118 [wAV .u64 x] H (fun y H'=>y=wAV .u64 (bigT x (14,18,41))/\H'=H):=by
 have ht:=fun H=>bp6 (o:=.full) x [14,18,41] H (by decide) (by decide)
 rw[bx6] at ht;refine y8 [] [.tmp 2] 6 Tryz.func118 ?_;repeat' first|simp -dsimp -implicitDefEqProofs only[go_sem]|refine o5 (ht _) ?_|refine⟨_,_,ht _,?_⟩|fail
 exact o9 ⟨rfl,rfl⟩
theorem bF0(x:BitVec 64)(H:List AObj):o8 Tryz.prog 119 [wAV .u64 x] H (fun y H'=>y=wAV .u64 (aH8 x (1,8,7))/\H'=H):=by
 have ht:=fun H=>bp6 (o:=.full) x [1,8] H (by decide) (by decide)
 have hs:=ba6 (x:=x) 1 8 7;refine y8 [] [.tmp 2] 9 Tryz.func119 ?_;repeat' first|simp -dsimp -implicitDefEqProofs (disch:=omega) only[go_sem,ew4,hs]|refine o5 (ht _) ?_|refine⟨_,_,ht _,?_⟩|fail
 exact o9 ⟨rfl,rfl⟩
theorem bE9(x:BitVec 64)(H:List AObj):o8 Tryz.prog 120 [wAV .u64 x] H (fun y H'=>y=wAV .u64 (aH8 x (19,61,6))/\H'=H):=by
 have ht:=fun H=>bp6 (o:=.full) x [19,61] H (by decide) (by decide)
 have hs:=ba6 (x:=x) 19 61 6;refine y8 [] [.tmp 2] 9 Tryz.func120 ?_;repeat' first|simp -dsimp -implicitDefEqProofs (disch:=omega) only[go_sem,ew5,hs]|refine o5 (ht _) ?_|refine⟨_,_,ht _,?_⟩|fail
 exact o9 ⟨rfl,rfl⟩
theorem ch2{xs:List AV}{H:List AObj}(hu: ∀y∈xs,y.flat.length=1/\y.okv=true)(hne:xs≠[])(hl:xs.length<=100000):o8 Tryz.prog 205 [.sl .sh 1 xs] H (fun y H'=>y=.sl (.tok H.length) 1 xs/\H'=H++[.grow 1 xs.length none]):=by
 have hpos:=aR1.2 hne;refine y8 [] [.tmp 2] 8 Tryz.func205 ?_;repeat' first|refine o6 ?_|simp -dsimp -implicitDefEqProofs (disch:=omega) only[go_sem,hne]|refine vcA ?_ ?_|omega
 exact aM4 ⟨rfl,rfl⟩
def aX1(s:Sha.St 64):List AV:=[wAV .u64 s.a,wAV .u64 s.b,wAV .u64 s.c,wAV .u64 s.d,wAV .u64 s.e,wAV .u64 s.f,wAV .u64 s.g,wAV .u64 s.h,.lit (.int .i64 80),.fn (.func 115) [] [],.fn (.func 116) [] [],.fn (.func 118) [] [],.fn (.func 119) [] [],.fn (.func 120) [] []]
def ao0(s:Sha.St 64):AObj:=.cells (.one 146) (aX1 s)
theorem bN1{m:Nat}{s:Sha.St 64}: ∀sh cs,ao0 s=.cells sh cs-> ∀y∈cs,Low m y:=fun sh cs h y hy=>by
 unfold ao0 aX1 at h;cases h
 simp only[xq8,aK4,or_false] at hy;rcases hy with rfl|rfl|rfl|rfl|rfl|rfl|rfl|rfl|rfl|rfl|rfl|rfl|rfl|rfl
 all_goals first|exact .lit _|exact .fn _ _ _ (fun _ h=>by cases h) (fun _ h=>by cases h)
def ao5:List AV:=[.lit (.int .i64 80),.fn (.func 115) [] [],.fn (.func 116) [] [],.fn (.func 118) [] [],.fn (.func 119) [] [],.fn (.func 120) [] []]
theorem bF9(s:Sha.St 64):ao0 s=.cells (.one 146) (s.list.map (wAV .u64)++ao5):=rfl
def as1(s t:List (BitVec 64))(i:Nat):List (BitVec 64):=(List.range 8).map fun j=>if j < i then s.getD j 0+t.getD j 0 else s.getD j 0
theorem bw3(s t:List (BitVec 64))(i:Nat):(as1 s t i).length=8:=by simp[as1]
theorem bW3(s t:Sha.St 64):as1 s.list t.list 0=s.list:=rfl
theorem ce6(s t:Sha.St 64):as1 s.list t.list 8=(Sha.add s t).list:=rfl
theorem ce5{s t:List (BitVec 64)}{i:Nat}(h:i < 8):(as1 s t i).set i ((as1 s t i).getD i 0+t.getD i 0)=as1 s t (i+1):=by
 have hg: ∀i j,(as1 s t i)[j]?=if j < 8 then some (if j < i then s.getD j 0+t.getD j 0 else s.getD j 0) else none:=fun i j=>by
  unfold as1;rw[ak8];by_cases h1:j < 8
  ·rw[aI7 h1,if_pos h1]
   rfl
  ·rw[av1 (by simp;omega),if_neg h1]
   rfl
 apply aW4
 intro j;have hgd:(as1 s t i).getD i 0=s.getD i 0:=by rw[List.getD,hg,if_pos h,if_neg (by omega)];rfl
 rw[bf8,hg,hg,hgd,bw3];by_cases h1:j < 8
 ·rw[if_pos h1,if_pos h1]
  split
  ·rename_i e
   subst e;rw[if_pos (by omega)]
  ·rename_i e
   by_cases h3:j < i
   ·rw[if_pos h3,if_pos (by omega)]
   ·rw[if_neg h3,if_neg (by omega)]
 ·rw[if_neg h1,if_neg h1,if_neg (by omega)]
theorem cw1(M:List (BitVec 64))(s:Sha.St 64)(i:Nat):ae2.steps M s (i+1)=⟨(ae2.steps M s i).h+bigT (ae2.steps M s i).e (14,18,41)+((ae2.steps M s i).e&&&(ae2.steps M s i).f^^^ ~~~ (ae2.steps M s i).e&&&(ae2.steps M s i).g)+kOf 64 i+M.getD i 0+(bigT (ae2.steps M s i).a (28,34,39)+((ae2.steps M s i).a&&&(ae2.steps M s i).b^^^(ae2.steps M s i).a&&&(ae2.steps M s i).c^^^(ae2.steps M s i).b&&&(ae2.steps M s i).c)),
  (ae2.steps M s i).a,(ae2.steps M s i).b,(ae2.steps M s i).c,(ae2.steps M s i).d+((ae2.steps M s i).h+bigT (ae2.steps M s i).e (14,18,41)+((ae2.steps M s i).e&&&(ae2.steps M s i).f^^^ ~~~ (ae2.steps M s i).e&&&(ae2.steps M s i).g)+kOf 64 i+M.getD i 0),(ae2.steps M s i).e,(ae2.steps M s i).f,(ae2.steps M s i).g⟩:=by
 rw[Sha.steps];generalize ae2.steps M s i=t;rfl
theorem cv6(s:Sha.St 64)(m:List (BitVec 64)):ae2.take s m=Sha.add s (ae2.steps (ae2.sched m 64) s 80):=rfl
theorem cL5{k:Nat}{s:Sha.St 64}{H:List AObj}(m:List (BitVec 64))(hk:H[k]?=some (ao0 s))(hm:m.length=16):
  o8 Tryz.prog 170 [.mp k 0,.agg (m.map (wAV .u64))] H (fun x H'=>x=.tup []/\H'=H.set k (ao0 (ae2.take s m))):=by
 have hkl:=aa0 hk;unfold ao0 aX1 at hk;have hc:=fun H=>ch2 (xs:=m.map (wAV .u64)) (H:=H) (fun y hy=>by obtain⟨z,_,rfl⟩:=xq6.1 hy;exact⟨rfl,rfl⟩) (by intro e;have:=congrArg List.length e;simp at this;rw[this] at hm;cases hm) (by simp;omega)
 have hk1: ∀M,(H++M)[k]?=H[k]?:=fun M=>xq4 hkl
 refine y8 [1000005,1000005005015,1000005005032,1000005021015,1000005021032,1000005026015,1000005031015,1000006,1000010,1000010020006,1000017] [] 195 Tryz.func170 ?_;repeat' first|simp -dsimp -implicitDefEqProofs (disch:=(simp only[ll];omega)) only[go_sem,dD6,ad7,hm]|refine o5 (hc _) ?_|refine⟨_,_,hc _,?_⟩|fail
 refine aa8 ab2 mixed [1000005,1000005005015,1000005005032,1000005021015,1000005021032,1000005026015,1000005031015,1000006,1000010,1000010020006,1000017] [0] (fun n:Nat=>n<=64) (fun n=>[(4,.sl (.tok H.length) 1 ((ae2.sched m n).map (wAV .u64))),(5,.lit (.int .i64 ((16+n:Nat):Int)))]) (fun n=>H++[.grow 1 (16+n) none]) (fun n=>64 - n) (by kernel_rfl) ?_ 0 (by omega) y9 (by simp[hm])
 ·intro n hn
  have hl:=ae2.sched_len m n;rw[hm] at hl;have hs:ae2.sched m (n+1)=ae2.sched m n++[(ae2.sched m n).getD n 0+aH8 ((ae2.sched m n).getD (n+1) 0) (1,8,7)+(ae2.sched m n).getD (n+9) 0+aH8 ((ae2.sched m n).getD (n+14) 0) (19,61,6)]:=by
   show ae2.sched m n++[ae2.next (ae2.sched m n)]=_
   unfold Sha.next;rw[hl,show 16+n - 16=n by omega,show 16+n - 15=n+1 by omega,show 16+n - 7=n+9 by omega,show 16+n - 2=n+14 by omega]
   rfl
  have hM:=fun x=>eD4 (K:=.u64) (ae2.sched m n) x
  have z1:(((16+n:Nat):Int) - 16).toNat=n:=by omega
  have z2:(((16+n:Nat):Int) - 15).toNat=n+1:=by omega
  have z3:(((16+n:Nat):Int) - 7).toNat=n+9:=by omega
  have z4:(((16+n:Nat):Int) - 2).toNat=n+14:=by omega
  by_cases h:n < 64
  ·have hc:(((16+n:Nat):Int) < 80)=True:=eq_true (by omega)
   generalize ae2.sched m n=M at*;repeat' first|refine o6 ?_|simp -dsimp -implicitDefEqProofs (disch:=omega) only[go_sem,hk,hk1,hc,z1,z2,z3,z4,ac9,hM]|refine o5 (bF0 _ _) ?_|refine⟨_,_,bF0 _ _,?_⟩|refine o5 (bE9 _ _) ?_|refine⟨_,_,bE9 _ _,?_⟩|refine vcA ?_ ?_|omega
   rw[<-hs];refine again (n+1) ?_ ?_ ?_ y9
   ·omega
   ·omega
   ·rw[hl]
    rfl
  ·obtain rfl:n=64:=by omega
   have hc:(((16+64:Nat):Int) < 80)=False:=eq_false (by omega)
   have hsl:=fun i=>cw1 (ae2.sched m 64) s i
   have hT:=cv6 s m;rw[hT];generalize ae2.sched m 64=M at*;have hl64:M.length=80:=by omega
   repeat' first|refine o6 ?_|simp -dsimp -implicitDefEqProofs (disch:=omega) only[go_sem,hk,hk1,hc,hl64]
   refine aa8 ab2 mixed [1000005,1000005005015,1000005005032,1000005021015,1000005021032,1000005026015,1000005031015,1000006,1000010,1000010020006,1000017] [0,106,107] (fun i:Nat=>i<=80) (fun i=>[(6,wAV .u64 (ae2.steps M s i).a),(7,wAV .u64 (ae2.steps M s i).b),(8,wAV .u64 (ae2.steps M s i).c),(9,wAV .u64 (ae2.steps M s i).d),(10,wAV .u64 (ae2.steps M s i).e),(11,wAV .u64 (ae2.steps M s i).f),(12,wAV .u64 (ae2.steps M s i).g),(13,wAV .u64 (ae2.steps M s i).h),(108,.lit (.int .i64 i))]) (fun _=>H++[.grow 1 (16+64) none]) (fun i=>80 - i) (by kernel_rfl) ?_ 0 (by omega) y9 rfl
   intro i hi;by_cases h:i < 80
   ·have hs2:=hsl i
    have hM2:=ac9 (K:=.u64) (m:=M) (i:=i) (by omega)
    generalize hst:ae2.steps M s i=st at*;have hic:((i:Int) < 80)=True:=eq_true (by omega)
    repeat' first|refine o6 ?_|simp -dsimp -implicitDefEqProofs (disch:=omega) only[go_sem,hk,hk1,hM2,hic]|refine o5 (bF1 _ _) ?_|refine⟨_,_,bF1 _ _,?_⟩|refine o5 (bU8 i _ (by omega)) ?_|refine⟨_,_,bU8 i _ (by omega),?_⟩|refine o5 (bF2 _ _) ?_|refine⟨_,_,bF2 _ _,?_⟩|refine vcA ?_ ?_|omega
    refine again (i+1) ?_ ?_ rfl ?_
    ·omega
    ·omega
    ·rw[hs2]
     exact y9
   ·obtain rfl:i=80:=by omega
    generalize ae2.steps M s 80=t at*;have hk0:H.set k (.cells (.one 146) ((as1 s.list t.list 0).map (wAV .u64)++ao5))=H:=by
     rw[bW3];exact bz3 hk
    have hm0: ∀M,H++M=H.set k (.cells (.one 146) ((as1 s.list t.list 0).map (wAV .u64)++ao5))++M:=fun M=>by rw[hk0]
    repeat' first|refine o6 ?_|simp -dsimp -implicitDefEqProofs only[go_sem]
    refine aa8 ab2 mixed [1000005,1000005005015,1000005005032,1000005021015,1000005021032,1000005026015,1000005031015,1000006,1000010,1000010020006,1000017] [] (fun i:Nat=>i<=8) (fun i=>[(179,.lit (.int .i64 i)),(178,.agg (t.list.map (wAV .u64))),(0,.mp k 0)]) (fun i=>H.set k (.cells (.one 146) ((as1 s.list t.list i).map (wAV .u64)++ao5))++[.grow 1 80 none]) (fun i=>8 - i) (by kernel_rfl) ?_ 0 (by omega) y9 (hm0 _)
    intro i hi;have hg: ∀o M,(H.set k o++M)[k]?=some o:=fun o M=>bs4 hkl
    have hset: ∀o x M,(H.set k o++M).set k x=H.set k x++M:=fun o x M=>bM6 hkl
    have hL:=bw3 s.list t.list i;have htl:t.list.length=8:=rfl;by_cases h:i < 8
    ·have hic:((i:Int) < 8)=True:=eq_true (by omega)
     have hms:=ce5 (s:=s.list) (t:=t.list) h;have hg1:((as1 s.list t.list i).map (wAV .u64)++ao5).getD i .any=wAV .u64 ((as1 s.list t.list i).getD i 0):=by
      rw[cD7 (by rw[List.length_map];omega),ac9 (by omega)]
     have hg2:(t.list.map (wAV .u64)).getD i .any=wAV .u64 (t.list.getD i 0):=ac9 (by omega)
     have hs1: ∀x,((as1 s.list t.list i).map (wAV .u64)++ao5).set i (wAV .u64 x)=((as1 s.list t.list i).set i x).map (wAV .u64)++ao5:=fun x=>by
      rw[bC7 _ _ (by rw[List.length_map];omega),ar1]
     repeat' first|refine o6 ?_|simp -dsimp -implicitDefEqProofs (disch:=omega) only[go_sem,hg,hset,hic,hL,htl,hg1,hg2,hs1,hms]|refine vcA ?_ ?_|omega
     refine again (i+1) ?_ ?_ ?_ y9
     ·omega
     ·omega
     ·rfl
    ·obtain rfl:i=8:=by omega
     repeat' first|refine o6 ?_|simp -dsimp -implicitDefEqProofs only[go_sem]
     rw[ce6,<-bF9];exact cE1 (ah9 ac4) bN1 ⟨rfl,rfl⟩
attribute [go_sem] sk1 sk2 ex8 ex7
end W64
end
section
namespace W64
open Go V
theorem ce1{w:Nat}{n:Nat}(hw:w=64)(h:(n:Int) < 1099511627776):((n:Int)+1+16)+(128 - ((n:Int)+1+16)%128)%128=((ao7 w n:Nat):Int):=by
 subst hw;unfold ao7;simp only[Nat.reduceDiv,Nat.reduceMul];omega
theorem ch1(n:Nat)(H:List AObj)(h:n<=1000000000):o8 Tryz.prog 171 [.lit (.int .i64 (n:Int)),.lit (.int .i64 64)] H (fun y H'=>y=.lit (.int .i64 ((ao7 64 n:Nat):Int))/\H'=H):=by
 have hp:=ce1 (w:=64) (n:=n) rfl (by omega)
 have h1:((n:Int) < 0)=False:=eq_false (by omega)
 have h2:(1099511627776 < (n:Int))=False:=eq_false (by omega)
 refine y8 [] [.tmp 4] 37 Tryz.func171 ?_;repeat' first|refine o6 ?_|simp -dsimp -implicitDefEqProofs (disch:=omega) only[go_sem,h1,h2]
 rw[hp];exact o9 ⟨rfl,rfl⟩
theorem ce2{o:Own}(b:List UInt8)(H:List AObj)(h:b.length<=100000000):o8 Tryz.prog 122 [.sl o 1 (b.map o7),.lit (.int .i64 64)] H (fun y H'=>y=.sl .sh 1 ((padded 64 b).map o7)/\H'=H):=by
 have hb:=aN6 (w:=64) (n:=b.length) (.inr rfl);have hP:=fun H=>ch1 b.length H (by omega)
 have hz:=cC3 (w:=64) (b:=b) (.inr rfl);have hlen:=fun t=>bN7 (w:=64) (b:=b) (t:=t) (.inr rfl)
 generalize hN:ao7 64 b.length=N at*;have hrep:ah7 [AV.lit (.int .u8 0)] N=(List.replicate N (0:UInt8)).map o7:=by rw[bt6,aY9];rfl
 have hcp:ag0 ((List.replicate N (0:UInt8)).map o7) 0 (b.map o7)=(b++List.replicate (N - b.length) 0).map o7:=by
  rw[aF0 _ _ _ (by simp;omega)]
  simp
 have hst:((b++List.replicate (N - b.length) (0:UInt8)).map o7).set b.length (.lit (.int .u8 128))=(aS6 64 b 0).map o7:=by
  rw[<-hz,ar1];rfl
 have h0:((b.length:Int)*8)=((8*b.length/256^0:Nat):Int):=by rw[bf2,by7];omega
 refine y8 [] [.tmp 4] 39 Tryz.func122 ?_;repeat' first|simp -dsimp -implicitDefEqProofs (disch:=omega) only[go_sem,hrep,hcp,hst,h0]|refine o5 (hP _) ?_|refine vcA ?_ ?_|omega
 refine aa8 ab2 mixed [] [4,5] (fun t:Nat=>t<=8) (fun t=>[(6,.lit (.int .u64 ((8*b.length/256^t:Nat):Int))),(7,.lit (.int .i64 ((N - 1 - t:Nat):Int)))]) (fun t=>H++[.cells (.one 5) ((aS6 64 b t).map o7)]) (fun t=>8*b.length/256^t) (by kernel_rfl) ?_ 0 (by omega) y9 rfl
 intro t ht;have hl:=hlen t;have hs:=ex9 (n:=8*b.length) (t:=t);have hT:=fun h:t < 8=>cP2 (w:=64) (b:=b) (t:=t) (.inr rfl) h
 have hE:=fun h=>bN8 (w:=64) (b:=b) (t:=t) h
 have hlt:=fun h=>ex3 (n:=8*b.length) (t:=t) h (by omega)
 rw[hN] at hT;generalize hn:8*b.length/256^t=n at*;generalize hn':8*b.length/256^(t+1)=n' at*;have hnn:n<=800000000:=by rw[<-hn];exact ay9 (Nat.div_le_self _ _) (by omega)
 by_cases h1:n=0
 ·subst h1
  rw[hE rfl];repeat' first|refine o6 ?_|simp -dsimp -implicitDefEqProofs only[go_sem]
  refine bx3 (.sl .sh 1 ((padded 64 b).map o7)) (.msl _ _ _ _ _ (.one 5) ((padded 64 b).map o7) _ (xq0 _) (by simp) (by simp;rw[<-hE rfl,hl]) (fun x hx=>by obtain⟨c,_,rfl⟩:=xq6.1 hx;exact⟨rfl,rfl⟩) (by rw[an5 o7 (fun _=>rfl)];simp) fun j c y e1 e2=>?_) ⟨rfl,rfl⟩
  rw[an5 o7 (fun _=>rfl)] at e2
  rw[Nat.zero_add] at e1;rw[e1] at e2;cases e2
  refine .low _ ?_;obtain⟨c,_,rfl⟩:=xq6.1 (bC3 e1);exact .lit _
 ·have h8:=hlt h1
  have hset:((aS6 64 b t).map o7).set (N - 1 - t) (.lit (.int .u8 (IntKind.u8.wrap (n:Int))))=(aS6 64 b (t+1)).map o7:=by
   rw[<-hT h8,ar1,dk8];rfl
  have hc:(0 < (n:Int))=True:=eq_true (by omega)
  repeat' first|refine o6 ?_|simp -dsimp -implicitDefEqProofs (disch:=omega) only[go_sem,hc,hset,hs]|refine vcA ?_ ?_|omega
  refine again (t+1) ?_ ?_ rfl y9
  ·have:n'=n/256:=hs.symm
   omega
  ·omega
end W64
end
section
namespace W64
open Go V
def aq9(s:Sha.St 64)(b:List UInt8)(i:Nat):Sha.St 64:=((chunks 128 b).take i).foldl (fun s c=>ae2.take s (wordsOf 64 c)) s
theorem bP6{s:Sha.St 64}{b:List UInt8}{i:Nat}(h:i < b.length/128):aq9 s b (i+1)=ae2.take (aq9 s b i) (wordsOf 64 ((b.drop (i*128)).take 128)):=by
 have hl:(chunks 128 b).length=b.length/128:=by simp[chunks]
 unfold aq9;rw[bf3 (by omega),ci4]
 simp[chunks]
theorem dR4(x:BitVec 64):IntKind.u64.wrap ((x.toNat:Int)*256)=((x<<<8).toNat:Int):=by
 rw[bC6,bC5];simp[IntKind.wrap,IntKind.signed,IntKind.bits]
theorem ee5(x:BitVec 64)(b:UInt8):IntKind.u64.wrap (((BitVec.ofInt IntKind.u64.bits (x.toNat:Int)|||BitVec.ofInt IntKind.u64.bits (b.toNat:Int)).toNat:Nat):Int)=((x|||BitVec.ofNat 64 b.toNat).toNat:Int):=by
 have:(b.toNat:Int)=((BitVec.ofNat 64 b.toNat).toNat:Int):=by
  rw[aC2,ar2 (by have:=b.toNat_lt;omega)]
 rw[this,u64_or]
theorem eJ8(x:Nat):bytesOf 8 x=[UInt8.ofNat (x/72057594037927936),UInt8.ofNat (x/281474976710656),UInt8.ofNat (x/1099511627776),UInt8.ofNat (x/4294967296),UInt8.ofNat (x/16777216),UInt8.ofNat (x/65536),UInt8.ofNat (x/256),UInt8.ofNat x]:=by
 simp[bytesOf,List.range,List.range.loop]
theorem bT6{blk:List UInt8}{j:Nat}(hb:blk.length=128)(h:j < 128):((wordsOf 64 (blk.take j)).map (wAV .u64)).set (j/8) (wAV .u64 ((wordsOf 64 (blk.take j)).getD (j/8) 0<<<8|||BitVec.ofNat 64 (blk.getD j 0).toNat))=(wordsOf 64 (blk.take (j+1))).map (wAV .u64):=by
 have hl:(blk.take j).length=j:=by rw[List.length_take];omega
 have:=bT7 (w:=64) (l:=blk.take j) (b:=blk.getD j 0) (by decide) (by rw[hl];show j < 16*8;omega)
 rw[hl] at this;rw[<-ar1];congr 1
 rw[bf3 (by omega),show blk[j]'(by omega)=blk.getD j 0 by simp[List.getD,xq1 (show j < blk.length by omega)]]
 exact this.symm
theorem cw4{k:Nat}{s:Sha.St 64}{H:List AObj}{r:Loop}{E:Env}{assign body:Code}(blk:List UInt8)(hkl:k < H.length)(hbl:blk.length=128)(hE:get E 3=.ip (.mp k 0)/\get E 5=.ip (.lit (.int .i64 8)))
  (hr1:r.state=.ready) (hr2:r.pending=none) (hr3:r.params= #[19]) (hr6:r.tmps.size=67) (hr4:r.assign=assign) (hr5:r.body=body)
  (hA:AW Tryz.prog 67 assign (Ex (fun env1 H1=>AW Tryz.prog 67 body (fun e _ H2=>e=.normal/\H2=H.set k (ao0 (ae2.take s (wordsOf 64 blk)))++[.loop (busy r) E]) env1 (H1.set H.length (.loop (busy r) E))/\H1[H.length]?=some (.loop r E)) (fun _ _ _=>False)) ((19,.sl .full 1 (blk.map o7))::E) (H.set k (ao0 s)++[.loop r E])):
  a95 Tryz.prog H.length [.sl .full 1 (blk.map o7)] (H.set k (ao0 s)++[.loop r E]) (fun x H'=>x=.lit (.bool true)/\H'=H.set k (ao0 (ae2.take s (wordsOf 64 blk)))++[.loop r E]):=by
 have hlen: ∀o,(H.set k o).length=H.length:=fun o=>List.length_set
 have hat: ∀o x,(H.set k o++[x])[H.length]?=some x:=fun o x=>by
  rw[xq7 (by rw[hlen];exact xq0 _),hlen,ap6]
  rfl
 have hst: ∀o x y,(H.set k o++[x]).set H.length y=H.set k o++[y]:=fun o x y=>by
  rw[aD2 _ _ (by rw[hlen];exact xq0 _),hlen,ap6]
  rfl
 have:=bS4 (P:=Tryz.prog) (k:=H.length) (n:=67) (p:=19) (r:=r) (E:=E) (arg:=.sl .full 1 (blk.map o7)) (H:=H.set k (ao0 s)++[.loop r E]) (B:=H.set k (ao0 (ae2.take s (wordsOf 64 blk)))++[.loop (busy r) E]) (hat _ _) hr1 hr2 hr3 hr6 (by omega) (by rw[hr4,hr5];exact hA)
 rw[hst] at this;exact this
theorem dv7{k:Nat}{s:Sha.St 64}{H:List AObj}(b:List UInt8)(hk:H[k]?=some (ao0 s))(hb:b.length=b.length/128*128)(hb2:b.length<=1000000000):
  o8 Tryz.prog 121 [.mp k 0,.sl .sh 1 (b.map o7),.lit (.int .i64 8)] H (fun x H'=>x=.sl .sh 1 (((aq9 s b (b.length/128)).list.flatMap fun x=>bytesOf 8 x.toNat).map o7)/\H'=H.set k (ao0 (aq9 s b (b.length/128)))):=by
 have hkl:=aa0 hk;refine bS5 ab2 (rs:=[.tmp 6]) (n:=67) Tryz.func121 rfl rfl rfl rfl (nlb rfl) ?_;refine bt4 (a88 (ak7 ab2 mixed (mu:=[]) _ ?ok ?_));case ok=>kernel_rfl
 repeat' simp -dsimp -implicitDefEqProofs only[go_sem]
 refine bt4 ?_;refine bt4 (a88 (ak7 ab2 mixed (mu:=[]) _ ?ok ?_));case ok=>kernel_rfl
 have hch:=fun H=>di0 (xs:=b.map o7) (n:=128) (H:=H) (by omega) (by omega)
 repeat' first|simp -dsimp -implicitDefEqProofs (disch:=omega) only[go_sem]|refine o5 (hch _) ?_|fail
 refine cE8 ?_;refine cE7 rfl Tryz.func204 rfl rfl ?_;intro r hr1 hr2 hr3 hr4 hr5 hr6;have hs0:aq9 s b 0=s:=rfl;have h0:H.set k (ao0 (aq9 s b 0))=H:=by rw[hs0];exact bz3 hk
 generalize hE:[(18,AV.fn (.func 204) [] [.ip (.sl .sh 1 (b.map o7)),.ip (.lit (.int .i64 128))]),(17,.int .i64 128),(16,.lit (.int .i64 8)),(15,.sl .sh 1 (b.map o7)),(6,.sl .full 0 []),(5,.ip (.lit (.int .i64 8))),(3,.ip (.mp k 0)),(0,.mp k 0),(1,.sl .sh 1 (b.map o7)),(2,.lit (.int .i64 8))]=E;have hE3:get E 3=.ip (.mp k 0):=by rw[<-hE];rfl
 have hE5:get E 5=.ip (.lit (.int .i64 8)):=by rw[<-hE];rfl
 have hE6:get E 6=.sl .full 0 []:=by rw[<-hE];rfl
 have hC:=cY1 (k:=H.length) (c:=b.length/128) (n:=128) b (fun i=>H.set k (ao0 (aq9 s b i))++[.loop r E]) (by omega) hb hb2 (by simp) (fun i hi=>by
  have hbl:((b.drop (i*128)).take 128).length=128:=by rw[List.length_take,List.length_drop];omega
  rw[bP6 hi];generalize (b.drop (i*128)).take 128=blk at*;generalize aq9 s b i=st at*;refine cw4 blk hkl hbl ⟨hE3,hE5⟩ hr1 hr2 hr3 hr6 hr4 hr5 ?_;have hlen: ∀o,(H.set k o).length=H.length:=fun o=>List.length_set
  have hat: ∀o x,(H.set k o++[x])[H.length]?=some x:=fun o x=>by
   rw[xq7 (by rw[hlen];exact xq0 _),hlen,ap6]
   rfl
  have hst: ∀o x y,(H.set k o++[x]).set H.length y=H.set k o++[y]:=fun o x y=>by
   rw[aD2 _ _ (by rw[hlen];exact xq0 _),hlen,ap6]
   rfl
  have hnl: ∀sh cs,AObj.loop (busy r) E≠ .cells sh cs:=fun _ _ h=>by cases h
  generalize AObj.loop (busy r) E=lpb at*;generalize AObj.loop r E=lp at*;subst hE;refine ak7 ab2 mixed (mu:=[]) _ ?ok ?_;case ok=>kernel_rfl
  repeat' simp -dsimp -implicitDefEqProofs only[go_sem]
  all_goals first|exact hat _ _|rw[hst]|skip
  refine cZ0 (by simp) (fun j sh cs e=>?_) (ak7 ab2 mixed (mu:=[1000007]) _ ?ok ?_)
  case ok=>kernel_rfl
  ·rcases an9 j H.length with hj|hj
   ·by_cases hjk:j=k
    ·subst hjk
     rw[xq4 (by rw[hlen];exact hj),ay8 hj] at e
     exact .inr (bN1 sh cs (Option.some.inj e))
    ·rw[xq4 (by rw[hlen];exact hj),ar4 (Ne.symm hjk)] at e
     exact .inl (by rw[xq4 (by rw[hlen];exact hj),ar4 (Ne.symm hjk)];exact e)
   ·rw[xq7 (by rw[hlen];exact hj),hlen] at e
    cases hn:j - H.length with
    |zero=>rw[hn] at e;exact absurd (Option.some.inj e) (hnl _ _)
    |succ n=>rw[hn] at e;cases e
  repeat' simp -dsimp -implicitDefEqProofs only[go_sem]
  refine aa8 ab2 mixed [1000007] [3,5,8,20,21] (fun j:Nat=>j<=128) (fun j=>[(22,.lit (.int .i64 j))]) (fun j=>H.set k (ao0 st)++[lpb,.cells (.one 204) ((wordsOf 64 (blk.take j)).map (wAV .u64))]) (fun j=>128 - j) (by kernel_rfl) ?_ 0 (by omega) y9 (by rw[xq9,b91,aY9];rfl)
  intro j hj;have hwl:=bD0 64 (blk.take j);by_cases hjl:j < 128
  ·have hws:=bT6 hbl hjl
   have hjc:((j:Int) < 128)=True:=eq_true (by omega)
   have z1:((j:Int)/8).toNat=j/8:=by omega
   have hgw:=ac9 (K:=.u64) (m:=wordsOf 64 (blk.take j)) (i:=j/8) (by omega)
   repeat' first|refine o6 ?_|simp -dsimp -implicitDefEqProofs (disch:=omega) only[go_sem,hjc,hbl,z1,hwl,hgw,dR4,ee5,hws]|refine vcA ?_ ?_|omega
   refine again (j+1) ?_ ?_ ?_ y9
   ·omega
   ·omega
   ·rfl
  ·obtain rfl:j=128:=by omega
   rw[al2 (by omega)] at hwl⊢
   repeat' first|refine o6 ?_|simp -dsimp -implicitDefEqProofs (disch:=(simp only[ll];omega)) only[go_sem,hbl,hwl,bs4 hkl,bM6 hkl]|refine o5 (cL5 (s:=st) (wordsOf 64 blk) (bs4 hkl) hwl) ?_|fail
   exact⟨[.cells (.one 204) ((wordsOf 64 blk).map (wAV .u64))],by simp⟩)
 rw[h0] at hC;refine hC.mono fun x H' ⟨_,hH⟩=>⟨H.set k (ao0 (aq9 s b (b.length/128))),[],hH,by simp,fun j sh cs e=>?_,?_⟩
 ·by_cases hjk:j=k
  ·subst hjk
   rw[ay8 hkl] at e;exact .inr (bN1 sh cs (Option.some.inj e))
  ·rw[ar4 (Ne.symm hjk)] at e
   exact .inl e
 ·rw[bX4,bX8]
  clear hC h0 hs0 hE3 hE5 hE6;subst hE;generalize aq9 s b (b.length/128)=st at*;have hro:ao0 st=.cells (.one 146) (st.list.map (wAV .u64)++ao5):=bF9 st;have hlw:=fun(m:Nat)=>bN1 (m:=m) (s:=st)
  rw[hro] at hlw⊢;have hsl:st.list.length=8:=rfl;generalize st.list=hl at*;have ht8:(hl.map (wAV .u64)++ao5).take 8=hl.map (wAV .u64):=ci2 (by rw[List.length_map];exact hsl)
  have hat0:(H.set k (.cells (.one 146) (hl.map (wAV .u64)++ao5)))[k]?=some (.cells (.one 146) (hl.map (wAV .u64)++ao5)):=ay8 hkl;have hlen: ∀o,(H.set k o).length=H.length:=fun o=>List.length_set
  generalize hq:(hl.map (wAV .u64)++ao5)=qs at*;have hql:8<=qs.length:=by rw[<-hq,List.length_append,List.length_map];omega
  refine a88 (ak7 ab2 mixed (mu:=[]) _ ?ok ?_);case ok=>kernel_rfl
  repeat' simp -dsimp -implicitDefEqProofs only[go_sem,hat0,ht8,hql]
  refine bI7 11 1 rfl (by decide) (fun h=>absurd rfl h) ?_
  rw[List.length_set];refine aa8 ab2 mixed [] [5,6] (fun i:Nat=>i<=8) (fun i=>[(47,.agg (hl.map (wAV .u64))),(48,.lit (.int .i64 i)),(11,.sl (.tok H.length) 1 (((hl.take i).flatMap fun x=>bytesOf 8 x.toNat).map o7))]) (fun i=>H.set k (.cells (.one 146) qs)++[.grow 1 (8*i) none]) (fun i=>8 - i) (by kernel_rfl) ?_ 0 (by omega) y9 rfl
  intro i hi;have hfl: ∀l:List (BitVec 64),(l.flatMap fun x=>bytesOf 8 x.toNat).length=8*l.length:=fun l=>by
   induction l with
   |nil=>rfl
   |cons x r ih=>rw[b04,List.length_append,ih,bD9,List.length_cons];omega
  by_cases hi8:i < 8
  ·have hic:((i:Int) < 8)=True:=eq_true (by omega)
   have hgx:=ac9 (K:=.u64) (m:=hl) (i:=i) (by omega)
   have hnx:(hl.take (i+1)).flatMap (fun x=>bytesOf 8 x.toNat)=(hl.take i).flatMap (fun x=>bytesOf 8 x.toNat)++bytesOf 8 (hl.getD i 0).toNat:=by
    rw[bf3 (by omega),ci1,List.getD,xq1 (by omega)]
    simp
   have hol:=hfl (hl.take i);rw[List.length_take,bt9 (by omega)] at hol
   rw[eJ8] at hnx;generalize (hl.take i).flatMap (fun x=>bytesOf 8 x.toNat)=out at*
   generalize hl.getD i 0=x at*;obtain⟨g,g0,g1,g2,g3,g4,g5,g6,g7,g8,gl⟩: ∃g:Nat->List UInt8,out=g 0/\g 0++[UInt8.ofNat (x.toNat/72057594037927936)]=g 1/\g 1++[UInt8.ofNat (x.toNat/281474976710656)]=g 2/\g 2++[UInt8.ofNat (x.toNat/1099511627776)]=g 3/\g 3++[UInt8.ofNat (x.toNat/4294967296)]=g 4/\g 4++[UInt8.ofNat (x.toNat/16777216)]=g 5/\g 5++[UInt8.ofNat (x.toNat/65536)]=g 6/\g 6++[UInt8.ofNat (x.toNat/256)]=g 7/\g 7++[UInt8.ofNat x.toNat]=g 8/\ ∀q,q<=8->(g q).length=8*i+q:=
    ⟨fun q=>out++[UInt8.ofNat (x.toNat/72057594037927936),UInt8.ofNat (x.toNat/281474976710656),UInt8.ofNat (x.toNat/1099511627776),UInt8.ofNat (x.toNat/4294967296),UInt8.ofNat (x.toNat/16777216),UInt8.ofNat (x.toNat/65536),UInt8.ofNat (x.toNat/256),UInt8.ofNat x.toNat].take q,by simp,by simp,by simp,by simp,by simp,by simp,by simp,by simp,by simp,fun q hq=>by rw[List.length_append,List.length_take,hol];simp only[List.length_cons,List.length_nil];omega⟩
   have hnx4:(hl.take (i+1)).flatMap (fun x=>bytesOf 8 x.toNat)=g 8:=by
    rw[hnx,g0,<-g8,<-g7,<-g6,<-g5,<-g4,<-g3,<-g2,<-g1];simp
   clear hnx;subst g0;repeat' first|refine o6 ?_|simp -dsimp -implicitDefEqProofs (disch:=omega) only[go_sem,hic,hgx,hsl]|refine vcA ?_ ?_|omega
   refine aa8 ab2 mixed [] [5,6,13,47,48] (fun q:Nat=>q<=8) (fun q=>[(14,.lit (.int .i64 (7 - (q:Int)))),(11,.sl (.tok H.length) 1 ((g q).map o7))]) (fun q=>H.set k (.cells (.one 146) qs)++[.grow 1 (8*i+q) none]) (fun q=>8 - q) (by kernel_rfl) ?_ 0 (by omega) y9 rfl
   intro q hq4;have hmB:=fun a n=>dr1 a n
   have hmB0: ∀a:List UInt8,a.map o7++[.lit (.int .u8 ((x.toNat/72057594037927936:Nat):Int))]=(a++[UInt8.ofNat (x.toNat/72057594037927936)]).map o7:=fun a=>by
    rw[<-dr1,IntWalk.u8_in _ (by have:=x.isLt;omega)]
   have hgq:=gl q hq4;have p0:(x.toNat:Int).fdiv 72057594037927936=((x.toNat/72057594037927936:Nat):Int):=ao4 (by decide)
   have p1:(x.toNat:Int).fdiv 281474976710656=((x.toNat/281474976710656:Nat):Int):=ao4 (by decide)
   have p2:(x.toNat:Int).fdiv 1099511627776=((x.toNat/1099511627776:Nat):Int):=ao4 (by decide)
   have p3:(x.toNat:Int).fdiv 4294967296=((x.toNat/4294967296:Nat):Int):=ao4 (by decide)
   have p4:(x.toNat:Int).fdiv 16777216=((x.toNat/16777216:Nat):Int):=ao4 (by decide)
   have p5:(x.toNat:Int).fdiv 65536=((x.toNat/65536:Nat):Int):=ao4 (by decide)
   have p6:(x.toNat:Int).fdiv 256=((x.toNat/256:Nat):Int):=ao4 (by decide)
   rcases(by omega:q=0\/q=1\/q=2\/q=3\/q=4\/q=5\/q=6\/q=7\/q=8) with rfl|rfl|rfl|rfl|rfl|rfl|rfl|rfl|rfl
   ·repeat' first|refine o6 ?_|simp -dsimp -implicitDefEqProofs (disch:=omega) only[go_sem,hmB,hmB0,g1,hgq]|refine vcA ?_ ?_|omega
    refine again (1) ?_ ?_ ?_ y9
    ·omega
    ·omega
    ·rfl
   ·repeat' first|refine o6 ?_|simp -dsimp -implicitDefEqProofs (disch:=omega) only[go_sem,hmB,hmB0,g2,hgq]|refine vcA ?_ ?_|omega
    refine again (2) ?_ ?_ ?_ y9
    ·omega
    ·omega
    ·rfl
   ·repeat' first|refine o6 ?_|simp -dsimp -implicitDefEqProofs (disch:=omega) only[go_sem,hmB,hmB0,g3,hgq]|refine vcA ?_ ?_|omega
    refine again (3) ?_ ?_ ?_ y9
    ·omega
    ·omega
    ·rfl
   ·repeat' first|refine o6 ?_|simp -dsimp -implicitDefEqProofs (disch:=omega) only[go_sem,hmB,hmB0,g4,hgq]|refine vcA ?_ ?_|omega
    refine again (4) ?_ ?_ ?_ y9
    ·omega
    ·omega
    ·rfl
   ·repeat' first|refine o6 ?_|simp -dsimp -implicitDefEqProofs (disch:=omega) only[go_sem,hmB,hmB0,g5,hgq]|refine vcA ?_ ?_|omega
    refine again (5) ?_ ?_ ?_ y9
    ·omega
    ·omega
    ·rfl
   ·repeat' first|refine o6 ?_|simp -dsimp -implicitDefEqProofs (disch:=omega) only[go_sem,hmB,hmB0,g6,hgq]|refine vcA ?_ ?_|omega
    refine again (6) ?_ ?_ ?_ y9
    ·omega
    ·omega
    ·rfl
   ·repeat' first|refine o6 ?_|simp -dsimp -implicitDefEqProofs (disch:=omega) only[go_sem,hmB,hmB0,g7,hgq]|refine vcA ?_ ?_|omega
    refine again (7) ?_ ?_ ?_ y9
    ·omega
    ·omega
    ·rfl
   ·repeat' first|refine o6 ?_|simp -dsimp -implicitDefEqProofs (disch:=omega) only[go_sem,hmB,hmB0,g8,hgq,by7]|refine vcA ?_ ?_|omega
    refine again (8) ?_ ?_ ?_ y9
    ·omega
    ·omega
    ·rfl
   ·repeat' first|refine o6 ?_|simp -dsimp -implicitDefEqProofs (disch:=omega) only[go_sem]
    rw[<-hnx4];refine again (i+1) ?_ ?_ ?_ y9
    ·omega
    ·omega
    ·rfl
  ·obtain rfl:i=8:=by omega
   have htk:hl.take 8=hl:=al2 (by omega)
   rw[htk];repeat' first|refine o6 ?_|simp -dsimp -implicitDefEqProofs only[go_sem]
   exact bQ3 (.sl .sh 1 ((hl.flatMap fun x=>bytesOf 8 x.toNat).map o7)) aG7 (af5) (hlw _) ⟨rfl,rfl⟩
end W64
end
section
namespace W64
open Go V
theorem cd1(b:List UInt8):(aq9 (aH2 64) (padded 64 b) ((padded 64 b).length/128)).list.flatMap (fun x=>bytesOf 8 x.toNat)=aA1 b:=by
 have hl:(chunks 128 (padded 64 b)).length=(padded 64 b).length/128:=by simp[chunks]
 unfold aq9;rw[<-hl,bf9];rfl
theorem bN6(b:List UInt8):(padded 64 b).length=ao7 64 b.length:=by
 have:=bN7 (w:=64) (b:=b) (t:=8*b.length) (.inr rfl);rw[bN8] at this
 ·exact this
 ·exact bK5 (Nat.lt_pow_self (by decide))
theorem ev9:(ag0 [.lit (.int .u64 0),.lit (.int .u64 0),.lit (.int .u64 0),.lit (.int .u64 0),.lit (.int .u64 0),.lit (.int .u64 0),.lit (.int .u64 0),.lit (.int .u64 0),.lit (.int .i64 0),.lit Value.nilFunc,.lit Value.nilFunc,.lit Value.nilFunc,.lit Value.nilFunc,.lit Value.nilFunc] 0 aJ7).length=14:=by kernel_rfl
theorem ev7:((((((ag0 [.lit (.int .u64 0),.lit (.int .u64 0),.lit (.int .u64 0),.lit (.int .u64 0),.lit (.int .u64 0),.lit (.int .u64 0),.lit (.int .u64 0),.lit (.int .u64 0),.lit (.int .i64 0),.lit Value.nilFunc,.lit Value.nilFunc,.lit Value.nilFunc,.lit Value.nilFunc,.lit Value.nilFunc] 0 aJ7).set 8 (.lit (.int .i64 80))).set 9 (.fn (.func 115) [] [])).set 10 (.fn (.func 116) [] [])).set 11 (.fn (.func 118) [] [])).set 12 (.fn (.func 119) [] [])).set 13 (.fn (.func 120) [] [])=aX1 (aH2 64):=by kernel_rfl
theorem eK3:aJ7.all AV.scalar=true:=by kernel_rfl
theorem ez1:(aX1 (aH2 64)).all AV.scalar=true:=by kernel_rfl
theorem cF0{a:AV}{l:List UInt8}(H:List AObj)(hl:l.length<=1000000)(hJ: ∀H,o8 Tryz.prog 123 [a,.sl .full 0 []] H (fun y H'=>y=.sl .sh 1 (l.map o7)/\H'=H)):o8 Tryz.prog 66 [a] H (fun y H'=>y=.agg ((aA1 l).map o7)/\H'=H):=by
 have hP:=fun H=>ce2 (o:=.sh) l H (by omega)
 have hpl:=aN6 (w:=64) (n:=l.length) (.inr rfl);have hpd:=bN6 l;have hp64:(padded 64 l).length=(padded 64 l).length/128*128:=by
  rw[hpd];unfold ao7;omega
 have hS:=cd1 l;have hsl:=ba4 l;generalize padded 64 l=pd at*;have hr: ∀H:List AObj,∀o1 o2:AObj,(H++[o1,o2])[H.length+1]?=some o2:=fun H o1 o2=>by
  rw[xq7 (by omega),aM6]
  rfl
 have hA:=fun(o1:AObj)=>dv7 (k:=H.length+1) (s:=aH2 64) (H:=H++[o1,ao0 (aH2 64)]) pd (hr _ _ _) hp64 (by omega)
 rw[hS] at hA;unfold ao0 at hA;have hset: ∀(H:List AObj) (o1 o2 x:AObj),(H++[o1,o2]).set (H.length+1) x=H++[o1,x]:=fun H o1 o2 x=>by
  rw[aD2 _ _ (by omega),aM6]
  rfl
 have hft:((aA1 l).map o7).take 64=(aA1 l).map o7:=al2 (by rw[List.length_map];omega)
 have hat:ag0 (List.replicate 64 (AV.lit (.int .u8 0))) 0 ((aA1 l).map o7)=(aA1 l).map o7:=by
  rw[aF0 _ _ _ (by simp;omega)]
  simp[hsl]
 have hal:((aA1 l).map o7).all AV.scalar=true:=xq5.2 (bh6 fun _=>rfl)
 have z1:=ev9;have z2:=ev7;have z3:=ez1;have z4:=eK3;generalize aA1 l=sm at*;generalize aq9 (aH2 64) pd (pd.length/128)=fs at*;generalize aX1 (aH2 64)=rc at*;refine y8 [6] [.cell 2 94] 14 Tryz.func66 ?_;repeat' first|simp -dsimp -implicitDefEqProofs (disch:=omega) only[go_sem,z1,z2,z3,z4,hset,hft,hat,hsl,hal]|refine o5 (hJ _) ?_|refine o5 (hP _) ?_|refine o5 (hA _) ?_|fail
 exact aa5 _ (Le.refl _) at1 ⟨rfl,rfl⟩
end W64
end
section
open Go V
theorem en3(s:bytes)(H:List AObj):o8 Tryz.prog 216 [.str s] H (fun x H'=>x=.bool false/\H'=H):=by
 refine y8 [] [.tmp 2] 6 Tryz.func216 ?_;repeat' simp -dsimp -implicitDefEqProofs only[go_sem]
 exact o9 ⟨rfl,rfl⟩
theorem em9(s:bytes)(H:List AObj):o8 Tryz.prog 179 [.str s] H (fun x H'=>x=.bool false/\H'=H):=by
 refine y8 [] [.tmp 2] 6 Tryz.func179 ?_;repeat' simp -dsimp -implicitDefEqProofs only[go_sem]
 exact o9 ⟨rfl,rfl⟩
theorem eL8(a b:bytes)(H:List AObj):o8 Tryz.prog 178 [.str a,.str b] H (fun x H'=>x=.bool (ah6 a b)/\H'=H):=by
 refine y8 [] [.tmp 4] 17 Tryz.func178 ?_;repeat' first|refine o6 ?_|simp -dsimp -implicitDefEqProofs only[go_sem]|refine o5 (en3 _ _) ?_|fail
 all_goals exact o9 ⟨rfl,rfl⟩
theorem cV4{α:Type}{l:List α}{i:Nat}{d x:α}(h:l[i]?=some x):l.getD i d=x:=by rw[List.getD,h];rfl
theorem aT4{α:Type}{l:List α}{i:Nat}(d:α)(h:i < l.length):l[i]?=some (l.getD i d):=by rw[List.getD,xq1 h];rfl
theorem bR4{o:Own}(ns:List bytes)(s:bytes)(H:List AObj)(hl:ns.length<=100000)(hsrt:srt ns=true):o8 Tryz.prog 133 [.sl o 1 (ns.map .str),.str s] H (fun x H'=>x=.tup [.int .i64 (pos ns s),.bool (decide (ns[pos ns s]?=some s))]/\H'=H):=by
 refine y8 [] [.tmp 4,.tmp 5] 54 Tryz.func133 ?_;repeat' simp -dsimp -implicitDefEqProofs only[go_sem]
 refine aa8 ab2 mixed [] [0,1,4,5,6] (fun p:Nat×Nat=>p.1<=p.2/\p.2<=ns.length/\(∀j,j < p.1->ah6 (ns.getD j []) s=true)/\(p.2 < ns.length->ah6 (ns.getD p.2 []) s=false)) (fun p=>[(7,.int .i64 p.1),(8,.int .i64 p.2)]) (fun _=>H) (fun p=>p.2 - p.1) (by kernel_rfl) ?_ (0,ns.length) ⟨by simp,by simp,fun j hj=>by omega,fun h=>by omega⟩ y9 rfl
 rintro⟨i,j⟩ ⟨h1,h2,h3,h4⟩
 dsimp only at h1 h2 h3 h4⊢;repeat' first|refine o6 ?_|simp -dsimp -implicitDefEqProofs (disch:=omega) only[go_sem]|refine o5 (eL8 _ _ _) ?_|refine o5 (em9 _ _) ?_|refine vcA ?_ ?_|omega|refine ac8 fun _=>?_
 ·rename_i e1 e2
  rw[show (((i:Int)+(j:Int))/2).toNat=(i+j)/2 by omega] at e2
  refine again (((i+j)/2+1,j)) ?_ ?_ rfl y9
  ·dsimp only;omega
  ·dsimp only
   refine⟨by omega,h2,fun m hm=>?_,h4⟩
   rcases an9 m ((i+j)/2) with h|h
   ·exact aP1 (dz5 hsrt h (aT4 [] (by omega)) (aT4 [] (by omega))) e2
   ·obtain rfl:m=(i+j)/2:=by omega
    exact e2
 ·rename_i e1 e2
  rw[show (((i:Int)+(j:Int))/2).toNat=(i+j)/2 by omega] at e2
  refine again ((i,(i+j)/2)) ?_ ?_ rfl y9
  ·dsimp only;omega
  ·dsimp only
   exact⟨by omega,by omega,h3,fun _=>e2⟩
 all_goals
  obtain rfl:i=j:=by omega
  have hp:pos ns s=i:=do6 h2 (fun m a hm ha=>by rw[<-cV4 (d:=[]) ha];exact h3 m hm) (fun a ha=>by rw[<-cV4 (d:=[]) ha];exact h4 (aa0 ha))
  rw[hp]
 ·have e3:ns.getD i []=s:=by assumption
  have:(decide (ns[i]?=some s))=true:=decide_eq_true (by rw[aT4 [] (by omega),e3])
  rw[this];exact o9 ⟨rfl,rfl⟩
 ·have e3: ¬ns.getD i []=s:=by assumption
  have:(decide (ns[i]?=some s))=false:=decide_eq_false (by rw[aT4 [] (by omega)];exact fun e=>e3 (Option.some.inj e))
  rw[this];exact o9 ⟨rfl,rfl⟩
 ·have:(decide (ns[i]?=some s))=false:=decide_eq_false (by rw[av1 (by omega)];simp)
  rw[this];exact o9 ⟨rfl,rfl⟩
end
section
open Go V
theorem bx8{A B C B':List AV}{n:Nat}(hn:n=A.length)(h:B.length=B'.length):ag0 (A++B++C) n B'=A++B'++C:=by
 subst hn;refine aW4 fun k=>?_
 rw[bx9];simp only[List.length_append];by_cases h1:k < A.length
 ·rw[if_neg (by omega),List.append_assoc,List.append_assoc,xq4 h1,xq4 h1]
 ·by_cases h2:k < A.length+B'.length
  ·rw[if_pos (by omega),xq4 (by simp;omega),xq7 (by omega)]
  ·rw[if_neg (by omega),xq7 (by simp;omega),xq7 (by simp;omega)]
   congr 1
   simp
   omega
theorem bX7{xs:List AV}{x:AV}{i:Nat}(hi:i<=xs.length):aa1 (xs.insertIdx i x)=aa1 (xs.take i)++x.flat++aa1 (xs.drop i):=by
 induction xs generalizing i with
 |nil=>obtain rfl:i=0:=by simpa using hi
       simp[aa1]
 |cons a xs ih=>
  cases i with
  |zero=>simp[aa1]
  |succ i=>
   rw[ch9,ap2,ih (by simpa using hi),ak3,aj3,ap2]
   simp
theorem cR6{n i s:Nat}:(n - i)*s=n*s - i*s:=Nat.sub_mul n i s
theorem cU4{xs:List AV}{x:AV}{P:List AV}{s n i:Nat}(hu: ∀y∈xs,y.flat.length=s)(hx:x.flat.length=s)(hn:xs.length=n)(hi:i<=n)(hP:s<=P.length):
  (ag0 (ag0 (aa1 xs++P) ((i+1)*s) (((aa1 xs++P).drop (i*s)).take ((n - i)*s))) (i*s) x.flat).take ((n+1)*s)=aa1 (xs.insertIdx i x):=by
 have hA:(aa1 (xs.take i)).length=i*s:=by rw[ai3 (s:=s) fun y hy=>hu y (bT3 hy),List.length_take,bt9 (by omega)]
 have hB:(aa1 (xs.drop i)).length=(n - i)*s:=by rw[ai3 (s:=s) fun y hy=>hu y (bC8 hy),List.length_drop,hn]
 have hsp:aa1 xs=aa1 (xs.take i)++aa1 (xs.drop i):=by rw[<-am5,bJ6]
 rw[bX7 (by omega),hsp]
 generalize aa1 (xs.take i)=A at*;generalize aa1 (xs.drop i)=B at*;have hz:((A++B++P).drop (i*s)).take ((n - i)*s)=B:=by
  rw[List.append_assoc,<-hA,List.drop_left,<-hB,bf5]
 rw[hz];have hW: ∃U V,B++P.take s=U++V/\U.length=s/\V.length=B.length:=⟨(B++P.take s).take s,(B++P.take s).drop s,(bJ6 ..).symm,by rw[List.length_take,List.length_append,List.length_take];omega,by rw[List.length_drop,List.length_append,List.length_take];omega⟩
 obtain⟨U,V,hUV,hU,hV⟩:=hW;have e1:A++B++P=(A++U)++V++P.drop s:=by
  rw[List.append_assoc A U V,<-hUV];simp
 rw[e1,bx8 (by rw[List.length_append,hA,hU,aD3,bf4]) hV]
 have e2:(A++U)++B++P.drop s=A++U++(B++P.drop s):=by simp
 rw[e2,bx8 hA.symm (by rw[hU,hx])]
 have e3:A++x.flat++(B++P.drop s)=(A++x.flat++B)++P.drop s:=by simp
 rw[e3];have hl:(A++x.flat++B).length=(n+1)*s:=by
  rw[List.length_append,List.length_append,hA,hx,hB,cR6,aD3,bf4];have:=aR6 s hi;omega
 rw[<-hl,bf5]
theorem df5{xs:List AV}{x:AV}{s n i m:Nat}(hu: ∀y∈xs,y.flat.length=s)(hx:x.flat.length=s)(hn:xs.length=n)(hi:i<=n)(hm:(n+1 - i)*s<=m):
  (ag0 (ag0 ((aa1 xs).take (i*s)++List.replicate m .any) (i*s) x.flat) ((i+1)*s) ((aa1 xs).drop (i*s))).take ((n+1)*s)=aa1 (xs.insertIdx i x):=by
 have hA:(aa1 (xs.take i)).length=i*s:=by rw[ai3 (s:=s) fun y hy=>hu y (bT3 hy),List.length_take,bt9 (by omega)]
 have hB:(aa1 (xs.drop i)).length=(n - i)*s:=by rw[ai3 (s:=s) fun y hy=>hu y (bC8 hy),List.length_drop,hn]
 have hsp:aa1 xs=aa1 (xs.take i)++aa1 (xs.drop i):=by rw[<-am5,bJ6]
 have hm2:(n+1 - i)*s=s+(n - i)*s:=by rw[show n+1 - i=(n - i)+1 by omega,aD3,bf4,bJ9]
 rw[bX7 (by omega),hsp]
 generalize aa1 (xs.take i)=A at*;generalize aa1 (xs.drop i)=B at*;have hz:(A++B).drop (i*s)=B:=by rw[<-hA,List.drop_left]
 have hy:(A++B).take (i*s)=A:=by rw[<-hA,bf5]
 rw[hz,hy];obtain⟨r,hr⟩: ∃r,m=s+((n - i)*s+r):=⟨m - s - (n - i)*s,by omega⟩
 have e1:A++List.replicate m AV.any=A++List.replicate s .any++(List.replicate ((n - i)*s) .any++List.replicate r .any):=by
  rw[hr,List.append_assoc,cH2,cH2]
 rw[e1,bx8 hA.symm (by rw[List.length_replicate,hx])]
 have e2:A++x.flat++(List.replicate ((n - i)*s) AV.any++List.replicate r .any)=(A++x.flat)++List.replicate ((n - i)*s) .any++List.replicate r .any:=by simp
 rw[e2,bx8 (by rw[List.length_append,hA,hx,aD3,bf4]) (by rw[List.length_replicate,hB])]
 have hl:(A++x.flat++B).length=(n+1)*s:=by
  rw[List.length_append,List.length_append,hA,hx,hB,cR6,aD3,bf4];have:=aR6 s hi;omega
 rw[<-hl,bf5]
theorem cx6{x:AV}(h:x.okv=true):x.flat.all AV.scalar=true:=by
 cases x<;>simp_all [AV.okv,AV.flat,AV.scalar]
theorem cD9{xs:List AV}(h: ∀y∈xs,y.okv=true):(aa1 xs).all AV.scalar=true:=by
 rw[xq5];intro c hc;unfold aa1 at hc;obtain⟨y,hy,hcy⟩:=bK7.1 hc;exact xq5.1 (cx6 (h y hy)) c hcy
theorem bt1{xs:List AV}{x:AV}{s i:Nat}(hu: ∀y∈xs,y.flat.length=s/\y.okv=true)(hx:x.flat.length=s/\x.okv=true)(hi:i<=xs.length): ∀y∈xs.insertIdx i x,y.flat.length=s/\y.okv=true:=fun y hy=>by
 rcases(List.mem_insertIdx hi).1 hy with rfl|hy
 ·exact hx
 ·exact hu y hy
theorem b72{H:List AObj}{k s n cap:Nat}{sh:Shape}{cs xs:List AV}(ho:H[k]?=some (.cells sh cs))(hx:xs.length=n)(hu: ∀x∈xs,x.flat.length=s/\x.okv=true)(h:cs.take (n*s)=aa1 xs):Frz1 H k (.msl k 0 n cap) (.sl .sh s xs):=by
 have hl:(aa1 xs).length<=cs.length:=by rw[<-h,List.length_take];omega
 refine .msl 0 n cap s sh cs xs ho hx hu (by omega) fun j c y e1 e2=>?_
 rw[Nat.zero_add] at e1;have hj:=aa0 e2;rw[<-h,aK6] at e2;split at e2
 ·rw[e1] at e2
  cases e2
  exact .keep _
 ·cases e2
theorem dg0{H:List AObj}{sh:Shape}{k s n:Nat}{cs xs:List AV}(ho:H[k]?=some (.cells sh cs))(hx:xs.length=n)(hu: ∀x∈xs,x.flat.length=s/\x.okv=true)(h:cs=aa1 xs):Frz1 H k (.mrow k n) (.sl .sh s xs):=by
 subst h;refine .row n s sh _ xs ho hx hu (xq0 _) fun j c y e1 e2=>?_
 rw[e1] at e2;cases e2
 exact .keep _
theorem cE2{H₀ M:List AObj}{R:AV->List AObj->Prop}{x:AV}{a:Nat}(hx:Low H₀.length x)(hr:R x (H₀.set a .gone)):Done H₀ R x (H₀.set a .gone++M):=by
 unfold Done;have hl:(H₀.set a AObj.gone).length=H₀.length:=by simp
 refine⟨x,(H₀.set a .gone++M).take H₀.length,bx2 (Le.refl x) (xq0 _) hx fun i sh cs hi e=>.inl ?_,?_⟩
 ·rw[xq4 (by rw[hl];exact hi)] at e
  rcases aq3 e with⟨_,e'⟩|⟨_,e',_⟩
  ·exact e'
  ·cases e'
 ·rw[by9 (by rw[hl];exact xq0 _),al2 (by rw[hl];exact xq0 _)]
  exact hr
theorem bF3{P:Program}(w:World)(tS tR e:TypeId)(ht:P.underlying tS=some (.slice e))(size:Nat)(hz: ∀w,(Go.sizeOf e).run P w=.ok size w)
  (a b:Addr) (la ca lb cb:Nat) (hne:a.block≠b.block) (tA tB:TypeId) (kA kB:Nat)
  (hsa:w.shape? a.block=some (tA,kA)) (hsb:w.shape? b.block=some (tB,kB)) (hkA:kA≠0) (hkB:kB≠0)
  (hfb:w.frozen? b=false) (hfe:w.frozen? {block:=b.block,off:=kB}=false):
  (Extern.SlicesOverlaps.overlaps #[tS,tS] #[tR] #[.slice (some a) la ca,.slice (some b) lb cb]).run P w=.ok (.bool false) w:=by
 have hnb:(a.block !=b.block)=true:=by simpa using hne
 have hnb':(a.block==b.block)=false:=by simpa using hne
 change Sem.run P (α:=Value) (do
  let some t:=(#[tS,tS]:Array TypeId)[0]?|stuck "slices.overlaps: no parameter types"
  let .slice elem<-underlying t|stuck "slices.overlaps: slice type expected"
  let size<-sizeOf elem
  match(some a:Option Addr),(some b:Option Addr) with
  |some a,some b=>
   if la=0\/lb=0\/size=0 then pure (Value.bool false)
   else if a.block !=b.block&&(<-frozen a)&&(<-frozen b) then unsupported .addressObserved
   else do
    if a.block !=b.block then do
     noView a;noView b
     if<-mayBeOne a b then return Value.bool ((<-choose (.extern "sameAddr.stringBytes" 2))==1)
    pure (Value.bool (a.block==b.block&&a.off < b.off+lb*size&&b.off < a.off+la*size))
  |_,_=>pure (Value.bool false)) w=_
 by_cases h0:la=0\/lb=0\/size=0
 ·simp[run_underlying ht,hz,h0]
 ·obtain⟨kA,rfl⟩: ∃n,kA=n+1:=⟨kA - 1,by omega⟩
  cases kB with
  |zero=>exact absurd rfl hkB
  |succ kB=>
   cases hfa:w.frozen? a<;>cases hfx:w.frozen? ⟨a.block,kA+1,none⟩<;>
    simp[run_underlying ht,hz,h0,hnb,hnb',frozen,noView,viewAt,mayBeOne,stringish,shape,Sem.run,hsa,hsb,hfb,hfe,hfa,hfx]
theorem ct5{H₀ H:List AObj}{R:AV->List AObj->Prop}{z s:Nat}(hs:0 < s)(hr:Done H₀ R (.sl (.tok H.length) s []) (H++[.grow s 0 none])):Done H₀ R (.sl .full z []) H:=by
 unfold Done at hr⊢;obtain⟨y,H'',he,hR⟩:=hr;refine⟨y,H'',ct2 (fun G₀ w₀ G w v h0 hi hst r=>?_) he,hR⟩
 cases r with
 |sl _ _ _ ad len cap val hl hcap hs' hc hr' hf ha ho=>
  have r0:Rel G H w (.sl .full z []) (.slice ad len cap):=.sl .full z [] ad len cap val hl hcap hs' hc hr' hf ha ho;obtain⟨hi',st',hr''⟩:=cR7 none hi r0 hs (fun h=>absurd rfl h) (fun h=>absurd rfl h)
  exact⟨_,hi',hst.trans st',hr''⟩
theorem do9{o:Own}{s k off n cap:Nat}{T:TypeId}{cs xs:List AV}{H:List AObj}(hx:aa1 xs≠[])(hk:H[k]?=some (.cells (.one T) cs))(hcs:cs≠[]):o8 Tryz.prog 180 [.sl o s xs,.msl k off n cap] H (fun y H'=>y=.bool false/\H'=H):=
 aC8 (e:=Extern.SlicesOverlaps.overlaps #[22,22] #[4]) Tryz.func180 (by kernel_rfl) (by kernel_rfl) (by kernel_rfl) (by kernel_rfl) fun G w vs hi ha=>by
  obtain⟨v,u,rfl,hv,hu⟩:=cd6 ha;obtain⟨arr,T1,fr,hb,hs,hr,hf,hg,hh⟩:=hi.cells k _ cs hk;obtain⟨rfl,h2,h3⟩:=hh;have hp1:0 < (aa1 xs).length:=aR1.2 hx;have hp2:0 < cs.length:=aR1.2 hcs;cases hv with
  |sl _ _ _ ad len cap' val hl hcap hs' hc hr' hf' ha' ho=>
  cases hu with
  |msl _ _ _ _ o2 g4 g5 g6=>
  obtain⟨b1,off1,rfl,himm,hcell⟩:=hc 0 _ (xq1 hp1);have hne:b1≠G.blk k:=fun e=>hf _ (e▸himm)
  obtain⟨a1,e1,f1,hb1⟩: ∃a1 e1 f1,w.heap[b1]?=some (.cells a1 e1 f1):=by
   unfold World.cell? at hcell;simp only at hcell;split at hcell
   ·rename_i h;exact⟨_,_,_,h⟩
   ·cases hcell
  have hka:a1.size≠0:=by
   rw[az5 hb1] at hcell;intro e;rw[bT5 (by omega)] at hcell
   cases hcell
  refine⟨_,w,_,G,H,bF3 w 22 4 9 Tryz.underlying22 1 (fun w=>by simp) ⟨b1,off1,none⟩ ⟨G.blk k,off,none⟩ _ _ n cap hne e1 T1 a1.size arr.size (by simp[World.shape?,hb1]) (by simp[World.shape?,hb]) hka (by omega) ?_ ?_,hi,.refl _ _ _,.lit _,rfl,rfl⟩
  all_goals simp[World.frozen?,hb,h3]
theorem d97{k n i:Nat}{xs:List AV}{x:AV}{H:List AObj}(hk:H[k]?=some (.cells (.prow 1) (aa1 xs)))(hn:xs.length=n)(hu: ∀y∈xs,y.flat.length=1/\y.okv=true)(hx:x.flat.length=1/\x.okv=true)(hi:i<=n)(hl:n<=100000)
  (hlow: ∀m,Low m (.sl .sh 1 (xs.insertIdx i x))):o8 Tryz.prog 136 [.mrow k n,.lit (.int .i64 i),.sl .full 1 [x]] H (fun y H'=>y=.sl .sh 1 (xs.insertIdx i x)/\H'=H.set k .gone):=by
 have hkl:=aa0 hk;have hfl:(aa1 xs).length=n*1:=by rw[ai3 (s:=1) fun y hy=>(hu y hy).1,hn]
 by_cases hin:i=n
 ·subst hin
  have hins:xs.insertIdx i x=xs++[x]:=by rw[<-hn];exact List.insertIdx_length_self
  ·have hll:(H.set k AObj.gone).length=H.length:=by simp
   refine y8 [1000011,1000015] [.tmp 6] 95 Tryz.func136 ?_;repeat' first|refine o6 ?_|simp -dsimp -implicitDefEqProofs (disch:=omega) only[go_sem,hk,hfl,hx.1,hx.2]|refine vcA ?_ ?_|omega
   have hnew:(H.set k AObj.gone++[AObj.cells (.prow 1) (aa1 xs++aa1 [x])])[H.length]?=some (.cells (.prow 1) (aa1 xs++aa1 [x])):=by rw[<-hll];exact aW1
   refine aT8 (H':=[]) hnew (dg0 (xs:=xs++[x]) hnew (by simp[hn]) (by rw[<-hins];exact bt1 hu hx (by omega)) (by rw[am5])) ?_
   rw[hs0 hll.symm,List.set_cons_zero];have:=hlow H.length;rw[hins] at this⊢;exact cE3 (o:=.gone) this rfl (fun sh cs e=>by cases e) ⟨rfl,rfl⟩
 ·refine cc2 (xs1:=[]) hk (by rw[hfl]) fun T cap hcap=>?_
  rw[List.nil_append];generalize hP:List.replicate ((cap - n)*1) AV.any=P;have hPl:P.length=(cap - n)*1:=by rw[<-hP,List.length_replicate]
  have hall:=cD9 fun y hy=>(hu y hy).2
  have hsc:(((aa1 xs++P).drop (i*1)).take ((n - i)*1)).all AV.scalar=true:=by
   have hle:=aR6 1 hi;rw[cH3 (by omega),by9 (by rw[List.length_drop];omega),xq5]
   intro c hc;exact xq5.1 hall c (bC8 (bT3 hc))
  have hsd:((aa1 xs).drop (i*1)).all AV.scalar=true:=by
   rw[xq5];intro c hc;exact xq5.1 hall c (bC8 hc)
  try simp only[Nat.mul_one] at hsc hsd
  have hmin:min (n+1 - i) (n+1 - (i+1))=n - i:=by omega
  have hxs:=cx6 hx.2;have hfx:aa1 [x]=x.flat:=by simp[aa1]
  have hx0:x.flat≠[]:=fun e=>by have:=hx.1;rw[e] at this;cases this
  have hf0:aa1 xs++P≠[]:=fun e=>by have:=congrArg List.length e;rw[List.length_append,hfl] at this;simp only[List.length_nil] at this;omega
  have hov:=fun off m c=>do9 (o:=.full) (s:=1) (xs:=[x]) (off:=off) (n:=m) (cap:=c) (H:=H.set k (.cells (.one T) (aa1 xs++P))) (by simp[aa1,hx0]) (hss hkl) hf0
  have hI:((i:Int)+1).toNat=i+1:=by omega
  have hN1:((n:Int)+1).toNat=n+1:=by omega
  have hNI:((n:Int)+1 - (i:Int)).toNat=n+1 - i:=by omega
  have hsum:i+(n+1 - i)=n+1:=by omega
  have hci:((cap:Int)=(i:Int))=False:=eq_false (by omega)
  have hin':((i:Int)=(n:Int))=False:=eq_false (by omega)
  by_cases hc:n+1<=cap
  ·have hcI:((cap:Int)=(i:Int)+1)=False:=eq_false (by omega)
   have hcc:(((cap:Nat):Int) < (n:Int)+1)=False:=eq_false (by omega)
   refine y8 [1000011,1000015] [.tmp 6] 95 Tryz.func136 ?_;repeat' first|refine o6 ?_|simp -dsimp -implicitDefEqProofs (disch:=first|assumption|omega) only[go_sem,hsn,hss,hPl,hfl,hsc,hxs,hx.1,hx.2,hI,hN1,hNI,hsum,hci,hin',hcI,hcc,a99,aw7,hmin]|refine o5 (hov _ _ _) ?_|refine vcA ?_ ?_|omega
   have hres:=cU4 (s:=1) (P:=P) (fun y hy=>(hu y hy).1) hx.1 hn hi (by omega)
   try simp only[Nat.mul_one] at hres
   refine aT8 (H':=[]) (k:=k) (hss hkl) (b72 (s:=1) (xs:=xs.insertIdx i x) (hss hkl) (by rw[cH1 (by omega)];omega) (bt1 hu hx (by omega)) (by rw[hfx];first|exact hres|(rw[Nat.mul_one];exact hres))) ?_
   rw[List.set_set];exact ae7 _ (Le.refl _) (by simp) ⟨rfl,rfl⟩
  ·have hcc:(((cap:Nat):Int) < (n:Int)+1)=True:=eq_true (by omega)
   obtain rfl:cap=n:=by omega
   have hP0:P=[]:=by rw[<-hP,ap6,by6];rfl
   rw[hP0,List.append_nil];clear hov hsc hf0;refine y8 [1000011,1000015] [.tmp 6] 95 Tryz.func136 ?_;repeat' first|refine o6 ?_|simp -dsimp -implicitDefEqProofs (disch:=first|assumption|omega) only[go_sem,hsn,hss,hfl,hsd,hxs,hx.1,hx.2,hI,hN1,hNI,hsum,hci,hin',hcc,a99,aw7]|refine vcA ?_ ?_|omega
   intro z;have hz1:(((cap+1+z:Nat):Int)=(i:Int))=False:=eq_false (by omega)
   have hz2:(((cap+1+z:Nat):Int)=(i:Int)+1)=False:=eq_false (by omega)
   repeat' first|simp -dsimp -implicitDefEqProofs (disch:=first|assumption|omega|simp only[ll];omega) only[go_sem,hsn,hss,hfl,hsd,hxs,hx.1,hx.2,hI,hN1,hNI,hsum,hci,hin',hcc,a99,cy5,dm3,hz1,hz2,aw7]|refine vcA ?_ ?_|omega
   have hres:=df5 (s:=1) (m:=(cap+1 - i+z)*1) (fun y hy=>(hu y hy).1) hx.1 hn hi (aR6 _ (by omega))
   try simp only[Nat.mul_one] at hres
   refine aT8 (H':=[]) (k:=H.length) cy5 (b72 (s:=1) (xs:=xs.insertIdx i x) cy5 (by rw[cH1 (by omega)];omega) (bt1 hu hx (by omega)) (by rw[hfx];first|exact hres|(rw[Nat.mul_one];exact hres))) ?_
   rw[dm3,List.set_cons_zero];refine aT8 (H':=[]) (k:=k) (cS3 hkl) (.keep _) ?_;rw[ex5 hkl];rw[show (H.set k AObj.gone)=(H.set k (AObj.cells (.one T) (aa1 xs))).set k .gone from(List.set_set ..).symm]
   exact cE2 (hlow _) ⟨rfl,rfl⟩
theorem dp0{o:Own}{s k off n cap:Nat}{T:TypeId}{cs xs:List AV}{H:List AObj}(hx:aa1 xs≠[])(hk:H[k]?=some (.cells (.one T) cs))(hcs:cs≠[]):o8 Tryz.prog 182 [.sl o s xs,.msl k off n cap] H (fun y H'=>y=.bool false/\H'=H):=
 aC8 (e:=Extern.SlicesOverlaps.overlaps #[23,23] #[4]) Tryz.func182 (by kernel_rfl) (by kernel_rfl) (by kernel_rfl) (by kernel_rfl) fun G w vs hi ha=>by
  obtain⟨v,u,rfl,hv,hu⟩:=cd6 ha;obtain⟨arr,T1,fr,hb,hs,hr,hf,hg,hh⟩:=hi.cells k _ cs hk;obtain⟨rfl,h2,h3⟩:=hh;have hp1:0 < (aa1 xs).length:=aR1.2 hx;have hp2:0 < cs.length:=aR1.2 hcs;cases hv with
  |sl _ _ _ ad len cap' val hl hcap hs' hc hr' hf' ha' ho=>
  cases hu with
  |msl _ _ _ _ o2 g4 g5 g6=>
  obtain⟨b1,off1,rfl,himm,hcell⟩:=hc 0 _ (xq1 hp1);have hne:b1≠G.blk k:=fun e=>hf _ (e▸himm)
  obtain⟨a1,e1,f1,hb1⟩: ∃a1 e1 f1,w.heap[b1]?=some (.cells a1 e1 f1):=by
   unfold World.cell? at hcell;simp only at hcell;split at hcell
   ·rename_i h;exact⟨_,_,_,h⟩
   ·cases hcell
  have hka:a1.size≠0:=by
   rw[az5 hb1] at hcell;intro e;rw[bT5 (by omega)] at hcell
   cases hcell
  refine⟨_,w,_,G,H,bF3 w 23 4 25 Tryz.underlying23 5 (fun w=>by simp) ⟨b1,off1,none⟩ ⟨G.blk k,off,none⟩ _ _ n cap hne e1 T1 a1.size arr.size (by simp[World.shape?,hb1]) (by simp[World.shape?,hb]) hka (by omega) ?_ ?_,hi,.refl _ _ _,.lit _,rfl,rfl⟩
  all_goals simp[World.frozen?,hb,h3]
theorem d98{k n i:Nat}{xs:List AV}{x:AV}{H:List AObj}(hk:H[k]?=some (.cells (.prow 5) (aa1 xs)))(hn:xs.length=n)(hu: ∀y∈xs,y.flat.length=5/\y.okv=true)(hx:x.flat.length=5/\x.okv=true)(hi:i<=n)(hl:n<=100000)
  (hlow: ∀m,Low m (.sl .sh 5 (xs.insertIdx i x))):o8 Tryz.prog 137 [.mrow k n,.lit (.int .i64 i),.sl .full 5 [x]] H (fun y H'=>y=.sl .sh 5 (xs.insertIdx i x)/\H'=H.set k .gone):=by
 have hkl:=aa0 hk;have hfl:(aa1 xs).length=n*5:=by rw[ai3 (s:=5) fun y hy=>(hu y hy).1,hn]
 by_cases hin:i=n
 ·subst hin
  have hins:xs.insertIdx i x=xs++[x]:=by rw[<-hn];exact List.insertIdx_length_self
  ·have hll:(H.set k AObj.gone).length=H.length:=by simp
   refine y8 [1000011,1000015] [.tmp 6] 95 Tryz.func137 ?_;repeat' first|refine o6 ?_|simp -dsimp -implicitDefEqProofs (disch:=omega) only[go_sem,hk,hfl,hx.1,hx.2]|refine vcA ?_ ?_|omega
   have hnew:(H.set k AObj.gone++[AObj.cells (.prow 5) (aa1 xs++aa1 [x])])[H.length]?=some (.cells (.prow 5) (aa1 xs++aa1 [x])):=by rw[<-hll];exact aW1
   refine aT8 (H':=[]) hnew (dg0 (xs:=xs++[x]) hnew (by simp[hn]) (by rw[<-hins];exact bt1 hu hx (by omega)) (by rw[am5])) ?_
   rw[hs0 hll.symm,List.set_cons_zero];have:=hlow H.length;rw[hins] at this⊢;exact cE3 (o:=.gone) this rfl (fun sh cs e=>by cases e) ⟨rfl,rfl⟩
 ·refine cc2 (xs1:=[]) hk (by rw[hfl]) fun T cap hcap=>?_
  rw[List.nil_append];generalize hP:List.replicate ((cap - n)*5) AV.any=P;have hPl:P.length=(cap - n)*5:=by rw[<-hP,List.length_replicate]
  have hall:=cD9 fun y hy=>(hu y hy).2
  have hsc:(((aa1 xs++P).drop (i*5)).take ((n - i)*5)).all AV.scalar=true:=by
   have hle:=aR6 5 hi;rw[cH3 (by omega),by9 (by rw[List.length_drop];omega),xq5]
   intro c hc;exact xq5.1 hall c (bC8 (bT3 hc))
  have hsd:((aa1 xs).drop (i*5)).all AV.scalar=true:=by
   rw[xq5];intro c hc;exact xq5.1 hall c (bC8 hc)
  try simp only[Nat.mul_one] at hsc hsd
  have hmin:min (n+1 - i) (n+1 - (i+1))=n - i:=by omega
  have hxs:=cx6 hx.2;have hfx:aa1 [x]=x.flat:=by simp[aa1]
  have hx0:x.flat≠[]:=fun e=>by have:=hx.1;rw[e] at this;cases this
  have hf0:aa1 xs++P≠[]:=fun e=>by have:=congrArg List.length e;rw[List.length_append,hfl] at this;simp only[List.length_nil] at this;omega
  have hov:=fun off m c=>dp0 (o:=.full) (s:=5) (xs:=[x]) (off:=off) (n:=m) (cap:=c) (H:=H.set k (.cells (.one T) (aa1 xs++P))) (by simp[aa1,hx0]) (hss hkl) hf0
  have hI:((i:Int)+1).toNat=i+1:=by omega
  have hN1:((n:Int)+1).toNat=n+1:=by omega
  have hNI:((n:Int)+1 - (i:Int)).toNat=n+1 - i:=by omega
  have hsum:i+(n+1 - i)=n+1:=by omega
  have hci:((cap:Int)=(i:Int))=False:=eq_false (by omega)
  have hin':((i:Int)=(n:Int))=False:=eq_false (by omega)
  by_cases hc:n+1<=cap
  ·have hcI:((cap:Int)=(i:Int)+1)=False:=eq_false (by omega)
   have hcc:(((cap:Nat):Int) < (n:Int)+1)=False:=eq_false (by omega)
   refine y8 [1000011,1000015] [.tmp 6] 95 Tryz.func137 ?_;repeat' first|refine o6 ?_|simp -dsimp -implicitDefEqProofs (disch:=first|assumption|omega) only[go_sem,hsn,hss,hPl,hfl,hsc,hxs,hx.1,hx.2,hI,hN1,hNI,hsum,hci,hin',hcI,hcc,a99,aw7,hmin]|refine o5 (hov _ _ _) ?_|refine vcA ?_ ?_|omega
   have hres:=cU4 (s:=5) (P:=P) (fun y hy=>(hu y hy).1) hx.1 hn hi (by omega)
   try simp only[Nat.mul_one] at hres
   refine aT8 (H':=[]) (k:=k) (hss hkl) (b72 (s:=5) (xs:=xs.insertIdx i x) (hss hkl) (by rw[cH1 (by omega)];omega) (bt1 hu hx (by omega)) (by rw[hfx];first|exact hres|(rw[Nat.mul_one];exact hres))) ?_
   rw[List.set_set];exact ae7 _ (Le.refl _) (by simp) ⟨rfl,rfl⟩
  ·have hcc:(((cap:Nat):Int) < (n:Int)+1)=True:=eq_true (by omega)
   obtain rfl:cap=n:=by omega
   have hP0:P=[]:=by rw[<-hP,ap6,by6];rfl
   rw[hP0,List.append_nil];clear hov hsc hf0;refine y8 [1000011,1000015] [.tmp 6] 95 Tryz.func137 ?_;repeat' first|refine o6 ?_|simp -dsimp -implicitDefEqProofs (disch:=first|assumption|omega) only[go_sem,hsn,hss,hfl,hsd,hxs,hx.1,hx.2,hI,hN1,hNI,hsum,hci,hin',hcc,a99,aw7]|refine vcA ?_ ?_|omega
   intro z;have hz1:(((cap+1+z:Nat):Int)=(i:Int))=False:=eq_false (by omega)
   have hz2:(((cap+1+z:Nat):Int)=(i:Int)+1)=False:=eq_false (by omega)
   repeat' first|simp -dsimp -implicitDefEqProofs (disch:=first|assumption|omega|simp only[ll];omega) only[go_sem,hsn,hss,hfl,hsd,hxs,hx.1,hx.2,hI,hN1,hNI,hsum,hci,hin',hcc,a99,cy5,dm3,hz1,hz2,aw7]|refine vcA ?_ ?_|omega
   have hres:=df5 (s:=5) (m:=(cap+1 - i+z)*5) (fun y hy=>(hu y hy).1) hx.1 hn hi (aR6 _ (by omega))
   try simp only[Nat.mul_one] at hres
   refine aT8 (H':=[]) (k:=H.length) cy5 (b72 (s:=5) (xs:=xs.insertIdx i x) cy5 (by rw[cH1 (by omega)];omega) (bt1 hu hx (by omega)) (by rw[hfx];first|exact hres|(rw[Nat.mul_one];exact hres))) ?_
   rw[dm3,List.set_cons_zero];refine aT8 (H':=[]) (k:=k) (cS3 hkl) (.keep _) ?_;rw[ex5 hkl];rw[show (H.set k AObj.gone)=(H.set k (AObj.cells (.one T) (aa1 xs))).set k .gone from(List.set_set ..).symm]
   exact cE2 (hlow _) ⟨rfl,rfl⟩
end
section
open Go V
end
section
open Go V
end
section
open Go V
theorem b88{xs:List AV}{H:List AObj}(hu: ∀y∈xs,y.flat.length=1/\y.okv=true)(hne:xs≠[])(hl:xs.length<=100000):o8 Tryz.prog 134 [.sl .sh 1 xs] H (fun y H'=>y=.mrow H.length xs.length/\H'=H++[.cells (.prow 1) (aa1 xs)]):=by
 have hpos:=aR1.2 hne;refine y8 [7] [.tmp 2] 8 Tryz.func134 ?_;repeat' first|refine o6 ?_|simp -dsimp -implicitDefEqProofs (disch:=omega) only[go_sem,hne]|refine vcA ?_ ?_|omega
 exact aM4 ⟨rfl,rfl⟩
theorem c22{H:List AObj}:o8 Tryz.prog 134 [.sl .sh 1 []] H (fun y H'=>y=.sl (.tok H.length) 1 []/\H'=H++[.grow 1 0 none]):=by
 refine y8 [] [.tmp 2] 8 Tryz.func134 ?_;repeat' simp -dsimp -implicitDefEqProofs only[go_sem]
 intro b;cases b
 all_goals
  repeat' first|refine o6 ?_|simp -dsimp -implicitDefEqProofs (disch:=omega) only[go_sem]
  first
   |exact aM4 ⟨rfl,rfl⟩
   |exact ct5 (by decide) (aM4 ⟨rfl,rfl⟩)
theorem cF3{k:Nat}{x:AV}{H:List AObj}(hk:H[k]?=some (.grow 1 0 none))(hx:x.flat.length=1/\x.okv=true):o8 Tryz.prog 136 [.sl (.tok k) 1 [],.lit (.int .i64 0),.sl .full 1 [x]] H (fun y H'=>y=.sl (.tok k) 1 [x]/\H'=H.set k (.grow 1 1 none)):=by
 refine y8 [1000011,1000015] [.tmp 6] 95 Tryz.func136 ?_;repeat' first|refine o6 ?_|simp -dsimp -implicitDefEqProofs (disch:=first|omega|simp only[ll];omega) only[go_sem,hk]
 exact ae7 _ (Le.refl _) (by simp) ⟨rfl,rfl⟩
theorem b89{xs:List AV}{H:List AObj}(hu: ∀y∈xs,y.flat.length=5/\y.okv=true)(hne:xs≠[])(hl:xs.length<=100000):o8 Tryz.prog 135 [.sl .sh 5 xs] H (fun y H'=>y=.mrow H.length xs.length/\H'=H++[.cells (.prow 5) (aa1 xs)]):=by
 have hpos:=aR1.2 hne;refine y8 [7] [.tmp 2] 8 Tryz.func135 ?_;repeat' first|refine o6 ?_|simp -dsimp -implicitDefEqProofs (disch:=omega) only[go_sem,hne]|refine vcA ?_ ?_|omega
 exact aM4 ⟨rfl,rfl⟩
theorem c26{H:List AObj}:o8 Tryz.prog 135 [.sl .sh 5 []] H (fun y H'=>y=.sl (.tok H.length) 5 []/\H'=H++[.grow 5 0 none]):=by
 refine y8 [] [.tmp 2] 8 Tryz.func135 ?_;repeat' simp -dsimp -implicitDefEqProofs only[go_sem]
 intro b;cases b
 all_goals
  repeat' first|refine o6 ?_|simp -dsimp -implicitDefEqProofs (disch:=omega) only[go_sem]
  first
   |exact aM4 ⟨rfl,rfl⟩
   |exact ct5 (by decide) (aM4 ⟨rfl,rfl⟩)
theorem cF4{k:Nat}{x:AV}{H:List AObj}(hk:H[k]?=some (.grow 5 0 none))(hx:x.flat.length=5/\x.okv=true):o8 Tryz.prog 137 [.sl (.tok k) 5 [],.lit (.int .i64 0),.sl .full 5 [x]] H (fun y H'=>y=.sl (.tok k) 5 [x]/\H'=H.set k (.grow 5 1 none)):=by
 refine y8 [1000011,1000015] [.tmp 6] 95 Tryz.func137 ?_;repeat' first|refine o6 ?_|simp -dsimp -implicitDefEqProofs (disch:=first|omega|simp only[ll];omega) only[go_sem,hk]
 exact ae7 _ (Le.refl _) (by simp) ⟨rfl,rfl⟩
theorem b51{ns:List bytes}: ∀y∈ns.map AV.str,y.flat.length=1/\y.okv=true:=fun y hy=>by
 obtain⟨s,_,rfl⟩:=xq6.1 hy;exact⟨rfl,rfl⟩
theorem cr0{v:JV}:(jAV v).flat.length=5:=by rw[av5];rfl
theorem bA3{is:List JV}: ∀y∈is.map jAV,y.flat.length=5/\y.okv=true:=fun y hy=>by
 obtain⟨s,_,rfl⟩:=xq6.1 hy;exact⟨cr0,b60⟩
theorem cV6{H:List AObj}{sh:Shape}{m k s n:Nat}{cs xs:List AV}(hk:m<=k)(ho:H[k]?=some (.cells sh cs))(hx:xs.length=n)(hu: ∀x∈xs,x.flat.length=s/\x.okv=true)(hlow: ∀y∈aa1 xs,Low m y)(h:cs=aa1 xs):Frz m H (.mrow k n) (.sl .sh s xs):=by
 subst h;refine .row k n s sh _ xs hk ho hx hu (xq0 _) fun j c y e1 e2=>?_
 rw[e1] at e2;cases e2
 exact .low _ (hlow _ (au9.2 ⟨j,e1⟩))
theorem c73{m:Nat}{ns:List bytes}: ∀y∈aa1 (ns.map AV.str),Low m y:=fun y hy=>by
 rw[aN8] at hy;obtain⟨s,_,rfl⟩:=xq6.1 hy;exact .str _
theorem c74{m:Nat}{is:List JV}: ∀y∈aa1 (is.map jAV),Low m y:=fun y hy=>by
 have:=ak1 (m:=m) (l:=is);cases this with
 |sl _ _ _ _ h=>exact h y hy
theorem dK5{xs:List AV}{x:AV}{s i:Nat}(hu: ∀y∈xs,y.flat.length=s)(hx:x.flat.length=s)(hi:i < xs.length):ag0 (aa1 xs) (i*s) x.flat=aa1 (xs.set i x):=by
 have hA:(aa1 (xs.take i)).length=i*s:=by rw[ai3 (s:=s) fun y hy=>hu y (bT3 hy),List.length_take,bt9 (by omega)]
 have hxi:xs[i].flat.length=s:=hu _ (aR4 hi);have e1:aa1 xs=aa1 (xs.take i)++xs[i].flat++aa1 (xs.drop (i+1)):=by
  conv=>lhs;rw[<-bJ6 i xs,bC9 hi]
  rw[am5,ap2,List.append_assoc]
 have e2:aa1 (xs.set i x)=aa1 (xs.take i)++x.flat++aa1 (xs.drop (i+1)):=by
  rw[List.set_eq_take_append_cons_drop,if_pos hi,am5,ap2,List.append_assoc]
 rw[e1,e2,bx8 hA.symm (by rw[hxi,hx])]
def dp8(v:JV):Prop:=v.names.length=v.items.length/\srt v.names=true/\v.names.length<=20000
theorem cf4{v x:JV}{s:bytes}(h:v.names[pos v.names s]?≠some s):at6 v s x=.mk v.kind v.num v.text (v.names.insertIdx (pos v.names s) s) (v.items.insertIdx (pos v.names s) x):=if_neg h
theorem cT5{v x:JV}{s:bytes}(h:v.names[pos v.names s]?=some s):at6 v s x=.mk v.kind v.num v.text v.names (v.items.set (pos v.names s) x):=if_pos h
theorem bd0{α β:Type}{f:α->β}: ∀{l:List α} {i:Nat} {x:α},(l.map f).insertIdx i (f x)=(l.insertIdx i x).map f
 |[],0,x=>rfl
 |[],i+1,x=>rfl
 |a::l,0,x=>rfl
 |a::l,i+1,x=>by
  rw[List.map_cons,ch9,ch9,List.map_cons,bd0]
theorem eb2(v:JV)(s:bytes)(x:JV)(H:List AObj)(hv:dp8 v):o8 Tryz.prog 75 [jAV v,.str s,jAV x] H (fun y H'=>y=jAV (at6 v s x)/\H'=H):=by
 obtain⟨hv1,hv2,hv3⟩:=hv;have hpl:=dC7 v.names s;by_cases hnil:v.names=[]
 ·have hit:v.items=[]:=aR5 (by rw[<-hv1,hnil];rfl)
  rw[cf4 (by rw[hnil];simp),hnil,hit]
  refine y8 [3,1000002,1000002004002,1000006,1000006007005,1000006009005,1000006010005] [.cell 6 25] 46 Tryz.func75 ?_;repeat' first|refine o6 ?_|simp -dsimp -implicitDefEqProofs (disch:=first|omega|simp only[ll];omega) only[go_sem,hnil,hit,cS3,hg0,hg1,hg2]|refine o5 (bR4 [] s _ (by simp) rfl) ?_|refine⟨_,_,bR4 [] s _ (by simp) rfl,?_⟩|refine o5 (c22) ?_|refine⟨_,_,c22,?_⟩|refine o5 (c26) ?_|refine⟨_,_,c26,?_⟩|refine o5 (cF3 (x:=.str s) (by simp;done) ⟨rfl,rfl⟩) ?_|refine⟨_,_,cF3 (x:=.str s) (by simp;done) ⟨rfl,rfl⟩,?_⟩|refine o5 (cF4 (x:=jAV x) (by simp;done) ⟨cr0,b60⟩) ?_|refine⟨_,_,cF4 (x:=jAV x) (by simp;done) ⟨cr0,b60⟩,?_⟩|refine vcA ?_ ?_|refine ac8 fun _=>?_
  ·rename_i h
   simp at h
  ·refine aa5 (jAV (.mk v.kind v.num v.text [s] [x])) (bX1 aG7 aG7) (ae5 _) ⟨?_,rfl⟩
   have:pos [] s=0:=rfl;rw[this];rfl
 ·have hit:v.items≠[]:=fun e=>hnil (aR5 (by rw[hv1,e];rfl))
  have hns:v.names.map AV.str≠[]:=by simpa using hnil
  have hns2:v.items.map jAV≠[]:=by simpa using hit
  by_cases hf:v.names[pos v.names s]?=some s
  ·have hlt:=aa0 hf
   rw[cT5 hf];have hsr:=fun H=>bR4 (o:=.sh) v.names s H (by omega) hv2
   rw[decide_eq_true hf] at hsr;have hps:pos v.names s*5+5<=(aa1 (v.items.map jAV)).length:=by
    rw[ai3 (s:=5) fun y hy=>(bA3 y hy).1,List.length_map]
    omega
   refine y8 [3,1000002,1000002004002,1000006,1000006007005,1000006009005,1000006010005] [.cell 6 25] 46 Tryz.func75 ?_;repeat' first|refine o6 ?_|simp -dsimp -implicitDefEqProofs (disch:=first|omega|simp only[ll];omega) only[go_sem,cS3,hg0,hg1,hg2,hps]|refine o5 (hsr _) ?_|refine⟨_,_,hsr _,?_⟩|refine o5 (b88 b51 hns (by simp;omega)) ?_|refine⟨_,_,b88 b51 hns (by simp;omega),?_⟩|refine o5 (b89 bA3 hns2 (by simp;omega)) ?_|refine⟨_,_,b89 bA3 hns2 (by simp;omega),?_⟩|refine vcA ?_ ?_|omega
   have hset:ag0 (aa1 (v.items.map jAV)) (pos v.names s*5) (jAV x).flat=aa1 ((v.items.set (pos v.names s) x).map jAV):=by
    rw[dK5 (fun y hy=>(bA3 y hy).1) cr0 (by rw[List.length_map];omega),ar1]
   rw[av5] at hset;simp only[ag0] at hset;rw[aT1];refine bx3 _ (Frz.agg _ [.lit (.int .i64 v.kind),.lit (.int .i64 v.num),.str v.text,.sl .sh 1 (v.names.map .str),.sl .sh 5 ((v.items.set (pos v.names s) x).map jAV)] rfl fun j c d e1 e2=>?_) ⟨rfl,rfl⟩
   ·match j,e1,e2 with
    |0,e1,e2=>simp at e1 e2;subst e1;subst e2;exact .low _ (.lit _)
    |1,e1,e2=>simp at e1 e2;subst e1;subst e2;exact .low _ (.lit _)
    |2,e1,e2=>simp at e1 e2;subst e1;subst e2;exact .low _ (.str _)
    |3,e1,e2=>
     simp at e1 e2;subst e1;subst e2
     exact cV6 (cs:=v.names.map AV.str) (by omega) (by simp;rfl) (by simp) b51 c73 (aN8 ..).symm
    |4,e1,e2=>
     simp only[List.getElem?_cons_succ,List.getElem?_cons_zero,Option.some.injEq] at e1 e2;subst e1;subst e2;exact cV6 (sh:=.prow 5) (by omega) (by rw[xq7 (by omega),aM6];rfl) (by simp) bA3 c74 hset
  ·rw[cf4 hf]
   have hsr:=fun H=>bR4 (o:=.sh) v.names s H (by omega) hv2
   rw[decide_eq_false hf] at hsr;refine y8 [3,1000002,1000002004002,1000006,1000006007005,1000006009005,1000006010005] [.cell 6 25] 46 Tryz.func75 ?_;have hlowS: ∀m,Low m (.sl .sh 1 ((v.names.map AV.str).insertIdx (pos v.names s) (.str s))):=fun m=>by rw[bd0];exact ak0
   have hlowJ: ∀m,Low m (.sl .sh 5 ((v.items.map jAV).insertIdx (pos v.names s) (jAV x))):=fun m=>by rw[bd0];exact ak1
   have cS:=fun k H hk=>d97 (k:=k) (n:=v.names.length) (i:=pos v.names s) (x:=.str s) (xs:=v.names.map .str) (H:=H) hk (by simp) b51 ⟨rfl,rfl⟩ hpl (by omega) hlowS
   have cJ:=fun k H hk=>d98 (k:=k) (n:=v.items.length) (i:=pos v.names s) (x:=jAV x) (xs:=v.items.map jAV) (H:=H) hk (by simp) bA3 ⟨cr0,b60⟩ (by omega) (by omega) hlowJ
   rw[aN8] at cS;repeat' first|refine o6 ?_|simp -dsimp -implicitDefEqProofs (disch:=first|omega|simp only[ll];omega) only[go_sem,cS3,hg0,hg1,hg2]|refine o5 (hsr _) ?_|refine⟨_,_,hsr _,?_⟩|refine o5 (b88 b51 hns (by simp;omega)) ?_|refine⟨_,_,b88 b51 hns (by simp;omega),?_⟩|refine o5 (b89 bA3 hns2 (by simp;omega)) ?_|refine⟨_,_,b89 bA3 hns2 (by simp;omega),?_⟩|refine o5 (cS _ _ (by simp;done)) ?_|refine⟨_,_,cS _ _ (by simp;done),?_⟩|refine o5 (cJ _ _ (by simp;done)) ?_|refine⟨_,_,cJ _ _ (by simp;done),?_⟩|fail
   rw[bd0,bd0];exact aa5 (jAV (.mk v.kind v.num v.text _ _)) (bX1 (Le.refl _) (Le.refl _)) (ae5 _) ⟨rfl,rfl⟩
end
section
open Go V
theorem am0{H₀ H:List AObj}{R:AV->List AObj->Prop}{x y:AV}(h:Le x y)(hr:Done H₀ R y H):Done H₀ R x H:=by
 unfold Done at hr⊢;obtain⟨z,H',he,hR⟩:=hr;exact⟨z,H',fun G₀ w₀ G w v h0 hi hs r=>he G₀ w₀ G w v h0 hi hs (h _ _ _ _ r),hR⟩
structure TS where
 r:bytes
 v:JV
 e:Int
abbrev af0(v:JV):List AV:=[.lit (.int .i64 v.kind),.lit (.int .i64 v.num),.str v.text,.sl .sh 1 (v.names.map .str),.sl .sh 5 (v.items.map jAV)]
abbrev au5:List AV:=[.lit (.int .i64 0),.lit (.int .i64 0),.str [],.sl .full 0 [],.sl .full 0 []]
theorem le_zero:Le (.agg au5) (jAV aa7):=bX1 (ns:=[]) (is:=[]) ao3 ao3
end
section
open Go V
section
variable {H M:List AObj}{k:Nat}{o x:AObj}
end
structure LS where
 r:bytes
 is:List JV
 e:Int
end
section
open Go V
theorem aF1{o:Own}(l:List UInt8)(H:List AObj)(hl:l.length<=100000):o8 Tryz.prog 41 [.sl o 1 (l.map o7)] H (fun x H'=>x=.bool (Lib.validD l)/\H'=H):=by
 refine y8 [] [.tmp 2] 5 Tryz.func41 ?_;repeat' first|simp -dsimp -implicitDefEqProofs only[go_sem]|refine o5 (eu4 _ _ ?_) ?_|omega
 exact o9 ⟨rfl,rfl⟩
end
section
open Go V
theorem an3{c d:UInt8}:((c.toNat:Int)=(d.toNat:Int))=(c=d):=by
 have:(c.toNat=d.toNat)=(c=d):=propext ⟨aZ0.1,fun h=>by rw[h]⟩
 rw[<-this];exact propext ⟨Int.ofNat.inj,fun h=>by rw[h]⟩
theorem em1{k:Int}:Le (.agg [.lit (.int .i64 k),.lit (.int .i64 0),.str [],.sl .full 0 [],.sl .full 0 []]) (jAV (.mk k 0 [] [] [])):=bX1 (ns:=[]) (is:=[]) ao3 ao3
theorem em0{t:bytes}:Le (.agg [.lit (.int .i64 4),.lit (.int .i64 0),.str t,.sl .full 0 [],.sl .full 0 []]) (jAV (.mk 4 0 t [] [])):=bX1 (ns:=[]) (is:=[]) ao3 ao3
theorem ax3{x y z:AV}(h:Le x y):Le (.tup [x,z]) (.tup [y,z]):=aL7 (LeAll.cons h (LeAll.cons (Le.refl _) LeAll.nil))
def af9(p:JV×Int):AV:=.tup [jAV p.1,.int .i64 p.2]
theorem bW7{m:Nat}{p:JV×Int}:Low m (af9 p):=ah9 (aa3 (ae5 _) (aa3 (.lit _) ac4))
end
section
open Go V
def ar8(most:Int):List bytes->Int->Int
 |[],n=>n
 |s::r,n=>if n<=most then ar8 most r (n+1+min (s.length:Int) most) else n
mutual
def weigh:JV->Int->Int
 |.mk _ _ t ns is,most=>ar9 most is (ar8 most ns (1+min (t.length:Int) most))
def ar9(most:Int):List JV->Int->Int
 |[],n=>n
 |v::r,n=>if n<=most then ar9 most r (n+weigh v (most - n)) else n
end
theorem cK5(v:JV)(most:Int):weigh v most=ar9 most v.items (ar8 most v.names (1+min (v.text.length:Int) most)):=by cases v;rw[weigh];rfl
theorem bD1{most n:Int}{v:JV}{r:List JV}:ar9 most (v::r) n=if n<=most then ar9 most r (n+weigh v (most - n)) else n:=by rw[ar9]
theorem bL1{most n:Int}:ar9 most [] n=n:=by rw[ar9]
theorem c33{most n:Int}{l:List bytes}(h: ¬n<=most):ar8 most l n=n:=by cases l<;>simp[ar8,h]
theorem c35{most n:Int}{l:List JV}(h: ¬n<=most):ar9 most l n=n:=by
 cases l with
 |nil=>exact bL1
 |cons=>rw[bD1,if_neg h]
theorem drop_cons{α:Type}{l:List α}{i:Nat}(d:α)(h:i < l.length):l.drop i=l.getD i d::l.drop (i+1):=by
 rw[List.getD,xq1 h,Option.getD_some,<-bC9 h]
theorem dw6{most n:Int}{l:List bytes}{i:Nat}(h:i < l.length)(hn:n<=most):ar8 most (l.drop i) n=ar8 most (l.drop (i+1)) (n+1+min ((l.getD i []).length:Int) most):=by
 rw[drop_cons [] h,ar8,if_pos hn]
theorem dw7{most n:Int}{l:List JV}{i:Nat}(h:i < l.length)(hn:n<=most):ar9 most (l.drop i) n=ar9 most (l.drop (i+1)) (n+weigh (l.getD i aa7) (most - n)):=by
 rw[drop_cons aa7 h,bD1,if_pos hn]
theorem bT9: ∀(l:List bytes) (most n:Int),0<=most->0<=n->n<=2*most+1->n<=ar8 most l n/\ar8 most l n<=2*most+1/\(ar8 most l n<=most->ar8 most l n=n+(l.map al5).sum)/\(n+(l.map al5).sum<=most->ar8 most l n=n+(l.map al5).sum)
 |[],most,n,h0,hp,hn=>by simp[ar8];omega
 |s::r,most,n,h0,hp,hn=>by
  rw[ar8];by_cases h:n<=most
  ·rw[if_pos h]
   have ih:=bT9 r most (n+1+min (s.length:Int) most) h0 (by omega) (by omega)
   rw[List.map_cons,bt8];have:al5 s=1+s.length:=rfl;rw[this];omega
  ·rw[if_neg h,List.map_cons,bt8]
   omega
theorem bu2: ∀(v:JV) (most:Int),0<=most->1<=weigh v most/\weigh v most<=2*most+1/\(weigh v most<=most->weigh v most=aa2 v)/\((aa2 v:Int)<=most->weigh v most=aa2 v):=by
 refine JV.induct fun k nu t ns is ih most h0=>?_
 have hit: ∀(l:List JV),(∀x∈l,x∈is)-> ∀n:Int,0<=n->n<=2*most+1->n<=ar9 most l n/\ar9 most l n<=2*most+1/\(ar9 most l n<=most->ar9 most l n=n+(l.map aa2).sum)/\(n+(l.map aa2).sum<=most->ar9 most l n=n+(l.map aa2).sum):=by
  intro l;induction l with
  |nil=>intro _ n hp hn;rw[bL1];simp;omega
  |cons v r ihl=>
   intro hm n hp hn;rw[bD1,List.map_cons,bt8];by_cases h:n<=most
   ·rw[if_pos h]
    have h1:=ih v (hm v (au8 ..)) (most - n) (by omega)
    have h2:=ihl (fun x hx=>hm x (aA0 _ hx)) (n+weigh v (most - n)) (by omega) (by omega)
    omega
   ·rw[if_neg h]
    omega
 rw[cK5,av2,aM2];show 1<=ar9 most is (ar8 most ns (1+min (t.length:Int) most))/\ar9 most is (ar8 most ns (1+min (t.length:Int) most))<=2*most+1/\(ar9 most is (ar8 most ns (1+min (t.length:Int) most))<=most->ar9 most is (ar8 most ns (1+min (t.length:Int) most))=((1+t.length+(ns.map al5).sum+(is.map aa2).sum:Nat):Int))/\(((1+t.length+(ns.map al5).sum+(is.map aa2).sum:Nat):Int)<=most->ar9 most is (ar8 most ns (1+min (t.length:Int) most))=((1+t.length+(ns.map al5).sum+(is.map aa2).sum:Nat):Int))
 have h1:=bT9 ns most (1+min (t.length:Int) most) h0 (by omega) (by omega)
 have h2:=hit is (fun _ h=>h) (ar8 most ns (1+min (t.length:Int) most)) (by omega) h1.2.1
 omega
theorem dh7: ∀(v:JV) (most:Int) (H:List AObj),0<=most->most<=10000->o8 Tryz.prog 15 [jAV v,.lit (.int .i64 most)] H (fun x H'=>x=.int .i64 (weigh v most)/\H'=H):=by
 refine JV.induct fun k nu t ns is ih most H h0 hm=>?_
 rw[cK5];generalize hv:JV.mk k nu t ns is=v;have ih': ∀x∈v.items,∀(most:Int) (H:List AObj),0<=most->most<=10000->o8 Tryz.prog 15 [jAV x,.lit (.int .i64 most)] H (fun x' H'=>x'=.int .i64 (weigh x most)/\H'=H):=by subst hv;exact ih
 clear ih hv;refine y8 [] [.tmp 4] 61 Tryz.func15 ?_;repeat' simp -dsimp -implicitDefEqProofs (disch:=omega) only[go_sem]
 generalize hN:ar8 most v.names (1+min (v.text.length:Int) most)=N;refine aa8 ab2 mixed [] [1,2,4] (fun p:Nat×Int=>p.1<=v.names.length/\(p.1:Int) < p.2/\p.2<=2*most+1/\ar8 most (v.names.drop p.1) p.2=N) (fun p=>[(6,.int .i64 p.1),(5,.int .i64 p.2)]) (fun _=>H) (fun p=>v.names.length - p.1) (by kernel_rfl) ?_ (0,1+min (v.text.length:Int) most) ⟨by simp,by simp;omega,by simp;omega,by simpa using hN⟩ y9 rfl
 rintro⟨i,n⟩ ⟨hi,hin,hn,hw⟩
 dsimp only at hi hin hn hw⊢;repeat' first|refine o6 ?_|simp -dsimp -implicitDefEqProofs (disch:=omega) only[go_sem]|refine vcA ?_ ?_|omega|refine ac8 fun _=>?_
 ·rename_i h1 h2
  refine again ((i+1,n+1+min ((v.names.getD i []).length:Int) most)) ?_ ?_ rfl y9
  ·dsimp only;omega
  ·dsimp only
   exact⟨by omega,by omega,by omega,by rw[<-dw6 (by omega) h2];exact hw⟩
 all_goals
  have hnN:n=N:=by
   first
    |(rw[c33 (by omega)] at hw;exact hw)
    |(rw[bg0 (by omega)] at hw;exact hw)
  subst hnN;clear hw hin;have hpos:=(bT9 v.names most (1+min (v.text.length:Int) most) h0 (by omega) (by omega)).1
  rw[hN] at hpos;refine aa8 ab2 mixed [] [1,2,4] (fun p:Nat×Int=>p.1<=v.items.length/\(p.1:Int) < p.2/\p.2<=2*most+1/\ar9 most (v.items.drop p.1) p.2=ar9 most v.items n) (fun p=>[(7,.int .i64 p.1),(5,.int .i64 p.2)]) (fun _=>H) (fun p=>v.items.length - p.1) (by kernel_rfl) ?_ (0,n) ⟨by simp,by simp;omega,hn,by simp⟩ y9 rfl
  rintro⟨j,m⟩ ⟨hj,hjm,hm2,hw⟩
  dsimp only at hj hjm hm2 hw⊢;have hwl:=fun(h:m<=most)=>bu2 (v.items.getD j aa7) (most - m) (by omega)
  repeat' first|refine o6 ?_|simp -dsimp -implicitDefEqProofs (disch:=omega) only[go_sem]|refine o5 (ih' _ (az3 (by omega)) _ _ (by omega) (by omega)) ?_|refine⟨_,_,ih' _ (az3 (by omega)) _ _ (by omega) (by omega),?_⟩|refine vcA ?_ ?_|omega|refine ac8 fun _=>?_
  ·rename_i h1 h2
   have:=hwl h2;refine again ((j+1,m+weigh (v.items.getD j aa7) (most - m))) ?_ ?_ rfl y9
   ·dsimp only;omega
   ·dsimp only
    exact⟨by omega,by omega,by omega,by rw[<-dw7 (by omega) h2];exact hw⟩
  ·rename_i h1 h2
   refine o9 ⟨int_eq ?_,rfl⟩;rw[<-hw,c35 (by omega)]
  ·rename_i h1
   refine o9 ⟨int_eq ?_,rfl⟩;rw[<-hw,bg0 (by omega),bL1]
open Classical in
theorem dB3: ∀(v w:JV) (H:List AObj),aa2 v<=40000->o8 Tryz.prog 57 [jAV v,jAV w] H (fun x H'=>x=.bool (decide (v=w))/\H'=H):=by
 refine JV.induct fun k n t ns is ih w H hs=>?_
 generalize hv:JV.mk k n t ns is=v at hs;have ih': ∀x∈v.items,∀(w:JV) (H:List AObj),aa2 x<=40000->o8 Tryz.prog 57 [jAV x,jAV w] H (fun y H'=>y=.bool (decide (x=w))/\H'=H):=by subst hv;exact ih
 clear ih hv;have h1:=aU6 v;have h2:=aM9 v;have h3: ∀i,i < v.items.length->aa2 (v.items.getD i aa7)<=40000:=fun i hi=>by have:=aS1 (v:=v) (az3 (d:=aa7) hi);omega
 have hvw:(v=w)=(v.kind=w.kind/\v.num=w.num/\v.text=w.text/\v.names=w.names/\v.items=w.items):=by cases v;cases w;simp[JV.kind,JV.num,JV.text,JV.names,JV.items]
 refine y8 [1000006,1000011] [.tmp 4] 81 Tryz.func57 ?_;repeat' first|refine o6 ?_|simp -dsimp -implicitDefEqProofs (disch:=omega) only[go_sem]|refine vcA ?_ ?_|refine ac8 fun _=>?_
 all_goals first|exact o9 ⟨ae6 (decide_eq_false fun e=>by subst e;first|contradiction|omega).symm,rfl⟩|skip
 rename_i e1 e2 e3 e4 e5;refine aa8 ab2 mixed [1000006,1000011] [2,3] (fun i:Nat=>i<=v.names.length/\ ∀j,j < i->v.names.getD j []=w.names.getD j []) (fun i=>[(5,.int .i64 i)]) (fun _=>H) (fun i=>v.names.length - i) (by kernel_rfl) ?_ 0 ⟨by omega,fun j hj=>by omega⟩ y9 rfl
 rintro i ⟨hi,hp⟩
 repeat' first|refine o6 ?_|simp -dsimp -implicitDefEqProofs (disch:=omega) only[go_sem]|refine vcA ?_ ?_|omega|refine ac8 fun _=>?_
 ·rename_i h4 h5
  exact o9 ⟨ae6 (decide_eq_false fun e=>by subst e;contradiction).symm,rfl⟩
 ·rename_i h4 h5
  refine again (i+1) ?_ ?_ rfl y9
  ·omega
  ·exact⟨by omega,upto_succ hp h5⟩
 ·have hn:v.names=w.names:=b43 (d:=[]) (by omega) fun j hj=>hp j (by omega)
  clear hp hi;refine aa8 ab2 mixed [1000006,1000011] [2,3] (fun i:Nat=>i<=v.items.length/\ ∀j,j < i->v.items.getD j aa7=w.items.getD j aa7) (fun i=>[(6,.int .i64 i)]) (fun _=>H) (fun i=>v.items.length - i) (by kernel_rfl) ?_ 0 ⟨by omega,fun j hj=>by omega⟩ y9 rfl
  rintro j ⟨hj,hq⟩
  repeat' first|refine o6 ?_|simp -dsimp -implicitDefEqProofs (disch:=omega) only[go_sem]|refine o5 (ih' _ (az3 (by omega)) _ _ (h3 _ (by omega))) ?_|refine⟨_,_,ih' _ (az3 (by omega)) _ _ (h3 _ (by omega)),?_⟩|refine vcA ?_ ?_|omega|refine ac8 fun _=>?_
  ·rename_i h4 h5
   exact o9 ⟨ae6 (decide_eq_false fun e=>by subst e;simp at h5).symm,rfl⟩
  ·rename_i h4 h5
   refine again (j+1) ?_ ?_ rfl y9
   ·omega
   ·exact⟨by omega,upto_succ hq (by simpa using h5)⟩
  ·have hm:v.items=w.items:=b43 (d:=aa7) (by omega) fun j hj=>hq j (by omega)
   refine o9 ⟨ae6 (decide_eq_true ?_).symm,rfl⟩;rw[hvw];exact⟨e1,e2,e3,hn,hm⟩
open Classical in
theorem di2(v w:JV)(H:List AObj)(hs:aa2 v<=40000):o8 Tryz.prog 31 [jAV v,jAV w] H (fun x H'=>x=.bool (decide (v=w))/\H'=H):=by
 refine y8 [] [.tmp 4] 8 Tryz.func31 ?_;repeat' first|simp -dsimp -implicitDefEqProofs only[go_sem]|refine o5 (dB3 v w _ hs) ?_|refine⟨_,_,dB3 v w _ hs,?_⟩|fail
 exact o9 ⟨rfl,rfl⟩
end
section
open Go V
theorem dc3: ∀{l:List bytes},(∀j,j+1 < l.length->ah6 (l.getD j []) (l.getD (j+1) [])=true)->srt l=true
 |[],_=>rfl
 |[_],_=>rfl
 |a::b::r,h=>by
  rw[srt,xq3];exact⟨h 0 (by simp),dc3 fun j hj=>h (j+1) (by simpa using hj)⟩
theorem ex6{l:List bytes}(h:srt l=true){j:Nat}(hj:j+1 < l.length):ah6 (l.getD j []) (l.getD (j+1) [])=true:=by
 refine dz5 h (Nat.lt_succ_self j) (xq1 (by omega)|>.trans ?_) (xq1 hj|>.trans ?_)
 ·rw[List.getD,xq1 (by omega)];rfl
 ·rw[List.getD,xq1 hj];rfl
theorem eL1{l:List bytes}{p:bytes->Bool}(h:l.all p=true){j:Nat}(hj:j < l.length):p (l.getD j [])=true:=xq5.1 h _ (az3 hj)
theorem eL0{l:List bytes}{p:bytes->Bool}(h: ∀j,j < l.length->p (l.getD j [])=true):l.all p=true:=by
 rw[xq5];intro x hx;obtain⟨j,hj,rfl⟩:=di7.1 hx;have:=h j hj;rwa [List.getD,xq1 hj] at this
theorem dq6{v:JV}(h: ¬v.names.length=v.items.length):aI4 v=false:=by simp[aI4,h]
theorem cR4{v:JV}{j:Nat}(hj:j < v.names.length)(h:Lib.validD (v.names.getD j [])=false):aI4 v=false:=by
 cases e:aI4 v with
 |false=>rfl
 |true=>
  simp only[aI4,xq3] at e;have:=eL1 e.1.2 hj;rw[h] at this;cases this
theorem c71{v:JV}{j:Nat}(hj:j < v.names.length)(h0:0 < j)(h:ah6 (v.names.getD (j - 1) []) (v.names.getD j [])=false):aI4 v=false:=by
 cases e:aI4 v with
 |false=>rfl
 |true=>
  simp only[aI4,xq3] at e;have:=ex6 e.2 (j:=j - 1) (by omega)
  rw[show j - 1+1=j by omega,h] at this
  cases this
theorem dF7{v:JV}(hl:v.names.length=v.items.length)(h: ∀j,j < v.names.length->Lib.validD (v.names.getD j [])=true/\(0 < j->ah6 (v.names.getD (j - 1) []) (v.names.getD j [])=true)):aI4 v=true:=by
 simp only[aI4,xq3,decide_eq_true_eq];exact⟨⟨hl,eL0 fun j hj=>(h j hj).1⟩,dc3 fun j hj=>(h (j+1) hj).2 (by omega)⟩
theorem b62(v:JV)(H:List AObj)(hs:aa2 v<=40000):o8 Tryz.prog 91 [jAV v] H (fun x H'=>x=.bool (aI4 v)/\H'=H):=by
 have h1:=aU6 v;have h2:=aM9 v;have h3: ∀i,i < v.names.length->(v.names.getD i []).length<=100000:=fun i hi=>by have:=cA8 (v:=v) (az3 (d:=[]) hi);omega
 refine y8 [] [.tmp 2] 39 Tryz.func91 ?_;repeat' first|refine o6 ?_|simp -dsimp -implicitDefEqProofs (disch:=omega) only[go_sem]|refine vcA ?_ ?_|refine ac8 fun _=>?_
 ·rename_i h
  exact o9 ⟨ae6 (dq6 (by omega)).symm,rfl⟩
 ·rename_i h
  refine aa8 ab2 mixed [] [1,13,14] (fun i:Nat=>i<=v.names.length/\ ∀j,j < i->Lib.validD (v.names.getD j [])=true/\(0 < j->ah6 (v.names.getD (j - 1) []) (v.names.getD j [])=true)) (fun i=>[(15,.int .i64 i)]) (fun _=>H) (fun i=>v.names.length - i) (by kernel_rfl) ?_ 0 ⟨by omega,fun j hj=>by omega⟩ y9 rfl
  rintro i ⟨hi,hp⟩
  have h4:=h3 i;repeat' first|refine o6 ?_|simp -dsimp -implicitDefEqProofs (disch:=omega) only[go_sem]|refine o5 (aF1 _ _ (h4 (by omega))) ?_|refine vcA ?_ ?_|omega|refine ac8 fun _=>?_
  ·rename_i h5 h6
   exact o9 ⟨ae6 (cR4 (by omega) h6).symm,rfl⟩
  ·rename_i h5 h6 h7 h8
   rw[show ((i:Int) - 1).toNat=i - 1 by omega] at h8
   exact o9 ⟨ae6 (c71 (by omega) (by omega) h8).symm,rfl⟩
  ·rename_i h5 h6 h7 h8
   rw[show ((i:Int) - 1).toNat=i - 1 by omega] at h8
   refine again (i+1) ?_ ?_ rfl y9
   ·omega
   ·exact⟨by omega,upto_succ hp ⟨h6,fun _=>h8⟩⟩
  ·rename_i h5 h6 h7
   refine again (i+1) ?_ ?_ rfl y9
   ·omega
   ·exact⟨by omega,upto_succ hp ⟨h6,fun h8=>by omega⟩⟩
  ·obtain rfl:i=v.names.length:=by omega
   exact o9 ⟨ae6 (dF7 (by omega) hp).symm,rfl⟩
theorem dB4(d:Nat)(v:JV):ab3 d v=(bh8 v||(aQ5 v&&(decide (0 < d)&&v.items.all (ab3 (d - 1))))):=by cases d<;>simp[ab3]
theorem not_any{l:List JV}{p:JV->Bool}:(!(l.any fun x=>!p x))=l.all p:=by
 induction l with
 |nil=>rfl
 |cons a l ih=>simp only[List.any_cons,List.all_cons,Bool.not_or,Bool.not_not,ih]
theorem right_step(d:Nat)(v:JV)(w:Int)(H:List AObj)(hw:w=12 - (d:Int))(hd:d<=12)(hs:aa2 v<=40000)
  (hq:0 < d-> ∀x∈v.items,∀H,o8 Tryz.prog 93 (jAV x::[.ip (.lit (.int .i64 w))]) H (fun y H'=>y=.bool (!ab3 (d - 1) x)/\H'=H)):
  o8 Tryz.prog 51 [jAV v,.lit (.int .i64 w)] H (fun x H'=>x=.bool (ab3 d v)/\H'=H):=by
 have h1:=aU6 v;have h2:=aM9 v;have h3:=size_text v;refine y8 [] [.tmp 4] 95 Tryz.func51 ?_;repeat' first|refine o6 ?_|simp -dsimp -implicitDefEqProofs (disch:=omega) only[go_sem]|refine o5 (aF1 _ _ (by omega)) ?_|refine o5 (b62 v _ hs) ?_|refine o5 (bI8 _ _ (fun x=>!ab3 (d - 1) x) _ _ (by omega) (fun x hx=>hq (by omega) x hx _)) ?_|refine vcA ?_ ?_|omega|refine ac8 fun _=>?_
 all_goals
  refine o9 ⟨ae6 ?_,rfl⟩;rw[dB4];first
   |(have hd0:0 < d:=by omega
     clear hq hw hd hs h1 h2 h3;simp_all [bh8,aQ5,be8,bq8,not_any,hd0];done)
   |(have hd0:d=0:=by omega
     clear hq hw hd hs h1 h2 h3;simp_all [bh8,aQ5,be8,bq8,not_any,hd0];done)
   |(clear hq hw hd hs h1 h2 h3
     simp_all [bh8,aQ5,be8,bq8,not_any];done)
   |(clear hq hw hd hs h1 h2 h3
     simp_all [bh8,aQ5,be8,bq8,not_any];omega)
theorem dc5: ∀(d:Nat) (v:JV) (w:Int) (H:List AObj),w=12 - (d:Int)->d<=12->aa2 v<=40000->o8 Tryz.prog 51 [jAV v,.lit (.int .i64 w)] H (fun x H'=>x=.bool (ab3 d v)/\H'=H)
 |0,v,w,H,hw,hd,hs=>right_step 0 v w H hw hd hs fun h=>by omega
 |d+1,v,w,H,hw,hd,hs=>right_step (d+1) v w H hw hd hs fun _ x hx H=>by
  have h4:=aS1 hx;refine y8 [] [.tmp 3] 9 Tryz.func93 ?_;repeat' first|simp -dsimp -implicitDefEqProofs (disch:=omega) only[go_sem]|refine o5 (dc5 d x _ _ (by omega) (by omega) (by omega)) ?_|fail
  exact o9 ⟨rfl,rfl⟩
theorem aM0(v:JV)(H:List AObj)(hs:aa2 v<=40000):o8 Tryz.prog 23 [jAV v] H (fun x H'=>x=.bool (ab3 12 v)/\H'=H):=by
 refine y8 [] [.tmp 2] 5 Tryz.func23 ?_;repeat' first|simp -dsimp -implicitDefEqProofs only[go_sem]|refine o5 (dc5 12 v _ _ (by omega) (by omega) hs) ?_|fail
 exact o9 ⟨rfl,rfl⟩
end
section
open Go
end
section
open Go V
end
section
open Go V Go.RowKit
end
section
open Go V
end
section
open Go V
end
section
open Go V
end
section
open Go V
open Classical in
theorem dP5(v w:JV)(H:List AObj)(hs:aa2 v<=40000)(hs2:aa2 w<=40000):o8 Tryz.prog 29 [jAV v,jAV w] H (fun x H'=>x=.bool (ab3 12 v&&ab3 12 w&&decide (v=w))/\H'=H):=by
 refine y8 [] [.tmp 4] 16 Tryz.func29 ?_;repeat' first|refine o6 ?_|simp -dsimp -implicitDefEqProofs only[go_sem]|refine o5 (aM0 v _ hs) ?_|refine o5 (aM0 w _ hs2) ?_|refine o5 (eq2 v w _ hs) ?_|refine vcA ?_ ?_|refine ac8 fun _=>?_
 all_goals
  refine o9 ⟨ae6 ?_,rfl⟩;simp_all
end
section
open Go V
theorem aC4{v:JV}{s:bytes}:aa2 ((ae1 v s).getD aa7)<=aa2 v:=by
 have h0:=aA2 v;have hz:aa2 aa7=1:=rfl;cases h:ae1 v s with
 |none=>rw[Option.getD_none,hz];omega
 |some x=>
  rw[Option.getD_some];unfold ae1 at h;split at h
  ·split at h
   ·exact b36 (aS1 (bC3 h))
   ·cases h
  ·cases h
end
end Go.Proofs.YtpplfhfoljjipaaGreatDoor
