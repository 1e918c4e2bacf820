/- append: the operation. -/
import Derived.Test.YtdkpdjfimckdgaaGreatDoorW1
import Derived.Lib.SliceRun
import Derived.WalkSpells
import Derived.Laws.MakeOwn
import Derived.Lib.AppendZeros
import Derived.Lib.UnsafeStr
import Derived.MapKept
set_option linter.unusedVariables false
set_option linter.unusedSimpArgs false
set_option maxRecDepth 512
set_option maxHeartbeats 200000
namespace Go.Proofs.YtdkpdjfimckdgaaGreatDoor
section
namespace V
open Go
variable {ds:List Deferred}
section
variable {P:Program}{env:Env}{H:List AObj}{dst:Option Tmp}{ty:TypeId}{pos:String}{after:Array Edge}{guard:Option (Nat×Bool)}
theorem cP4{w:World}(a:Addr)(i:Nat):(storeCells a [] i).run P w=.ok () w:=rfl
theorem b04{L:Tab}(hL:ac7 P L){t t2 e:TypeId}{G:Gh}{w:World}(hi:HInv G H w){k s:Nat}{xs ys:List AV}{v v2:Value}{y:AV}{z:Nat}(r:Rel G H w (.sl (.tok k) s xs) v){ot:Option TypeId}(hk:H[k]?=some (.grow s xs.length ot))(hot: ∀e',ot=some e'->e'=e)
  (r2:Rel G H w y v2) (hy:a09 y=some (z,ys)) (hz:ys≠[]->z=s) (ht:(L t).k=.slice e) (ht2:(∃e',(L t2).k=.slice e')\/(L t2).k=.str) (he:known (L e)=true) (hse:s=(L e).size) (hby:0 < (L e).bytes)
  (hroom:(xs.length+ys.length)*(L e).bytes<=140737488355328):
  ∃v' w' G',(Builtin.append_ #[t,t2] ty #[v,v2]).run P w=.ok v' w'/\HInv G' (H.set k (.grow s (xs.length+ys.length) ot)) w'/\Step G H w G' (H.set k (.grow s (xs.length+ys.length) ot)) w'/\Rel G' (H.set k (.grow s (xs.length+ys.length) ot)) w' (.sl (.tok k) s (xs++ys)) v':=by
 have hs:0 < s:=(hi.grow k s _ _ hk).1;have hu:=(hL t (by rw[ht];simp)).1
 rw[ht] at hu;simp only[ao0] at hu;obtain⟨_,ie,zv,hie,hisz,hiby,hzl,hzv,hzs,_⟩:=hL e (aj7 he);have hu2: ∃d,P.underlying t2=some d/\(∀q,d≠ .int q):=by
  rcases ht2 with⟨e',h⟩|h
  ·have:=(hL t2 (by rw[h];simp)).1
   rw[h] at this;exact⟨_,this,fun q=>by simp⟩
  ·have:=(hL t2 (by rw[h];simp)).1
   rw[h] at this;exact⟨_,this,fun q=>by simp⟩
 obtain⟨d2,hd2,hnint⟩:=hu2;obtain⟨hlen,huni2,vs,hvl,hvr,hfirst⟩:=br0 (P:=P) r2 hy hz hs;have hvl':vs.length=ys.length*s:=by rw[hvl,af5 fun x hx=>(huni2 x hx).1]
 have r':=r;cases r with
 |sl _ _ _ a len cap val hl hcap huni hc hr hf ha ho=>
 subst hl;obtain⟨n0,t0,hn0,_,hown⟩:=ho k rfl;rw[hk] at hn0;cases hn0
 have hown:=hown rfl;have hcap2:(G.own k).2=cap:=by rw[hown]
 have ha1:(G.own k).1=a:=by rw[hown]
 have huniAll: ∀x∈xs++ys,x.flat.length=s/\x.okv=true:=fun x hx=>by
  rcases aT2.1 hx with h|h
  ·exact huni x h
  ·exact huni2 x h
 have hxl:(aa2 xs).length=xs.length*s:=af5 fun x hx=>(huni x hx).1
 have hyl:(aa2 ys).length=ys.length*s:=af5 fun x hx=>(huni2 x hx).1
 by_cases hfit:xs.length+ys.length<=cap
 ·
  rcases bb9 ys.length with hm|hm
  ·have hnil:ys=[]:=aB0 hm
   subst hnil;have hvs0:vs=[]:=aB0 (by rw[hvl'];simp)
   subst hvs0;have hset:H.set k (.grow s (xs.length+([]:List AV).length) ot)=H:=by
    have:(H[k]'(aa0 hk))=.grow s xs.length ot:=by rw[xq1 (aa0 hk)] at hk;exact Option.some.inj hk
    simp only[List.length_nil,aD8];rw[<-this,List.set_getElem_self]
   rw[hset,List.append_nil];refine⟨.slice a xs.length cap,w,G,?_,hi,.refl _ _ _,r'⟩;have:=hfirst w (fun _=>rfl)
   simp only[List.length_nil] at this hlen;cases a with
   |none=>simp[Builtin.append_,run_underlying hu,ai9 hL (aj7 he),run_underlying hd2,hlen,hcap,<-hse,this]
   |some a=>simp[Builtin.append_,run_underlying hu,ai9 hL (aj7 he),run_underlying hd2,hlen,hcap,<-hse,this,cP4]
  ·obtain⟨_,_,hsp,_⟩:=hi.grow k s _ _ hk
   rw[hcap2,ha1] at hsp;obtain⟨b,off,arr,T,fr,rfl,hb,hsz,hj⟩:=hsp (by omega)
   have hle:(xs.length+ys.length)*s<=cap*s:=aG2 s hfit;have hms:(xs.length+ys.length)*s=xs.length*s+ys.length*s:=aA1 ..;obtain⟨w',hrun,hov⟩:=aA6 (P:=P) (off+xs.length*s) vs 0 w arr hb (fun v hv=>by
    obtain⟨j,hj'⟩:=ar7.1 hv;have hjl:j < (aa2 ys).length:=by rw[<-hvl];exact aa0 hj'
    exact(hvr j _ v (xq1 hjl) hj').2) (by rw[hvl'];omega) (fun j h1 h2=>(hj j (by omega) (by omega)).2)
   obtain⟨hi',hst,hnewc⟩:=df7 (m:=ys.length) hi hk ha1 hb (by rw[hcap2];exact hsz) (by rw[hcap2];exact hj) hm (by rw[hcap2];exact hfit) hvl' rfl hov
   refine⟨.slice (some ⟨b,off,none⟩) (xs.length+ys.length) cap,w',_,?_,hi',hst,?_⟩
   ·have:=hfirst w (fun _=>rfl)
    simp[Builtin.append_,run_underlying hu,ai9 hL (aj7 he),run_underlying hd2,hlen,hfit,<-hse,this,addr_add,hrun]
   ·refine .sl (.tok k) s _ _ _ _ (fun j=>if j < xs.length*s then val j else vs.getD (j - xs.length*s) undef) (by simp) hfit huniAll (fun j x e=>?_) (fun j x e=>?_) (fun e=>by cases e) (fun _=>rfl) (fun k' e=>?_)
    ·refine⟨b,off,rfl,?_⟩
     rw[ak4] at e;by_cases hjx:j < xs.length*s
     ·rw[xq4 (by omega)] at e
      obtain⟨b',off',ea,him,hw⟩:=hc j x e;cases ea
      rw[if_pos hjx];exact⟨.inl him,(hst.cell _ _ him).trans hw⟩
     ·rw[xq5 (by omega),hxl] at e
      rw[if_neg hjx];have hjy:j - xs.length*s < ys.length*s:=by rw[<-hyl];exact aa0 e
      refine⟨.inr ⟨rfl,by omega,by omega⟩,?_⟩
      have h3:=hnewc (j - xs.length*s) hjy;rw[show off+xs.length*s+(j - xs.length*s)=off+j by omega] at h3
      rw[h3];simp[List.getD,xq1 (show j - xs.length*s < vs.length by omega)]
    ·rw[ak4] at e
     by_cases hjx:j < xs.length*s
     ·rw[xq4 (by omega)] at e
      rw[if_pos hjx];exact(hr j x e).mono hst
     ·rw[xq5 (by omega),hxl] at e
      rw[if_neg hjx];have hjy:j - xs.length*s < vs.length:=by rw[hvl];exact aa0 e
      exact(hvr _ x _ e (by simp[List.getD,xq1 hjy])).1.mono hst
    ·cases e
     exact⟨xs.length+ys.length,ot,by simp[aa0 hk],by simp,fun _=>by rw[<-hown];rfl⟩
 ·
  have hm:0 < ys.length:=by omega
  have hneed:cap < xs.length+ys.length:=by omega
  have hnoov: ¬(Builtin.nextslicecap (xs.length+ys.length) cap*ie.bytes > 281474976710656):=by
   have:=growslice_fits (need:=xs.length+ys.length) (old:=cap) (bytes:=ie.bytes) hneed (by rw[hiby];exact hroom)
   omega
  have hbz:ie.bytes≠0:=by rw[hiby];omega
  have hold: ∃us:List Value,us.length=(aa2 xs).length/\(∀(j:Nat) x u,(aa2 xs)[j]?=some x->us[j]?=some u->Rel G H w x u)/\
    (∀w',(∀a,w'.cell? a=w.cell? a)->(Builtin.firstCells s xs.length (.slice a xs.length cap)).run P w'=.ok us.toArray w'):=by
   rcases bb9 xs.length with h0|h0
   ·have hnil:xs=[]:=aB0 h0
    subst hnil;refine⟨[],rfl,fun j x u e=>by simp[aa2] at e,fun w' _=>?_⟩
    cases a with
    |none=>simp[Builtin.firstCells]
    |some a=>simp[Builtin.firstCells,loadCells,loadCellsFrom]
   ·obtain⟨b,off,cap',ev,_,hcc⟩:=r'.sl_addr hs h0
    cases ev
    obtain⟨us,hl,h1,h2⟩:=aJ0 (G:=G) (H:=H) (w:=w) (b:=b) (off:=off) (aa2 xs) (fun j y e=>(hcc j y e).2)
    exact⟨us,hl,h2,fun w' hw'=>run_firstCells_some w' s xs.length ⟨b,off,none⟩ xs.length cap us (by rw[hl,hxl]) (fun j v e=>by rw[addr_add,hw'];exact h1 j v e)⟩
  obtain⟨us,hul,hur,hufirst⟩:=hold;have hcg:xs.length+ys.length<=grownCap w (xs.length+ys.length) cap e:=grownCap_ge w _ cap e;have hzsz:zv.cells.size=s:=by
   have:=(aB5 (H:=H) (G:=G) (w:=w) hzs).1;rw[this,hzl,hse]
  have hrest:(Builtin.zeroCells zv.cells (grownCap w (xs.length+ys.length) cap e - (xs.length+ys.length))).size=(grownCap w (xs.length+ys.length) cap e - (xs.length+ys.length))*s:=by
   simp[Builtin.zeroCells,hzsz]
  have harr:(us.toArray++vs.toArray++Builtin.zeroCells zv.cells (grownCap w (xs.length+ys.length) cap e - (xs.length+ys.length))).size=grownCap w (xs.length+ys.length) cap e*s:=by
   rw[bu2,bu2,hrest,aK9,aK9,hul,hvl,hxl,hyl,<-aA1,<-aA1];congr 1
   omega
  obtain⟨hi',hst,hcell⟩:=df6 (m:=ys.length) (e:=e) hi (More.refl w).drew rfl hk hm hcg harr hot;refine⟨.slice (some ⟨w.heap.size,0,none⟩) (xs.length+ys.length) (grownCap w (xs.length+ys.length) cap e),_,_,?_,hi',hst,?_⟩
  ·have hf1:=hufirst w.drew (fun _=>rfl)
   have hf2:=hfirst w.drew (fun _=>rfl)
   simp only[Builtin.append_,Sem.run_bind,run_underlying hu,ai9 hL (aj7 he),run_underlying hd2,Result.andThen_ok,Sem.run_pure,List.getElem?_toArray,List.getElem?_cons_zero,List.getElem?_cons_succ];simp only[Bool.false_eq_true,if_false,hlen,Result.andThen_ok,if_neg hfit,typeInfo,Sem.run_bind,run_program,hie,Sem.run_pure,hbz,false_or,and_false];simp only[show (2:Nat)^48=281474976710656 from rfl,if_neg hnoov,Sem.run_bind,Sem.run_pure,Result.andThen_ok,run_choose_drew,Question.forced,Bool.false_eq_true,if_false,run_askRoom,<-hse,zeroValue,typeInfo,run_program,hie,hzv,newRow,run_newObj_alloc]
   rw[show (Question.appendCap (xs.length+ys.length) cap e).cut (w.tape w.drawn (Question.appendCap (xs.length+ys.length) cap e))=grownCap w (xs.length+ys.length) cap e from rfl]
   simp[hf1,hf2]
   refine congrArg (fun c=>w.drew.alloc (Obj.cells c e)) ?_
   apply Array.ext'
   simp
  ·refine .sl (.tok k) s _ _ _ _ (fun j=>if j < xs.length*s then us.getD j undef else vs.getD (j - xs.length*s) undef) (by simp) hcg huniAll (fun j x e=>?_) (fun j x e=>?_) (fun e=>by cases e) (fun _=>rfl) (fun k' e=>?_)
   ·refine⟨w.heap.size,0,rfl,?_⟩
    rw[Nat.zero_add];have hjl:j < (xs.length+ys.length)*s:=by
     have:=aa0 e;rwa [ak4,List.length_append,hxl,hyl,<-aA1] at this
    refine⟨.inr ⟨rfl,hjl⟩,?_⟩;rw[hcell j];rw[aA1] at hjl;by_cases hjx:j < xs.length*s
    ·rw[if_pos hjx]
     rw[bu1 (by rw[bu2,aK9,aK9];omega),bu1 (by rw[aK9];omega)]
     simp[List.getD,xq1 (show j < us.length by omega)]
    ·rw[if_neg hjx]
     rw[bu1 (by rw[bu2,aK9,aK9];omega),cN5 (by rw[aK9];omega)]
     rw[aK9,hul,hxl];simp[List.getD,xq1 (show j - xs.length*s < vs.length by omega)]
   ·rw[ak4] at e
    by_cases hjx:j < xs.length*s
    ·rw[xq4 (by omega)] at e
     rw[if_pos hjx];exact(hur j x _ e (by simp[List.getD,xq1 (show j < us.length by omega)])).mono hst
    ·rw[xq5 (by omega),hxl] at e
     rw[if_neg hjx];have hjy:j - xs.length*s < vs.length:=by rw[hvl];exact aa0 e
     exact(hvr _ x _ e (by simp[List.getD,xq1 hjy])).1.mono hst
   ·cases e
    exact⟨xs.length+ys.length,ot,by simp[aa0 hk],by simp,fun _=>by simp[aV5]⟩
def ce8(o:Option AObj):Option TypeId:=
 match o with
 |some (.grow _ _ t)=>t
 |_=>none
def b48(t:Option TypeId)(e:TypeId):Prop:=
 match t with
 |none=>True
 |some e'=>e'=e
theorem cP0{s n:Nat}{t:Option TypeId}:ce8 (some (.grow s n t))=t:=rfl
theorem db2{e:TypeId}:b48 none e=True:=rfl
theorem db1{a e:TypeId}:b48 (some a) e=(a=e):=rfl
theorem db0{t:Option TypeId}{e:TypeId}(h:b48 t e): ∀e',t=some e'->e'=e:=fun e' h'=>by subst h';exact h
def bE6(H:List AObj)(o:Own)(z:Nat)(xs:List AV)(s:Nat)(e:TypeId):Prop:=
 match o with
 |.sh=>False
 |.full=>xs≠[]->z=s
 |.tok k=>z=s/\H[k]?=some (.grow s xs.length (ce8 H[k]?))/\b48 (ce8 H[k]?) e
def bF0(H:List AObj)(o:Own)(s n:Nat):Own×List AObj:=
 match o with
 |.tok k=>(.tok k,H.set k (.grow s n (ce8 H[k]?)))
 |_=>(.tok H.length,H++[.grow s n none])
def aI4:TK->Bool
 |.slice _|.str=>true
 |_=>false
theorem cY7{L:Tab}(hL:ac7 P L){t t2 e:TypeId}{x y:Operand}{K:AV->List AObj->Prop}{o:Own}{z z2:Nat}{xs ys:List AV}(hx:ev env x=.sl o z xs)(hy:a09 (ev env y)=some (z2,ys))(ht:(L t).k=.slice e)
  (hp:aI4 (L t2).k=true/\known (L e)=true/\0 < (L e).size/\0 < (L e).bytes/\bE6 H o z xs (L e).size e/\(ys≠[]->z2=(L e).size)/\(xs.length+ys.length)*(L e).bytes<=140737488355328)
  (hK:K (.sl (bF0 H o (L e).size (xs.length+ys.length)).1 (L e).size (xs++ys)) (bF0 H o (L e).size (xs.length+ys.length)).2):
  AOp P ⟨dst,.call {callee:=.builtin .append,args:= #[x,y],argTypes:= #[t,t2]},ty,pos,after,guard⟩ env H K:=.of_run fun n ds G a w s=>by
 obtain⟨h1,h2,h3,h4,h5,h6,h7⟩:=hp;have rx:=s.ev x;have ry:=s.ev y;rw[hx] at rx;have ht2:(∃e',(L t2).k=.slice e')\/(L t2).k=.str:=by
  cases hk:(L t2).k<;>simp_all [aI4]
 have hop: ∀v v2:Value,a.eval x=v->a.eval y=v2-> ∀v' w',(Builtin.append_ #[t,t2] ty #[v,v2]).run P w=.ok v' w'->
   (execOp a.eval ⟨dst,.call {callee:=.builtin .append,args:= #[x,y],argTypes:= #[t,t2]},ty,pos,after,guard⟩).run P w=.ok (.value v') w':=fun v v2 e1 e2 v' w' hr=>by
  simp[execOp,resolve,invoke,builtin,e1,e2,hr]
 cases o with
 |sh=>exact h5.elim
 |tok k=>
  obtain⟨hz,hk,hty⟩:=h5;subst hz;obtain⟨v',w',G',hrun,hi',hst,hrel⟩:=b04 (ty:=ty) hL s.inv rx hk (db0 hty) ry hy h6 ht ht2 h2 rfl h4 h7;exact⟨v',w',_,G',_,hop _ _ rfl rfl _ _ hrun,hi',hst,hrel,hK⟩
 |full=>
  generalize hv:a.eval x=v at rx;have rx0:=rx;cases rx with
  |sl _ _ _ ad len cap val hl=>
   obtain⟨hi1,st1,r1⟩:=b52 none s.inv rx0 h3 h5 (fun h=>absurd rfl h)
   have hk:(H++[AObj.grow (L e).size xs.length none])[H.length]?=some (.grow (L e).size xs.length none):=bo2;obtain⟨v',w',G',hrun,hi',hst,hrel⟩:=b04 (ty:=ty) hL hi1 r1 hk (fun e' h=>by cases h) (ry.mono st1) hy h6 ht ht2 h2 rfl h4 h7
   have hset:(H++[AObj.grow (L e).size xs.length none]).set H.length (.grow (L e).size (xs.length+ys.length) none)=H++[.grow (L e).size (xs.length+ys.length) none]:=by
    rw[az0 _ _ (xq0 _)];simp
   rw[hset] at hi' hst hrel;exact⟨v',w',_,G',_,hop _ _ hv rfl _ _ hrun,hi',st1.trans hst,hrel,hK⟩
end
end V
end
section
namespace V
open Go
variable {ds:List Deferred}
section
variable {P:Program}{env:Env}{H:List AObj}{dst:Option Tmp}{ty:TypeId}{pos:String}{after:Array Edge}{guard:Option (Nat×Bool)}
def b43:AV->Option (Prop×AV)
 |.ip x=>some (True,.ip x)
 |.mp k o=>some (True,.mp k o)
 |.fn (.func g) fs cs=>some (True,.fn (.func g) fs cs)
 |_=>none
theorem c54{x:Operand}{p:Prop}{z:AV}(h:b43 (ev env x)=some (p,z)):Still P ⟨dst,.nilCheck x,ty,pos,after,guard⟩ env H p z:=fun hp _ _ G a w s=>by
 have rx:=s.ev x;unfold b43 at h;split at h
 ·rename_i y e
  rw[e] at rx;cases h
  have rx0:=rx;generalize hv:a.eval x=v at rx;cases rx
  exact⟨_,by simp[execOp,hv],hv▸rx0⟩
 ·rename_i k o e
  rw[e] at rx;cases h
  have rx0:=rx;generalize hv:a.eval x=v at rx;cases rx
  exact⟨_,by simp[execOp,hv],hv▸rx0⟩
 ·rename_i g fs cs e
  rw[e] at rx;cases h
  have rx0:=rx;generalize hv:a.eval x=v at rx;cases rx
  exact⟨_,by simp[execOp,hv],hv▸rx0⟩
 ·cases h
theorem bJ7{n:Nat}{G:Gh}{a:Act}{w:World}(s:Sat n ds G env H a w)(xs:Array Operand):ax2 G H w (xs.toList.map (ev env)) (xs.map a.eval):=by
 refine⟨by simp,fun j x v e e'=>?_⟩
 simp only[xq7,ce4,aL0] at e e';cases h:xs[j]? with
 |none=>rw[h] at e;cases e
 |some y=>
  rw[h] at e e';cases e
  cases e'
  exact s.ev y
theorem b38{f:Fn}{fs cs:Array Operand}:Still P ⟨dst,.makeFunc f fs cs,ty,pos,after,guard⟩ env H True (.fn f (fs.toList.map (ev env)) (cs.toList.map (ev env))):=fun _ _ _ G a w s=>by
 have h1:=bJ7 s fs;have h2:=bJ7 s cs;exact⟨_,by simp[execOp,Instr.makeFunc],.fn f _ _ _ _ h1.1 h2.1 h1.2 h2.2⟩
def aH8(great:Bool):AV->AV->Option (Prop×AV)
 |.lit (.int k a),.lit (.int k' b)=>if k=k' then some (True,.int k (if great then max a b else min a b)) else none
 |_,_=>none
theorem c55{x y:Operand}{ats:Array TypeId}{p:Prop}{z:AV}(h:aH8 false (ev env x) (ev env y)=some (p,z)):Still P ⟨dst,.call {callee:=.builtin .min,args:= #[x,y],argTypes:=ats},ty,pos,after,guard⟩ env H p z:=fun hp _ _ G a w s=>by
 have rx:=s.ev x;have ry:=s.ev y;unfold aH8 at h;split at h
 ·rename_i k i k' j e1 e2
  rw[e1] at rx;rw[e2] at ry;have ex:=ac0 rx;have ey:=ac0 ry;split at h
  ·rename_i hk
   subst hk;cases h
   refine⟨.int k (min i j),?_,.lit _⟩;have:(if j < i then j else i)=min i j:=by rw[Int.min_def];split<;>split<;>omega
   simp[execOp,resolve,invoke,builtin,ex,ey,Builtin.min_,Builtin.min2,this]
  ·cases h
 ·cases h
theorem c56{x y:Operand}{ats:Array TypeId}{p:Prop}{z:AV}(h:aH8 true (ev env x) (ev env y)=some (p,z)):Still P ⟨dst,.call {callee:=.builtin .max,args:= #[x,y],argTypes:=ats},ty,pos,after,guard⟩ env H p z:=fun hp _ _ G a w s=>by
 have rx:=s.ev x;have ry:=s.ev y;unfold aH8 at h;split at h
 ·rename_i k i k' j e1 e2
  rw[e1] at rx;rw[e2] at ry;have ex:=ac0 rx;have ey:=ac0 ry;split at h
  ·rename_i hk
   subst hk;cases h
   refine⟨.int k (max i j),?_,.lit _⟩;have:(if i < j then j else i)=max i j:=by rw[Int.max_def];split<;>split<;>omega
   simp[execOp,resolve,invoke,builtin,ex,ey,Builtin.max_,Builtin.max2,this]
  ·cases h
 ·cases h
def b44(L:Tab)(t:TypeId):AV->Option (Prop×AV)
 |.msl _ _ _ cap=>match(L t).k with|.slice _=>some (True,.int .i64 cap)|_=>none
 |.sl .full _ xs=>match(L t).k with|.slice _=>some (True,.int .i64 xs.length)|_=>none
 |_=>none
theorem c58{L:Tab}(hL:ac7 P L){x:Operand}{t:TypeId}{p:Prop}{z:AV}(h:b44 L t (ev env x)=some (p,z)):Still P ⟨dst,.call {callee:=.builtin .cap,args:= #[x],argTypes:= #[t]},ty,pos,after,guard⟩ env H p z:=fun hp _ _ G a w s=>by
 have rx:=s.ev x;unfold b44 at h;split at h
 ·rename_i k off len cap e
  split at h
  ·rename_i te hk
   have hu:=(hL t (by rw[hk];simp)).1
   rw[hk] at hu;simp only[ao0] at hu;rw[e] at rx;cases h
   generalize hv:a.eval x=v at rx;cases rx
   refine⟨_,?_,.lit _⟩;simp[execOp,resolve,invoke,builtin,hv,Builtin.cap_,run_underlying hu,goInt]
  ·cases h
 ·rename_i z xs e
  split at h
  ·rename_i te hk
   have hu:=(hL t (by rw[hk];simp)).1
   rw[hk] at hu;simp only[ao0] at hu;rw[e] at rx;cases h
   generalize hv:a.eval x=v at rx;cases rx with
   |sl _ _ _ ad len cap val hl hcap hs hc hr hf=>
   have hc0:=hf rfl;subst hc0;refine⟨_,?_,.lit _⟩;simp[execOp,resolve,invoke,builtin,hv,Builtin.cap_,run_underlying hu,goInt,hl]
  ·cases h
 ·cases h
def br6(L:Tab)(t:TypeId)(x:AV):Option (Prop×AV):=
 match(L t).k with
 |.other|.one|.iface=>none
 |_=>some (True,.ifc t x)
theorem cz5{L:Tab}(hL:ac7 P L){x:Operand}{t:TypeId}{p:Prop}{z:AV}(h:br6 L t (ev env x)=some (p,z)):Still P ⟨dst,.makeInterface t x,ty,pos,after,guard⟩ env H p z:=fun hp _ _ G a w s=>by
 have rx:=s.ev x;unfold br6 at h;have key:(∃d,P.underlying t=some d/\ ∀ms,d≠ .interface ms)/\z=.ifc t (ev env x):=by
  have hk:=(hL t (by intro e;rw[e] at h;cases h)).1
  split at h
  ·cases h
  ·cases h
  ·cases h
  ·rename_i h1 h2 h3
   cases h
   refine⟨?_,rfl⟩;generalize hq:(L t).k=q at hk;cases q with
   |other=>exact absurd hq h1
   |one=>exact absurd hq h2
   |iface=>exact absurd hq h3
   |struct fs=>obtain⟨a,ha,_⟩:=hk;exact⟨_,ha,fun ms e=>by cases e⟩
   |_=>exact⟨_,hk,fun ms e=>by cases e⟩
 obtain⟨⟨d,hd,hne⟩,rfl⟩:=key;refine⟨.iface t (a.eval x),?_,.ifc t _ _ rx⟩;simp only[execOp,Instr.makeInterface,Sem.run_bind,run_underlying hd,Result.andThen_ok];cases d<;>simp_all
def br3(L:Tab)(t:TypeId)(x:AV):Option (Prop×AV):=
 match(L t).k,x with
 |.arr n _,.sl _ z xs=>some (0 < n/\n<=xs.length/\z=1,.ip (.agg ((aa2 xs).take n)))
 |_,_=>none
theorem cz2{L:Tab}(hL:ac7 P L){x:Operand}{t:TypeId}{p:Prop}{z:AV}(h:br3 L t (ev env x)=some (p,z)):Still P ⟨dst,.sliceToArrayPointer t x,ty,pos,after,guard⟩ env H p z:=fun hp _ _ G a w s=>by
 have rx:=s.ev x;unfold br3 at h;split at h
 ·rename_i n e o zz xs hk ex
  have hu:=(hL t (by rw[hk];simp)).1
  rw[hk] at hu;rw[ex] at rx;cases h
  obtain⟨p1,p2,p3⟩:=hp;subst p3;generalize hv:a.eval x=v at rx;cases rx with
  |sl _ _ _ ad len cap val hl hcap huni hc hr hf ha ho=>
  have hfl:(aa2 xs).length=xs.length:=by have:=af5 (s:=1) fun y hy=>(huni y hy).1;omega
  obtain⟨b,off,ea,_⟩:=hc 0 _ (xq1 (by omega))
  have hat: ∀(j:Nat) y,(AV.agg ((aa2 xs).take n)).flat[j]?=some y->(aa2 xs)[j]?=some y:=fun j y e=>by
   simp only[AV.flat,aB1] at e;split at e
   ·exact e
   ·cases e
  refine⟨.pointer ad,?_,?_⟩
  ·have hlt: ¬len < n:=by omega
   simp[execOp,hv,Instr.arrayAt,run_underlying hu,hlt]
  ·rw[ea]
   refine .ip _ b off val (fun j y e=>?_) (fun j y e=>hr j y (hat j y e))
   obtain⟨b',off',ea',q⟩:=hc j y (hat j y e);rw[ea] at ea';cases ea'
   exact q
 ·cases h
def ax1:Operand->Bool
 |.const (.slice none 0 0)=>true
 |_=>false
def bS3(L:Tab)(op:BinOp)(t:TypeId)(x:AV)(H:List AObj)(K:AV->List AObj->Prop)[Tag K]:Prop:=
 match(L t).k,op,x with
 |.slice _,.eql,.sl _ _ xs=>(xs≠[]->K (.bool false) H)/\(xs=[]-> ∀b,K (.bool b) H)
 |.slice _,.neq,.sl _ _ xs=>(xs≠[]->K (.bool true) H)/\(xs=[]-> ∀b,K (.bool b) H)
 |.slice _,.eql,.msl _ _ _ _=>K (.bool false) H
 |.slice _,.neq,.msl _ _ _ _=>K (.bool true) H
 |.slice _,.eql,.mrow _ _=>K (.bool false) H
 |.slice _,.neq,.mrow _ _=>K (.bool true) H
 |_,_,_=>False
theorem dZ2{L:Tab}(hL:ac7 P L){op:BinOp}{t t':TypeId}{x y:Operand}{K:AV->List AObj->Prop}(hy:ax1 y=true)(h:bS3 L op t (ev env x) H K):AOp P ⟨dst,.binOp op t x y t',ty,pos,after,guard⟩ env H K:=.of_run fun n ds G a w s=>by
 have ey:a.eval y=.slice none 0 0:=by
  unfold ax1 at hy;split at hy
  ·rfl
  ·cases hy
 have rx:=s.ev x;unfold bS3 at h;have fin: ∀(o:Option Addr) (len cap:Nat),a.eval x=.slice o len cap->(∃e,(L t).k=.slice e)->(op=.eql-> ∃z,z=AV.bool o.isNone/\K z H)->(op=.neq-> ∃z,z=AV.bool !o.isNone/\K z H)->(op=.eql\/op=.neq)->
   ∃v w' x' G' H',(execOp a.eval ⟨dst,.binOp op t x y t',ty,pos,after,guard⟩).run P w=.ok (.value v) w'/\HInv G' H' w'/\Step G H w G' H' w'/\Rel G' H' w' x' v/\K x' H':=fun o len cap ex ⟨e,hk⟩ h1 h2 h3=>by
  have hu:=(hL t (by rw[hk];simp)).1
  rw[hk] at hu;simp only[ao0] at hu;rcases h3 with rfl|rfl
  ·obtain⟨z,rfl,hK⟩:=h1 rfl
   exact⟨_,w,_,G,H,by simp[execOp,ex,ey,ag2,Lib.run_eql_slice_nil w t e o len cap 0 0 hu],s.inv,.refl _ _ _,.lit _,hK⟩
  ·obtain⟨z,rfl,hK⟩:=h2 rfl
   exact⟨_,w,_,G,H,by simp[execOp,ex,ey,ag2,Go.run_neq_slice_nil_any w t e o len cap 0 0 hu],s.inv,.refl _ _ _,.lit _,hK⟩
 split at h
 ·rename_i e o z xs hk ex
  rw[ex] at rx;generalize hv:a.eval x=v at rx;cases rx with
  |sl _ _ _ ad len cap val hl hcap hs hc hr hf ha ho=>
   refine fin ad len cap hv ⟨_,hk⟩ (fun _=>⟨_,rfl,?_⟩) (fun e=>by cases e) (.inl rfl)
   by_cases hx:xs=[]
   ·exact h.2 hx _
   ·have:=ha (by rw[hl];exact aD7.2 hx)
    cases ad with
    |none=>cases this
    |some _=>exact h.1 hx
 ·rename_i e o z xs hk ex
  rw[ex] at rx;generalize hv:a.eval x=v at rx;cases rx with
  |sl _ _ _ ad len cap val hl hcap hs hc hr hf ha ho=>
   refine fin ad len cap hv ⟨_,hk⟩ (fun e=>by cases e) (fun _=>⟨_,rfl,?_⟩) (.inr rfl)
   by_cases hx:xs=[]
   ·exact h.2 hx _
   ·have:=ha (by rw[hl];exact aD7.2 hx)
    cases ad with
    |none=>cases this
    |some _=>exact h.1 hx
 ·rename_i e k off len cap hk ex
  rw[ex] at rx;generalize hv:a.eval x=v at rx;cases rx
  exact fin _ _ _ hv ⟨_,hk⟩ (fun _=>⟨_,rfl,h⟩) (fun e=>by cases e) (.inl rfl)
 ·rename_i e k off len cap hk ex
  rw[ex] at rx;generalize hv:a.eval x=v at rx;cases rx
  exact fin _ _ _ hv ⟨_,hk⟩ (fun e=>by cases e) (fun _=>⟨_,rfl,h⟩) (.inr rfl)
 ·rename_i e k len hk ex
  rw[ex] at rx;generalize hv:a.eval x=v at rx;cases rx
  exact fin _ _ _ hv ⟨_,hk⟩ (fun _=>⟨_,rfl,h⟩) (fun e=>by cases e) (.inl rfl)
 ·rename_i e k len hk ex
  rw[ex] at rx;generalize hv:a.eval x=v at rx;cases rx
  exact fin _ _ _ hv ⟨_,hk⟩ (fun e=>by cases e) (fun _=>⟨_,rfl,h⟩) (.inr rfl)
 ·exact h.elim
end
end V
end
section
namespace V
open Go
variable {ds:List Deferred}
theorem aQ9{G:Gh}{H:List AObj}{w:World}(hi:HInv G H w){k:Nat}{sh:Shape}{cs:List AV}(hk:H[k]?=some (.cells sh cs)):site G H k=some (G.blk k):=by simp[site,hk]
theorem bB4{G:Gh}{H:List AObj}{w:World}(hi:HInv G H w){k:Nat}{sh:Shape}{cs:List AV}(hk:H[k]?=some (.cells sh cs)):HInv G (H.set k .gone) w/\Step G H w G (H.set k .gone) w:=by
 have hkl:=aa0 hk;have st:Step G H w G (H.set k .gone) w:=by
  refine⟨rfl,rfl,rfl,xq0 _,fun _ _ h=>h,fun _ _ _=>rfl,fun _ _=>rfl,fun i=>?_⟩
  cases ei:H[i]? with
  |none=>exact bs1 ei
  |some o=>
   by_cases hik:i=k
   ·subst hik
    rw[hk] at ei;cases ei
    exact⟨⟨.gone,by simp[hkl],rfl⟩,rfl,rfl⟩
   ·have ea:(H.set k .gone)[i]?=some o:=by rw[ar6 (fun h=>hik h.symm)];exact ei
    cases o with
    |cells t c=>exact⟨⟨_,ea,rfl⟩,rfl,rfl⟩
    |mo x=>exact⟨⟨_,ea,rfl⟩,rfl,rfl⟩
    |gone=>exact⟨ea,rfl,rfl⟩
    |loop r E=>exact⟨ea,rfl,rfl⟩
    |grow s n t=>exact⟨n,ea,xq0 _,fun _=>rfl⟩
 refine⟨⟨hi.lt,fun i sh' c ei=>?_,fun i s n t ei=>?_,fun i j b e1 e2=>?_,hi.tabs.step st fun i x e=>by
  rcases af6 e with⟨_,e⟩|⟨_,e,_⟩
  ·exact⟨e,rfl,fun _ h=>h⟩
  ·cases e⟩,st⟩
 ·rcases af6 ei with⟨hik,ei'⟩|⟨rfl,ei',_⟩
  ·obtain⟨arr,T,fr,hb,hs,hr,hf⟩:=hi.cells i sh' c ei'
   exact⟨arr,T,fr,hb,hs,fun j x v ex ev=>(hr j x v ex ev).mono st,hf⟩
  ·cases ei'
 ·rcases af6 ei with⟨hik,ei'⟩|⟨rfl,ei',_⟩
  ·exact hi.grow i s n t ei'
  ·cases ei'
 ·have hs: ∀i b,site G (H.set k .gone) i=some b->site G H i=some b:=fun i b e=>by
   unfold site at e⊢;cases ei:(H.set k AObj.gone)[i]? with
   |none=>rw[ei] at e;cases e
   |some o=>
    rw[ei] at e;rcases af6 ei with⟨_,ei'⟩|⟨rfl,ei',_⟩
    ·rw[ei'];exact e
    ·subst ei';cases e
  exact hi.apart i j b (hs i b e1) (hs j b e2)
theorem rename{G:Gh}{H:List AObj}{w:World}(hi:HInv G H w){k:Nat}{sh:Shape}{cs:List AV}(hk:H[k]?=some (.cells sh cs)){cs':List AV}(sh':Shape)(cap:Nat){arr:Array Value}{T:TypeId}{fr:Nat×Nat}
  (hb:w.heap[G.blk k]?=some (.cells arr T fr)) (hr:aH5 G H w cs' arr) (hsh:match sh' with|.one t=>T=t/\arr.size=cs'.length/\fr.2=0|.raw t=>T=t/\arr.size=cs'.length|.row s=>0 < s/\arr.size=cap*s|.prow s=>0 < s/\arr.size=cap*s/\fr.2=0):
  HInv (ae3 G H (G.blk k) cap) (H.set k .gone++[.cells sh' cs']) w/\Step G H w (ae3 G H (G.blk k) cap) (H.set k .gone++[.cells sh' cs']) w/\(ae3 G H (G.blk k) cap).blk H.length=G.blk k/\(ae3 G H (G.blk k) cap).own H.length=(none,cap):=by
 obtain⟨hi1,st1⟩:=bB4 hi hk;obtain⟨arr0,T0,fr0,hb0,hs0,hr0,hf1,hf2,_⟩:=hi.cells k sh cs hk;rw[hb] at hb0;cases hb0
 have hkl:=aa0 hk;have hlen:(H.set k .gone).length=H.length:=List.length_set ..;have hblk: ∀i,i≠H.length->(ae3 G H (G.blk k) cap).blk i=G.blk i:=fun i hi=>by simp[ae3,hi]
 have hown: ∀i,i≠H.length->(ae3 G H (G.blk k) cap).own i=G.own i:=fun i hi=>by simp[ae3,hi]
 have hnew:(ae3 G H (G.blk k) cap).blk H.length=G.blk k:=by simp[ae3]
 have hnewo:(ae3 G H (G.blk k) cap).own H.length=(none,cap):=by simp[ae3]
 have st2:Step G (H.set k .gone) w (ae3 G H (G.blk k) cap) (H.set k .gone++[.cells sh' cs']) w:=by
  refine⟨rfl,rfl,rfl,xq0 _,fun _ _ h=>h,fun _ _ _=>rfl,fun _ _=>rfl,fun i=>?_⟩
  cases ei:(H.set k AObj.gone)[i]? with
  |none=>exact bH5 ei (fun _ _ e=>by cases e)
  |some o=>
   have hil:=aa0 ei;rw[hlen] at hil;have ea:(H.set k .gone++[.cells sh' cs'])[i]?=some o:=by rw[xq4 (by rw[hlen];exact hil)];exact ei
   cases o with
   |cells t c=>exact⟨⟨_,ea,rfl⟩,hblk i (by omega),hown i (by omega)⟩
   |mo x=>exact⟨⟨_,ea,rfl⟩,hblk i (by omega),hown i (by omega)⟩
   |gone=>exact⟨ea,hblk i (by omega),hown i (by omega)⟩
   |loop r E=>exact⟨ea,hblk i (by omega),hown i (by omega)⟩
   |grow s n t=>exact⟨n,ea,xq0 _,fun _=>hown i (by omega)⟩
 have snoc: ∀{i:Nat} {o:AObj},(H.set k .gone++[.cells sh' cs'])[i]?=some o->(i < H.length/\(H.set k .gone)[i]?=some o)\/(i=H.length/\o=.cells sh' cs'):=fun {i o} e=>by
  rcases as7 e with h|h
  ·exact .inl ⟨by rw[<-hlen];exact h.1,h.2⟩
  ·exact .inr ⟨by rw[<-hlen];exact h.1,h.2⟩
 refine⟨⟨hi.lt,fun i sh1 c ei=>?_,fun i s n t ei=>?_,fun i j b e1 e2=>?_,hi1.tabs.step st2 fun i x e=>by
  rcases snoc e with⟨_,e⟩|⟨_,e⟩
  ·exact⟨e,rfl,fun _ h=>h⟩
  ·cases e⟩,st1.trans st2,hnew,hnewo⟩
 ·rcases snoc ei with⟨hil,ei'⟩|⟨rfl,ei'⟩
  ·obtain⟨arr1,T1,fr1,hb1,hs1,hr1,hg1,hg2,hg3⟩:=hi1.cells i sh1 c ei'
   rw[hblk i (by omega)]
   exact⟨arr1,T1,fr1,hb1,hs1,fun j x v ex ev=>(hr1 j x v ex ev).mono st2,hg1,hg2,aI5 (hown i (by omega)) hg3⟩
  ·cases ei'
   rw[hnew];refine⟨arr,T,fr,hb,hr.1,fun j x v ex ev=>(hr.2 j x v ex ev).mono (st1.trans st2),hf1,hf2,?_⟩
   unfold aS0;rw[hnewo];exact hsh
 ·rcases snoc ei with⟨hil,ei'⟩|⟨rfl,ei'⟩
  ·rw[hown i (by omega)]
   obtain⟨h1,h2,h3,h4⟩:=hi1.grow i s n t ei';exact⟨h1,h2,h3,aj1 h4 (hown i (by omega)) (xq0 _) (fun b arr e fr hb=>⟨arr,hb,rfl⟩) (fun _ _ _ _ _ _ _ _ _ hx _=>hx)⟩
  ·cases ei'
 ·have hs: ∀i b,site (ae3 G H (G.blk k) cap) (H.set k .gone++[.cells sh' cs']) i=some b->(i < H.length/\i≠k/\site G H i=some b)\/(i=H.length/\b=G.blk k):=fun i b e=>by
   unfold site at e;cases ei:(H.set k .gone++[.cells sh' cs'])[i]? with
   |none=>rw[ei] at e;cases e
   |some o=>
    rw[ei] at e;rcases snoc ei with⟨hil,ei'⟩|⟨rfl,ei'⟩
    ·left
     rcases af6 ei' with⟨hik,ei''⟩|⟨rfl,ei'',_⟩
     ·refine⟨hil,hik,?_⟩
      unfold site;rw[ei''];rw[hblk i (by omega),hown i (by omega)] at e
      exact e
     ·subst ei'';cases e
    ·right
     subst ei';simp only[hnew,Option.some.injEq] at e;exact⟨rfl,e.symm⟩
  rcases hs i b e1 with⟨h1,h2,h3⟩|⟨h1,h2⟩<;>rcases hs j b e2 with⟨h4,h5,h6⟩|⟨h4,h5⟩
  ·exact hi.apart i j b h3 h6
  ·subst h5
   exact absurd (hi.apart i k _ h3 (aQ9 hi hk)) h2
  ·subst h2
   exact absurd (hi.apart j k _ h6 (aQ9 hi hk)) h5
  ·omega
section
variable {P:Program}{env:Env}{H:List AObj}{dst:Option Tmp}{ty:TypeId}{pos:String}{after:Array Edge}{guard:Option (Nat×Bool)}
theorem bE9{L:Tab}(hL:ac7 P L){t t2 e:TypeId}{w:World}{a:Option Addr}{n cap m s:Nat}{v2:Value}{us vs:List Value}(ht:(L t).k=.slice e)(hd2: ∃d,P.underlying t2=some d/\ ∀q,d≠ .int q)(he:known (L e)=true)
  (hse:s=(L e).size) (hby:0 < (L e).bytes) (hroom:(n+m)*(L e).bytes<=140737488355328) (hfit:cap < n+m) (hlen: ∀w',(Builtin.lenOf v2).run P w'=.ok m w')
  (hu1:(Builtin.firstCells s n (.slice a n cap)).run P w.drew=.ok us.toArray w.drew) (hv1:(Builtin.firstCells s m v2).run P w.drew=.ok vs.toArray w.drew):
  ∃zc:Array Value,zc.size=(grownCap w (n+m) cap e - (n+m))*s/\
   (Builtin.append_ #[t,t2] ty #[.slice a n cap,v2]).run P w=.ok (.slice (some ⟨w.heap.size,0,none⟩) (n+m) (grownCap w (n+m) cap e)) (w.drew.alloc (.cells ((us++vs).toArray++zc) e)):=by
 have hu:=(hL t (by rw[ht];simp)).1
 rw[ht] at hu;simp only[ao0] at hu;obtain⟨_,ie,zv,hie,hisz,hiby,hzl,hzv,hzs,_⟩:=hL e (aj7 he);obtain⟨d2,hd2,hnint⟩:=hd2;have hnoov: ¬(Builtin.nextslicecap (n+m) cap*ie.bytes > 281474976710656):=by
  have:=growslice_fits (need:=n+m) (old:=cap) (bytes:=ie.bytes) hfit (by rw[hiby];exact hroom)
  omega
 have hbz:ie.bytes≠0:=by rw[hiby];omega
 have hzsz:zv.cells.size=s:=by
  have:=(aB5 (H:=[]) (G:=⟨fun _ _=>False,fun _=>0,fun _=>(none,0),fun _=>none⟩) (w:=w) hzs).1
  rw[this,hzl,hse]
 refine⟨Builtin.zeroCells zv.cells (grownCap w (n+m) cap e - (n+m)),by simp[Builtin.zeroCells,hzsz],?_⟩
 simp only[Builtin.append_,Sem.run_bind,run_underlying hu,ai9 hL (aj7 he),run_underlying hd2,Result.andThen_ok,Sem.run_pure,List.getElem?_toArray,List.getElem?_cons_zero,List.getElem?_cons_succ];simp only[Bool.false_eq_true,if_false,hlen,Result.andThen_ok,if_neg (show¬(n+m<=cap) by omega),typeInfo,Sem.run_bind,run_program,hie,Sem.run_pure,hbz,false_or,and_false]
 simp only[show (2:Nat)^48=281474976710656 from rfl,if_neg hnoov,Sem.run_bind,Sem.run_pure,Result.andThen_ok,run_choose_drew,Question.forced,Bool.false_eq_true,if_false,run_askRoom,<-hse,zeroValue,typeInfo,run_program,hie,hzv,newRow,run_newObj_alloc]
 rw[show (Question.appendCap (n+m) cap e).cut (w.tape w.drawn (Question.appendCap (n+m) cap e))=grownCap w (n+m) cap e from rfl]
 simp[hu1,hv1]
 refine congrArg (fun c=>w.drew.alloc (Obj.cells c e)) ?_
 apply Array.ext'
 simp
theorem cD8{G:Gh}{w:World}{o:Own}{s:Nat}{xs:List AV}{a:Option Addr}{n cap:Nat}(r:Rel G H w (.sl o s xs) (.slice a n cap))(hs:0 < s):
  ∃us:List Value,us.length=(aa2 xs).length/\(∀(j:Nat) x u,(aa2 xs)[j]?=some x->us[j]?=some u->Rel G H w x u)/\(∀w',(∀a,w'.cell? a=w.cell? a)->(Builtin.firstCells s xs.length (.slice a n cap)).run P w'=.ok us.toArray w'):=by
 have r':=r;cases r with
 |sl _ _ _ _ len _ val hl hcap huni hc hr hf ha ho=>
 rcases bb9 xs.length with h0|h0
 ·have hnil:xs=[]:=aB0 h0
  subst hnil;refine⟨[],rfl,fun j x u e=>by simp[aa2] at e,fun w' _=>?_⟩
  cases a with
  |none=>simp[Builtin.firstCells]
  |some a=>simp[Builtin.firstCells,loadCells,loadCellsFrom]
 ·obtain⟨b,off,cap',ev,_,hcc⟩:=r'.sl_addr hs h0
  cases ev
  obtain⟨us,hl',h1,h2⟩:=aJ0 (G:=G) (H:=H) (w:=w) (b:=b) (off:=off) (aa2 xs) (fun j y e=>(hcc j y e).2)
  exact⟨us,hl',h2,fun w' hw'=>run_firstCells_some w' s xs.length ⟨b,off,none⟩ _ cap us (by rw[hl',af5 fun x hx=>(huni x hx).1]) (fun j v e=>by rw[addr_add,hw'];exact h1 j v e)⟩
theorem aZ5{G:Gh}{w:World}(hi:HInv G H w){k off m s n cap:Nat}{sh:Shape}{cs:List AV}(hk:H[k]?=some (.cells sh cs))(hl:off+m*s<=cs.length):
  ∃us:List Value,us.length=m*s/\(∀(j:Nat) x u,((cs.drop off).take (m*s))[j]?=some x->us[j]?=some u->Rel G H w x u)/\(∀w',(∀a,w'.cell? a=w.cell? a)->(Builtin.firstCells s m (.slice (some ⟨G.blk k,off,none⟩) n cap)).run P w'=.ok us.toArray w'):=by
 obtain⟨arr,T,fr,hb,hsz,hr,hf1,hf2,hf3⟩:=hi.cells k sh cs hk;obtain⟨us,hul,h1,h2⟩:=aJ0 (G:=G) (H:=H) (w:=w) (b:=G.blk k) (off:=off) ((cs.drop off).take (m*s)) (fun j u e=>by
  rw[aB1] at e;split at e
  ·rw[aL2] at e
   have hj:=aa0 e;exact⟨arr[off+j],(aq7 hb).trans (xq2 (by omega)),hr _ _ _ e (xq2 (by omega))⟩
  ·cases e)
 have hlen:((cs.drop off).take (m*s)).length=m*s:=by rw[List.length_take,List.length_drop];omega
 exact⟨us,by rw[hul,hlen],h2,fun w' hw'=>run_firstCells_some w' s m ⟨G.blk k,off,none⟩ n cap us (by rw[hul,hlen]) (fun j v e=>by rw[addr_add,hw'];exact h1 j v e)⟩
theorem cI4{G:Gh}{w:World}(hi:HInv G H w){e:TypeId}{s n cap:Nat}(hs:0 < s){cs:List AV}{us:List Value}{zc:Array Value}(hl:us.length=cs.length)(hcs:cs.length=n*s)(hc:n<=cap)(hz:zc.size=(cap - n)*s)
  (hr: ∀(j:Nat) x u,cs[j]?=some x->us[j]?=some u->Rel G H w x u):
  ∃G',HInv G' (H++[.cells (.prow s) cs]) (w.drew.alloc (.cells (us.toArray++zc) e))/\Step G H w G' (H++[.cells (.prow s) cs]) (w.drew.alloc (.cells (us.toArray++zc) e))/\
   Rel G' (H++[.cells (.prow s) cs]) (w.drew.alloc (.cells (us.toArray++zc) e)) (.mrow H.length n) (.slice (some ⟨w.heap.size,0,none⟩) n cap):=by
 have hsz:(us.toArray++zc).size=cap*s:=by
  rw[bu2,aK9,hl,hcs,hz,<-aA1];congr 1
  omega
 have hrc:aH5 G H w cs (us.toArray++zc):=by
  refine⟨by rw[bu2,aK9,hl];omega,fun j x v e1 e2=>?_⟩
  have hj:=aa0 e1;rw[bu1 (by rw[aK9];omega)] at e2
  exact hr j x v e1 (by simpa using e2)
 obtain⟨hi',hst,hb,ho⟩:=aD0 hi (More.refl w).drew rfl hrc e (0,0) (.inr rfl) (.prow s) cap ⟨hs,hsz,rfl⟩;exact⟨_,hi',hst,bh5 hb (by rw[ho]) hc⟩
theorem bM6{L:Tab}(hL:ac7 P L){t2:TypeId}(h:aI4 (L t2).k=true): ∃d,P.underlying t2=some d/\ ∀q,d≠ .int q:=by
 have ht2:(∃e',(L t2).k=.slice e')\/(L t2).k=.str:=by
  cases hk:(L t2).k<;>simp_all [aI4]
 rcases ht2 with⟨e',h⟩|h
 ·have:=(hL t2 (by rw[h];simp)).1
  rw[h] at this;exact⟨_,this,fun q=>by simp⟩
 ·have:=(hL t2 (by rw[h];simp)).1
  rw[h] at this;exact⟨_,this,fun q=>by simp⟩
def aL4(L:Tab)(t t2:TypeId)(x y:AV)(H:List AObj)(K:AV->List AObj->Prop)[Tag K]:Prop:=
 match(L t).k,x,a09 y with
 |.slice e,.sl .full z xs,some (z2,ys)=>(aI4 (L t2).k=true/\known (L e)=true/\0 < (L e).size/\0 < (L e).bytes/\(xs≠[]->z=(L e).size)/\ys≠[]/\z2=(L e).size/\(xs.length+ys.length)*(L e).bytes<=140737488355328)/\
   K (.mrow H.length (xs.length+ys.length)) (H++[.cells (.prow (L e).size) (aa2 (xs++ys))])
 |_,_,_=>False
theorem cF2{L:Tab}(hL:ac7 P L){t t2:TypeId}{x y:Operand}{K:AV->List AObj->Prop}(h:aL4 L t t2 (ev env x) (ev env y) H K):
  AOp P ⟨dst,.call {callee:=.builtin .append,args:= #[x,y],argTypes:= #[t,t2]},ty,pos,after,guard⟩ env H K:=.of_run fun n ds G a w s=>by
 unfold aL4 at h;split at h
 ·rename_i e z xs z2 ys hk ex ey
  obtain⟨⟨h1,h2,h3,h4,h5,h6,h7,h8⟩,hK⟩:=h;have rx:=s.ev x;have ry:=s.ev y;rw[ex] at rx;have hop: ∀v v2:Value,a.eval x=v->a.eval y=v2-> ∀v' w',(Builtin.append_ #[t,t2] ty #[v,v2]).run P w=.ok v' w'->
    (execOp a.eval ⟨dst,.call {callee:=.builtin .append,args:= #[x,y],argTypes:= #[t,t2]},ty,pos,after,guard⟩).run P w=.ok (.value v') w':=fun v v2 e1 e2 v' w' hr=>by
   simp[execOp,resolve,invoke,builtin,e1,e2,hr]
  generalize hv:a.eval x=v at rx;have rx0:=rx;cases rx with
  |sl _ _ _ ad len cap val hl hcap huni hc hr hf ha ho=>
  have hcl:cap=len:=hf rfl;subst hcl;subst hl;have rx1:Rel G H w (.sl .full (L e).size xs) (.slice ad xs.length xs.length):=by
   by_cases hx:xs=[]
   ·subst hx
    exact .sl .full _ [] _ _ _ (fun _=>undef) rfl (xq0 _) (fun x hx=>by cases hx) (fun j x e=>by simp[aa2] at e) (fun j x e=>by simp[aa2] at e) (fun _=>rfl) (fun h=>absurd h (by simp)) (fun k e=>by cases e)
   ·rw[<-h5 hx];exact rx0
  obtain⟨us,hul,hur,hu1⟩:=cD8 (P:=P) rx1 h3;obtain⟨hlen,huni2,vs,hvl,hvr,hv1⟩:=br0 (P:=P) ry ey (fun _=>h7) h3
  have hyp:0 < ys.length:=aD7.2 h6;obtain⟨zc,hzc,hrun⟩:=bE9 (ty:=ty) (n:=xs.length) (cap:=xs.length) (m:=ys.length) hL hk (bM6 hL h1) h2 rfl h4 h8 (by omega) hlen (hu1 w.drew fun _=>rfl) (hv1 w.drew fun _=>rfl)
  have huniX:=rx1.sl_uni;have hfl:(aa2 (xs++ys)).length=(xs.length+ys.length)*(L e).size:=by
   rw[ak4,List.length_append,af5 huniX,af5 fun x hx=>(huni2 x hx).1,<-aA1]
  obtain⟨G',hi',hst,hrel⟩:=cI4 (e:=e) s.inv h3 (cs:=aa2 (xs++ys)) (us:=us++vs) (n:=xs.length+ys.length) (cap:=grownCap w (xs.length+ys.length) xs.length e) (by rw[ak4,List.length_append,List.length_append,hul,hvl]) hfl (grownCap_ge w _ _ e) hzc (fun j x u e1 e2=>by
   rw[ak4] at e1;by_cases hj:j < (aa2 xs).length
   ·rw[xq4 hj] at e1
    rw[xq4 (by rw[hul];exact hj)] at e2
    exact hur j x u e1 e2
   ·rw[xq5 (by omega)] at e1
    rw[xq5 (by omega),hul] at e2
    exact(hvr _ x u e1 e2).1)
  exact⟨_,_,_,G',_,hop _ _ hv rfl _ _ hrun,hi',hst,hrel,hK⟩
 ·exact h.elim
def aR7(L:Tab)(t t2:TypeId)(x y:AV)(H:List AObj)(K:AV->List AObj->Prop)[Tag K]:Prop:=
 match(L t).k,x,a09 y with
 |.slice e,.mrow k n,some (z2,ys)=>match H[k]? with
  |some (.cells (.prow s) cs)=>(aI4 (L t2).k=true/\known (L e)=true/\s=(L e).size/\0 < (L e).bytes/\cs.length=n*s/\(ys≠[]->z2=(L e).size)/\(n+ys.length)*(L e).bytes<=140737488355328)/\
   K (.mrow H.length (n+ys.length)) (H.set k .gone++[.cells (.prow s) (cs++aa2 ys)])
  |_=>False
 |_,_,_=>False
theorem cF1{L:Tab}(hL:ac7 P L){t t2:TypeId}{x y:Operand}{K:AV->List AObj->Prop}(h:aR7 L t t2 (ev env x) (ev env y) H K):
  AOp P ⟨dst,.call {callee:=.builtin .append,args:= #[x,y],argTypes:= #[t,t2]},ty,pos,after,guard⟩ env H K:=.of_run fun n0 ds G a w st=>by
 unfold aR7 at h;split at h
 ·rename_i e k n z2 ys hk ex ey
  split at h
  ·rename_i s cs ho
   obtain⟨⟨h1,h2,h3,h4,h5,h6,h8⟩,hK⟩:=h;have rx:=st.ev x;have ry:=st.ev y;rw[ex] at rx;have hkl:=aa0 ho;have hu:=(hL t (by rw[hk];simp)).1
   rw[hk] at hu;simp only[ao0] at hu;have hop: ∀v v2:Value,a.eval x=v->a.eval y=v2-> ∀v' w',(Builtin.append_ #[t,t2] ty #[v,v2]).run P w=.ok v' w'->
     (execOp a.eval ⟨dst,.call {callee:=.builtin .append,args:= #[x,y],argTypes:= #[t,t2]},ty,pos,after,guard⟩).run P w=.ok (.value v') w':=fun v v2 e1 e2 v' w' hr=>by
    simp[execOp,resolve,invoke,builtin,e1,e2,hr]
   obtain⟨arr,T,fr,hb,hsz,hr,hf1,hf2,hf3⟩:=st.inv.cells k _ cs ho;have hs:0 < s:=hf3.1;have hasz:arr.size=(G.own k).2*s:=hf3.2.1;generalize hv:a.eval x=v at rx;cases rx with
   |mrow _ _ o0 hk0 hb0 hcap=>
   obtain⟨hlen,huni2,vs,hvl,hvr,hv1⟩:=br0 (P:=P) ry ey h6 (by rw[<-h3];exact hs)
   rw[<-h3] at huni2 hv1;have hvl':vs.length=ys.length*s:=by rw[hvl,af5 fun x hx=>(huni2 x hx).1]
   have hfl:(cs++aa2 ys).length=(n+ys.length)*s:=by rw[List.length_append,h5,af5 fun x hx=>(huni2 x hx).1,aA1]
   by_cases hfit:n+ys.length<=(G.own k).2
   ·have hle:(n+ys.length)*s<=(G.own k).2*s:=aG2 s hfit
    rw[aA1] at hle;obtain⟨w',hst,hov⟩:=aA6 (P:=P) (n*s) vs 0 w arr hb (fun v hv=>by
     obtain⟨j,hj'⟩:=ar7.1 hv;have hjl:j < (aa2 ys).length:=by rw[<-hvl];exact aa0 hj'
     exact(hvr j _ v (xq1 hjl) hj').2) (by rw[hvl',hasz];omega) (fun j _ h7=>hf2 j (by rw[hasz];omega))
    obtain⟨g1,g2⟩:=Great.foldl_set (n*s) vs 0 arr;have hrel:aH5 G H w (cs++aa2 ys) ((vs.zipIdx 0).foldl (fun cs (x:Value×Nat)=>cs.setIfInBounds (n*s+x.2) x.1) arr):=by
     refine⟨by rw[g1,hfl,hasz,aA1];exact hle,fun j x v e1 e2=>?_⟩
     rw[g2 j] at e2;simp only[aD8] at e2;by_cases hj:j < cs.length
     ·rw[xq4 hj] at e1
      rw[if_neg (by omega)] at e2
      exact hr j x v e1 e2
     ·rw[xq5 (by omega)] at e1
      have hjl:=aa0 e1;rw[if_pos (by rw[hvl,hasz];rw[af5 fun x hx=>(huni2 x hx).1] at hjl⊢;omega)] at e2
      rw[h5] at e1;exact(hvr _ x v e1 e2).1
    obtain⟨hi1,st1⟩:=aV2 st.inv ho (fun h=>absurd rfl (h s).2) hb g1 hov hrel
    have hget:(H.set k (.cells (.prow s) (cs++aa2 ys)))[k]?=some (.cells (.prow s) (cs++aa2 ys)):=by simp[hkl]
    obtain⟨hi2,st2,hb2,ho2⟩:=rename hi1 hget (.prow s) (G.own k).2 hov.row (cs':=cs++aa2 ys) ⟨hrel.1,fun j x v e1 e2=>(hrel.2 j x v e1 e2).mono st1⟩ ⟨hs,by rw[g1];exact hasz,hf3.2.2⟩
    have hss:(H.set k (.cells (.prow s) (cs++aa2 ys))).set k .gone=H.set k .gone:=by simp
    rw[hss] at hi2 st2;have hll:(H.set k (.cells (.prow s) (cs++aa2 ys))).length=H.length:=by simp
    rw[hll] at hb2 ho2;refine⟨.slice (some ⟨G.blk k,0,none⟩) (n+ys.length) (G.own k).2,w',_,_,_,hop _ _ hv rfl _ _ ?_,hi2,st1.trans st2,?_,hK⟩
    ·have:=hv1 w (fun _=>rfl)
     obtain⟨d2,hd2,hnint⟩:=bM6 hL h1;simp[Builtin.append_,run_underlying hu,ai9 hL (aj7 h2),run_underlying hd2,hlen,hfit,<-h3,this,addr_add,hst]
    ·have hml:(H.set k .gone).length=H.length:=by simp
     have:=bh5 (G:=ae3 G (H.set k (AObj.cells (Shape.prow s) (cs++aa2 ys))) (G.blk k) (G.own k).2) (H:=H.set k .gone) (w:=w') (sh:=.prow s) (cs:=cs++aa2 ys) (b:=G.blk k) (cap:=(G.own k).2) (len:=n+ys.length) (by rw[hml];exact hb2) (by rw[hml,ho2]) hfit
     rwa [hml] at this
   ·obtain⟨us,hul,hur,hu1⟩:=aZ5 (P:=P) st.inv ho (off:=0) (m:=n) (s:=s) (n:=n) (cap:=(G.own k).2) (by omega)
    rw[List.drop_zero,aF0 (by omega)] at hur
    obtain⟨zc,hzc,hrun⟩:=bE9 (ty:=ty) (n:=n) (cap:=(G.own k).2) (m:=ys.length) hL hk (bM6 hL h1) h2 h3 h4 h8 (by omega) hlen (hu1 w.drew fun _=>rfl) (hv1 w.drew fun _=>rfl)
    obtain⟨G',hi',hst,hrel⟩:=cI4 (e:=e) st.inv hs (cs:=cs++aa2 ys) (us:=us++vs) (n:=n+ys.length) (cap:=grownCap w (n+ys.length) (G.own k).2 e) (by rw[List.length_append,List.length_append,hul,hvl,h5]) hfl (grownCap_ge w _ _ e) hzc (fun j x u e1 e2=>by
     by_cases hj:j < cs.length
     ·rw[xq4 hj] at e1
      rw[xq4 (by omega)] at e2
      exact hur j x u e1 e2
     ·rw[xq5 (by omega)] at e1
      rw[xq5 (by omega),hul,<-h5] at e2
      exact(hvr _ x u e1 e2).1)
    obtain⟨hi2,st2⟩:=bB4 (k:=k) hi' (sh:=.prow s) (cs:=cs) (by rw[xq4 hkl];exact ho)
    rw[bf8 _ _ hkl] at hi2 st2;exact⟨_,_,_,G',_,hop _ _ hv rfl _ _ hrun,hi2,hst.trans st2,hrel.mono st2,hK⟩
  ·exact h.elim
 ·exact h.elim
def a99(L:Tab)(t t2:TypeId)(x y:AV)(H:List AObj)(K:AV->List AObj->Prop)[Tag K]:Prop:=
 match(L t).k,(L t2).k,x,y with
 |.slice e,.int .i64,.msl k off n cap,.lit (.int _ c)=>match H[k]? with
  |some (.cells _ cs)=>(known (L e)=true/\0 < (L e).size/\0 < (L e).bytes/\off+n*(L e).size<=cs.length/\0<=c/\(cap:Int) < n+c/\((n:Int)+c)*(L e).bytes<=140737488355328)/\
   ∀z,K (.msl H.length 0 (n+c.toNat) (n+c.toNat+z)) (H++[.cells (.raw e) ((cs.drop off).take (n*(L e).size)++List.replicate ((c.toNat+z)*(L e).size) .any)])
  |_=>False
 |.slice e,tk,.msl k off n cap,y=>match H[k]?,a09 y with
  |some (.cells sh cs),some (z2,ys)=>(aI4 tk=true/\known (L e)=true/\0 < (L e).size/\off+(n+ys.length)*(L e).size<=cs.length/\(ys≠[]->z2=(L e).size)/\n+ys.length<=cap)/\
   K (.msl k off (n+ys.length) cap) (H.set k (.cells sh (af4 cs (off+n*(L e).size) (aa2 ys))))
  |_,_=>False
 |_,_,_,_=>False
theorem cF0{L:Tab}(hL:ac7 P L){t t2:TypeId}{x y:Operand}{K:AV->List AObj->Prop}(h:a99 L t t2 (ev env x) (ev env y) H K):
  AOp P ⟨dst,.call {callee:=.builtin .append,args:= #[x,y],argTypes:= #[t,t2]},ty,pos,after,guard⟩ env H K:=.of_run fun n0 ds G a w st=>by
 unfold a99 at h;split at h
 ·rename_i e k off n cap q c hk hk2 ex ey
  split at h
  ·rename_i sh cs ho
   obtain⟨⟨h1,h2,h3,h4,h5,h6,h7⟩,hK⟩:=h;have rx:=st.ev x;have ry:=st.ev y;rw[ex] at rx;rw[ey] at ry;have hy:=ac0 ry;have hu:=(hL t (by rw[hk];simp)).1
   rw[hk] at hu;simp only[ao0] at hu;have hu2:=(hL t2 (by rw[hk2];simp)).1
   rw[hk2] at hu2;simp only[ao0] at hu2;obtain⟨_,ie,zv,hie,hisz,hiby,hzl,hzv,hzs,_⟩:=hL e (aj7 h1);generalize hv:a.eval x=v at rx;cases rx with
   |msl _ _ _ _ o0 hk0 hb0 hcap=>
   obtain⟨us,hul,hur,hu1⟩:=aZ5 (P:=P) st.inv ho (off:=off) (m:=n) (s:=(L e).size) (n:=n) (cap:=cap) h4;have hzsz:zv.cells.size=(L e).size:=by
    have:=(aB5 (H:=[]) (G:=G) (w:=w) hzs).1;rw[this,hzl]
   obtain⟨m,rfl⟩: ∃m:Nat,c=m:=⟨c.toNat,by omega⟩
   simp only[Int.toNat_natCast] at hK;have hroom:(n+m)*ie.bytes<=140737488355328:=by
    have e1:((n:Int)+(m:Int))*((L e).bytes:Int)=(((n+m)*(L e).bytes:Nat):Int):=by rw[b30,Int.natCast_add]
    rw[e1] at h7;rw[hiby];omega
   have hb1:1<=ie.bytes:=by rw[hiby];exact h3
   have hm64:n+m<=140737488355328:=aE0 (Nat.le_mul_of_pos_right _ hb1) hroom;have hmb:m*ie.bytes<=140737488355328:=aE0 (aG2 _ (by omega)) hroom
   have hw:IntKind.i64.wrap (m:Int)=m:=by rw[IntKind.wrap_i64];omega
   have hnoov: ¬(281474976710656 < Builtin.nextslicecap (n+m) cap*ie.bytes):=by
    have:=growslice_fits (need:=n+m) (old:=cap) (bytes:=ie.bytes) (by omega) hroom
    omega
   have hnm: ¬(281474976710656 < (m:Int)*(ie.bytes:Int)):=by rw[<-b30];omega
   have hneg: ¬((m:Int) < 0):=by omega
   have hmp:0 < m:=by omega
   have hns: ¬(m*ie.size=0):=Nat.mul_ne_zero (by omega) (by rw[hisz];omega)
   have h63: ¬(9223372036854775807 < ((n:Int)+(m:Int))):=by omega
   have hbz:ie.bytes≠0:=by omega
   have hu1':=hu1 w.drew fun _=>rfl
   rw[<-hisz] at hu1';have hrun:(Builtin.append_ #[t,t2] ty #[.slice (some ⟨G.blk k,off,none⟩) n cap,.int q m]).run P w=
     .ok (.slice (some ⟨w.heap.size,0,none⟩) (n+m) (grownCap w (n+m) cap e)) (w.drew.alloc (.cells (us.toArray++Builtin.zeroCells zv.cells m++Builtin.zeroCells zv.cells (grownCap w (n+m) cap e - (n+m))) e)):=by
    have hfit: ¬(n+m<=cap):=by omega
    simp[Builtin.append_,run_underlying hu,run_underlying hu2,sizeOf,typeInfo,zeroValue,hie,hzv,asInt,asIntOf,hw,hneg,hns,h63,hnoov,hnm,Question.forced,newRow,grownCap,hfit,hu1',hbz]
   have hcg:n+m<=grownCap w (n+m) cap e:=grownCap_ge w _ cap e;have hK':=hK (grownCap w (n+m) cap e - (n+m));rw[show n+m+(grownCap w (n+m) cap e - (n+m))=grownCap w (n+m) cap e by omega] at hK'
   have hz1:(Builtin.zeroCells zv.cells m).size=m*(L e).size:=by simp[Builtin.zeroCells,hzsz]
   have hz2:(Builtin.zeroCells zv.cells (grownCap w (n+m) cap e - (n+m))).size=(grownCap w (n+m) cap e - (n+m))*(L e).size:=by simp[Builtin.zeroCells,hzsz]
   have hdl:((cs.drop off).take (n*(L e).size)).length=n*(L e).size:=by rw[List.length_take,List.length_drop];omega
   have hsz:(us.toArray++Builtin.zeroCells zv.cells m++Builtin.zeroCells zv.cells (grownCap w (n+m) cap e - (n+m))).size=((cs.drop off).take (n*(L e).size)++List.replicate ((m+(grownCap w (n+m) cap e - (n+m)))*(L e).size) AV.any).length:=by
    rw[bu2,bu2,aK9,hul,hz1,hz2,List.length_append,List.length_replicate,hdl,aA1];omega
   have hrc:aH5 G H w ((cs.drop off).take (n*(L e).size)++List.replicate ((m+(grownCap w (n+m) cap e - (n+m)))*(L e).size) AV.any) (us.toArray++Builtin.zeroCells zv.cells m++Builtin.zeroCells zv.cells (grownCap w (n+m) cap e - (n+m))):=by
    refine⟨aQ7 hsz.symm,fun j x v e1 e2=>?_⟩
    by_cases hj:j < n*(L e).size
    ·rw[xq4 (by omega)] at e1
     rw[Array.append_assoc,bu1 (by rw[aK9];omega)] at e2
     exact hur j x v e1 (by simpa using e2)
    ·rw[xq5 (by omega)] at e1
     rw[b29] at e1;split at e1
     ·cases e1;exact .any _
     ·cases e1
   obtain⟨hi',hst,hb,_⟩:=aD0 st.inv (More.refl w).drew rfl hrc e (0,0) (.inr rfl) (.raw e) 0 ⟨rfl,hsz⟩;refine⟨.slice (some ⟨w.heap.size,0,none⟩) (n+m) (grownCap w (n+m) cap e),_,_,_,_,?_,hi',hst,?_,hK'⟩
   ·simp[execOp,resolve,invoke,builtin,hv,hy,hrun]
   ·have:=Rel.msl (G:=ae3 G H w.heap.size 0) (H:=H++[.cells (.raw e) ((cs.drop off).take (n*(L e).size)++List.replicate ((m+(grownCap w (n+m) cap e - (n+m)))*(L e).size) AV.any)]) (w:=w.drew.alloc (.cells (us.toArray++Builtin.zeroCells zv.cells m++Builtin.zeroCells zv.cells (grownCap w (n+m) cap e - (n+m))) e (0,0)))
     H.length 0 (n+m) (grownCap w (n+m) cap e) _ bo2 rfl hcg
    rw[hb] at this;exact this
  ·exact h.elim
 ·rename_i e k off n cap hk ex hy0
  split at h
  ·rename_i sh cs z2 ys ho hsrc
   obtain⟨⟨h1,h2,h3,h4,h5,h6⟩,hK⟩:=h;have rx:=st.ev x;have ry:=st.ev y;rw[ex] at rx;have hu:=(hL t (by rw[hk];simp)).1
   rw[hk] at hu;simp only[ao0] at hu;have ht2:(∃e',(L t2).k=.slice e')\/(L t2).k=.str:=by
    cases hq:(L t2).k<;>simp_all [aI4]
   obtain⟨d2,hd2,hnint⟩: ∃d,P.underlying t2=some d/\(∀q,d≠ .int q):=by
    rcases ht2 with⟨e',h⟩|h
    ·have:=(hL t2 (by rw[h];simp)).1
     rw[h] at this;exact⟨_,this,fun q=>by simp⟩
    ·have:=(hL t2 (by rw[h];simp)).1
     rw[h] at this;exact⟨_,this,fun q=>by simp⟩
   obtain⟨hlen,huni2,vs,hvl,hvr,hfirst⟩:=br0 (P:=P) ry hsrc h5 h3;have hvl':vs.length=ys.length*(L e).size:=by rw[hvl,af5 fun x hx=>(huni2 x hx).1]
   obtain⟨arr,T,fr,hb,hsz,hr,hf1,hf2,hf3⟩:=st.inv.cells k sh cs ho;have hms:(n+ys.length)*(L e).size=n*(L e).size+ys.length*(L e).size:=aA1 ..;generalize hv:a.eval x=v at rx;cases rx with
   |msl _ _ _ _ o0 hk0 hb0 hcap=>
   obtain⟨w',hst,hov⟩:=aA6 (P:=P) (off+n*(L e).size) vs 0 w arr hb (fun v hv=>by
    obtain⟨j,hj'⟩:=ar7.1 hv;have hjl:j < (aa2 ys).length:=by rw[<-hvl];exact aa0 hj'
    exact(hvr j _ v (xq1 hjl) hj').2) (by omega) (fun j _ _=>hf2 j (by omega))
   have hrel:=bc7 (off:=off+n*(L e).size) (xs:=aa2 ys) (vs:=vs) ⟨hsz,hr⟩ (by omega) (fun j x u e e'=>(hvr j x u e e').1)
   obtain⟨hi',st'⟩:=aV2 st.inv ho (fun _=>by rw[ap2]) hb (bo7 ..) hov hrel
   have hfst:=hfirst w (fun _=>rfl)
   refine⟨.slice (some ⟨G.blk k,off,none⟩) (n+ys.length) cap,w',_,G,_,?_,hi',st',.msl k off _ _ _ (aA0 (aa0 ho)) rfl h6,hK⟩;simp[execOp,resolve,invoke,builtin,hv,Builtin.append_,run_underlying hu,ai9 hL (aj7 h2),run_underlying hd2,hlen,h6,hfst,addr_add,hst]
  ·exact h.elim
 ·exact h.elim
def ba0(L:Tab)(t t2:TypeId)(x y:AV)(H:List AObj)(K:AV->List AObj->Prop)[Tag K]:Prop:=
 match(L t).k,(L t2).k,x,y with
 |.slice e,.int .i64,.sl .full _ [],.lit (.int _ c)=>(known (L e)=true/\0 < (L e).size/\0 < (L e).bytes/\0 < c/\c*(L e).bytes<=140737488355328)/\
   ∀z,K (.msl H.length 0 c.toNat (c.toNat+z)) (H++[.cells (.raw e) (List.replicate ((c.toNat+z)*(L e).size) .any)])
 |_,_,_,_=>False
theorem cF3{L:Tab}(hL:ac7 P L){t t2:TypeId}{x y:Operand}{K:AV->List AObj->Prop}(h:ba0 L t t2 (ev env x) (ev env y) H K):
  AOp P ⟨dst,.call {callee:=.builtin .append,args:= #[x,y],argTypes:= #[t,t2]},ty,pos,after,guard⟩ env H K:=.of_run fun n0 ds G a w st=>by
 unfold ba0 at h;split at h
 ·rename_i e z0 q c hk hk2 ex ey
  obtain⟨⟨h1,h2,h3,h5,h7⟩,hK⟩:=h;have rx:=st.ev x;have ry:=st.ev y;rw[ex] at rx;rw[ey] at ry;have hy:=ac0 ry;have hu:=(hL t (by rw[hk];simp)).1
  rw[hk] at hu;simp only[ao0] at hu;have hu2:=(hL t2 (by rw[hk2];simp)).1
  rw[hk2] at hu2;simp only[ao0] at hu2;obtain⟨_,ie,zv,hie,hisz,hiby,hzl,hzv,hzs,_⟩:=hL e (aj7 h1);have hzsz:zv.cells.size=(L e).size:=by
   have:=(aB5 (H:=[]) (G:=G) (w:=w) hzs).1;rw[this,hzl]
  obtain⟨m,rfl⟩: ∃m:Nat,c=m:=⟨c.toNat,by omega⟩
  simp only[Int.toNat_natCast] at hK;have hroom:m*ie.bytes<=140737488355328:=by
   have e1:(m:Int)*((L e).bytes:Int)=((m*(L e).bytes:Nat):Int):=by rw[b30]
   rw[e1] at h7;rw[hiby];omega
  have hb1:1<=ie.bytes:=by rw[hiby];exact h3
  have hm64:m<=140737488355328:=aE0 (Nat.le_mul_of_pos_right _ hb1) hroom;have hw:IntKind.i64.wrap (m:Int)=m:=by rw[IntKind.wrap_i64];omega
  have hnoov: ¬(281474976710656 < Builtin.nextslicecap m 0*ie.bytes):=by
   have:=growslice_fits (need:=m) (old:=0) (bytes:=ie.bytes) (by omega) hroom
   omega
  have hnm: ¬(281474976710656 < (m:Int)*(ie.bytes:Int)):=by rw[<-b30];omega
  have hneg: ¬((m:Int) < 0):=by omega
  have hmp:0 < m:=by omega
  have hns: ¬(m*ie.size=0):=Nat.mul_ne_zero (by omega) (by rw[hisz];omega)
  have h63: ¬(9223372036854775807 < (m:Int)):=by omega
  have hbz:ie.bytes≠0:=by omega
  have hm0:m≠0:=by omega
  generalize hv:a.eval x=v at rx;cases rx with
  |sl _ _ _ ad len cap val hl hcap hs hc hr hf=>
  simp only[List.length_nil] at hl;subst hl;have hc0:cap=0:=hf rfl;subst hc0;have hrun:(Builtin.append_ #[t,t2] ty #[.slice ad 0 0,.int q m]).run P w=
    .ok (.slice (some ⟨w.heap.size,0,none⟩) m (grownCap w m 0 e)) (w.drew.alloc (.cells (Builtin.zeroCells zv.cells m++Builtin.zeroCells zv.cells (grownCap w m 0 e - m)) e)):=by
   cases ad with
   |none=>simp[Builtin.append_,run_underlying hu,run_underlying hu2,sizeOf,typeInfo,zeroValue,hie,hzv,asInt,asIntOf,hw,hneg,hns,h63,hnoov,hnm,Question.forced,newRow,grownCap,hbz,hm0,Builtin.firstCells]
   |some ad=>simp[Builtin.append_,run_underlying hu,run_underlying hu2,sizeOf,typeInfo,zeroValue,hie,hzv,asInt,asIntOf,hw,hneg,hns,h63,hnoov,hnm,Question.forced,newRow,grownCap,hbz,hm0,Builtin.firstCells,loadCells,loadCellsFrom]
  have hcg:m<=grownCap w m 0 e:=grownCap_ge w _ 0 e;have hK':=hK (grownCap w m 0 e - m);rw[show m+(grownCap w m 0 e - m)=grownCap w m 0 e by omega] at hK'
  have hz1:(Builtin.zeroCells zv.cells m).size=m*(L e).size:=by simp[Builtin.zeroCells,hzsz]
  have hz2:(Builtin.zeroCells zv.cells (grownCap w m 0 e - m)).size=(grownCap w m 0 e - m)*(L e).size:=by simp[Builtin.zeroCells,hzsz]
  have hsz:(Builtin.zeroCells zv.cells m++Builtin.zeroCells zv.cells (grownCap w m 0 e - m)).size=(List.replicate (grownCap w m 0 e*(L e).size) AV.any).length:=by
   rw[bu2,hz1,hz2,List.length_replicate,<-aA1];congr 1
   omega
  have hrc:aH5 G H w (List.replicate (grownCap w m 0 e*(L e).size) AV.any) (Builtin.zeroCells zv.cells m++Builtin.zeroCells zv.cells (grownCap w m 0 e - m)):=by
   refine⟨aQ7 hsz.symm,fun j x v e1 e2=>?_⟩
   rw[b29] at e1;split at e1
   ·cases e1;exact .any _
   ·cases e1
  obtain⟨hi',hst,hb,_⟩:=aD0 st.inv (More.refl w).drew rfl hrc e (0,0) (.inr rfl) (.raw e) 0 ⟨rfl,hsz⟩;refine⟨.slice (some ⟨w.heap.size,0,none⟩) m (grownCap w m 0 e),_,_,_,_,?_,hi',hst,?_,hK'⟩
  ·simp[execOp,resolve,invoke,builtin,hv,hy,hrun]
  ·have:=Rel.msl (G:=ae3 G H w.heap.size 0) (H:=H++[.cells (.raw e) (List.replicate (grownCap w m 0 e*(L e).size) AV.any)]) (w:=w.drew.alloc (.cells (Builtin.zeroCells zv.cells m++Builtin.zeroCells zv.cells (grownCap w m 0 e - m)) e (0,0)))
    H.length 0 m (grownCap w m 0 e) _ bo2 rfl hcg
   rw[hb] at this;exact this
 ·exact h.elim
def bI7(H:List AObj)(s dn:Nat)(y:AV):Option (Prop×Nat×List AV):=
 match y with
 |.msl k off n _=>match H[k]? with
  |some (.cells _ cs)=>some (off+n*s<=cs.length/\(((cs.drop off).take (min n dn*s)).all AV.scalar=true),min n dn,(cs.drop off).take (min n dn*s))
  |_=>none
 |y=>match a09 y with
  |some (z,ys)=>some ((ys≠[]->z=s)/\ys.length<=dn,ys.length,aa2 ys)
  |none=>none
theorem cE2{G:Gh}{w:World}(hi:HInv G H w){s dn:Nat}(hs:0 < s){y:AV}{v:Value}(ry:Rel G H w y v){p:Prop}{m:Nat}{zs:List AV}(h:bI7 H s dn y=some (p,m,zs))(hp:p):
  ∃len,(Builtin.lenOf v).run P w=.ok len w/\Nat.min len dn=m/\m<=dn/\zs.length=m*s/\ ∃vs:List Value,vs.length=m*s/\(∀(j:Nat) x u,zs[j]?=some x->vs[j]?=some u->Rel G H w x u)/\(∀u∈vs,u.oneCell'=true)/\(Builtin.firstCells s m v).run P w=.ok vs.toArray w:=by
 unfold bI7 at h;split at h
 ·rename_i k off n cap
  split at h
  ·rename_i sh cs ho
   cases h
   obtain⟨h1,h2⟩:=hp;cases ry with
   |msl _ _ _ _ o0 hk0 hb0 hcap=>
   have hms:min n dn*s<=n*s:=aG2 s (Nat.min_le_left ..);obtain⟨us,hul,hur,hu1⟩:=aZ5 (P:=P) hi ho (off:=off) (m:=min n dn) (s:=s) (n:=n) (cap:=cap) (by omega)
   have hdl:((cs.drop off).take (min n dn*s)).length=min n dn*s:=by rw[List.length_take,List.length_drop];omega
   refine⟨n,by simp[Builtin.lenOf],rfl,Nat.min_le_right ..,hdl,us,hul,hur,fun u hu=>?_,hu1 w fun _=>rfl⟩
   obtain⟨j,hj⟩:=ar7.1 hu;have hjl:=aa0 hj;have hx:((cs.drop off).take (min n dn*s))[j]?=some (((cs.drop off).take (min n dn*s))[j]'(by omega)):=xq1 _
   exact(aU2 (hur j _ u hx hj) (xq6.1 h2 _ (aT3 _))).2.1
  ·cases h
 ·rename_i y' _
  split at h
  ·rename_i z ys ey
   cases h
   obtain⟨h1,h2⟩:=hp;obtain⟨hlen,huni2,vs,hvl,hvr,hv1⟩:=br0 (P:=P) ry ey h1 hs;have hfl:=af5 (s:=s) fun x hx=>(huni2 x hx).1
   refine⟨ys.length,hlen w,bL6 h2,h2,hfl,vs,by rw[hvl,hfl],fun j x u e e'=>(hvr j x u e e').1,fun u hu=>?_,hv1 w fun _=>rfl⟩
   obtain⟨j,hj⟩:=ar7.1 hu;have hjl:j < (aa2 ys).length:=by rw[<-hvl];exact aa0 hj
   exact(hvr j _ u (xq1 hjl) hj).2
  ·cases h
def bq5(L:Tab)(t:TypeId)(x y:AV)(H:List AObj)(K:AV->List AObj->Prop)[Tag K]:Prop:=
 match(L t).k,x with
 |.slice e,.msl k off dn _=>match H[k]?,bI7 H (L e).size dn y with
  |some (.cells sh cs),some (p,m,zs)=>(known (L e)=true/\0 < (L e).size/\off+m*(L e).size<=cs.length/\p)/\K (.int .i64 m) (H.set k (.cells sh (af4 cs off zs)))
  |_,_=>False
 |_,_=>False
theorem dF0{L:Tab}(hL:ac7 P L){t t2:TypeId}{x y:Operand}{K:AV->List AObj->Prop}(h:bq5 L t (ev env x) (ev env y) H K):
  AOp P ⟨dst,.call {callee:=.builtin .copy,args:= #[x,y],argTypes:= #[t,t2]},ty,pos,after,guard⟩ env H K:=.of_run fun n0 ds G a w st=>by
 unfold bq5 at h;split at h
 ·rename_i e k off dn cap hk ex
  split at h
  ·rename_i sh cs p m zs ho hsrc
   obtain⟨⟨h1,h2,h3,h4⟩,hK⟩:=h;have rx:=st.ev x;have ry:=st.ev y;rw[ex] at rx;have hu:=(hL t (by rw[hk];simp)).1
   rw[hk] at hu;simp only[ao0] at hu;obtain⟨len,hlen,hmin,hmd,hzl,vs,hvl,hvr,hv1c,hv1⟩:=cE2 (P:=P) st.inv h2 ry hsrc h4;obtain⟨arr,T,fr,hb,hsz,hr,hf1,hf2,hf3⟩:=st.inv.cells k sh cs ho;generalize hv:a.eval x=v at rx;cases rx with
   |msl _ _ _ _ o0 hk0 hb0 hcap=>
   obtain⟨w',hst,hov⟩:=aA6 (P:=P) off vs 0 w arr hb hv1c (by omega) (fun j _ _=>hf2 j (by omega))
   have hrel:=bc7 (off:=off) (xs:=zs) (vs:=vs) ⟨hsz,hr⟩ (by omega) hvr
   obtain⟨hi',st'⟩:=aV2 st.inv ho (fun _=>by rw[ap2]) hb (bo7 ..) hov hrel
   refine⟨.int .i64 m,w',_,G,_,?_,hi',st',.lit _,hK⟩;simp[execOp,resolve,invoke,builtin,hv,Builtin.copy_,run_underlying hu,ai9 hL (aj7 h1),hlen,hmin,hv1,hst,goInt]
  ·exact h.elim
 ·exact h.elim
def aX2(L:Tab)(t:TypeId)(len:Nat)(parts:List (Nat×AV))(H:List AObj)(K:AV->List AObj->Prop)[Tag K]:Prop:=
 match(L t).k with
 |.slice e=>(len≠0/\known (L e)=true/\0 < (L e).size/\(L e).zero.length=(L e).size/\len*(L e).size<=16777216/\(aw6 (fun i=>some (i*(L e).size,(L e).size)) (ag7 (L e).zero (len*(L e).size)) parts).1)/\
   K (.msl H.length 0 len len) (H++[.cells (.one e) (aw6 (fun i=>some (i*(L e).size,(L e).size)) (ag7 (L e).zero (len*(L e).size)) parts).2])
 |_=>False
theorem cY6{L:Tab}(hL:ac7 P L){t:TypeId}{len:Nat}{parts:Array (Nat×Operand)}{K:AV->List AObj->Prop}(h:aX2 L t len (ai3 env parts) H K):
  AOp P ⟨dst,.buildSlice t len parts,ty,pos,after,guard⟩ env H K:=.of_run fun n0 ds G a w st=>by
 unfold aX2 at h;split at h
 ·rename_i e hk
  obtain⟨⟨h0,h1,h2,h3,h4,h5⟩,hK⟩:=h;have hu:=(hL t (by rw[hk];simp)).1
  rw[hk] at hu;simp only[ao0] at hu;obtain⟨arr',hrun,hb⟩:=ca4 hL st hu h0 h1 h2 h3 h4 h5;obtain⟨hi',hst,hb',_⟩:=aD0 st.inv (More.refl w) rfl hb.le e (0,0) (.inr rfl) (.one e) 0 ⟨rfl,hb.1,rfl⟩;refine⟨.slice (some ⟨w.heap.size,0,none⟩) len len,_,_,_,_,by simp only[execOp,Sem.run_bind,hrun,Result.andThen_ok,Sem.run_pure],hi',hst,?_,hK⟩
  have:=Rel.msl (G:=ae3 G H w.heap.size 0) (H:=H++[.cells (.one e) (aw6 (fun i=>some (i*(L e).size,(L e).size)) (ag7 (L e).zero (len*(L e).size)) (ai3 env parts)).2]) (w:=w.alloc (.cells arr' e (0,0)))
   H.length 0 len len _ bo2 rfl (xq0 _)
  rw[hb'] at this;exact this
 ·exact h.elim
def bq4(L:Tab)(t:TypeId)(x y:AV)(H:List AObj)(K:AV->List AObj->Prop)[Tag K]:Prop:=
 match(L t).k,x,y with
 |.slice e,.lit (.int _ n),.lit (.int _ c)=>(known (L e)=true/\0 < (L e).size/\(L e).zero.length=(L e).size/\0<=n/\n<=c/\c<=9223372036854775807/\((L e).bytes:Int)*c<=281474976710656)/\
   K (.msl H.length 0 n.toNat c.toNat) (H++[.cells (.one e) (ag7 (L e).zero (c.toNat*(L e).size))])
 |_,_,_=>False
theorem dE9{L:Tab}(hL:ac7 P L){t:TypeId}{x y:Operand}{K:AV->List AObj->Prop}(h:bq4 L t (ev env x) (ev env y) H K):
  AOp P ⟨dst,.makeSlice t x y,ty,pos,after,guard⟩ env H K:=.of_run fun n0 ds G a w st=>by
 unfold bq4 at h;split at h
 ·rename_i e q n q' c hk ex ey
  obtain⟨⟨h1,h2,h3,h4,h5,h6,h7⟩,hK⟩:=h;have rx:=st.ev x;have ry:=st.ev y;rw[ex] at rx;rw[ey] at ry;have hx:=ac0 rx;have hy:=ac0 ry;have hu:=(hL t (by rw[hk];simp)).1
  rw[hk] at hu;simp only[ao0] at hu;obtain⟨_,ie,zv,hie,hisz,hiby,hzl,hzv,hzs,_⟩:=hL e (aj7 h1);have hzr:=aB5 (H:=H) (G:=G) (w:=w) hzs;have hzl':zv.cells.size=(L e).size:=by rw[hzr.1,h3]
  have hrun:=run_make (P:=P) w t e ie zv hu hie hzv q q' n c h4 h5 (by rw[hiby];exact h7) h6
  rw[hisz] at hrun;have hrc:aE5 G H w (ag7 (L e).zero (c.toNat*(L e).size)) (madeCells zv.cells (c.toNat*(L e).size)):=by
   refine⟨by simp[ag7,madeCells],fun j x v e1 e2=>?_⟩
   have hj:j < c.toNat*(L e).size:=by simpa [ag7] using aa0 e1
   have hmod:j%(L e).size < (L e).size:=Nat.mod_lt _ h2;simp only[ag7,xq7,aO4 hj,Option.map_some,Option.some.injEq] at e1;have e2':zv.cells[j%zv.cells.size]! =v:=by
    unfold madeCells at e2;rw[ce4,Array.getElem?_range] at e2;rw[if_pos hj] at e2;simpa using e2
   subst e1;rw[<-e2',h3];refine hzr.2 (j%(L e).size) _ _ (by simp[List.getD,xq1 (show j%(L e).size < (L e).zero.length by omega)]) ?_
   rw[hzl',xq2 (by omega)]
   simp[getElem!_def,xq2 (show j%(L e).size < zv.cells.size by omega)]
  obtain⟨hi',hst,hb',_⟩:=aD0 st.inv (More.refl w) rfl hrc.le e (0,0) (.inr rfl) (.one e) 0 ⟨rfl,hrc.1,rfl⟩;refine⟨.slice (some ⟨w.heap.size,0,none⟩) n.toNat c.toNat,_,_,_,_,by simp only[execOp,hx,hy,Sem.run_bind,hrun,Result.andThen_ok,Sem.run_pure],hi',hst,?_,hK⟩
  have:=Rel.msl (G:=ae3 G H w.heap.size 0) (H:=H++[.cells (.one e) (ag7 (L e).zero (c.toNat*(L e).size))]) (w:=w.alloc (.cells (madeCells zv.cells (c.toNat*(L e).size)) e (0,0)))
   H.length 0 n.toNat c.toNat _ bo2 rfl (by omega)
  rw[hb'] at this;exact this
 ·exact h.elim
def cg9:List Nat->Nat->Option Nat
 |[],_=>none
 |c::r,d=>if c=3000000000+d*1000+c%1000 then some (c%1000) else cg9 r d
def av8(m:Nat):List AV->List AV
 |[]=>[]
 |.sl .full 0 []::r=>.sl (.tok m) 1 []::r
 |x::r=>x::av8 m r
theorem bK2(m:Nat): ∀l,(av8 m l).length=l.length
 |[]=>rfl
 |x::r=>by
  unfold av8;split
  ·rename_i h;cases h
  ·rename_i h;cases h;rfl
  ·rename_i h;cases h;rw[List.length_cons,List.length_cons,bK2 m r]
theorem bK1{G:Gh}{w:World}{m:Nat}{e:TypeId}(hm:H[m]?=some (.grow 1 0 (some e)))(ho:G.own m=(none,0)): ∀(vs:List Value) (zs:List AV),vs.map ap0=zs->(∀(j:Nat) x v,(av8 m zs)[j]?=some x->vs[j]?=some v->Rel G H w x v)
 |[],zs,h,j,x,v,e1,e2=>by simp at e2
 |u::us,zs,h,j,x,v,e1,e2=>by
  subst h;rw[List.map_cons] at e1;have tok:Rel G H w (.sl (.tok m) 1 []) (.slice none 0 0):=.sl (.tok m) 1 [] none 0 0 (fun _=>undef) rfl (xq0 _) (fun x hx=>by cases hx) (fun j x e=>by simp[aa2] at e) (fun j x e=>by simp[aa2] at e) (fun e=>by cases e) (fun h=>absurd h (by omega)) (fun k e=>by
   cases e
   exact⟨0,some _,hm,xq0 _,fun _=>ho⟩)
  have rest: ∀(j:Nat) x v,(us.map ap0)[j]?=some x->us[j]?=some v->Rel G H w x v:=fun j x v e1 e2=>by
   rw[xq7,e2] at e1;cases e1
   exact aG5 v
  unfold av8 at e1;split at e1
  ·rename_i heq;simp at heq
  ·rename_i r heq
   simp only[List.cons.injEq] at heq;obtain⟨hu,rfl⟩:=heq;cases j with
   |zero=>
    simp at e1 e2
    subst e1;subst e2;have:u=.slice none 0 0:=by
     unfold ap0 at hu;split at hu<;>first|rfl|cases hu
    rw[this];exact tok
   |succ j=>exact rest j x v (by simpa using e1) (by simpa using e2)
  ·rename_i y r _ heq
   simp only[List.cons.injEq] at heq;obtain⟨hu,rfl⟩:=heq;cases j with
   |zero=>
    simp at e1 e2
    subst e1;subst e2;rw[<-hu];exact aG5 u
   |succ j=>exact bK1 hm ho us _ rfl j x v (by simpa using e1) (by simpa using e2)
theorem cY8{L:Tab}(hL:ac7 P L){e u:TypeId}{K:AV->List AObj->Prop}(hx:known (L e)=true)(hk:K (.mp H.length 0) (H++[.cells (.one e) (av8 (H.length+1) (L e).zero),.grow 1 0 (some u)])):AOp P ⟨dst,.alloc e,ty,pos,after,guard⟩ env H K:=.of_run fun n ds G a w s=>by
 obtain⟨_,i,z,hi',_,_,_,hz,hzs,_⟩:=hL e (aj7 hx);have hzr:=aB5 (H:=H) (G:=G) (w:=w) hzs;obtain⟨hi,hst,hb,hown⟩:=aD0 s.inv (More.refl w) rfl hzr.le e (0,0) (.inr rfl) (.one e) 0 ⟨rfl,hzr.1,rfl⟩;have hnil:=cH7 (G:=ae3 G H w.heap.size 0) (H:=H++[.cells (.one e) (L e).zero]) (w:=w.alloc (.cells z.cells e (0,0))) 0;obtain⟨hi2,st2,_⟩:=b52 (some u) hi hnil (s:=1) (by omega) (fun h=>absurd rfl h) (fun _=>⟨rfl,rfl⟩)
 have hl1:(H++[AObj.cells (.one e) (L e).zero]).length=H.length+1:=by simp
 rw[hl1,List.length_nil] at hi2 st2;have hk0:(H++[AObj.cells (.one e) (L e).zero]++[.grow 1 0 (some u)])[H.length]?=some (.cells (.one e) (L e).zero):=by
  rw[List.append_assoc,xq5 (xq0 _),ao4];rfl
 have hk1:(H++[AObj.cells (.one e) (L e).zero]++[.grow 1 0 (some u)])[H.length+1]?=some (.grow 1 0 (some u)):=by
  rw[<-hl1];exact bo2
 have hrow:(w.alloc (.cells z.cells e (0,0))).heap[(az5 (ae3 G H w.heap.size 0) (H.length+1) none 0).blk H.length]?=some (.cells z.cells e (0,0)):=by
  show (w.heap.push (.cells z.cells e (0,0)))[(ae3 G H w.heap.size 0).blk H.length]?=_
  rw[hb];simp
 have hlen:(av8 (H.length+1) (L e).zero).length=(L e).zero.length:=bK2 _ _;obtain⟨hi3,st3⟩:=aV2 hi2 hk0 (cs':=av8 (H.length+1) (L e).zero) (fun _=>hlen) hrow rfl ⟨rfl,rfl,rfl,rfl,fun _ _=>rfl,hrow⟩ ⟨by rw[hlen];exact aQ7 hzr.1.symm,fun j x v e1 e2=>bK1 hk1 (by simp[az5]) z.cells.toList _ hzs j x v e1 (by simpa using e2)⟩
 have hset:(H++[AObj.cells (.one e) (L e).zero]++[AObj.grow 1 0 (some u)]).set H.length (AObj.cells (.one e) (av8 (H.length+1) (L e).zero))=H++[AObj.cells (.one e) (av8 (H.length+1) (L e).zero),AObj.grow 1 0 (some u)]:=by
  rw[List.append_assoc,az0 _ _ (xq0 _),ao4];rfl
 rw[hset] at hi3 st3;refine⟨.pointer (some ⟨w.heap.size,0,none⟩),_,.mp H.length 0,_,_,by simp[execOp,Instr.alloc,zeroValue,typeInfo,hi',hz,newVar,newRow],hi3,(hst.trans st2).trans st3,?_,hk⟩
 have:=Rel.mp (G:=az5 (ae3 G H w.heap.size 0) (H.length+1) none 0) (H:=H++[.cells (.one e) (av8 (H.length+1) (L e).zero),.grow 1 0 (some u)]) (w:=w.alloc (.cells z.cells e (0,0))) H.length 0 (.cells (.one e) (av8 (H.length+1) (L e).zero)) (by rw[xq5 (xq0 _),ao4];rfl) rfl
 rw[show (az5 (ae3 G H w.heap.size 0) (H.length+1) none 0).blk H.length=w.heap.size from hb] at this
 exact this
theorem cv0{G:Gh}{w:World}(hi:HInv G H w){k n cap:Nat}{e:TypeId}{b:Nat}(hk:H[k]?=some (.grow 1 n (some e)))(ho:G.own k=(some ⟨b,0,none⟩,cap))(hn:0 < n):
  HInv G H (w.freeze ⟨b,0,none⟩ n)/\Step G H w G H (w.freeze ⟨b,0,none⟩ n):=by
 obtain⟨_,hcap,_,hty⟩:=hi.grow k 1 n _ hk;rw[ho] at hcap;rcases hty e rfl with h|⟨b',arr,⟨lo,hi0⟩,h1,h2,h3,h4,h5,h6⟩
 ·rw[ho] at h;cases h
 rw[ho] at h1 h2 h4;cases h1
 simp only at hcap h2 h4 h5;have hsite:site G H k=some b:=by
  unfold site;rw[hk,ho];simp only;rw[if_pos (.inr ⟨rfl,h2⟩)]
 obtain⟨fr',hfr',hrow⟩: ∃fr':Nat×Nat,fr'.2<=n/\(w.freeze ⟨b,0,none⟩ n).heap[b]?=some (.cells arr e fr'):=by
  refine⟨if lo==hi0 then(0,0+n) else(min lo 0,max hi0 (0+n)),?_,?_⟩
  ·by_cases hl:lo=hi0
   ·simp[hl]
   ·have h5':hi0<=n:=by rcases h5 with h|h;exact absurd h hl;omega
    simp only[beq_iff_eq,hl,if_false];omega
  ·unfold World.freeze
   rw[if_neg (by omega)]
   simp[bL7,h3]
 have hother: ∀c,c≠b->(w.freeze ⟨b,0,none⟩ n).heap[c]?=w.heap[c]?:=fun c hc=>by
  unfold World.freeze;rw[if_neg (by omega)]
  simp[bL7,show¬b=c from fun h=>hc h.symm]
 have hsize:(w.freeze ⟨b,0,none⟩ n).heap.size=w.heap.size:=by
  unfold World.freeze;rw[if_neg (by omega)]
  simp
 have hos:(w.freeze ⟨b,0,none⟩ n).os=w.os/\(w.freeze ⟨b,0,none⟩ n).tape=w.tape/\(w.freeze ⟨b,0,none⟩ n).output=w.output:=by
  unfold World.freeze;rw[if_neg (by omega)]
  exact⟨rfl,rfl,rfl⟩
 have hcell: ∀c off,(w.freeze ⟨b,0,none⟩ n).cell? ⟨c,off,none⟩=w.cell? ⟨c,off,none⟩:=fun c off=>by
  by_cases hc:c=b
  ·subst hc;rw[aq7 hrow,aq7 h3]
  ·exact World.cell?_of_block (w:=w) (hother c hc)
 generalize w.freeze ⟨b,0,none⟩ n=w' at*;have st:Step G H w G H w':=⟨congrArg (fun o=>(o,G.lp)) hos.1,hos.2.1,hos.2.2,aQ7 hsize.symm,fun _ _ h=>h,fun c off _=>hcell c off,fun c hc=>hother c fun e=>by subst e;exact h6 arr.size (xq0 _) (hc _),(Step.refl G H w).obj⟩
 refine⟨⟨fun c off h=>by rw[hsize];exact hi.lt c off h,fun i sh c ei=>?_,fun i s m t ei=>?_,hi.apart,hi.tabs.step st fun i x e=>⟨e,hother _ (hi.mo_apart e hsite fun h=>by rw[h,hk] at e;cases e),fun _ h=>h⟩⟩,st⟩
 ·obtain⟨a1,T1,f1,hb1,hs1,hr1,hg1,hg2,hg3⟩:=hi.cells i sh c ei
  have hne:G.blk i≠b:=fun e=>by
   have:=hi.apart i k b (by simp[site,ei,e]) hsite
   subst this;rw[hk] at ei;cases ei
  exact⟨a1,T1,f1,(hother _ hne).trans hb1,hs1,fun j x v ex ev=>(hr1 j x v ex ev).mono st,hg1,fun off h=>(World.frozen?_of_block (w:=w) (hother _ hne)).trans (hg2 off h),hg3⟩
 ·obtain⟨g0,g1,g2,g3⟩:=hi.grow i s m t ei
  by_cases hik:i=k
  ·subst hik
   rw[hk] at ei;cases ei
   refine⟨g0,g1,fun hlt=>?_,fun e' he'=>.inr ⟨b,arr,fr',by rw[ho],by rw[ho];exact h2,?_,by rw[ho];exact h4,.inr (by omega),h6⟩⟩
   ·obtain⟨b1,off1,a1,T1,f1,ea1,hb1,hsz1,hj1⟩:=g2 hlt
    rw[ho] at ea1;cases ea1
    rw[h3] at hb1;cases hb1
    refine⟨b,0,arr,e,fr',by rw[ho],hrow,hsz1,fun j h7 h8=>⟨(hj1 j h7 h8).1,?_⟩⟩
    obtain⟨f1,f2⟩:=fr';simp only[World.frozen?,hrow,Bool.and_eq_false_iff,decide_eq_false_iff_not];simp only at hfr';omega
   ·cases he'
    exact hrow
  ·refine⟨g0,g1,fun hlt=>?_,?_⟩
   ·obtain⟨b1,off1,a1,T1,f1,ea1,hb1,hsz1,hj1⟩:=g2 hlt
    have hne:b1≠b:=fun e=>hik (hi.apart i k b (e▸aR9 ei hlt ea1) hsite)
    exact⟨b1,off1,a1,T1,f1,ea1,(hother _ hne).trans hb1,hsz1,fun j h7 h8=>⟨(hj1 j h7 h8).1,(World.frozen?_of_block (w:=w) (hother _ hne)).trans (hj1 j h7 h8).2⟩⟩
   ·intro e' he'
    rcases g3 e' he' with h|⟨b1,a1,f1,h7,h8,h9,h10⟩
    ·exact .inl h
    ·have hne:b1≠b:=fun e=>by
      have hs1:site G H i=some b1:=by
       unfold site;rw[ei,show G.own i=(some ⟨b1,0,none⟩,(G.own i).2) by rw[<-h7]]
       simp only;rw[if_pos (.inr ⟨by rw[he'];rfl,h8⟩)]
      exact hik (hi.apart i k b (e▸hs1) hsite)
     exact .inr ⟨b1,a1,f1,h7,h8,(hother _ hne).trans h9,h10⟩
def aN2(H:List AObj)(x:AV):Option (Prop×AV):=
 match x with
 |.sl (.tok k) 1 xs=>match H[k]? with
  |some (.grow 1 n (some _))=>some (n=xs.length,.data (.sl (.tok k) 1 xs))
  |_=>none
 |_=>none
theorem bT3{x:Operand}{ats:Array TypeId}{p:Prop}{z:AV}(h:aN2 H (ev env x)=some (p,z)):Still P ⟨dst,.call {callee:=.builtin .unsafeSliceData,args:= #[x],argTypes:=ats},ty,pos,after,guard⟩ env H p z:=fun hp _ _ G a w s=>by
 have rx:=s.ev x;unfold aN2 at h;split at h
 ·rename_i k xs ex
  split at h
  ·rename_i n e hk
   cases h
   rw[ex] at rx;generalize hv:a.eval x=v at rx;have rx0:=rx;cases rx with
   |sl _ _ _ ad len cap val hl hcap huni hc hr hf ha ho=>
   obtain⟨n',t',hn',hle,hown⟩:=ho k rfl;rw[hk] at hn';cases hn'
   have hown:=hown hp.symm;obtain⟨_,_,_,hty⟩:=s.inv.grow k 1 n _ hk;have key:cap≠0\/ad=none:=by
    rcases hty e rfl with h|⟨b,arr,fr,h1,h2,_⟩
    ·rw[hown] at h;cases h;exact .inr rfl
    ·rw[hown] at h2;simp only at h2;exact .inl (by omega)
   refine⟨.pointer ad,?_,.data _ ad len cap rx0 key⟩;have hrun:(Builtin.unsafeSliceData_ ats ty #[.slice ad len cap]).run P w=.ok (.pointer ad) w:=by
    cases ad with
    |none=>rfl
    |some ad=>exact Lib.run_unsafeSliceData_row w ats ty ad len cap (by rcases key with h|h;exact h;cases h)
   simp[execOp,resolve,invoke,builtin,hv,hrun]
  ·cases h
 ·cases h
def aY4(L:Tab)(H:List AObj)(pt:TypeId)(x y:AV):Option (Prop×AV):=
 match(L pt).k,x,y with
 |.ptr e,.data (.sl (.tok k) 1 xs),.lit (.int .i64 c)=>match H[k]? with
  |some (.grow 1 n (some e'))=>some (n=xs.length/\c=xs.length/\e'=e/\(L e).k=.int .u8/\(L e).size=1/\xs.length<=140737488355328/\isBytes xs,.str (ax3 xs))
  |_=>none
 |_,_,_=>none
theorem cm3{L:Tab}(hL:ac7 P L){x y:Operand}{pt it:TypeId}{p:Prop}{z:AV}(h:aY4 L H pt (ev env x) (ev env y)=some (p,z)):Quiet P ⟨dst,.call {callee:=.builtin .unsafeString,args:= #[x,y],argTypes:= #[pt,it]},ty,pos,after,guard⟩ env H p z:=fun hp _ _ G a w s=>by
 have rx:=s.ev x;have ry:=s.ev y;unfold aY4 at h;split at h
 ·rename_i e k xs c hpk ex ey
  split at h
  ·rename_i n e' hk
   cases h
   obtain⟨h1,h2,rfl,h4,h5,h6,h7⟩:=hp;rw[ex] at rx;rw[ey] at ry;have hy:=ac0 ry;have hpt:=(hL pt (by rw[hpk];simp)).1
   rw[hpk] at hpt;simp only[ao0] at hpt;obtain⟨_,i,_,hinfo,hisz,_⟩:=hL e' (by rw[h4];simp)
   have hcells:P.cellsOf e'=1:=by
    unfold Program.cellsOf;simp[hinfo,hisz,h5]
   generalize hv:a.eval x=v at rx;cases rx with
   |data _ ad len cap hsl hcc=>
   cases hsl with
   |sl _ _ _ _ _ _ val hl hcap huni hc hr hf ha ho=>
   obtain⟨n',t',hn',hle,hown⟩:=ho k rfl;rw[hk] at hn';cases hn'
   have hown:=hown h1.symm;unfold isBytes at h7;generalize ax3 xs=l at h7;have hll:l.length=xs.length:=by rw[h7];simp
   have hop: ∀v' w',(Builtin.unsafeString_ #[pt,it] ty #[.pointer ad,.int .i64 (l.length:Nat)]).run P w=.ok v' w'->
     (execOp a.eval ⟨dst,.call {callee:=.builtin .unsafeString,args:= #[x,y],argTypes:= #[pt,it]},ty,pos,after,guard⟩).run P w=.ok (.value v') w':=fun v' w' hr=>by
    rw[hll,<-h2] at hr;simp[execOp,resolve,invoke,builtin,hv,hy,hr]
   by_cases hnil:l=[]
   ·subst hnil
    exact⟨.string .empty,w,G,hop _ _ (Lib.run_unsafeString_none w pt it ty ad),s.inv,.refl _ _ _,.str []⟩
   ·have hpos:0 < l.length:=aD7.2 hnil
    obtain⟨_,_,_,hty⟩:=s.inv.grow k 1 n _ hk;rcases hty e' rfl with h|⟨b,arr,fr,g1,g2,g3,g4,_⟩
    ·rw[hown] at h;cases h;omega
    rw[hown] at g1 g2 g4;cases g1
    simp only at g2 g4;obtain⟨hi',hst⟩:=cv0 s.inv hk hown (by omega)
    have hsh:w.shape? b=some (e',arr.size):=by simp[World.shape?,g3]
    have hfl:=au8 o6 (fun _=>rfl) l
    have hrun:=Lib.run_unsafeString_row (P:=P) w pt it ty e' hpt hcells b arr.size hsh l hnil (by rw[g4];omega) (by omega) (fun j x0 ej=>by
     have hj:=aa0 ej;have hfj:(aa2 xs)[j]?=some (o6 x0):=by rw[h7,hfl,xq7,ej];rfl
     obtain⟨b',off',ea,_,hcell⟩:=hc j _ hfj;cases ea
     have hrj:=hr j _ hfj;have:=ac0 hrj;rw[addr_add,hcell,this])
    rw[show n=l.length by omega] at hi' hst
    exact⟨.string ⟨l.toArray⟩,_,G,hop _ _ hrun,hi',hst,.str l⟩
  ·cases h
 ·cases h
def aX0(L:Tab)(pt:TypeId)(k off:Nat)(y:AV)(H:List AObj)(K:AV->List AObj->Prop)[Tag K]:Prop:=
 match(L pt).k,y,H[k]? with
 |.ptr e,.lit (.int .i64 c),some (.cells (.one T) cs)=>(T=e/\off=0/\(L e).k=.int .u8/\(L e).size=1/\c=cs.length/\0 < cs.length/\cs.length<=140737488355328/\isBytes cs)/\K (.str (ax3 cs)) (H.set k .gone)
 |_,_,_=>False
theorem bY8{G:Gh}{w:World}(hi:HInv G H w){k:Nat}{sh:Shape}{cs:List AV}(hk:H[k]?=some (.cells sh cs))(n:Nat)(at0:Nat:=0):HInv G (H.set k .gone) (w.freeze ⟨G.blk k,at0,none⟩ n)/\Step G H w G (H.set k .gone) (w.freeze ⟨G.blk k,at0,none⟩ n):=by
 obtain⟨hi1,st1⟩:=bB4 hi hk;by_cases hn:n=0
 ·subst hn
  exact⟨hi1,st1⟩
 obtain⟨arr,T,⟨lo,hi0⟩,hb,hs,hr,hf1,hf2,_⟩:=hi.cells k sh cs hk;obtain⟨fr',hrow⟩: ∃fr':Nat×Nat,(w.freeze ⟨G.blk k,at0,none⟩ n).heap[G.blk k]?=some (.cells arr T fr'):=by
  refine⟨if lo==hi0 then(at0,at0+n) else(min lo at0,max hi0 (at0+n)),?_⟩
  unfold World.freeze;rw[if_neg hn];simp[bL7,hb]
 have hother: ∀c,c≠G.blk k->(w.freeze ⟨G.blk k,at0,none⟩ n).heap[c]?=w.heap[c]?:=fun c hc=>by
  unfold World.freeze;rw[if_neg hn];simp[bL7,show¬G.blk k=c from fun h=>hc h.symm]
 have hsize:(w.freeze ⟨G.blk k,at0,none⟩ n).heap.size=w.heap.size:=by
  unfold World.freeze;rw[if_neg hn];simp
 have hos:(w.freeze ⟨G.blk k,at0,none⟩ n).os=w.os/\(w.freeze ⟨G.blk k,at0,none⟩ n).tape=w.tape/\(w.freeze ⟨G.blk k,at0,none⟩ n).output=w.output:=by
  unfold World.freeze;rw[if_neg hn];exact⟨rfl,rfl,rfl⟩
 have hcell: ∀c off,(w.freeze ⟨G.blk k,at0,none⟩ n).cell? ⟨c,off,none⟩=w.cell? ⟨c,off,none⟩:=fun c off=>by
  by_cases hc:c=G.blk k
  ·subst hc;rw[aq7 hrow,aq7 hb]
  ·exact World.cell?_of_block (w:=w) (hother c hc)
 generalize w.freeze ⟨G.blk k,at0,none⟩ n=w' at*;have hsk:=aQ9 hi hk;have st:Step G (H.set k .gone) w G (H.set k .gone) w':=⟨congrArg (fun o=>(o,G.lp)) hos.1,hos.2.1,hos.2.2,aQ7 hsize.symm,fun _ _ h=>h,fun c off _=>hcell c off,fun c hc=>hother c fun e=>by subst e;exact hf1 0 (hc 0),(Step.refl G _ w).obj⟩
 refine⟨⟨fun c off h=>by rw[hsize];exact hi.lt c off h,fun i sh1 c ei=>?_,fun i s m t ei=>?_,hi1.apart,hi1.tabs.step st fun i x e=>⟨e,hother _ (by
  rcases af6 e with⟨hik,e⟩|⟨_,e,_⟩
  ·exact hi.mo_apart e hsk hik
  ·cases e),fun _ h=>h⟩⟩,st1.trans st⟩
 ·rcases af6 ei with⟨hik,ei'⟩|⟨rfl,ei',_⟩
  ·obtain⟨a1,T1,f1,hb1,hs1,hr1,hg1,hg2,hg3⟩:=hi1.cells i sh1 c ei
   have hne:G.blk i≠G.blk k:=fun e=>hik (hi.apart i k (G.blk k) (by simp[site,ei',e]) hsk)
   exact⟨a1,T1,f1,(hother _ hne).trans hb1,hs1,fun j x v ex ev=>(hr1 j x v ex ev).mono st,hg1,fun off h=>(World.frozen?_of_block (w:=w) (hother _ hne)).trans (hg2 off h),hg3⟩
  ·cases ei'
 ·rcases af6 ei with⟨hik,ei'⟩|⟨rfl,ei',_⟩
  ·obtain⟨g0,g1,g2,g3⟩:=hi1.grow i s m t ei
   refine⟨g0,g1,fun hlt=>?_,?_⟩
   ·obtain⟨b1,off1,a1,T1,f1,ea1,hb1,hsz1,hj1⟩:=g2 hlt
    have hne:b1≠G.blk k:=fun e=>hik (hi.apart i k (G.blk k) (e▸aR9 ei' hlt ea1) hsk)
    exact⟨b1,off1,a1,T1,f1,ea1,(hother _ hne).trans hb1,hsz1,fun j h7 h8=>⟨(hj1 j h7 h8).1,(World.frozen?_of_block (w:=w) (hother _ hne)).trans (hj1 j h7 h8).2⟩⟩
   ·intro e' he'
    rcases g3 e' he' with h|⟨b1,a1,f1,h7,h8,h9,h10⟩
    ·exact .inl h
    ·have hne:b1≠G.blk k:=fun e=>by
      have hs1:site G H i=some b1:=by
       unfold site;rw[ei',show G.own i=(some ⟨b1,0,none⟩,(G.own i).2) by rw[<-h7]]
       simp only;rw[if_pos (.inr ⟨by rw[he'];rfl,h8⟩)]
      exact hik (hi.apart i k (G.blk k) (e▸hs1) hsk)
     exact .inr ⟨b1,a1,f1,h7,h8,(hother _ hne).trans h9,h10⟩
  ·cases ei'
theorem df3{G:Gh}{H:List AObj}{w:World}(hi:HInv G H w){b:Nat}(hb:b < w.heap.size)(hs: ∀i,site G H i≠some b):HInv {G with imm:=fun c off=>G.imm c off\/c=b} H w/\Step G H w {G with imm:=fun c off=>G.imm c off\/c=b} H w:=by
 have st:Step G H w {G with imm:=fun c off=>G.imm c off\/c=b} H w:=⟨rfl,rfl,rfl,xq0 _,fun _ _ h=>.inl h,fun _ _ _=>rfl,fun _ _=>rfl,fun i=>by
  cases e:H[i]? with
  |none=>exact aN5 e
  |some o=>
   cases o with
   |cells t c=>exact⟨⟨_,e,rfl⟩,rfl,rfl⟩
   |mo x=>exact⟨⟨_,e,rfl⟩,rfl,rfl⟩
   |gone=>exact⟨e,rfl,rfl⟩
   |loop r E=>exact⟨e,rfl,rfl⟩
   |grow s n t=>exact⟨n,e,xq0 _,fun _=>rfl⟩⟩
 refine⟨⟨fun c off h=>?_,fun i sh1 c ei=>?_,fun i s n t ei=>?_,hi.apart,hi.tabs.step st fun i x e=>⟨e,rfl,fun off h=>h.elim id fun h=>absurd (show site G H i=some b by rw[<-h];simp[site,e]) (hs i)⟩⟩,st⟩
 ·rcases h with h|h
  ·exact hi.lt c off h
  ·rw[h];exact hb
 ·obtain⟨arr,T,fr,hb1,hs1,hr,hf1,hf2⟩:=hi.cells i sh1 c ei
  refine⟨arr,T,fr,hb1,hs1,fun j x v ex ev=>(hr j x v ex ev).mono st,fun off h=>?_,hf2⟩
  rcases h with h|h
  ·exact hf1 off h
  ·exact hs i (by rw[<-show G.blk i=b from h];exact aQ9 hi ei)
 ·obtain⟨h0,h1,h2,h3⟩:=hi.grow i s n t ei
  have hne: ∀c off,(G.own i).1=some ⟨c,off,none⟩->(n < (G.own i).2\/t.isSome=true/\0 < (G.own i).2)->c≠b:=fun c off ea hc e=>by
   refine hs i ?_;unfold site;rw[ei,show G.own i=(some ⟨c,off,none⟩,(G.own i).2) by rw[<-ea]]
   simp only;rw[if_pos hc,e]
  refine⟨h0,h1,fun hn=>?_,aj1 h3 rfl (xq0 _) (fun b arr e fr hb=>⟨arr,hb,rfl⟩) fun c off arr e fr hb ea hc ht hx _=>?_⟩
  ·obtain⟨c,off,arr,T,fr,ea,hb1,hsz,hj⟩:=h2 hn
   refine⟨c,off,arr,T,fr,ea,hb1,hsz,fun j h4 h5=>⟨?_,(hj j h4 h5).2⟩⟩
   rintro(h|h)
   ·exact(hj j h4 h5).1 h
   ·exact hne c off ea (.inl hn) h
  ·rcases hx with hx|hx
   ·exact hx
   ·exact absurd hx (hne c 0 ea (.inr ⟨ht,hc⟩))
def bq3(L:Tab)(src d:TypeId)(x:AV)(H:List AObj)(K:AV->List AObj->Prop)[Tag K]:Prop:=
 match(L src).k,x with
 |.slice e,.msl k off n cap=>match H[k]? with
  |some (.cells _ cs)=>(src=d/\(L e).k=.int .u8/\off=0/\n=cap/\cs.length=n/\0 < n/\cs.all AV.scalar=true)/\K (.sl .full 1 cs) (H.set k .gone)
  |_=>False
 |_,_=>False
theorem dE8{L:Tab}(hL:ac7 P L){src d:TypeId}{x:Operand}{K:AV->List AObj->Prop}(h:bq3 L src d (ev env x) H K):AOp P ⟨dst,.convert src d x,ty,pos,after,guard⟩ env H K:=.of_run fun n0 ds G a w s=>by
 unfold bq3 at h;split at h
 ·rename_i e k off n cap h1 ex
  split at h
  ·rename_i sh cs hk
   obtain⟨⟨rfl,h3,rfl,rfl,h4,h5,h6⟩,hK⟩:=h;have rx:=s.ev x;rw[ex] at rx;have hs:=(hL src (by rw[h1];simp)).1
   rw[h1] at hs;have he:=(hL e (by rw[h3];simp)).1
   rw[h3] at he;simp only[ao0] at hs he;obtain⟨arr,T,fr,hb,hsz,hr,hf1,hf2,hf3⟩:=s.inv.cells k sh cs hk;generalize hv:a.eval x=v at rx;cases rx with
   |msl _ _ _ _ o0 hk0 hb0 hcap=>
   obtain⟨hi1,st1⟩:=bY8 s.inv hk 1 arr.size;have hbz:G.blk k < (w.freeze ⟨G.blk k,arr.size,none⟩ 1).heap.size:=aB2 (s.inv.site_lt (aQ9 s.inv hk)) st1.size;obtain⟨hi2,st2⟩:=df3 hi1 hbz (fun i e=>by
    rcases Nat.decEq i k with hne|rfl
    ·have:site G H i=some (G.blk k):=by
      unfold site at e⊢;rw[ar6 (Ne.symm hne)] at e;exact e
     exact hne (s.inv.apart i k _ this (aQ9 s.inv hk))
    ·unfold site at e
     rw[aA0 (aa0 hk)] at e;cases e)
   have hcell: ∀j,(w.freeze ⟨G.blk k,arr.size,none⟩ 1).cell? ⟨G.blk k,j,none⟩=arr[j]?:=fun j=>by
    have hrow: ∃fr':Nat×Nat,(w.freeze ⟨G.blk k,arr.size,none⟩ 1).heap[G.blk k]?=some (.cells arr T fr'):=by
     obtain⟨lo,hi0⟩:=fr;refine⟨if lo==hi0 then(arr.size,arr.size+1) else(min lo arr.size,max hi0 (arr.size+1)),?_⟩
     unfold World.freeze;rw[if_neg (by decide)]
     simp[bL7,hb]
    obtain⟨fr',hrow⟩:=hrow;exact aq7 hrow
   have hon:ones cs:=fun x hx=>xq6.1 h6 x hx
   have hsh:w.shape? (G.blk k)=some (T,arr.size):=by simp[World.shape?,hb]
   refine⟨.slice (some ⟨G.blk k,0,none⟩) n n,_,_,_,_,?_,hi2,st1.trans st2,?_,hK⟩
   ·simp[execOp,hv,convert,run_underlying hs,run_underlying he,markStringish,hsh]
   ·refine .sl .full 1 cs _ _ _ (fun j=>(arr[j]?).getD undef) h4.symm (xq0 _) (fun x hx=>?_) (fun j x e=>?_) (fun j x e=>?_) (fun _=>rfl) (fun _=>rfl) (fun k e=>by cases e)
    ·obtain⟨e1,e2⟩:=bB0 (hon x hx)
     exact⟨by rw[e1];rfl,e2⟩
    ·rw[aW1 hon] at e
     have hj:=aa0 e;refine⟨G.blk k,0,rfl,.inr rfl,?_⟩;rw[Nat.zero_add,hcell j,xq2 (show j < arr.size by omega)]
     rfl
    ·rw[aW1 hon] at e
     have hj:=aa0 e;have ha:arr[j]?=some (arr[j]'(by omega)):=xq2 _
     rw[ha];exact(hr j x _ e ha).mono (st1.trans st2)
  ·exact h.elim
 ·exact h.elim
def bg5(L:Tab)(src d:TypeId)(x:AV)(H:List AObj)(K:AV->List AObj->Prop)[Tag K]:Prop:=
 match x with
 |.msl _ _ _ _=>bq3 L src d x H K
 |_=>be7 L src d x H K
theorem dF1{L:Tab}(hL:ac7 P L){src d:TypeId}{x:Operand}{K:AV->List AObj->Prop}(h:bg5 L src d (ev env x) H K):AOp P ⟨dst,.convert src d x,ty,pos,after,guard⟩ env H K:=by
 unfold bg5 at h;split at h
 ·exact dE8 hL h
 ·exact dk7 hL h
theorem cY5{L:Tab}(hL:ac7 P L){x y:Operand}{pt it:TypeId}{k off:Nat}{K:AV->List AObj->Prop}(hx:ev env x=.mp k off)(h:aX0 L pt k off (ev env y) H K):
  AOp P ⟨dst,.call {callee:=.builtin .unsafeString,args:= #[x,y],argTypes:= #[pt,it]},ty,pos,after,guard⟩ env H K:=.of_run fun n0 ds G a w s=>by
 unfold aX0 at h;split at h
 ·rename_i e c T cs hpk ey hk
  obtain⟨⟨rfl,rfl,h4,h5,h6,h7,h8,h9⟩,hK⟩:=h;have rx:=s.ev x;have ry:=s.ev y;rw[hx] at rx;rw[ey] at ry;have hy:=ac0 ry;have hpt:=(hL pt (by rw[hpk];simp)).1
  rw[hpk] at hpt;simp only[ao0] at hpt;obtain⟨_,i,_,hinfo,hisz,_⟩:=hL T (by rw[h4];simp)
  have hcells:P.cellsOf T=1:=by
   unfold Program.cellsOf;simp[hinfo,hisz,h5]
  obtain⟨arr,T',fr,hb,hs,hr,hf1,hf2,hf3⟩:=s.inv.cells k _ cs hk;obtain⟨rfl,hasz,_⟩:=hf3;unfold isBytes at h9;generalize ax3 cs=l at h9 hK;have hll:l.length=cs.length:=by rw[h9];simp
  have hne:l≠[]:=by intro e;subst e;simp at hll;omega
  generalize hv:a.eval x=v at rx;cases rx with
  |mp _ _ o0 hk0 hb0=>
  have hsh:w.shape? (G.blk k)=some (T',arr.size):=by simp[World.shape?,hb]
  have hrun:=Lib.run_unsafeString_row (P:=P) w pt it ty T' hpt hcells (G.blk k) arr.size hsh l hne (by omega) (by omega) (fun j x0 ej=>by
   have hj:=aa0 ej;have hfj:cs[j]?=some (o6 x0):=by rw[h9,xq7,ej];rfl
   have ha:arr[j]?=some (arr[j]'(by omega)):=xq2 _
   have:=ac0 (hr j _ _ hfj ha);rw[addr_add,Nat.zero_add,aq7 hb,ha,this])
  obtain⟨hi',hst⟩:=bY8 s.inv hk l.length;refine⟨.string ⟨l.toArray⟩,_,.str l,_,_,?_,hi',hst,.str l,hK⟩;rw[hll,<-h6] at hrun;rw[hll];simp[execOp,resolve,invoke,builtin,hv,hy,hrun]
 ·exact h.elim
end
end V
end
section
namespace V
open Go
variable {ds:List Deferred}
theorem d88{G:Gh}{H:List AObj}{w:World}(hi:HInv G H w){x:MO}{o:Obj}(hr:aQ2 G H w x o):
  HInv (ae3 G H w.heap.size 0) (H++[.mo x]) (w.alloc o)/\Step G H w (ae3 G H w.heap.size 0) (H++[.mo x]) (w.alloc o)/\(ae3 G H w.heap.size 0).blk H.length=w.heap.size:=by
 have hm':=(More.refl w).alloc o;have hb:(w.alloc o).heap[w.heap.size]?=some o:=(MapKept.heap_alloc w o).1;have hblk: ∀k,k≠H.length->(ae3 G H w.heap.size 0).blk k=G.blk k:=fun k hk=>by simp[ae3,hk]
 have hown: ∀k,k≠H.length->(ae3 G H w.heap.size 0).own k=G.own k:=fun k hk=>by simp[ae3,hk]
 have hnew:(ae3 G H w.heap.size 0).blk H.length=w.heap.size:=by simp[ae3]
 have st:Step G H w (ae3 G H w.heap.size 0) (H++[.mo x]) (w.alloc o):=by
  refine⟨congrArg (fun o=>(o,G.lp)) hm'.os,hm'.tape,hm'.output,hm'.size,fun _ _ h=>h,fun b off h=>World.cell?_of_block (w:=w) (hm'.old b (hi.lt b off h)),fun b h=>hm'.old b (hi.lt b 0 (h 0)),fun k=>?_⟩
  cases ek:H[k]? with
  |none=>exact bH5 ek (fun _ _ e=>by cases e)
  |some o=>
   have hk:=aa0 ek;have ea:(H++[.mo x])[k]?=some o:=by rw[xq4 hk];exact ek
   cases o with
   |cells t' cs'=>exact⟨⟨_,ea,rfl⟩,hblk k (by omega),hown k (by omega)⟩
   |mo x=>exact⟨⟨_,ea,rfl⟩,hblk k (by omega),hown k (by omega)⟩
   |gone=>exact⟨ea,hblk k (by omega),hown k (by omega)⟩
   |loop r E=>exact⟨ea,hblk k (by omega),hown k (by omega)⟩
   |grow s n t=>exact⟨n,ea,xq0 _,fun _=>hown k (by omega)⟩
 have old:=hi.tabs;refine⟨⟨fun b off h=>aB2 (hi.lt b off h) hm'.size,fun k sh' cs' ek=>?_,fun k s n t ek=>?_,fun k k' b e1 e2=>?_,⟨old.1.1.step st,fun k y e=>?_⟩,fun k l e=>aB2 (old.2.1 k l e) hm'.size,old.2.2.1,fun k l r E e1 e2=>?_⟩,st,hnew⟩
 ·rcases as7 ek with⟨hk,ek⟩|⟨_,ek'⟩
  ·obtain⟨arr',T,fr',hb',hs',hr',hf1,hf2,hf3⟩:=hi.cells k sh' cs' ek
   rw[hblk k (by omega)]
   have hlt:=au1 hb';exact⟨arr',T,fr',(hm'.old _ hlt).trans hb',hs',fun j x v ex ev=>(hr' j x v ex ev).mono st,hf1,fun off ho=>(World.frozen?_of_block (w:=w) (hm'.old _ hlt)).trans (hf2 off ho),aI5 (hown k (by omega)) hf3⟩
  ·cases ek'
 ·rcases as7 ek with⟨hk,ek⟩|⟨_,ek'⟩
  ·obtain⟨h0,h1,h2,hty⟩:=hi.grow k s n t ek
   rw[hown k (by omega)]
   refine⟨h0,h1,fun hn=>?_,aj1 hty (hown k (by omega)) (xq0 _) (fun b arr e fr hb=>⟨arr,(hm'.old _ (au1 hb)).trans hb,rfl⟩) (fun _ _ _ _ _ _ _ _ _ hx _=>hx)⟩
   obtain⟨b,off,arr',T,fr',ea,hb',hsz',hj⟩:=h2 hn;have hlt:=au1 hb';exact⟨b,off,arr',T,fr',ea,(hm'.old _ hlt).trans hb',hsz',fun j h3 h4=>⟨(hj j h3 h4).1,(World.frozen?_of_block (w:=w) (hm'.old _ hlt)).trans (hj j h3 h4).2⟩⟩
  ·cases ek'
 ·have hs: ∀k b,site (ae3 G H w.heap.size 0) (H++[.mo x]) k=some b->(k < H.length/\site G H k=some b)\/(k=H.length/\b=w.heap.size):=fun k b e=>by
   unfold site at e⊢;cases ek:(H++[AObj.mo x])[k]? with
   |none=>rw[ek] at e;cases e
   |some o=>
    rcases as7 ek with⟨hk,ek'⟩|⟨rfl,ek'⟩
    ·left
     rw[ek] at e;rw[ek'];rw[hblk k (by omega),hown k (by omega)] at e
     exact⟨hk,e⟩
    ·right
     subst ek';rw[ek] at e;simp only[hnew,Option.some.injEq] at e;exact⟨rfl,e.symm⟩
  rcases hs k b e1 with⟨h1,h2⟩|⟨h1,h2⟩<;>rcases hs k' b e2 with⟨h3,h4⟩|⟨h3,h4⟩
  ·exact hi.apart k k' b h2 h4
  ·have:=hi.site_lt h2;omega
  ·have:=hi.site_lt h4;omega
  ·omega
 ·rcases as7 e with⟨hk,e⟩|⟨rfl,e'⟩
  ·obtain⟨h1,o1,h2,h3⟩:=old.1.2 k y e
   rw[hblk k (by omega)]
   exact⟨h1,o1,(hm'.old _ (hi.mo_lt e)).trans h2,h3.mono st⟩
  ·cases e'
   rw[hnew];exact⟨fun off h=>bc6 _ (hi.lt _ off h),o,hb,hr.mono st⟩
 ·rcases as7 e2 with⟨hk,e2⟩|⟨_,e'⟩
  ·obtain⟨h1,h2,h3⟩:=old.2.2.2 k l r E e1 e2
   exact⟨h1,(hm'.old l (hi.lt l 0 (h1 0))).trans h2,fun t=>⟨(h3 t).1,(h3 t).2.mono st⟩⟩
  ·cases e'
theorem dc6{G:Gh}{H:List AObj}{w:World}(hi:HInv G H w){k:Nat}{x y:MO}{o o':Obj}(hk:H[k]?=some (.mo x))(hb:w.heap[G.blk k]?=some o)(hr:aQ2 G H w y o')(hn: ∀a t f,o'≠ .cells a t f)(hn0: ∀a t f,o≠ .cells a t f):
  HInv G (H.set k (.mo y)) {w with heap:=w.heap.setIfInBounds (G.blk k) o'}/\Step G H w G (H.set k (.mo y)) {w with heap:=w.heap.setIfInBounds (G.blk k) o'}:=by
 have hkl:=aa0 hk;have hget:(H.set k (.mo y))[k]?=some (.mo y):=by simp[hkl]
 obtain⟨hsame,hother⟩:=MapKept.heap_set (o':=o') hb;generalize hw':({w with heap:=w.heap.setIfInBounds (G.blk k) o'}:World)=w';have hp:w'.heap[G.blk k]?=some o':=by rw[<-hw'];exact hsame
 have ho: ∀b,b≠G.blk k->w'.heap[b]?=w.heap[b]?:=fun b hne=>by rw[<-hw'];exact hother b hne
 have hos:w'.os=w.os/\w'.tape=w.tape/\w'.output=w.output/\w'.heap.size=w.heap.size:=by rw[<-hw'];exact⟨rfl,rfl,rfl,by simp⟩
 have old:=hi.tabs;have himm:=(old.1.2 k x hk).1;have st:Step G H w G (H.set k (.mo y)) w':=by
  refine⟨congrArg (fun o=>(o,G.lp)) hos.1,hos.2.1,hos.2.2.1,aQ7 hos.2.2.2.symm,fun _ _ h=>h,fun b off h=>World.cell?_of_block (w:=w) (ho b fun e=>himm off (e▸h)),fun b h=>ho b fun e=>himm 0 (e▸h 0),fun i=>?_⟩
  cases ei:H[i]? with
  |none=>exact bs1 ei
  |some o=>
   by_cases hik:i=k
   ·subst hik
    rw[hk] at ei;cases ei
    exact⟨⟨_,hget,rfl⟩,rfl,rfl⟩
   ·have ea:(H.set k (.mo y))[i]?=some o:=by rw[ar6 (fun h=>hik h.symm)];exact ei
    cases o with
    |cells t c=>exact⟨⟨_,ea,rfl⟩,rfl,rfl⟩
    |mo x=>exact⟨⟨_,ea,rfl⟩,rfl,rfl⟩
    |gone=>exact⟨ea,rfl,rfl⟩
    |loop r E=>exact⟨ea,rfl,rfl⟩
    |grow s n t=>exact⟨n,ea,xq0 _,fun _=>rfl⟩
 have hsk:site G H k=some (G.blk k):=by simp[site,hk]
 have hcell: ∀(b:Nat) arr T fr,w.heap[b]?=some (.cells arr T fr)->b≠G.blk k:=fun b arr T fr h e=>by
  rw[e,hb] at h;exact hn0 _ _ _ (Option.some.inj h)
 refine⟨⟨fun b off h=>by rw[hos.2.2.2];exact hi.lt b off h,fun i sh' c ei=>?_,fun i s n t ei=>?_,fun i j b e1 e2=>?_,⟨old.1.1.step st,fun i z e=>?_⟩,fun i l e=>by rw[hos.2.2.2];exact old.2.1 i l e,old.2.2.1,fun i l r E e1 e2=>?_⟩,st⟩
 ·rcases af6 ei with⟨hik,ei'⟩|⟨_,ei',_⟩
  ·obtain⟨a1,T1,f1,hb1,hs1,hr1,hg1,hg2,hg3⟩:=hi.cells i sh' c ei'
   have hne:=hcell _ _ _ _ hb1;exact⟨a1,T1,f1,(ho _ hne).trans hb1,hs1,fun j x v ex ev=>(hr1 j x v ex ev).mono st,hg1,fun off h=>(World.frozen?_of_block (w:=w) (ho _ hne)).trans (hg2 off h),hg3⟩
  ·cases ei'
 ·rcases af6 ei with⟨hik,ei'⟩|⟨_,ei',_⟩
  ·obtain⟨h0,h1,h2,hty⟩:=hi.grow i s n t ei'
   refine⟨h0,h1,fun hn=>?_,aj1 hty rfl (xq0 _) (fun b arr e fr hb1=>⟨arr,(ho _ (hcell _ _ _ _ hb1)).trans hb1,rfl⟩) (fun _ _ _ _ _ _ _ _ _ hx _=>hx)⟩
   obtain⟨b,off,a1,T1,f1,ea,hb1,hsz1,hj⟩:=h2 hn;have hne:=hcell _ _ _ _ hb1;exact⟨b,off,a1,T1,f1,ea,(ho _ hne).trans hb1,hsz1,fun j h3 h4=>⟨(hj j h3 h4).1,(World.frozen?_of_block (w:=w) (ho _ hne)).trans (hj j h3 h4).2⟩⟩
  ·cases ei'
 ·have hs: ∀i b,site G (H.set k (.mo y)) i=some b->site G H i=some b:=fun i b e=>by
   unfold site at e⊢;cases ei:(H.set k (AObj.mo y))[i]? with
   |none=>rw[ei] at e;cases e
   |some o=>
    rw[ei] at e;rcases af6 ei with⟨_,ei'⟩|⟨rfl,ei',_⟩
    ·rw[ei'];exact e
    ·subst ei';rw[hk];exact e
  exact hi.apart i j b (hs i b e1) (hs j b e2)
 ·rcases af6 e with⟨hik,e⟩|⟨rfl,e',_⟩
  ·obtain⟨h1,o1,h2,h3⟩:=old.1.2 i z e
   exact⟨h1,o1,(ho _ (hi.mo_apart e hsk hik)).trans h2,h3.mono st⟩
  ·cases e'
   exact⟨himm,o',hp,hr.mono st⟩
 ·rcases af6 e2 with⟨hik,e2⟩|⟨_,e',_⟩
  ·obtain⟨h1,h2,h3⟩:=old.2.2.2 i l r E e1 e2
   exact⟨h1,(ho l fun e=>himm 0 (e▸h1 0)).trans h2,fun t=>⟨(h3 t).1,(h3 t).2.mono st⟩⟩
  ·cases e'
def eqB:List UInt8->List UInt8->Bool
 |[],[]=>true
 |a::r,b::s=>a.toNat==b.toNat&&eqB r s
 |_,_=>false
theorem cK5: ∀(s k:List UInt8),eqB s k=decide (s=k)
 |[],[]=>rfl
 |[],_::_=>rfl
 |_::_,[]=>rfl
 |a::r,b::s=>by
  rw[eqB,cK5 r s];by_cases h:a=b
  ·subst h
   simp
  ·rw[show (a.toNat==b.toNat)=false from beq_false_of_ne fun e=>h (bo1.1 e),az9]
   exact(decide_eq_false (fun e=>h (List.cons.inj e).1)).symm
def cg1(k:List UInt8):AV->Bool
 |.str s=>eqB s k
 |_=>false
def bD2:AV->Bool
 |.str _=>true
 |_=>false
def bd8(k:List UInt8):List (Nat×AV×AV)->Option AV
 |[]=>none
 |e::r=>if cg1 k e.2.1=true then some e.2.2 else bd8 k r
def bC2(k:List UInt8)(v:AV)(c:Nat):List (Nat×AV×AV)->List (Nat×AV×AV)
 |[]=>[(c,.str k,v)]
 |e::r=>if cg1 k e.2.1=true then(e.1,.str k,v)::r else e::bC2 k v c r
def bz3(l:LT):AV:=if l.k.agg then .agg l.zero else l.zero.getD 0 .any
theorem cQ8{P:Program}{L:Tab}(hL:ac7 P L){t:TypeId}(ht:(L t).k≠ .other){G:Gh}{H:List AObj}{w:World}: ∃z,(zeroValue t).run P w=.ok z w/\Rel G H w (bz3 (L t)) z:=by
 obtain⟨_,i,z,hi,_,_,_,hz,hzs,h1,_,h2⟩:=hL t ht;refine⟨z,by simp[zeroValue,typeInfo,hi,hz],?_⟩
 have hr:=aB5 (G:=G) (H:=H) (w:=w) hzs;unfold bz3;cases hg:(L t).k.agg with
 |true=>
  rw[if_pos rfl,h1 hg];exact .agg _ _ hr.1 hr.2
 |false=>
  rw[if_neg (by simp)]
  have hc:=h2 hg;rw[hc] at hr hzs;rw[<-hzs] at hr⊢;exact hr.2 0 _ _ rfl rfl
theorem dU0{G:Gh}{H:List AObj}{w:World}{x:AV}{v:Value}(r:Rel G H w x v)(hx:bD2 x=true): ∃s,x=.str s/\v=.string ⟨s.toArray⟩:=by
 cases r with
 |str l=>exact⟨l,rfl,rfl⟩
 |_=>cases hx
theorem bytes_eq{a b:List UInt8}:((⟨a.toArray⟩:ByteArray)==⟨b.toArray⟩)=decide (b=a):=by
 cases h:decide (b=a) with
 |true=>
  rw[of_decide_eq_true h];exact(MapKept.bytes_beq _ _).2 rfl
 |false=>
  refine Bool.eq_false_iff.2 fun e=>of_decide_eq_false h ?_
  have:=(MapKept.bytes_beq _ _).1 e;injection this with this
  injection this with this
  exact this.symm
theorem bO9{G:Gh}{H:List AObj}{w:World}(k:List UInt8): ∀(es:List (Nat×AV×AV)) (ms:List MapEntry) (i:Nat),ms.length=es.length->es.all (bD2 ·.2.1)=true->(∀(j:Nat) e v,es[j]?=some e->ms[j]?=some v->v.born=e.1/\Rel G H w e.2.1 v.key/\Rel G H w e.2.2 v.val)->
  (bd8 k es=none/\Instr.findNow .string (.string ⟨k.toArray⟩) ms i=some none/\ ∀v c,bC2 k v c es=es++[(c,.str k,v)])\/
  ∃j m x e,bd8 k es=some x/\Instr.findNow .string (.string ⟨k.toArray⟩) ms i=some (some (i+j,m.val))/\Rel G H w x m.val/\ms[j]?=some m/\m.key=.string ⟨k.toArray⟩/\es[j]?=some e/\ ∀v c,bC2 k v c es=es.set j (e.1,.str k,v)
 |[],[],i,_,_,_=>.inl ⟨rfl,rfl,fun _ _=>rfl⟩
 |[],_::_,_,h,_,_=>by cases h
 |_::_,[],_,h,_,_=>by cases h
 |e::es,m::ms,i,hl,hs,hr=>by
  simp only[List.all_cons,xq3] at hs;obtain⟨_,hk,hv⟩:=hr 0 e m rfl rfl;obtain⟨s,hes,hms⟩:=dU0 hk hs.1;have hnow:Instr.sameNow .string (.string ⟨k.toArray⟩) m.key=some (decide (s=k)):=by rw[hms];simp only[Instr.sameNow,bytes_eq]
  have hki:cg1 k e.2.1=decide (s=k):=by rw[hes];exact cK5 s k
  by_cases h:s=k
  ·have hd:=decide_eq_true h
   rw[hd] at hnow hki;refine .inr ⟨0,m,e.2.2,e,by simp[bd8,hki],by simp[Instr.findNow,hnow],hv,rfl,by rw[hms,h],rfl,fun v c=>by simp[bC2,hki]⟩
  ·have hd:=decide_eq_false h
   rw[hd] at hnow hki;rcases bO9 k es ms (i+1) (by simpa using hl) hs.2 (fun j=>hr (j+1)) with⟨h1,h2,h3⟩|⟨j,m',x,e',h1,h2,h3,h4,h5,h6,h7⟩
   ·exact .inl ⟨by simp[bd8,hki,h1],by simp[Instr.findNow,hnow,h2],fun v c=>by simp[bC2,hki,h3]⟩
   ·exact .inr ⟨j+1,m',x,e',by simp[bd8,hki,h1],by simp[Instr.findNow,hnow,h2];omega,h3,by simpa using h4,h5,by simpa using h6,fun v c=>by simp[bC2,hki,h7]⟩
section
variable {P:Program}{env:Env}{H:List AObj}{dst:Option Tmp}{ty:TypeId}{pos:String}{after:Array Edge}{guard:Option (Nat×Bool)}
theorem cE8{t:TypeId}{r:Option Operand}{K:AV->List AObj->Prop}(h:r=none/\K (.mapp H.length) (H++[.mo (.map [] 0)])):AOp P ⟨dst,.makeMap t r,ty,pos,after,guard⟩ env H K:=.of_run fun n ds G a w s=>by
 obtain⟨rfl,hk⟩:=h;obtain⟨hi,st,hb⟩:=d88 s.inv (x:=.map [] 0) (o:=.map #[] 0) ⟨#[],rfl,rfl,fun j e v e1=>by simp at e1⟩
 refine⟨.map (some w.heap.size),_,.mapp H.length,_,_,by simp[execOp,Instr.makeMap,newObj];rfl,hi,st,?_,hk⟩
 have:=Rel.mapp (G:=ae3 G H w.heap.size 0) (H:=H++[.mo (.map [] 0)]) (w:=w.alloc (.map #[] 0)) H.length _ bo2 rfl;rwa [hb] at this
def br4(L:Tab)(H:List AObj)(t:TypeId)(x k:AV)(ok:Bool):Option (Prop×AV):=
 match(L t).k,x,k with
 |.map kt et,.mapp m,.str s=>match H[m]? with
  |some (.mo (.map es _))=>some ((L kt).k=.str/\known (L et)=true/\es.all (bD2 ·.2.1)=true,match ok,bd8 s es with
   |true,some v=>.tup [v,.bool true]
   |true,none=>.tup [bz3 (L et),.bool false]
   |false,some v=>v
   |false,none=>bz3 (L et))
  |_=>none
 |_,_,_=>none
theorem ck3{L:Tab}(hL:ac7 P L){t:TypeId}{x k:Operand}{ok:Bool}{p:Prop}{z:AV}(h:br4 L H t (ev env x) (ev env k) ok=some (p,z)):Still P ⟨dst,.lookup t x k ok,ty,pos,after,guard⟩ env H p z:=by
 intro hp n ds G a w s;unfold br4 at h;split at h
 ·rename_i kt et m s' h1 h2 h3
  split at h
  ·rename_i es c hm
   cases h
   obtain⟨hk1,hk2,hk3⟩:=hp;have ht:=(hL t (by rw[h1];simp)).1
   rw[h1] at ht;have hkt:=(hL kt (by rw[hk1];simp)).1
   rw[hk1] at hkt;simp only[ao0] at ht hkt;have rx:=s.ev x;have rk:=s.ev k;rw[h2] at rx;rw[h3] at rk;have hks:=ak9 rk;generalize hv:a.eval x=v at rx;cases rx with
   |mapp _ o e1 e2=>
    obtain⟨_,o',hb,arr,rfl,hsz,hr⟩:=s.inv.tabs.1.2 m _ hm;obtain⟨zv,hzv,hzr⟩:=cQ8 hL (aj7 hk2) (G:=G) (H:=H) (w:=w);have hck: ∀b,(Instr.checkKey b 10000 kt (.string ⟨s'.toArray⟩)).run P w=.ok () w:=fun b=>MapKept.run_checkKey hkt (show MapKept.IsKey .string (.string ⟨s'.toArray⟩) from trivial) b 9999
    rcases bO9 s' es arr.toList 0 (by simpa using hsz) hk3 (fun j e v e1 e2=>hr j e v e1 (by simpa using e2)) with⟨f1,f2,_⟩|⟨j,m',x',e',f1,f2,f3,_⟩
    ·cases ok with
     |true=>refine⟨.tuple #[zv,.bool false],by simp[execOp,hv,hks,Instr.lookup,run_underlying ht,MapKept.run_getObj_map hb,hck,MapKept.run_findKey hkt f2,hzv],?_⟩
            simp only[f1];exact .tup _ _ rfl fun j y u e1 e2=>by
             match j,e1,e2 with
             |0,e1,e2=>cases e1;cases e2;exact hzr
             |1,e1,e2=>cases e1;cases e2;exact .lit _
     |false=>exact⟨zv,by simp[execOp,hv,hks,Instr.lookup,run_underlying ht,MapKept.run_getObj_map hb,hck,MapKept.run_findKey hkt f2,hzv],by simp only[f1];exact hzr⟩
    ·cases ok with
     |true=>refine⟨.tuple #[m'.val,.bool true],by simp[execOp,hv,hks,Instr.lookup,run_underlying ht,MapKept.run_getObj_map hb,hck,MapKept.run_findKey hkt f2],?_⟩
            simp only[f1];exact .tup _ _ rfl fun j y u e1 e2=>by
             match j,e1,e2 with
             |0,e1,e2=>cases e1;cases e2;exact f3
             |1,e1,e2=>cases e1;cases e2;exact .lit _
     |false=>exact⟨m'.val,by simp[execOp,hv,hks,Instr.lookup,run_underlying ht,MapKept.run_getObj_map hb,hck,MapKept.run_findKey hkt f2],by simp only[f1];exact f3⟩
  ·cases h
 ·cases h
def aX1(L:Tab)(H:List AObj)(t:TypeId)(x k v:AV)(K:AV->List AObj->Prop)[Tag K]:Prop:=
 match(L t).k,x,k with
 |.map kt _,.mapp m,.str s=>match H[m]? with
  |some (.mo (.map es c))=>((L kt).k=.str/\es.all (bD2 ·.2.1)=true)/\K .any (H.set m (.mo (.map (bC2 s v c es) (if(bd8 s es).isSome=true then c else c+1))))
  |_=>False
 |_,_,_=>False
theorem b05{L:Tab}(hL:ac7 P L){t:TypeId}{x k v:Operand}{op:Op}(hop:op=.mapUpdate t x k v\/op=.insert t x k v){K:AV->List AObj->Prop}(h:aX1 L H t (ev env x) (ev env k) (ev env v) K):AOp P ⟨dst,op,ty,pos,after,guard⟩ env H K:=.of_skip fun n ds G a w s=>by
 unfold aX1 at h;split at h
 ·rename_i kt et m s' h1 h2 h3
  split at h
  ·rename_i es c hm
   obtain⟨⟨hk1,hk3⟩,hK⟩:=h;have ht:=(hL t (by rw[h1];simp)).1
   rw[h1] at ht;have hkt:=(hL kt (by rw[hk1];simp)).1
   rw[hk1] at hkt;simp only[ao0] at ht hkt;have rx:=s.ev x;have rk:=s.ev k;have rv:=s.ev v;rw[h2] at rx;rw[h3] at rk;have hks:=ak9 rk;generalize hv:a.eval x=u at rx;cases rx with
   |mapp _ o e1 e2=>
    obtain⟨_,o',hb,arr,rfl,hsz,hr⟩:=s.inv.tabs.1.2 m _ hm;have hck:(Instr.checkKey false 10000 kt (.string ⟨s'.toArray⟩)).run P w=.ok () w:=MapKept.run_checkKey hkt (show MapKept.IsKey .string (.string ⟨s'.toArray⟩) from trivial) false 9999
    have hexec:execOp a.eval ⟨dst,op,ty,pos,after,guard⟩=execOp a.eval ⟨dst,.mapUpdate t x k v,ty,pos,after,guard⟩:=by
     rcases hop with rfl|rfl<;>rfl
    rw[hexec];rcases bO9 s' es arr.toList 0 (by simpa using hsz) hk3 (fun j e v e1 e2=>hr j e v e1 (by simpa using e2)) with⟨f1,f2,f3⟩|⟨j,m',x',e',f1,f2,f3,f4,f5,f6,f7⟩
    ·rw[f3,f1] at hK
     obtain⟨hi,st⟩:=dc6 s.inv hm hb (y:=.map (es++[(c,.str s',ev env v)]) (c+1)) (o':=.map (arr.push {key:=.string ⟨s'.toArray⟩,val:=a.eval v,born:=c}) (c+1)) ⟨_,rfl,by simp[hsz],fun j e u e1 e2=>by
      rcases as7 e1 with⟨hj,e1⟩|⟨hj,rfl⟩
      ·rw[Array.getElem?_push_lt (by omega)] at e2
       exact hr j e u e1 ((xq2 (by omega)).trans e2)
      ·rw[hj,<-hsz,Array.getElem?_push_size] at e2
       cases e2
       exact⟨rfl,.str _,rv⟩⟩ (fun _ _ _ e=>by cases e) (fun _ _ _ e=>by cases e)
     refine⟨_,G,_,?_,hi,st,hK⟩;simp[execOp,hv,hks,Instr.mapUpdate,run_underlying ht,MapKept.run_getObj_map hb,hck,MapKept.run_findKey hkt f2,MapKept.run_setObj_map _ hb]
    ·rw[f7,f1] at hK
     have hjl:=aa0 f6;rw[aL0] at f4;obtain⟨hi,st⟩:=dc6 s.inv hm hb (y:=.map (es.set j (e'.1,.str s',ev env v)) c) (o':=.map (arr.modify j fun e=>{e with key:=.string ⟨s'.toArray⟩,val:=a.eval v}) c) ⟨_,rfl,by simp[hsz],fun i e u e1 e2=>by
      rw[bL7] at e2;rcases af6 e1 with⟨hij,e1⟩|⟨rfl,rfl,_⟩
      ·rw[if_neg (Ne.symm hij)] at e2
       exact hr i e u e1 e2
      ·rw[if_pos rfl,f4] at e2
       cases e2
       exact⟨(hr i e' m' f6 f4).1,.str _,rv⟩⟩ (fun _ _ _ e=>by cases e) (fun _ _ _ e=>by cases e)
     refine⟨_,G,_,?_,hi,st,hK⟩;have hsame:Instr.sameBits 10000 m'.key (.string ⟨s'.toArray⟩)=true:=by rw[f5];exact(MapKept.bytes_beq _ _).2 rfl
     simp[execOp,hv,hks,Instr.mapUpdate,run_underlying ht,MapKept.run_getObj_map hb,hck,MapKept.run_findKey hkt f2,MapKept.run_setObj_map _ hb,Instr.keyThatStays,f4,hsame]
  ·exact h.elim
 ·exact h.elim
end
end V
end
section
namespace V
open Go
variable {ds:List Deferred}
def lift(q:Option (Prop×AV))(K:AV->List AObj->Prop)(H:List AObj)[Tag K]:Prop:=
 match q with
 |some (p,z)=>p/\K z H
 |none=>False
theorem dd6{p:Prop}{z:AV}{K:AV->List AObj->Prop}{H:List AObj}:lift (some (p,z)) K H=(p/\K z H):=rfl
theorem dd7{K:AV->List AObj->Prop}{H:List AObj}:lift none K H=False:=rfl
def a13(z:AV):Option (Prop×AV):=some (True,z)
def bH0(c a b:AV):Option (Prop×AV):=
 match c with
 |.lit (.bool t)=>some (True,if t then a else b)
 |_=>none
def cm4(op:UnOp)(x:AV):Option (Prop×AV):=(qUn op x).map fun z=>(True,z)
def bH1(L:Tab)(t:TypeId)(x:AV):Option (Prop×AV):=(cm5 L t x).map fun z=>(True,z)
def aY5(x:AV)(i:Nat):Option (Prop×AV):=
 match x with
 |.tup xs=>(xs[i]?).map fun z=>(True,z)
 |_=>none
def cR5(x:AV):Option (Prop×AV):=some (x.okv=true,.ip x)
def be6(L:Tab)(t:TypeId)(ad x:AV)(H:List AObj)(K:AV->List AObj->Prop)[Tag K]:Prop:=
 match ad with
 |.mp k off=>match H[k]? with
  |some (.cells sh cs)=>(known (L t)=true/\x.okv=true/\x.flat.length=(L t).size/\off+(L t).size<=cs.length)/\K .any (H.set k (.cells sh (af4 cs off x.flat)))
  |_=>False
 |_=>False
def aX3(L:Tab)(t t2:TypeId)(x y:AV)(H:List AObj)(K:AV->List AObj->Prop)[Tag K]:Prop:=
 match(L t).k,x,a09 y with
 |.slice e,.sl o z xs,some (z2,ys)=>(aI4 (L t2).k=true/\known (L e)=true/\0 < (L e).size/\0 < (L e).bytes/\bE6 H o z xs (L e).size e/\(ys≠[]->z2=(L e).size)/\(xs.length+ys.length)*(L e).bytes<=140737488355328)/\
   K (.sl (bF0 H o (L e).size (xs.length+ys.length)).1 (L e).size (xs++ys)) (bF0 H o (L e).size (xs.length+ys.length)).2
 |_,_,_=>False
def aT8(P:Program)(f:AV)(args:List AV)(H:List AObj)(K:AV->List AObj->Prop)[Tag K]:Prop:=
 match f with
 |.fn (.func g) fs cs=>o7 P g (fs++args++cs) H K
 |.yld k=>aF9 P k args H K
 |_=>False
def cO3(e:TypeId)(x:AV)(H:List AObj)(K:AV->List AObj->Prop)[Tag K]:Prop:=x.okv=true/\K (.mp H.length 0) (H++[.cells (.one e) x.flat])
def a07(m:Bool)(L:Tab)(t t2:TypeId)(x y:AV)(H:List AObj)(K:AV->List AObj->Prop)[Tag K]:Prop:=
 match x with
 |.mrow _ _=>aR7 L t t2 x y H K
 |.msl _ _ _ _=>a99 L t t2 x y H K
 |_=>match y with
  |.lit _=>ba0 L t t2 x y H K
  |_=>if m then aL4 L t t2 x y H K else aX3 L t t2 x y H K
def ah7(m:Bool)(L:Tab)(b:Builtin)(args:List AV)(ts:List TypeId)(H:List AObj)(K:AV->List AObj->Prop)[Tag K]:Prop:=
 match b,args,ts with
 |.len,[x],[t]=>lift (bH1 L t x) K H
 |.append,[x,y],[t,t2]=>a07 m L t t2 x y H K
 |.copy,[x,y],[t,_]=>bq5 L t x y H K
 |.cap,[x],[t]=>lift (b44 L t x) K H
 |.min,[x,y],[_,_]=>lift (aH8 false x y) K H
 |.max,[x,y],[_,_]=>lift (aH8 true x y) K H
 |.unsafeSliceData,[x],[_]=>lift (aN2 H x) K H
 |.unsafeString,[x,y],[pt,_]=>match x with
  |.mp k off=>aX0 L pt k off y H K
  |_=>lift (aY4 L H pt x y) K H
 |_,_,_=>False
def ab9(P:Program)(L:Tab)(mu:List Nat)(o:Oper)(env:Env)(H:List AObj)(K:AV->List AObj->Prop):Prop:=
 match o.op with
 |.move x|.assign x=>lift (a13 (ev env x)) K H
 |.pick c a b=>lift (bH0 (ev env c) (ev env a) (ev env b)) K H
 |.binOp op t x y _=>if ax1 y then bS3 L op t (ev env x) H K else lift (bB6 P L op t (isConst y) (ev env x) (ev env y)) K H
 |.unOp op _ x=>lift (cm4 op (ev env x)) K H
 |.convert s d x=>if mu.contains (o.dst.getD 0) then bg5 L s d (ev env x) H K else lift (br8 P L H s d (ev env x)) K H
 |.extract x i=>lift (aY5 (ev env x) i) K H
 |.indexAddr t x i=>lift (aG8 L t (ev env x) (ev env i)) K H
 |.index t x i=>lift (br5 L t (ev env x) (ev env i)) K H
 |.load t x=>lift (aE7 L H t (ev env x)) K H
 |.slice t x lo hi mx=>lift (bi0 L t (ev env x) (evO env lo) (evO env hi) (evO env mx)) K H
 |.fieldAddr t x f=>lift (aG9 L t (ev env x) f) K H
 |.field t x f=>lift (br7 L t (ev env x) f) K H
 |.build t parts=>lift (bi1 L t (ai3 env parts)) K H
 |.buildSlice t len parts=>if mu.contains (o.dst.getD 0) then aX2 L t len (ai3 env parts) H K else if len=0/\parts.size≠0 then False else lift (aE2 L t len (ai3 env parts)) K H
 |.box e x=>if mu.contains (o.dst.getD 0) then cO3 e (ev env x) H K else lift (cR5 (ev env x)) K H
 |.alloc e=>known (L e)=true/\(match cg9 mu (o.dst.getD 0) with
  |none=>K (.mp H.length 0) (H++[.cells (.one e) (L e).zero])
  |some u=>K (.mp H.length 0) (H++[.cells (.one e) (av8 (H.length+1) (L e).zero),.grow 1 0 (some u)]))
 |.store t a x=>be6 L t (ev env a) (ev env x) H K
 |.call c=>match c.callee with
  |.builtin b=>ah7 (mu.contains (o.dst.getD 0)) L b (c.args.toList.map (ev env)) c.argTypes.toList H K
  |.value f=>aT8 P (ev env f) (c.args.toList.map (ev env)) H K
  |.invoke _ _=>False
 |.nilCheck x=>lift (b43 (ev env x)) K H
 |.makeSlice t x y=>bq4 L t (ev env x) (ev env y) H K
 |.makeFunc f fs cs=>lift (a13 (.fn f (fs.toList.map (ev env)) (cs.toList.map (ev env)))) K H
 |.makeInterface t x=>lift (br6 L t (ev env x)) K H
 |.sliceToArrayPointer t x=>lift (br3 L t (ev env x)) K H
 |.makeMap _ r=>r=none/\K (.mapp H.length) (H++[.mo (.map [] 0)])
 |.lookup t x k ok=>lift (br4 L H t (ev env x) (ev env k) ok) K H
 |.mapUpdate t m k v=>aX1 L H t (ev env m) (ev env k) (ev env v) K
 |.insert t m k v=>aX1 L H t (ev env m) (ev env k) (ev env v) K
 |_=>False
theorem c61{P:Program}{o:Oper}{env:Env}{H:List AObj}{p:Prop}{z:AV}{K:AV->List AObj->Prop}(h:Still P o env H p z)(hp:p)(hk:K z H):AOp P o env H K:=.of_run fun n ds G a w s=>
 let ⟨v,hr,hx⟩:=h hp n ds G a w s
 ⟨v,w,z,G,H,hr,s.inv,.refl _ _ _,hx,hk⟩
theorem c83{P:Program}{o:Oper}{env:Env}{H:List AObj}{p:Prop}{z:AV}{K:AV->List AObj->Prop}(h:Quiet P o env H p z)(hp:p)(hk:K z H):AOp P o env H K:=.of_run fun n ds G a w s=>
 let ⟨v,w',G',hr,hi,hs,hx⟩:=h hp n ds G a w s
 ⟨v,w',z,G',H,hr,hi,hs,hx,hk⟩
theorem ag5{P:Program}{o:Oper}{env:Env}{H:List AObj}{q:Option (Prop×AV)}{K:AV->List AObj->Prop}(h: ∀p z,q=some (p,z)->Still P o env H p z)(hk:lift q K H):AOp P o env H K:=by
 unfold lift at hk;split at hk
 ·exact c61 (h _ _ rfl) hk.1 hk.2
 ·exact hk.elim
theorem bd9{P:Program}{o:Oper}{env:Env}{H:List AObj}{q:Option (Prop×AV)}{K:AV->List AObj->Prop}(h: ∀p z,q=some (p,z)->Quiet P o env H p z)(hk:lift q K H):AOp P o env H K:=by
 unfold lift at hk;split at hk
 ·exact c83 (h _ _ rfl) hk.1 hk.2
 ·exact hk.elim
section
variable {P:Program}{env:Env}{H:List AObj}{dst:Option Tmp}{ty:TypeId}{pos:String}{after:Array Edge}{guard:Option (Nat×Bool)}
theorem bV6{n:Nat}{G:Gh}{a:Act}{w:World}(s:Sat n ds G env H a w)(xs:Array Operand):ax2 G H w (xs.toList.map (ev env)) (xs.map a.eval):=by
 refine⟨by simp,fun j x v e e'=>?_⟩
 simp only[xq7,ce4,aL0] at e e';cases h:xs[j]? with
 |none=>rw[h] at e;cases e
 |some y=>
  rw[h] at e e';cases e
  cases e'
  exact s.ev y
theorem by6{G:Gh}{w:World}{xs ys:List AV}{vs us:Array Value}(h:ax2 G H w xs vs)(k:ax2 G H w ys us):ax2 G H w (xs++ys) (vs++us):=by
 refine⟨by simp[h.1,k.1],fun j x v e e'=>?_⟩
 by_cases hj:j < xs.length
 ·rw[xq4 hj] at e
  rw[bu1 (by rw[h.1];exact hj)] at e'
  exact h.2 j x v e e'
 ·rw[xq5 (by omega)] at e
  rw[cN5 (by rw[h.1];omega),h.1] at e'
  exact k.2 _ x v e e'
theorem dF2{f:Operand}{args:Array Operand}{ats:Array TypeId}{K:AV->List AObj->Prop}(h:aT8 P (ev env f) (args.toList.map (ev env)) H K):AOp P ⟨dst,.call {callee:=.value f,args,argTypes:=ats},ty,pos,after,guard⟩ env H K:=by
 intro ro N Q n ds G a w s;have rf:=s.ev f;refine⟨fun _ _=>trivial,?_⟩
 rw[Oper.semAt_eq _ _ _ (fun c e=>by cases e)]
 unfold aT8 at h;split at h
 ·rename_i g fs cs ef
  rw[ef] at rf;generalize hv:a.eval f=v at rf;cases rf with
  |fn _ _ _ fa ca hf hc hrf hrc=>
   have hargs:ax2 G H w (fs++args.toList.map (ev env)++cs) (fa++args.map a.eval++ca):=by6 (by6 ⟨hf,hrf⟩ (bV6 s args)) ⟨hc,hrc⟩;have hinv:(execOp a.eval ⟨dst,.call {callee:=.value f,args,argTypes:=ats},ty,pos,after,guard⟩).run P w=(callFunc g (fa++args.map a.eval++ca)).run P w:=by
    simp[execOp,resolve,hv,Deferred.ofValue,invoke]
   rcases h G w _ s.inv hargs with⟨fn,hfn,hbody,hname,hcall⟩|⟨v,w',hcall,x,G',H',hi,hs,hx,hk⟩
   ·have hb:fn.body≠none:=by intro e;rw[e] at hbody;cases hbody
    have hn:fn.name≠ "runtime.NumGoroutine" :=by simpa using hname
    have hrun:(execOp a.eval ⟨dst,.call {callee:=.value f,args,argTypes:=ats},ty,pos,after,guard⟩).run P w=.ok (.enter g (fa++args.map a.eval++ca)) w:=by
     rw[hinv];simp[callFunc,hfn,hb,hn]
    rw[hrun,Oper.uponIn_enter];refine⟨fun e=>by simp[fw,Fence.wide] at e,bZ7 (hcall.mono ?_)⟩
    rintro e w' ⟨v,rfl,x,G',H',hi,hs,hx,hk⟩
    exact⟨v,x,G',H',rfl,hi,hs,hx,hk⟩
   ·rw[hinv,hcall]
    exact⟨v,x,G',H',rfl,hi,hs,hx,hk⟩
 ·rename_i k ef
  rw[ef] at rf;generalize hv:a.eval f=v at rf;cases rf with
  |yld _ l o ho hlp=>
   have hinv:(execOp a.eval ⟨dst,.call {callee:=.value f,args,argTypes:=ats},ty,pos,after,guard⟩).run P w=(Instr.yield l (args.map a.eval)).run P w:=by
    simp[execOp,resolve,hv,Deferred.ofValue,invoke]
   obtain⟨fn,tmps,assign,body,hrun,hround⟩:=h ro (N - 1) G w _ l s.inv (bV6 s args) hlp;rw[hinv,hrun,Oper.uponIn_round];refine⟨fun e=>by simp[fw,Fence.wide] at e,hround.mono ?_⟩
   rintro e w' ⟨v,x,G',H',rfl,hi,hs,hx,hk⟩
   exact⟨v,x,G',H',rfl,hi,hs,hx,hk⟩
 ·exact h.elim
theorem bu5{L:Tab}(hL:ac7 P L){mu:List Nat}{o:Oper}{K:AV->List AObj->Prop}(h:ab9 P L mu o env H K):AOp P o env H K:=by
 obtain⟨dst,op,ty,pos,after,guard⟩:=o;unfold ab9 at h;simp only at h;split at h
 ·exact ag5 (fun p z e=>by cases e;exact cP6) h
 ·exact ag5 (fun p z e=>by cases e;exact ck4) h
 ·refine ag5 (fun p z e=>?_) h
  unfold bH0 at e;split at e
  ·rename_i t et
   cases e
   exact cP5 et
  ·cases e
 ·split at h
  ·rename_i hn
   exact dZ2 hL hn h
  ·exact ag5 (fun p z e=>c60 hL e) h
 ·refine ag5 (fun p z e=>?_) h
  unfold cm4 at e;rename_i op' _ x;cases e':qUn op' (ev env x) with
  |none=>rw[e'] at e;cases e
  |some u=>rw[e'] at e;cases e;exact do1 e'
 ·split at h
  ·exact dF1 hL h
  ·exact bd9 (fun p z e=>cB6 hL e) h
 ·rename_i x' i'
  refine ag5 (fun p z e=>?_) h
  unfold aY5 at e;split at e
  ·rename_i xs ex
   cases e':xs[i']? with
   |none=>rw[e'] at e;cases e
   |some u=>rw[e'] at e;cases e;exact cc0 ex e'
  ·cases e
 ·exact ag5 (fun p z e=>bT4 hL e) h
 ·exact ag5 (fun p z e=>cz4 hL e) h
 ·exact ag5 (fun p z e=>cP7 hL e) h
 ·exact ag5 (fun p z e=>cz3 hL e) h
 ·exact ag5 (fun p z e=>bT5 hL e) h
 ·exact ag5 (fun p z e=>cz6 hL e) h
 ·exact ag5 (fun p z e=>cz7 hL e) h
 ·split at h
  ·exact cY6 hL h
  split at h
  ·exact h.elim
  ·rename_i hne
   refine bd9 (fun p z e=>bM9 hL e fun h0=>cN6 (Classical.byContradiction fun hs=>hne ⟨h0,hs⟩)) h
 ·split at h
  ·exact cE9 h.1 h.2
  ·exact bd9 (fun p z e=>by cases e;exact c82) h
 ·obtain⟨h1,h2⟩:=h
  split at h2
  ·exact dk8 hL h1 h2
  ·exact cY8 hL h1 h2
 ·unfold be6 at h
  split at h
  ·rename_i k off ea
   split at h
   ·rename_i sh cs hk
    exact dk6 hL ea hk h.1 h.2
   ·exact h.elim
  ·exact h.elim
 ·rename_i c
  obtain⟨callee,args,ats⟩:=c;simp only at h;split at h
  ·rename_i b
   unfold ah7 at h;split at h
   ·rename_i x t hx ht
    obtain⟨y,rfl,rfl⟩: ∃y,args= #[y]/\x=ev env y:=by
     obtain⟨l⟩:=args;match l,hx with
     |[y],hx=>exact⟨y,rfl,by simpa using hx.symm⟩
    obtain rfl:ats= #[t]:=Array.ext' (by simpa using ht)
    refine ag5 (fun p z e=>?_) h
    unfold bH1 at e;cases e':cm5 L t (ev env y) with
    |none=>rw[e'] at e;cases e
    |some u=>rw[e'] at e;cases e;exact c57 hL e'
   ·rename_i x y t t2 hx ht
    obtain⟨x',y',rfl,rfl,rfl⟩: ∃x' y',args= #[x',y']/\x=ev env x'/\y=ev env y':=by
     obtain⟨l⟩:=args;match l,hx with
     |[x',y'],hx=>exact⟨x',y',rfl,by simp at hx;exact hx.1.symm,by simp at hx;exact hx.2.symm⟩
    obtain rfl:ats= #[t,t2]:=Array.ext' (by simpa using ht)
    unfold a07 at h;split at h
    ·exact cF1 hL h
    ·exact cF0 hL h
    ·split at h
     ·exact cF3 hL h
     ·split at h
      ·exact cF2 hL h
      ·unfold aX3 at h
       split at h
       ·rename_i h1 h2 h3
        exact cY7 hL h2 h3 h1 h.1 h.2
       ·exact h.elim
   ·rename_i x y t t2 hx ht
    obtain⟨x',y',rfl,rfl,rfl⟩: ∃x' y',args= #[x',y']/\x=ev env x'/\y=ev env y':=by
     obtain⟨l⟩:=args;match l,hx with
     |[x',y'],hx=>exact⟨x',y',rfl,by simp at hx;exact hx.1.symm,by simp at hx;exact hx.2.symm⟩
    obtain rfl:ats= #[t,t2]:=Array.ext' (by simpa using ht)
    exact dF0 hL h
   ·rename_i x t hx ht
    obtain⟨y,rfl,rfl⟩: ∃y,args= #[y]/\x=ev env y:=by
     obtain⟨l⟩:=args;match l,hx with
     |[y],hx=>exact⟨y,rfl,by simpa using hx.symm⟩
    obtain rfl:ats= #[t]:=Array.ext' (by simpa using ht)
    exact ag5 (fun p z e=>c58 hL e) h
   ·rename_i x y t t2 hx ht
    obtain⟨x',y',rfl,rfl,rfl⟩: ∃x' y',args= #[x',y']/\x=ev env x'/\y=ev env y':=by
     obtain⟨l⟩:=args;match l,hx with
     |[x',y'],hx=>exact⟨x',y',rfl,by simp at hx;exact hx.1.symm,by simp at hx;exact hx.2.symm⟩
    exact ag5 (fun p z e=>c55 e) h
   ·rename_i x y t t2 hx ht
    obtain⟨x',y',rfl,rfl,rfl⟩: ∃x' y',args= #[x',y']/\x=ev env x'/\y=ev env y':=by
     obtain⟨l⟩:=args;match l,hx with
     |[x',y'],hx=>exact⟨x',y',rfl,by simp at hx;exact hx.1.symm,by simp at hx;exact hx.2.symm⟩
    exact ag5 (fun p z e=>c56 e) h
   ·rename_i x t hx ht
    obtain⟨y,rfl,rfl⟩: ∃y,args= #[y]/\x=ev env y:=by
     obtain⟨l⟩:=args;match l,hx with
     |[y],hx=>exact⟨y,rfl,by simpa using hx.symm⟩
    exact ag5 (fun p z e=>bT3 e) h
   ·rename_i x y t t2 hx ht
    obtain⟨x',y',rfl,rfl,rfl⟩: ∃x' y',args= #[x',y']/\x=ev env x'/\y=ev env y':=by
     obtain⟨l⟩:=args;match l,hx with
     |[x',y'],hx=>exact⟨x',y',rfl,by simp at hx;exact hx.1.symm,by simp at hx;exact hx.2.symm⟩
    obtain rfl:ats= #[t,t2]:=Array.ext' (by simpa using ht)
    split at h
    ·rename_i hx'
     exact cY5 hL hx' h
    ·exact bd9 (fun p z e=>cm3 hL e) h
   ·exact h.elim
  ·exact dF2 h
  ·exact h.elim
 ·exact ag5 (fun p z e=>c54 e) h
 ·exact dE9 hL h
 ·exact ag5 (fun p z e=>by cases e;exact b38) h
 ·exact ag5 (fun p z e=>cz5 hL e) h
 ·exact ag5 (fun p z e=>cz2 hL e) h
 ·exact cE8 h
 ·exact ag5 (fun p z e=>ck3 hL e) h
 ·exact b05 hL (.inl rfl) h
 ·exact b05 hL (.inr rfl) h
 ·exact h.elim
end
def aq6(all:List Oper)(env:Env)(j:Nat):AV:=match(all[j]?).bind (·.dst) with|some d=>get env d|none=>.any
def ay5(g:AV)(want:Bool)(run skip skip0:Prop)[Tag run][Tag skip][Tag skip0]:Prop:=
 match g with
 |.lit (.bool b)=>(b=want->run)/\(b≠want->skip)
 |.lit (.tuple _)=>skip0
 |_=>False
theorem c09{r s z:Prop}{b:Bool}{a:Array Value}:ay5 (.lit (.tuple a)) b r s z=z:=rfl
theorem c22{r s z:Prop}{t:Bool}:ay5 (.lit (.bool t)) true r s z=((t=true->aW6 r)/\(t=false->aW6 s)):=by cases t<;>simp[ay5,aZ1]
theorem cO5{r s z:Prop}{t:Bool}:ay5 (.lit (.bool t)) false r s z=((t=true->aW6 s)/\(t=false->aW6 r)):=by cases t<;>simp[ay5,aZ1]
def known1(all:List Oper)(j:Nat)(b:Bool)(env:Env):Env:=put ((all[j]?).bind (·.dst)) (.lit (.bool b)) env
def aB8(P:Program)(L:Tab)(mu:List Nat)(all:List Oper):List Oper->Env->List AObj->(Env->List AObj->Prop)->Prop
 |[],env,H,K=>K env H
 |o::rest,env,H,K=>
  match o.guard with
  |none=>ab9 P L mu o env H fun v H'=>aB8 P L mu all rest (put o.dst v env) H' K
  |some (j,want)=>ay5 (aq6 all env j) want (ab9 P L mu o (known1 all j want env) H fun v H'=>aB8 P L mu all rest (put o.dst v (known1 all j want env)) H' K) (aB8 P L mu all rest (put o.dst (.lit undef) (known1 all j (!want) env)) H K) (aB8 P L mu all rest (put o.dst (.lit undef) env) H K)
def ay3(n:Nat)(ops:List Oper):Bool:=ops.all fun o=>match o.dst with|some d=>decide (d < n)|none=>true
theorem bA1{n:Nat}{G:Gh}{env:Env}{H:List AObj}{a:Act}{w:World}(s:Sat n ds G env H a w){all:Array Oper}{o:Oper}{j:Nat}{want b:Bool}(hg:o.guard=some (j,want))(hb:aq6 all.toList env j=.lit (.bool b))(hd:ay3 n all.toList=true):
  Region.wanted o (yielded all a.tmps)=decide (b=want):=by
 unfold aq6 at hb;simp only[Region.wanted,hg,yielded];split at hb
 ·rename_i d hj
  rw[aL0] at hj;rw[hj];have r:=s.env d;rw[hb] at r;have e:=ac0 r;have hdn:d < n:=by
   cases ho:all[j]? with
   |none=>rw[ho] at hj;cases hj
   |some oj=>
    rw[ho] at hj;have:=xq6.1 hd oj (by rw[aT5];exact ce5 ho)
    simp only[Option.bind_some] at hj;rw[hj] at this;simpa using this
  have hlt:d < a.tmps.size:=by rw[s.size];exact hdn
  have:a.tmps[d]?=some (.bool b):=by
   rw[ap3,xq2 hlt] at e;rw[xq2 hlt];exact congrArg some e
  simp only[Option.bind_some,this];cases b<;>cases want<;>rfl
 ·cases hb
theorem bg4{n:Nat}{G:Gh}{env:Env}{H:List AObj}{a:Act}{w:World}(s:Sat n ds G env H a w){all:Array Oper}{o:Oper}{j:Nat}{want:Bool}{ar:Array Value}(hg:o.guard=some (j,want))(hb:aq6 all.toList env j=.lit (.tuple ar))(hd:ay3 n all.toList=true):
  Region.wanted o (yielded all a.tmps)=false:=by
 unfold aq6 at hb;simp only[Region.wanted,hg,yielded];split at hb
 ·rename_i d hj
  rw[aL0] at hj;rw[hj];have r:=s.env d;rw[hb] at r;have e:=ac0 r;rw[ap3] at e;simp only[Option.bind_some];cases h:a.tmps[d]? with
  |none=>cases want<;>rfl
  |some v=>
   rw[h] at e;simp only[Option.getD_some] at e;subst e;cases want<;>rfl
 ·cases hb
theorem Sat.known{n:Nat}{G:Gh}{env:Env}{H:List AObj}{a:Act}{w:World}(s:Sat n ds G env H a w){all:List Oper}{j:Nat}{b:Bool}(hb:aq6 all env j=.lit (.bool b)):Sat n ds G (known1 all j b env) H a w:=by
 refine⟨s.size,s.defers,fun t=>?_,s.inv⟩
 unfold known1 V.put;unfold aq6 at hb;split at hb
 ·rename_i d hd
  rw[hd];simp only[get];split
  ·rename_i e
   subst e;rw[<-hb];exact s.env d
  ·exact s.env t
 ·cases hb
theorem da5{F:Fence}{N:Nat}{P:Program}{o:Oper}{a:Act}{w:World}{K K':Act->World->Prop}{Q Q':Exit->Act->World->Prop}(h: ∀a w,K a w->K' a w)(hq: ∀e a w,Q e a w->Q' e a w)
  (hh:o.wpIn F N P a w K Q):o.wpIn F N P a w K' Q':=by
 have hl:LetsOut Q->LetsOut Q':=fun⟨a,w,q⟩=>⟨a,w,hq _ _ _ q⟩
 refine⟨hh.1,?_⟩;have hh:=hh.2;generalize (o.semAt F.round a.eval).run P w=r at*;cases r with
 |ok x w'=>
  cases x<;>simp only[Oper.uponIn] at hh⊢ <;>
   first
    |exact h _ _ hh
    |exact⟨hh.1,CallsIn.mono hh.2 (fun e w'' he=>by cases e<;>first|exact h _ _ he|exact hq _ _ _ he|exact hl he)⟩
    |exact⟨hh.1,RowsIn.mono hh.2 (fun _ _ he=>h _ _ he)⟩
    |exact⟨hh.1,RoundIn.mono hh.2 (fun e w'' he=>by cases e<;>first|exact h _ _ he|exact hq _ _ _ he|exact hl he)⟩
 |halt x w'=>
  cases x<;>simp only[Oper.uponIn] at hh⊢
  all_goals first|exact hq _ _ _ hh|exact hh
theorem bo9{F:Fence}{N:Nat}{P:Program}{all:Array Oper}{Q Q':Exit->Act->World->Prop}(hq: ∀e a w,Q e a w->Q' e a w): ∀(l:List Oper) (a:Act) (w:World),wpListIn F N P all Q l a w->wpListIn F N P all Q' l a w
 |[],a,w,h=>hq _ _ _ h
 |o::r,a,w,h=>by
  unfold wpListIn at h⊢;split at h
  ·rename_i hw
   rw[if_pos hw];exact da5 (fun a w h=>bo9 hq r a w h) hq h
  ·rename_i hw
   rw[if_neg hw];exact⟨h.1,bo9 hq r _ _ h.2⟩
theorem a06{P:Program}{L:Tab}(hL:ac7 P L){mu:List Nat}{n:Nat}{all:Array Oper}(hall:ay3 n all.toList=true){Q:Exit->Env->List AObj->Prop}:
  ∀(rest:List Oper) (env:Env) (H:List AObj),ay3 n rest=true->aB8 P L mu all.toList rest env H (Q .normal)-> ∀ro N ds G a w,Sat n ds G env H a w->wpListIn (fw ro) N P all (Post n ds G H w Q) rest a w
 |[],env,H,_,h,ro,N,ds,G,a,w,s=>⟨G,env,H,s,.refl _ _ _,h⟩
 |o::rest,env,H,hd,h,ro,N,ds,G,a,w,s=>by
  simp only[ay3,List.all_cons,xq3] at hd;obtain⟨hd1,hd2⟩:=hd;have hdst: ∀t,o.dst=some t->t < n:=fun t e=>by rw[e] at hd1;simpa using hd1
  have run: ∀env,Sat n ds G env H a w->ab9 P L mu o env H (fun v H'=>aB8 P L mu all.toList rest (put o.dst v env) H' (Q .normal))->o.wpIn (fw ro) N P a w (wpListIn (fw ro) N P all (Post n ds G H w Q) rest) (Post n ds G H w Q):=fun env s hv=>by
   refine Oper.wpIn_mono (fun a' w' hx=>?_) (bu5 hL hv ro N (Post n ds G H w Q) n ds G a w s)
   obtain⟨v,x,G',H',rfl,hi,hs,hx,hk⟩:=hx;have s':=s.put hs hi hx hdst;exact bo9 (fun _ _ _ h=>h.trans hs) _ _ _ (a06 hL hall (Q:=Q) rest _ H' hd2 hk ro N ds G' _ w' s')
  unfold aB8 at h;unfold wpListIn;cases hg:o.guard with
  |none=>
   rw[hg] at h;have hw:Region.wanted o (yielded all a.tmps)=true:=by simp[Region.wanted,hg]
   rw[if_pos hw];exact run env s h
  |some jw=>
   obtain⟨j,want⟩:=jw;rw[hg] at h;simp only[ay5] at h;split at h
   ·rename_i b hb
    have hwd:=bA1 s hg hb hall;rw[hwd];by_cases e:b=want
    ·rw[if_pos (by simpa using e)]
     exact run _ (s.known (e▸hb)) (h.1 e)
    ·rw[if_neg (by simpa using e)]
     have hb':aq6 all.toList env j=.lit (.bool !want):=by rw[hb];cases b<;>cases want<;>simp_all
     exact⟨fun _ _=>trivial,a06 hL hall (Q:=Q) rest _ H hd2 (h.2 e) ro N ds G _ w ((s.known hb').put (.refl _ _ _) s.inv (.lit _) hdst)⟩
   ·rename_i ar hb
    rw[bg4 s hg hb hall];rw[if_neg (by simp)]
    exact⟨fun _ _=>trivial,a06 hL hall (Q:=Q) rest _ H hd2 h ro N ds G _ w (s.put (.refl _ _ _) s.inv (.lit _) hdst)⟩
   ·exact h.elim
theorem dj8{P:Program}{L:Tab}(hL:ac7 P L)(mu:List Nat){n:Nat}{id:Nat}{ops:List Oper}(hops:ay3 n ops=true){Q:Exit->Env->List AObj->Prop}{env:Env}{H:List AObj}
  (h:aB8 P L mu ops ops env H (Q .normal)):AW P n (.region id ops.toArray false) Q env H:=fun ro N ds G a w s=>
 wpIn_region_list (a06 (all:=ops.toArray) hL (by simpa using hops) ops env H hops (by simpa using h) ro N ds G a w s)
end V
end
section
namespace V
open Go
variable {ds:List Deferred}
def aF6:Nat->List AV->Env
 |_,[]=>[]
 |i,x::r=>(i,x)::aF6 (i+1) r
theorem bO6: ∀(l:List AV) (i t:Nat),get (aF6 i l) t=if i<=t then(l[t - i]?).getD .any else .any
 |[],i,t=>by simp[aF6,get]
 |x::r,i,t=>by
  simp only[aF6,get,bO6 r];by_cases h:i=t
  ·subst h;simp
  ·simp only[h,if_false]
   by_cases h2:i+1<=t
   ·rw[if_pos h2,if_pos (by omega),show t - i=(t - (i+1))+1 by omega,List.getElem?_cons_succ]
   ·rw[if_neg h2,if_neg (by omega)]
def br2(L:Tab)(env:Env)(H:List AObj):ResultVar->Option (Prop×AV)
 |.tmp t=>some (True,get env t)
 |.cell a t=>aE7 L H t (get env a)
def aF2(L:Tab)(env:Env)(H:List AObj):List ResultVar->Option (Prop×List AV)
 |[]=>some (True,[])
 |r::rs=>match br2 L env H r,aF2 L env H rs with
  |some (p,x),some (q,xs)=>some (p/\q,x::xs)
  |_,_=>none
def aO7:List AV->AV
 |[x]=>x
 |xs=>.tup xs
def Ends(H₀:List AObj)(x:AV)(H:List AObj)(y:AV)(H':List AObj):Prop:=
 ∀G₀ w₀ G w v,HInv G₀ H₀ w₀->HInv G H w->Step G₀ H₀ w₀ G H w->Rel G H w x v-> ∃G',HInv G' H' w/\Step G₀ H₀ w₀ G' H' w/\Rel G' H' w y v
theorem dW7{H₀ H:List AObj}{x y:AV}(h:Le x y):Ends H₀ x H y H:=fun _ _ G w v _ hi hs r=>⟨G,hi,hs,h _ _ _ _ r⟩
theorem be3{H₀ H H' H'':List AObj}{x y z:AV}(h:Ends H₀ x H y H')(k:Ends H₀ y H' z H''):Ends H₀ x H z H'':=fun G₀ w₀ G w v h0 hi hs r=>by
 obtain⟨G1,hi1,hs1,r1⟩:=h G₀ w₀ G w v h0 hi hs r;exact k G₀ w₀ G1 w v h0 hi1 hs1 r1
theorem aZ8{H₀ H:List AObj}{x y:AV}{m:Nat}(hle:Le x y)(hm:H₀.length<=m)(hl:Low m y)(hobj: ∀k o,k < m->H[k]?=some o->H₀[k]?=some o\/o.low m):Ends H₀ x H y (H.take m):=fun _ _ G _ _ h0 hi hs r=>
 ⟨G,hi.cut m fun k _ hk e=>(hobj k _ hk e).elim (fun h=>AObj.low_mono hm (h0.low h)) id,hs.cut hm,(hle _ _ _ _ r).cut m hl⟩
inductive Frz(m:Nat)(H:List AObj):AV->AV->Prop
 |low (x:AV) (h:Low m x):Frz m H x x
 |any (x:AV):Frz m H x .any
 |row (k len s:Nat) (sh:Shape) (cs xs:List AV) (hk:m<=k) (ho:H[k]?=some (.cells sh cs)) (hx:xs.length=len) (hs: ∀x∈xs,x.flat.length=s/\x.okv=true) (hl:(aa2 xs).length<=cs.length)
   (h: ∀(j:Nat) c y,cs[j]?=some c->(aa2 xs)[j]?=some y->Frz m H c y):Frz m H (.mrow k len) (.sl .sh s xs)
 |msl (k off len cap s:Nat) (sh:Shape) (cs xs:List AV) (hk:m<=k) (ho:H[k]?=some (.cells sh cs)) (hx:xs.length=len) (hs: ∀x∈xs,x.flat.length=s/\x.okv=true) (hl:off+(aa2 xs).length<=cs.length)
   (h: ∀(j:Nat) c y,cs[off+j]?=some c->(aa2 xs)[j]?=some y->Frz m H c y):Frz m H (.msl k off len cap) (.sl .sh s xs)
 |mp (k off:Nat) (sh:Shape) (cs:List AV) (x:AV) (hk:m<=k) (ho:H[k]?=some (.cells sh cs)) (hl:off+x.flat.length<=cs.length)
   (h: ∀(j:Nat) c y,cs[off+j]?=some c->x.flat[j]?=some y->Frz m H c y):Frz m H (.mp k off) (.ip x)
 |agg (cs ds:List AV) (hl:ds.length=cs.length) (h: ∀(j:Nat) c d,cs[j]?=some c->ds[j]?=some d->Frz m H c d):Frz m H (.agg cs) (.agg ds)
 |tup (cs ds:List AV) (hl:ds.length=cs.length) (h: ∀(j:Nat) c d,cs[j]?=some c->ds[j]?=some d->Frz m H c d):Frz m H (.tup cs) (.tup ds)
 |ifc (t:TypeId) (x y:AV) (h:Frz m H x y):Frz m H (.ifc t x) (.ifc t y)
def cu9(G:Gh)(H:List AObj)(m:Nat):Gh:={G with imm:=fun b off=>G.imm b off\/ ∃k sh cs,m<=k/\H[k]?=some (.cells sh cs)/\b=G.blk k}
theorem bO8{G:Gh}{H:List AObj}{w:World}(hi:HInv G H w)(m:Nat):Step G (H.take m) w (cu9 G H m) (H.take m) w:=
 ⟨rfl,rfl,rfl,xq0 _,fun _ _ h=>.inl h,fun _ _ _=>rfl,fun _ _=>rfl,fun k=>by
  cases e:(H.take m)[k]? with
  |none=>exact aN5 e
  |some o=>
   cases o with
   |cells t c=>exact⟨⟨_,e,rfl⟩,rfl,rfl⟩
   |mo x=>exact⟨⟨_,e,rfl⟩,rfl,rfl⟩
   |gone=>exact⟨e,rfl,rfl⟩
   |loop r E=>exact⟨e,rfl,rfl⟩
   |grow s n t=>exact⟨n,e,xq0 _,fun _=>rfl⟩⟩
theorem dV6{G:Gh}{H:List AObj}{w:World}(hi:HInv G H w)(m:Nat)(hl: ∀k o,k < m->H[k]?=some o->o.low m):HInv (cu9 G H m) (H.take m) w:=by
 have hc:=hi.cut m hl;have st:=bO8 hi m;have tk: ∀{k:Nat} {o:AObj},(H.take m)[k]?=some o->k < m/\H[k]?=some o:=fun {k o} e=>by
  rw[aB1] at e;split at e
  ·exact⟨by assumption,e⟩
  ·cases e
 refine⟨fun b off h=>?_,fun k sh cs e=>?_,fun k s n t e=>?_,hc.apart,hc.tabs.step st fun k x e=>⟨e,rfl,fun off h=>h.elim id fun⟨k',sh',cs',hm',hk',hbb⟩=>by
  obtain⟨hkm,e'⟩:=tk e;exact absurd hbb (hi.mo_apart (i:=k') e' (by simp[site,hk']) (by omega))⟩⟩
 ·rcases h with h|⟨k,sh,cs,_,hk,rfl⟩
  ·exact hi.lt b off h
  ·obtain⟨arr,T,fr,hb,_⟩:=hi.cells k sh cs hk
   exact au1 hb
 ·obtain⟨arr,T,fr,hb,hs,hr,hf1,hf2⟩:=hc.cells k sh cs e
  obtain⟨hkm,e'⟩:=tk e;refine⟨arr,T,fr,hb,hs,fun j x v ex ev=>(hr j x v ex ev).mono st,fun off h=>?_,hf2⟩
  rcases h with h|⟨k',sh',cs',hm',hk',hbb⟩
  ·exact hf1 off h
  ·have hbb':G.blk k=G.blk k':=hbb
   have:=hi.apart k k' (G.blk k) (by simp[site,e']) (by simp[site,hk',hbb'])
   omega
 ·obtain⟨h0,h1,h2,h3⟩:=hc.grow k s n t e
  obtain⟨hkm,e'⟩:=tk e;refine⟨h0,h1,fun hn=>?_,aj1 h3 rfl (xq0 _) (fun b arr e fr hb=>⟨arr,hb,rfl⟩) fun b off arr e fr hb ea hc ht hx _=>?_⟩
  rotate_left
  ·rcases hx with hx|⟨k',sh',cs',hm',hk',hbb⟩
   ·exact hx
   ·have hs:site G H k=some b:=by
     unfold site;rw[e',show G.own k=(some ⟨b,0,none⟩,(G.own k).2) by rw[<-ea]]
     simp only;rw[if_pos (.inr ⟨ht,hc⟩)]
    have:=hi.apart k k' b hs (by simp[site,hk',hbb])
    omega
  obtain⟨b,off,arr,T,fr,ea,hb,hsz,hj⟩:=h2 hn;refine⟨b,off,arr,T,fr,ea,hb,hsz,fun j h4 h5=>⟨?_,(hj j h4 h5).2⟩⟩
  rintro(h|⟨k',sh',cs',hm',hk',hbb⟩)
  ·exact(hj j h4 h5).1 h
  ·have:=hi.apart k k' b (aR9 e' hn ea) (by simp[site,hk',hbb])
   omega
theorem dV5{G:Gh}{H:List AObj}{w:World}(hi:HInv G H w){m:Nat}{x y:AV}(f:Frz m H x y): ∀v,Rel G H w x v->Rel (cu9 G H m) (H.take m) w y v:=by
 have st:=bO8 hi m;have cell: ∀(k:Nat) sh cs,m<=k->H[k]?=some (.cells sh cs)-> ∃arr:Array Value,cs.length<=arr.size/\(∀(j:Nat) x v,cs[j]?=some x->arr[j]?=some v->Rel G H w x v)/\ ∀j,(cu9 G H m).imm (G.blk k) j/\w.cell? ⟨G.blk k,j,none⟩=arr[j]?:=fun k sh cs hk ho=>by
  obtain⟨arr,T,fr,hb,hsz,hr,_⟩:=hi.cells k sh cs ho;exact⟨arr,hsz,hr,fun j=>⟨.inr ⟨k,sh,cs,hk,ho,rfl⟩,aq7 hb⟩⟩
 induction f with
 |low x h=>intro v r;exact(r.cut m h).mono st
 |any x=>intro v r;exact .any v
 |row k len s sh cs xs hk ho hx hs hl h ih=>
  intro v r;obtain⟨arr,hsz,hr,hc⟩:=cell k _ cs hk ho;cases r with
  |mrow _ _ o h1 h2 hcap=>
   refine .sl .sh s xs _ _ _ (fun j=>(arr[j]?).getD undef) hx.symm hcap hs (fun j y e=>?_) (fun j y e=>?_) (fun e=>by cases e) (fun _=>rfl) (fun k e=>by cases e)
   ·have hj:=aa0 e
    have ha:arr[j]?=some (arr[j]'(by omega)):=xq2 _
    refine⟨G.blk k,0,rfl,?_,?_⟩
    ·rw[Nat.zero_add];exact(hc j).1
    ·rw[Nat.zero_add,(hc j).2,ha];rfl
   ·have hj:=aa0 e
    have ha:arr[j]?=some (arr[j]'(by omega)):=xq2 _
    have hcj:cs[j]?=some (cs[j]'(by omega)):=xq1 _
    have:=ih j _ y hcj e _ (hr j _ _ hcj ha);rw[ha];exact this
 |msl k off len cap s sh cs xs hk ho hx hs hl h ih=>
  intro v r;obtain⟨arr,hsz,hr,hc⟩:=cell k _ cs hk ho;cases r with
  |msl _ _ _ _ o h1 h2 hcap=>
   refine .sl .sh s xs _ _ _ (fun j=>(arr[off+j]?).getD undef) hx.symm hcap hs (fun j y e=>?_) (fun j y e=>?_) (fun e=>by cases e) (fun _=>rfl) (fun k e=>by cases e)
   ·have hj:=aa0 e
    have ha:arr[off+j]?=some (arr[off+j]'(by omega)):=xq2 _
    refine⟨G.blk k,off,rfl,(hc _).1,?_⟩;rw[(hc _).2,ha];rfl
   ·have hj:=aa0 e
    have ha:arr[off+j]?=some (arr[off+j]'(by omega)):=xq2 _
    have hcj:cs[off+j]?=some (cs[off+j]'(by omega)):=xq1 _
    have:=ih j _ y hcj e _ (hr _ _ _ hcj ha);rw[ha];exact this
 |mp k off sh cs x hk ho hl h ih=>
  intro v r;obtain⟨arr,hsz,hr,hc⟩:=cell k _ cs hk ho;cases r with
  |mp _ _ o h1 h2=>
   refine .ip x _ _ (fun j=>(arr[off+j]?).getD undef) (fun j y e=>?_) (fun j y e=>?_)
   ·have hj:=aa0 e
    have ha:arr[off+j]?=some (arr[off+j]'(by omega)):=xq2 _
    refine⟨(hc _).1,?_⟩;rw[(hc _).2,ha];rfl
   ·have hj:=aa0 e
    have ha:arr[off+j]?=some (arr[off+j]'(by omega)):=xq2 _
    have hcj:cs[off+j]?=some (cs[off+j]'(by omega)):=xq1 _
    have:=ih j _ y hcj e _ (hr _ _ _ hcj ha);rw[ha];exact this
 |agg cs ds hl h ih=>
  intro v r;cases r with
  |agg _ arr ha hr=>
   refine .agg ds arr (ha.trans hl.symm) fun j y u e e'=>?_
   have hj:=aa0 e;have hcj:cs[j]?=some (cs[j]'(by omega)):=xq1 _
   exact ih j _ y hcj e _ (hr j _ u hcj e')
 |tup cs ds hl h ih=>
  intro v r;cases r with
  |tup _ arr ha hr=>
   refine .tup ds arr (ha.trans hl.symm) fun j y u e e'=>?_
   have hj:=aa0 e;have hcj:cs[j]?=some (cs[j]'(by omega)):=xq1 _
   exact ih j _ y hcj e _ (hr j _ u hcj e')
 |ifc t x y h ih=>
  intro v r;cases r with
  |ifc _ _ u hr=>exact .ifc t y u (ih u hr)
theorem dB4{H₀ H:List AObj}{x x' y:AV}{m:Nat}(hle:Le x x')(hm:H₀.length<=m)(f:Frz m H x' y)(hobj: ∀k o,k < m->H[k]?=some o->H₀[k]?=some o\/o.low m):Ends H₀ x H y (H.take m):=fun _ _ G _ v h0 hi hs r=>
 ⟨cu9 G H m,dV6 hi m fun k _ hk e=>(hobj k _ hk e).elim (fun h=>AObj.low_mono hm (h0.low h)) id,(hs.cut hm).trans (bO8 hi m),dV5 hi f v (hle _ _ _ _ r)⟩
def Fin(L:Tab)(rs:List ResultVar)(H₀:List AObj)(R:AV->List AObj->Prop)(env:Env)(H:List AObj):Prop:=
 match aF2 L env H rs with
 |some (p,xs)=>p/\ ∃y H',Ends H₀ (aO7 xs) H y H'/\R y H'
 |none=>False
def by5(L:Tab)(rs:List ResultVar)(H₀:List AObj)(R:AV->List AObj->Prop):Exit->Env->List AObj->Prop
 |.normal,env,H=>Fin L rs H₀ R env H
 |.ret,env,H=>Fin L rs H₀ R env H
 |_,_,_=>False
def bV3(tmps:Array Value):ResultVar->Sem Value
 |.tmp t=>pure (tmps.getD t undef)
 |.cell b t=>do loadVar t (<-asAddr (tmps.getD b undef))
theorem bV2(fn:Func)(tmps:Array Value):results fn tmps=(do let vs<-fn.results.mapM (bV3 tmps);pure (if h:vs.size=1 then vs[0] else .tuple vs)):=by
 unfold results;congr 2
theorem b41{P:Program}{L:Tab}(hL:ac7 P L){n:Nat}{G:Gh}{env:Env}{H:List AObj}{a:Act}{w:World}(s:Sat n ds G env H a w): ∀(rs:List ResultVar) {p:Prop} {xs:List AV},aF2 L env H rs=some (p,xs)->p->
  ∃vs:List Value,(rs.mapM (bV3 a.tmps):Sem (List Value)).run P w=.ok vs w/\vs.length=xs.length/\(∀(j:Nat) x v,xs[j]?=some x->vs[j]?=some v->Rel G H w x v)
 |[],p,xs,h,hp=>by
  simp only[aF2,Option.some.injEq,Prod.mk.injEq] at h;obtain⟨_,rfl⟩:=h;exact⟨[],by simp,rfl,fun j x v e=>by simp at e⟩
 |r::rs,p,xs,h,hp=>by
  simp only[aF2] at h;split at h
  ·rename_i p1 x1 p2 xs2 h1 h2
   simp only[Option.some.injEq,Prod.mk.injEq] at h;obtain⟨rfl,rfl⟩:=h;obtain⟨vs,hr,hl,hrel⟩:=b41 hL s rs h2 hp.2;have: ∃v,(bV3 a.tmps r).run P w=.ok v w/\Rel G H w x1 v:=by
    cases r with
    |tmp t=>
     simp only[br2,Option.some.injEq,Prod.mk.injEq] at h1;obtain⟨_,rfl⟩:=h1;exact⟨_,rfl,s.env t⟩
    |cell b t=>
     obtain⟨ad,u,hv,hrun,hz⟩:=cr9 hL (show aE7 L H t (get env b)=some (p1,x1) from h1) hp.1 s.inv (s.env b)
     exact⟨u,by simp only[bV3,Sem.run_bind];rw[hv];simp[asAddr,hrun],hz⟩
   obtain⟨v,hv,hz⟩:=this;refine⟨v::vs,?_,by simp[hl],fun j x u e e'=>?_⟩
   ·rw[List.mapM_cons]
    simp only[Sem.run_bind];rw[hv];simp only[Result.andThen_ok,hr,Sem.run_pure]
   ·cases j with
    |zero=>simp at e e';subst e;subst e';exact hz
    |succ j=>exact hrel j x u (by simpa using e) (by simpa using e')
  ·cases h
theorem bF3{P:Program}{L:Tab}(hL:ac7 P L){f:FuncId}{fn:Func}{c:Code}{n:Nat}{rs:List ResultVar}{args:List AV}{H:List AObj}{R:AV->List AObj->Prop}(hf:P.funcs[f]?=some fn)(hb:fn.body=some c)(hname:(fn.name== "runtime.NumGoroutine")=false)(hn:fn.ntmps=n)
  (hrs:fn.results.toList=rs) (hargs:args.length<=n) (h:AW P n c (by5 L rs H R) (aF6 0 args) H):o7 P f args H R:=by
 intro G w vs hi hr;refine .inl ⟨fn,hf,by rw[hb];rfl,hname,?_⟩
 refine calls_of_wp hf hb (wpIn_wide.1 (wpIn_mono (n:=0) (h none 0 [] G {tmps:=vs++Array.replicate (fn.ntmps - vs.size) undef,defers:=[]} w ⟨by simp[hr.1];omega,rfl,fun t=>?_,hi⟩) fun e a w' hq=>?_))
 ·rw[bO6]
  simp only[aC0,if_true,aO5];by_cases ht:t < args.length
  ·rw[xq1 ht]
   have hv:t < vs.size:=by rw[hr.1];exact ht
   rw[ap3,bu1 hv,xq2 hv];exact hr.2 t _ _ (xq1 ht) (xq2 hv)
  ·rw[aw1 (by omega)]
   exact .any _
 ·obtain⟨G',env',H',s,st,q⟩:=hq
  have key:Fin L rs H R env' H'->a.defers=[]/\ ∃v,(results fn a.tmps).run P w'=.ok v w'/\ ∃v',Ending.returned v=.returned v'/\ ∃x G'' H'',HInv G'' H'' w'/\Step G H w G'' H'' w'/\Rel G'' H'' w' x v'/\R x H'':=fun hfin=>by
   unfold Fin at hfin;split at hfin
   ·rename_i p xs hres
    obtain⟨hp,x,H'',hends,hR⟩:=hfin;obtain⟨us,hrun,hlen,hrel⟩:=b41 (P:=P) hL s rs hres hp;have hres':(results fn a.tmps).run P w'=.ok (if h:us.length=1 then us[0] else .tuple us.toArray) w':=by
     rw[bV2,cN7,hrs];simp only[Sem.run_bind,Sem.run_map];rw[hrun];simp only[Result.andThen_ok,Sem.run_pure,aK9,List.getElem_toArray]
    have hrx:Rel G' H' w' (aO7 xs) (if h:us.length=1 then us[0] else .tuple us.toArray):=by
     unfold aO7;split
     ·have h1:us.length=1:=by simpa using hlen
      rw[dif_pos h1];exact hrel 0 _ _ rfl (by simp[h1])
     ·rename_i hne
      have h1:us.length≠1:=by
       intro h1;rw[hlen] at h1;obtain⟨y,hy⟩:=List.length_eq_one_iff.1 h1;exact hne y hy
      rw[dif_neg h1];exact .tup _ _ (by simpa using hlen) fun j x v e e'=>hrel j x v e (by simpa using e')
    obtain⟨G'',hi'',st'',hrx''⟩:=hends G w G' w' _ hi s.inv st hrx;exact⟨s.defers,_,hres',_,rfl,x,G'',H'',hi'',st'',hrx'',hR⟩
   ·exact hfin.elim
  cases e with
  |normal=>
   obtain⟨h1,v,h2,h3⟩:=key q;exact⟨h1,v,h2,h3⟩
  |ret=>
   obtain⟨h1,v,h2,h3⟩:=key q;exact⟨h1,v,h2,h3⟩
  |exit _=>exact q.elim
  |goto _=>exact q.elim
  |panic _=>exact q.elim
  |outgrown=>exact q.elim
end V
end
section
namespace V
open Go
variable {ds:List Deferred}{ro:Option Nat}{N:Nat}
def ao6(P:Program)(L:Tab)(o:Oper)(env:Env)(H:List AObj)(z:AV):Prop:=ab9 P L [] o env H fun x H'=>x=z/\H'=H
theorem dB1{env env':Env}{x:Operand}(h: ∀t,x=.tmp t->get env t=get env' t):ev env x=ev env' x:=by
 cases x with
 |tmp t=>exact h t rfl
 |_=>rfl
theorem aT7{P:Program}{L:Tab}{mu:List Nat}{o:Oper}{env env':Env}{H:List AObj}{K:AV->List AObj->Prop}(h: ∀x∈o.op.operands.toList,∀t,x=.tmp t->get env t=get env' t):ab9 P L mu o env H K=ab9 P L mu o env' H K:=by
 obtain⟨dst,op,ty,pos,after,guard⟩:=o;have e1: ∀x,x∈op.operands.toList->ev env x=ev env' x:=fun x hx=>dB1 (h x hx)
 cases op<;>simp only[ab9]<;>simp only[Op.operands] at e1
 case move x=>rw[e1 x (by simp)]
 case assign x=>rw[e1 x (by simp)]
 case pick a b c=>rw[e1 a (by simp),e1 b (by simp),e1 c (by simp)]
 case box e x=>rw[e1 x (by simp)]
 case build t parts=>
  have:ai3 env parts=ai3 env' parts:=b26 fun p hp=>by rw[e1 p.2 (by simpa using ⟨p.1,by simpa using hp⟩)]
  rw[this]
 case buildSlice t len parts=>
  have:ai3 env parts=ai3 env' parts:=b26 fun p hp=>by rw[e1 p.2 (by simpa using ⟨p.1,by simpa using hp⟩)]
  rw[this]
 case load t x=>rw[e1 x (by simp)]
 case store t a x=>rw[e1 a (by simp),e1 x (by simp)]
 case binOp op t x y t'=>rw[e1 x (by simp),e1 y (by simp)]
 case unOp op t x=>rw[e1 x (by simp)]
 case convert s d x=>rw[e1 x (by simp)]
 case slice t x lo hi mx=>
  have eo: ∀z,(z=lo\/z=hi\/z=mx)->evO env z=evO env' z:=fun z hz=>by
   cases z with
   |none=>rfl
   |some y=>simp only[evO,Option.map_some];rw[e1 y (by rcases hz with rfl|rfl|rfl<;>simp)]
  rw[e1 x (by simp),eo lo (.inl rfl),eo hi (.inr (.inl rfl)),eo mx (.inr (.inr rfl))]
 case fieldAddr t x f=>rw[e1 x (by simp)]
 case field t x f=>rw[e1 x (by simp)]
 case indexAddr t x i=>rw[e1 x (by simp),e1 i (by simp)]
 case index t x i=>rw[e1 x (by simp),e1 i (by simp)]
 case extract x i=>rw[e1 x (by simp)]
 case nilCheck x=>rw[e1 x (by simp)]
 case makeSlice t x y=>rw[e1 x (by simp),e1 y (by simp)]
 case makeInterface t x=>rw[e1 x (by simp)]
 case sliceToArrayPointer t x=>rw[e1 x (by simp)]
 case lookup t x k b=>rw[e1 x (by simp),e1 k (by simp)]
 case mapUpdate t m k v=>rw[e1 m (by simp),e1 k (by simp),e1 v (by simp)]
 case insert t m k v=>rw[e1 m (by simp),e1 k (by simp),e1 v (by simp)]
 case makeFunc f fs cs=>
  have h1:fs.toList.map (ev env)=fs.toList.map (ev env'):=b26 fun x hx=>e1 x (by rw[cN4,aT2];exact .inl hx)
  have h2:cs.toList.map (ev env)=cs.toList.map (ev env'):=b26 fun x hx=>e1 x (by rw[cN4,aT2];exact .inr hx)
  rw[h1,h2]
 case call c=>
  obtain⟨callee,args,ats⟩:=c;simp only[Call.operands] at e1;have ea:args.toList.map (ev env)=args.toList.map (ev env'):=b26 fun x hx=>e1 x (by simp only[cN4,aT2];exact .inr hx)
  rw[ea];cases callee with
  |builtin b=>rfl
  |value f=>simp only[];rw[e1 f (by simp)]
  |invoke r m=>rfl
def ab8(listed:Nat->Bool)(zs:Nat->AV):Nat->List Oper->Env->Env
 |_,[],env=>env
 |i,o::r,env=>ab8 listed zs (i+1) r (if listed i then put o.dst (zs i) env else env)
theorem get_put(d:Option Nat)(v:AV)(env:Env)(t:Nat):get (put d v env) t=if d=some t then v else get env t:=by
 cases d with
 |none=>simp[put]
 |some d=>simp[put,get]
theorem au3{zs:Nat->AV}{l l':Nat->Bool}{t:Nat}: ∀(ops:List Oper) (i:Nat) (env env':Env),get env t=get env' t->(∀(j:Nat) o,ops[j]?=some o->o.dst=some t->l (i+j)=l' (i+j))->get (ab8 l zs i ops env) t=get (ab8 l' zs i ops env') t
 |[],_,_,_,h,_=>h
 |o::r,i,env,env',h,hl=>by
  simp only[ab8];refine au3 r (i+1) _ _ ?_ fun j o' e hd=>by have:=hl (j+1) o' (by simpa using e) hd;rwa [show i+(j+1)=i+1+j by omega] at this
  by_cases hd:o.dst=some t
  ·have:=hl 0 o rfl hd
   rw[aD8] at this;rw[this];cases l' i
   ·simpa using h
   ·simp[get_put,hd]
  ·cases l i<;>cases l' i<;>simp[get_put,hd,h]
theorem bm6{zs:Nat->AV}{l:Nat->Bool}{t:Nat}: ∀(ops:List Oper) (i:Nat) (env:Env) (k:Nat) (o:Oper),ops[k]?=some o->l (i+k)=false->(∀(j:Nat) o',k < j->ops[j]?=some o'->l (i+j)=true->o.dst=some t->o'.dst≠some t)->
  get (ab8 (fun j=>if j=i+k then true else l j) zs i ops env) t=get (put o.dst (zs (i+k)) (ab8 l zs i ops env)) t
 |[],_,_,_,_,e,_,_=>by simp at e
 |o::r,i,env,0,o',e,hl,h=>by
  simp only[List.getElem?_cons_zero,Option.some.injEq] at e;subst e;simp only[aD8] at hl⊢;simp only[ab8,if_true,hl,Bool.false_eq_true,if_false];rw[get_put];by_cases hd:o.dst=some t
  ·rw[if_pos hd]
   have: ∀(ops:List Oper) (i':Nat) (env:Env),(∀(j:Nat) o',ops[j]?=some o'->(fun j=>if j=i then true else l j) (i'+j)=true->o'.dst≠some t)->get (ab8 (fun j=>if j=i then true else l j) zs i' ops env) t=get env t:=by
    intro ops;induction ops with
    |nil=>intro _ _ _;rfl
    |cons o r ih=>
     intro i' env hh;simp only[ab8];rw[ih (i'+1) _ fun j o' e he=>hh (j+1) o' (by simpa using e) (by rwa [show i'+(j+1)=i'+1+j by omega])]
     by_cases hi:(if i'=i then true else l i')=true
     ·rw[if_pos hi,get_put,if_neg (hh 0 o rfl (by simpa using hi))]
     ·rw[if_neg hi]
   rw[this r (i+1) _ fun j o' e he=>h (j+1) o' (by omega) (by simpa using e) (by
    simp only[show¬(i+1+j=i) by omega,if_false] at he
    rwa [show i+(j+1)=i+1+j by omega]) hd,get_put,if_pos hd]
  ·rw[if_neg hd]
   refine au3 r (i+1) _ _ (by rw[get_put,if_neg hd]) fun j o' e _=>by simp[show¬(i+1+j=i) by omega]
 |o::r,i,env,k+1,o',e,hl,h=>by
  simp only[List.getElem?_cons_succ] at e;have hne: ¬(i=i+(k+1)):=by omega
  simp only[ab8,hne,if_false];have:=bm6 r (i+1) (if l i then put o.dst (zs i) env else env) k o' e (by rw[show i+1+k=i+(k+1) by omega];exact hl) (t:=t) (zs:=zs) (l:=l) fun j o'' hj e' he hd=>h (j+1) o'' (by omega) (by simpa using e') (by rw[show i+(j+1)=i+1+j by omega];exact he) hd
  rw[show i+1+k=i+(k+1) by omega] at this
  exact this
def touches(all:List Oper)(o:Oper):List Nat:=
 (o.op.operands.toList.filterMap fun|.tmp t=>some t|_=>none)++(match o.guard with|some (j,_)=>((all[j]?).bind (·.dst)).toList|none=>[])++o.dst.toList
def ak7:List Oper->List (List Nat)->List (List Nat)
 |[],acc=>acc
 |o::r,acc=>ak7 r (acc++[(o.after.toList.flatMap fun e=>if Region.binds .any e then e.on::acc.getD e.on [] else[]).eraseDups])
def ordered(bs:List (List Nat))(ops:List Oper)(i:Nat)(o:Oper):Nat->List Oper->Bool
 |_,[]=>true
 |j,q::r=>(match q.dst with
   |some d=>if j=i then true else if(touches ops o).contains d then(if j < i then(bs.getD i []).contains j else(bs.getD j []).contains i) else true
   |none=>true)&&ordered bs ops i o (j+1) r
def aW4(bs:List (List Nat))(ops:List Oper):Nat->List Oper->Bool
 |_,[]=>true
 |i,o::r=>ordered bs ops i o 0 ops&&(o.after.toList.all fun e=>!Region.binds .any e||decide (e.on < i))&&aW4 bs ops (i+1) r
def aI2(ops:List Oper):Bool:=aW4 (ak7 ops []) ops 0 ops
def Past(ops:List Oper)(l:Nat->Bool):Prop:= ∀(i:Nat) o,ops[i]?=some o->l i=true-> ∀e∈o.after.toList,Region.binds .any e=true->l e.on=true
theorem ay4{ops:List Oper}{l:Nat->Bool}(hp:Past ops l): ∀(r done:List Oper) (acc:List (List Nat)),ops=done++r->acc.length=done.length->
  (∀i j o,i < acc.length->j∈acc.getD i []->ops[i]?=some o->(∀e∈o.after.toList,Region.binds .any e=true->l e.on=true)->l j=true)->
  ∀i j o,j∈(ak7 r acc).getD i []->ops[i]?=some o->(∀e∈o.after.toList,Region.binds .any e=true->l e.on=true)->l j=true
 |[],done,acc,_,_,h,i,j,o,hj,ho,hl=>by
  simp only[ak7] at hj;by_cases hi:i < acc.length
  ·exact h i j o hi hj ho hl
  ·simp[List.getD,aw1 (by omega:acc.length<=i)] at hj
 |q::r,done,acc,he,hlen,h,i,j,o,hj,ho,hl=>by
  refine ay4 hp r (done++[q]) _ (by simp[he]) (by simp[hlen]) (fun i j o hi hj ho hl=>?_) i j o hj ho hl
  by_cases hi':i < acc.length
  ·have:(acc++[(q.after.toList.flatMap fun e=>if Region.binds .any e then e.on::acc.getD e.on [] else[]).eraseDups]).getD i []=acc.getD i []:=by simp[List.getD,xq4 hi']
   rw[this] at hj;exact h i j o hi' hj ho hl
  ·have hi2:i=acc.length:=by simp at hi;omega
   subst hi2;have hq:o=q:=by
    rw[he,xq5 (by omega),hlen,ao4] at ho
    exact(Option.some.inj ho).symm
   subst hq;simp only[List.getD,xq5 (xq0 _),ao4,List.getElem?_cons_zero,Option.getD_some,List.mem_eraseDups] at hj;obtain⟨e,hem,hje⟩:=bb8.1 hj;split at hje
   ·rename_i hb
    have hle:=hl e hem hb;rcases an8.1 hje with rfl|hje
    ·exact hle
    ·have hee:e.on < acc.length:=by
      rcases xq8 e.on acc.length with h1|h1
      ·exact h1
      ·simp[aw1 h1] at hje
     cases hoe:ops[e.on]? with
     |none=>
      have:ops.length<=e.on:=by simpa using hoe
      rw[he] at this;simp at this
      omega
     |some oe=>exact h e.on j oe hee hje hoe fun e' he' hb'=>hp e.on oe hoe hle e' he' hb'
   ·cases hje
theorem aB6{bs:List (List Nat)}{ops:List Oper}{i:Nat}{o:Oper}: ∀(r:List Oper) (j:Nat),ordered bs ops i o j r=true-> ∀(k:Nat) q d,r[k]?=some q->q.dst=some d->j+k≠i->d∈touches ops o->(j+k < i->(j+k)∈bs.getD i [])/\(i < j+k->i∈bs.getD (j+k) [])
 |[],_,_,k,q,d,e,_,_,_=>by simp at e
 |q::r,j,h,0,q',d,e,hd,hne,ht=>by
  simp only[List.getElem?_cons_zero,Option.some.injEq] at e;subst e;simp only[ordered,xq3,hd] at h;have h1:=h.1;simp only[aD8] at hne⊢;rw[if_neg hne,if_pos (by simpa using ht)] at h1
  refine⟨fun hlt=>by rw[if_pos hlt] at h1;simpa using h1,fun hgt=>by rw[if_neg (by omega)] at h1;simpa using h1⟩
 |q::r,j,h,k+1,q',d,e,hd,hne,ht=>by
  simp only[ordered,xq3] at h;have:=aB6 r (j+1) h.2 k q' d (by simpa using e) hd (by omega) ht
  rwa [show j+1+k=j+(k+1) by omega] at this
theorem ay9{bs:List (List Nat)}{ops:List Oper}: ∀(r:List Oper) (s:Nat),aW4 bs ops s r=true-> ∀(i:Nat) o,r[i]?=some o->ordered bs ops (s+i) o 0 ops=true/\ ∀e∈o.after.toList,Region.binds .any e=true->e.on < s+i
 |[],_,_,i,o,e=>by simp at e
 |q::r,s,h,0,o,e=>by
  simp only[List.getElem?_cons_zero,Option.some.injEq] at e;subst e;simp only[aW4,xq3,xq6,bz9,Bool.not_eq_true',decide_eq_true_eq] at h;exact⟨h.1.1,fun e he hb=>by
   rcases h.1.2 e he with h'|h'
   ·rw[hb] at h';cases h'
   ·simpa using h'⟩
 |q::r,s,h,i+1,o,e=>by
  simp only[aW4,xq3] at h;have:=ay9 r (s+1) h.2 i o (by simpa using e)
  rwa [show s+1+i=s+(i+1) by omega] at this
def Does(P:Program)(L:Tab)(all:List Oper)(o:Oper)(env:Env)(H:List AObj)(z:AV):Prop:=
 match o.guard with
 |none=>ao6 P L o env H z
 |some (j,want)=>(∃b,aq6 all env j=.lit (.bool b)/\((b=want/\ao6 P L o env H z)\/(b≠want/\z=.lit undef)))\/(∃ar,aq6 all env j=.lit (.tuple ar)/\z=.lit undef)
theorem cX2{P:Program}{L:Tab}{all:List Oper}{o:Oper}{env env':Env}{H:List AObj}{z:AV}(h: ∀t∈touches all o,t∉o.dst.toList\/True->get env t=get env' t):Does P L all o env H z->Does P L all o env' H z:=by
 have h': ∀t∈touches all o,get env t=get env' t:=fun t ht=>h t ht (.inr trivial)
 have hq:ao6 P L o env H z=ao6 P L o env' H z:=by
  unfold ao6;exact aT7 fun x hx t ht=>h' t (by
   unfold touches;refine aT2.2 (.inl (aT2.2 (.inl (List.mem_filterMap.2 ⟨x,hx,by rw[ht]⟩))))
   )
 unfold Does;cases hg:o.guard with
 |none=>simp only;rw[hq];exact id
 |some jw=>
  obtain⟨j,want⟩:=jw;simp only;have hgv:aq6 all env j=aq6 all env' j:=by
   unfold aq6;cases hj:(all[j]?).bind (·.dst) with
   |none=>rfl
   |some d=>exact h' d (by unfold touches;rw[hg];simp[hj])
  rw[hq,hgv];exact id
theorem Sat.of_get{n:Nat}{G:Gh}{env env':Env}{H:List AObj}{a:Act}{w:World}(s:Sat n ds G env H a w)(h: ∀t,get env t=get env' t):Sat n ds G env' H a w:=
 ⟨s.size,s.defers,fun t=>h t▸s.env t,s.inv⟩
theorem aG0{G:Gh}{H:List AObj}{w:World}:Step G H w G H w.drew:=⟨rfl,rfl,rfl,xq0 _,fun _ _ h=>h,fun _ _ _=>rfl,fun _ _=>rfl,(Step.refl G H w).obj⟩
theorem bO0{G:Gh}{H:List AObj}{w:World}(h:HInv G H w):HInv G H w.drew:=by
 refine⟨h.lt,fun k sh cs e=>?_,h.grow,h.apart,h.tabs.step (H:=H) aG0 fun k x e=>⟨e,rfl,fun _ h=>h⟩⟩
 obtain⟨arr,T,fr,hb,hs,hr,hf⟩:=h.cells k sh cs e;exact⟨arr,T,fr,hb,hs,fun j x v ex ev=>(hr j x v ex ev).mono aG0,hf⟩
theorem dX0{P:Program}{L:Tab}(hL:ac7 P L){n:Nat}{all:Array Oper}(hops:ay3 n all.toList=true){i:Nat}{o:Oper}(ho:all[i]?=some o){env:Env}{H:List AObj}{z:AV}(hd:Does P L all.toList o env H z)
  {G:Gh} {a:Act} {w:World} (s:Sat n ds G env H a w) {K:Act->World->Prop} {Q:Exit->Act->World->Prop} (hK: ∀G' a' w',Sat n ds G' (put o.dst z env) H a' w'->Step G H w G' H w'->K a' w'):wpOpIn (fw ro) N P all Q i K a w:=by
 have hdst: ∀t,o.dst=some t->t < n:=fun t e=>by
  have:=xq6.1 hops o (by rw[aT5];exact ce5 ho)
  rw[e] at this;simpa using this
 have hq:ao6 P L o env H z->o.wpIn (fw ro) N P a w K Q:=fun hq=>by
  refine Oper.wpIn_mono (fun a' w' hx=>?_) (bu5 hL hq ro N Q n ds G a w s)
  obtain⟨v,x,G',H',rfl,hi,hs,hx,rfl,rfl⟩:=hx;exact hK G' _ w' (s.put hs hi hx hdst) hs
 unfold wpOpIn;rw[ho];simp only;unfold Does at hd;cases hg:o.guard with
 |none=>
  rw[hg] at hd;rw[if_pos (by simp[Region.wanted,hg])]
  exact hq hd
 |some jw=>
  obtain⟨j,want⟩:=jw;rw[hg] at hd;rcases hd with⟨b,hb,hd⟩|⟨ar,hb,rfl⟩
  ·rw[bA1 s hg hb hops]
   rcases hd with⟨e,hd⟩|⟨e,rfl⟩
   ·rw[if_pos (by simpa using e)]
    exact hq hd
   ·rw[if_neg (by simpa using e)]
    exact⟨fun _ _=>trivial,hK G _ w (s.put (.refl _ _ _) s.inv (.lit _) hdst) (.refl _ _ _)⟩
  ·rw[bg4 s hg hb hops]
   rw[if_neg (by simp)]
   exact⟨fun _ _=>trivial,hK G _ w (s.put (.refl _ _ _) s.inv (.lit _) hdst) (.refl _ _ _)⟩
theorem bZ9{P:Program}{L:Tab}(hL:ac7 P L)(hm:P.follows .mixedOrders=true){n:Nat}{rid:Nat}{ops:List Oper}(hops:ay3 n ops=true)(hdr:aI2 ops=true){Q:Exit->Env->List AObj->Prop}{env:Env}{H:List AObj}(zs:Nat->AV)
  (hdoes: ∀(i:Nat) o,ops[i]?=some o->Does P L ops o (ab8 (fun j=>decide (j < i)) zs 0 ops env) H (zs i)) (env':Env) (henv: ∀t,get (ab8 (fun _=>true) zs 0 ops env) t=get env' t) (hQ:Q .normal env' H):AW P n (.region rid ops.toArray true) Q env H:=fun ro N ds G a w s=>by
 refine wpIn_region_draw fun t=>?_
 simp only[Region.schedule,hm,Bool.true_or,if_true];have hord: ∀(i:Nat) o,ops[i]?=some o->ordered (ak7 ops []) ops i o 0 ops=true/\ ∀e∈o.after.toList,Region.binds .any e=true->e.on < i:=fun i o e=>by
  have:=ay9 ops 0 hdr i o e;rwa [Nat.zero_add] at this
 have key: ∀(fuel:Nat) (listed:Array Bool) (a:Act) (w':World) (G':Gh),listed.size=ops.length->Past ops (fun j=>listed.getD j false)->Step G H w G' H w'->Sat n ds G' (ab8 (fun j=>listed.getD j false) zs 0 ops env) H a w'->
   (∀i,i < ops.length->listed.getD i false=false->0 < fuel)->(fuel+(listed.toList.filter id).length=ops.length)->wpAnyIn (fw ro) N P .any ops.toArray (Post n ds G H w Q) fuel listed a w':=by
  intro fuel;induction fuel with
  |zero=>
   intro listed a w' G' hsz hpast hst hs hf _;have hall: ∀i,i < ops.length->listed.getD i false=true:=fun i hi=>by
    cases hl:listed.getD i false with
    |true=>rfl
    |false=>exact absurd (hf i hi hl) (bc6 _)
   refine⟨?_,G',_,H,hs.of_get fun t=>(au3 ops 0 env env rfl fun j o e _=>by rw[Nat.zero_add];exact hall j (aa0 e)).trans (henv t),hst,hQ⟩
   unfold Region.ready;rw[cN3];intro i hi;have hi':i < ops.length:=by simpa using hi
   have:=hall i hi';have h2:listed.getD i true=true:=by
    rw[ap3,xq2 (by omega)] at this⊢
    exact this
   simp[h2]
  |succ fuel ih=>
   intro listed a w' G' hsz hpast hst hs hf hcount;refine⟨fun hnil=>?_,fun i hi=>?_⟩
   ·
    have hall: ∀i,i < ops.length->listed.getD i false=true:=by
     intro i;induction i using Nat.strongRecOn with
     |_ i ihi=>
      intro hi;cases hl:listed.getD i false with
      |true=>rfl
      |false=>
       exfalso
       have hmem:i∈Region.ready .any ops.toArray listed:=by
        unfold Region.ready;rw[bz8];refine⟨by simpa using hi,?_⟩
        have h2:listed.getD i true=false:=by
         rw[ap3,xq2 (by omega)] at hl⊢
         exact hl
        have ho:ops.toArray[i]?=some ops[i]:=by simp[hi]
        rw[h2,ho];simp only[Bool.not_false,Bool.true_and,Option.map_some,Option.getD_some];rw[b24];intro e he;have:=(hord i ops[i] (xq1 hi)).2 e (aT5.2 he);cases hb:Region.binds .any e with
        |false=>rfl
        |true=>
         have h3:=this hb;rw[ihi e.on h3 (by omega)]
         rfl
       rw[hnil] at hmem;cases hmem
    exact⟨G',_,H,hs.of_get fun t=>(au3 ops 0 env env rfl fun j o e _=>by rw[Nat.zero_add];exact hall j (aa0 e)).trans (henv t),hst,hQ⟩
   ·unfold Region.ready at hi
    rw[bz8] at hi;obtain⟨hi1,hi2⟩:=hi;have hi':i < ops.length:=by simpa using hi1
    have ho:ops.toArray[i]?=some ops[i]:=by simp[hi']
    rw[ho] at hi2;simp only[Option.map_some,Option.getD_some,xq3,Bool.not_eq_true'] at hi2;obtain⟨hl0,hready⟩:=hi2;have hl:listed.getD i false=false:=by
     rw[ap3,xq2 (by omega)] at hl0⊢
     exact hl0
    have hpre: ∀e∈(ops[i]).after.toList,Region.binds .any e=true->listed.getD e.on false=true:=fun e he hb=>by
     rw[b24] at hready;have:=hready e (aT5.1 he);rw[hb] at this;simpa using this
    have hoi:ops[i]?=some ops[i]:=xq1 hi';obtain⟨hor,hback⟩:=hord i ops[i] hoi;have hbi: ∀j,j∈(ak7 ops []).getD i []->listed.getD j false=true:=fun j hj=>
     ay4 hpast ops [] [] rfl rfl (fun i j o hi=>by simp at hi) i j ops[i] hj hoi hpre
    have hlater: ∀(j:Nat) q,ops[j]?=some q->i∈(ak7 ops []).getD j []->listed.getD j false=false:=fun j q hq hij=>by
     cases hlj:listed.getD j false with
     |false=>rfl
     |true=>
      have:=ay4 hpast ops [] [] rfl rfl (fun i j o hi=>by simp at hi) j i q hij hq (hpast j q hq hlj)
      rw[hl] at this;cases this
    have hsame: ∀t∈touches ops ops[i],get (ab8 (fun j=>decide (j < i)) zs 0 ops env) t=get (ab8 (fun j=>listed.getD j false) zs 0 ops env) t:=fun t ht=>by
     refine au3 ops 0 env env rfl fun j q hq hd=>?_
     rw[Nat.zero_add];by_cases hji:j=i
     ·subst hji
      rw[hl];simp
     ·have hsp:=aB6 ops 0 hor j q t hq hd (by omega) ht
      rw[Nat.zero_add] at hsp;rcases xq8 j i with h1|h1
      ·rw[hbi j (hsp.1 h1)]
       simpa using h1
      ·rw[hlater j q hq (hsp.2 (by omega))]
       simpa using h1
    have hdo:=cX2 (fun t ht _=>hsame t ht) (hdoes i ops[i] hoi)
    refine dX0 hL (all:=ops.toArray) (by simpa using hops) ho hdo hs fun G'' a'' w'' hs'' hst''=>?_
    have hget: ∀t,get (put (ops[i]).dst (zs i) (ab8 (fun j=>listed.getD j false) zs 0 ops env)) t=get (ab8 (fun j=>(listed.setIfInBounds i true).getD j false) zs 0 ops env) t:=fun t=>by
     have h1:=bm6 (zs:=zs) (l:=fun j=>listed.getD j false) (t:=t) ops 0 env i ops[i] hoi (by rw[Nat.zero_add];exact hl) (fun j q hj hq hlj hd=>by
      intro hqd;rw[Nat.zero_add] at hlj;have hsp:=aB6 ops 0 hor j q t hq hqd (by omega) (by unfold touches;rw[hd];simp)
      rw[Nat.zero_add] at hsp;have hlj':listed.getD j false=true:=hlj;rw[hlater j q hq (hsp.2 hj)] at hlj';cases hlj')
     rw[Nat.zero_add] at h1;rw[<-h1];refine au3 ops 0 env env rfl fun j q hq _=>?_
     rw[Nat.zero_add];simp only[ap3,b31];by_cases hji:j=i
     ·subst hji
      simp[show j < listed.size by omega]
     ·simp[hji,show¬(i=j) from fun h=>hji h.symm]
    have hgd: ∀j,(listed.setIfInBounds i true).getD j false=if j=i then true else listed.getD j false:=fun j=>by
     simp only[ap3,b31];by_cases hji:j=i
     ·subst hji
      simp[show j < listed.size by omega]
     ·simp[hji,show¬(i=j) from fun h=>hji h.symm]
    have hcnt:fuel+((listed.setIfInBounds i true).toList.filter id).length=ops.length:=by
     have:((listed.setIfInBounds i true).toList.filter id).length=(listed.toList.filter id).length+1:=by
      rw[ce3];have hli:i < listed.toList.length:=by simp;omega
      have hlf:listed.toList[i]=false:=by
       rw[ap3,xq2 (by omega)] at hl
       simpa using hl
      have key2: ∀(l:List Bool) (i:Nat) (hi:i < l.length),l[i]=false->((l.set i true).filter id).length=(l.filter id).length+1:=by
       intro l;induction l with
       |nil=>intro i hi;simp at hi
       |cons b r ih=>
        intro i hi he;cases i with
        |zero=>simp at he;subst he;simp
        |succ i=>
         simp only[List.set_cons_succ,List.filter_cons];have:=ih i (by simpa using hi) (by simpa using he)
         cases b<;>simp[this]
      exact key2 _ i hli hlf
     omega
    refine ih _ _ _ G'' (by simp[hsz]) (fun j q hq hlj e he hb=>?_) (hst.trans hst'') (hs''.of_get hget) (fun j hj hlj=>?_) hcnt
    ·simp only[hgd] at hlj⊢
     by_cases hji:j=i
     ·subst hji
      have hqe:q=ops[j]:=by rw[hoi] at hq;exact(Option.some.inj hq).symm
      subst hqe;split
      ·rfl
      ·exact hpre e he hb
     ·rw[if_neg hji] at hlj
      split
      ·rfl
      ·exact hpast j q hq hlj e he hb
    ·
     rcases bb9 fuel with h0|h0
     ·exfalso
      rw[h0,Nat.zero_add] at hcnt;have hfull: ∀(l:List Bool),(l.filter id).length=l.length-> ∀b∈l,b=true:=fun l hl b hb=>by
       have:=cN2.1 (List.Sublist.eq_of_length (ce2 (l:=l) (p:=id)) hl) b hb;simpa using this
      have hlen:((listed.setIfInBounds i true).toList.filter id).length=(listed.setIfInBounds i true).toList.length:=by rw[hcnt];simp[hsz]
      have hjs:j < (listed.setIfInBounds i true).size:=by simp;omega
      have:=hfull _ hlen ((listed.setIfInBounds i true)[j]) (by rw[aT5];exact Array.getElem_mem hjs)
      rw[ap3,xq2 hjs] at hlj;simp only[Option.getD_some] at hlj;rw[this] at hlj;cases hlj
     ·exact h0
 have hcap:Sat n ds G (ab8 (fun j=>(Array.replicate ops.toArray.size false).getD j false) zs 0 ops env) H a {w with drawn:=w.drawn+1}:=by
  have h0: ∀t,get env t=get (ab8 (fun j=>(Array.replicate ops.toArray.size false).getD j false) zs 0 ops env) t:=fun t=>by
   have: ∀(r:List Oper) (i:Nat) (env:Env),get env t=get (ab8 (fun j=>(Array.replicate ops.toArray.size false).getD j false) zs i r env) t:=by
    intro r;induction r with
    |nil=>intro _ _;rfl
    |cons o r ih=>
     intro i env;simp only[ab8];have:(Array.replicate ops.toArray.size false).getD i false=false:=by
      rw[ap3,bL5];split<;>rfl
     simp only[this,Bool.false_eq_true,if_false];exact ih (i+1) env
   exact this ops 0 env
  exact Sat.of_get (env:=env) (s.step aG0 (bO0 s.inv)) h0
 refine wpAnyIn_sound ops.toArray.size t _ a _ (key ops.toArray.size _ a _ G (by simp) (fun i o ho hl=>?_) aG0 hcap (fun i hi _=>by simp;omega) (by simp))
 simp only[ap3,bL5] at hl;split at hl<;>cases hl
end V
end
section
namespace V
open Go
def qOp(P:Program)(L:Tab)(o:Oper)(env:Env)(H:List AObj):Option (Prop×AV):=
 match o.op with
 |.move x|.assign x=>a13 (ev env x)
 |.pick c a b=>bH0 (ev env c) (ev env a) (ev env b)
 |.binOp op t x y _=>if ax1 y then none else bB6 P L op t (isConst y) (ev env x) (ev env y)
 |.nilCheck x=>b43 (ev env x)
 |.makeFunc f fs cs=>a13 (.fn f (fs.toList.map (ev env)) (cs.toList.map (ev env)))
 |.makeInterface t x=>br6 L t (ev env x)
 |.sliceToArrayPointer t x=>br3 L t (ev env x)
 |.unOp op _ x=>cm4 op (ev env x)
 |.convert s d x=>br8 P L H s d (ev env x)
 |.extract x i=>aY5 (ev env x) i
 |.indexAddr t x i=>aG8 L t (ev env x) (ev env i)
 |.index t x i=>br5 L t (ev env x) (ev env i)
 |.load t x=>aE7 L H t (ev env x)
 |.slice t x lo hi mx=>bi0 L t (ev env x) (evO env lo) (evO env hi) (evO env mx)
 |.fieldAddr t x f=>aG9 L t (ev env x) f
 |.field t x f=>br7 L t (ev env x) f
 |.build t parts=>bi1 L t (ai3 env parts)
 |.box _ x=>cR5 (ev env x)
 |_=>none
theorem d56{P:Program}{L:Tab}{o:Oper}{env:Env}{H:List AObj}{p:Prop}{z:AV}(h:qOp P L o env H=some (p,z))(hp:p):ao6 P L o env H z:=by
 obtain⟨dst,op,ty,pos,after,guard⟩:=o;have key: ∀(q:Option (Prop×AV)) (K:AV->List AObj->Prop),q=some (p,z)->K z H->lift q K H:=fun q K e hk=>by rw[e];exact⟨hp,hk⟩
 unfold ao6;cases op<;>simp only[qOp] at h<;>first|(simp at h;done)|(simp only[ab9,List.contains_nil,Bool.false_eq_true,if_false];exact key _ _ h ⟨rfl,rfl⟩)|skip
 case binOp op t x y t'=>
  simp only[ab9];split at h
  ·cases h
  ·rename_i hn
   rw[if_neg hn];exact key _ _ h ⟨rfl,rfl⟩
def bG4(P:Program)(f:AV)(args:List AV)(H:List AObj)(K:AV->Prop)[Tag K]:Prop:=
 match f with
 |.fn (.func g) fs cs=> ∃z,o7 P g (fs++args++cs) H (fun x H'=>x=z/\H'=H)/\K z
 |_=>False
def aq8(q:Option (Prop×AV))(K:AV->Prop)[Tag K]:Prop:=
 match q with
 |some (p,z)=>p/\K z
 |none=>False
theorem cU8{p:Prop}{z:AV}{K:AV->Prop}:aq8 (some (p,z)) K=(p/\K z):=rfl
def aT9(L:Tab)(H:List AObj)(b:Builtin)(args:List AV)(ts:List TypeId)(K:AV->Prop)[Tag K]:Prop:=
 match b,args,ts with
 |.len,[x],[t]=>aq8 (bH1 L t x) K
 |.cap,[x],[t]=>aq8 (b44 L t x) K
 |.min,[x,y],[_,_]=>aq8 (aH8 false x y) K
 |.max,[x,y],[_,_]=>aq8 (aH8 true x y) K
 |.unsafeSliceData,[x],[_]=>aq8 (aN2 H x) K
 |.unsafeString,[x,y],[pt,_]=>aq8 (aY4 L H pt x y) K
 |_,_,_=>False
def an2(P:Program)(L:Tab)(o:Oper)(env:Env)(H:List AObj)(K:AV->Prop):Prop:=
 match o.op with
 |.call c=>match c.callee with
  |.value f=>bG4 P (ev env f) (c.args.toList.map (ev env)) H K
  |.builtin b=>aT9 L H b (c.args.toList.map (ev env)) c.argTypes.toList K
  |_=>False
 |.buildSlice t len parts=>if len=0/\parts.size≠0 then False else aq8 (aE2 L t len (ai3 env parts)) K
 |_=>aq8 (qOp P L o env H) K
theorem aI3{P:Program}{L:Tab}{o:Oper}{env:Env}{H:List AObj}{K:AV->Prop}(h:an2 P L o env H K): ∃z,ao6 P L o env H z/\K z:=by
 have key: ∀q,q=qOp P L o env H->aq8 q K-> ∃z,ao6 P L o env H z/\K z:=fun q e hk=>by
  unfold aq8 at hk;split at hk
  ·exact⟨_,d56 e.symm hk.1,hk.2⟩
  ·exact hk.elim
 unfold an2 at h;split at h
 ·rename_i c ho
  split at h
  ·rename_i f hf
   unfold bG4 at h;split at h
   ·rename_i g fs cs ef
    obtain⟨z,hz,hk⟩:=h;refine⟨z,?_,hk⟩;unfold ao6 ab9;rw[ho];simp only;rw[hf];simp only;unfold aT8;rw[ef];exact hz
   ·exact h.elim
  ·rename_i b hb
   unfold aT9 at h;split at h
   case _ x t hx ht|_ x t hx ht|_ x y _ _ hx ht|_ x y _ _ hx ht|_ x _ hx ht|_ x y _ _ hx ht=>
    unfold aq8 at h;split at h
    ·rename_i p z hq
     refine⟨z,?_,h.2⟩;unfold ao6 ab9;rw[ho];simp only;rw[hb];simp only;rw[hx,ht];unfold ah7;simp only;try (split;· simp[aY4] at hq)
     rw[hq];exact⟨h.1,rfl,rfl⟩
    ·exact h.elim
   ·exact h.elim
  ·exact h.elim
 ·rename_i t len parts ho
  split at h
  ·exact h.elim
  ·rename_i hne
   unfold aq8 at h;split at h
   ·rename_i p z hq
    refine⟨z,?_,h.2⟩;unfold ao6 ab9;rw[ho];simp only;rw[if_neg hne,hq];exact⟨h.1,rfl,rfl⟩
   ·exact h.elim
 ·exact key _ rfl h
def aw8(P:Program)(L:Tab)(all:List Oper):List Oper->Env->List AObj->(Env->List AObj->Prop)->Prop
 |[],env,H,K=>K env H
 |o::rest,env,H,K=>
  match o.guard with
  |none=>an2 P L o env H fun z=>aw8 P L all rest (put o.dst z env) H K
  |some (j,want)=>ay5 (aq6 all env j) want (an2 P L o (known1 all j want env) H fun z=>aw8 P L all rest (put o.dst z (known1 all j want env)) H K) (aw8 P L all rest (put o.dst (.lit undef) (known1 all j (!want) env)) H K) (aw8 P L all rest (put o.dst (.lit undef) env) H K)
theorem aD4{zs:Nat->AV}{l:Nat->Bool}: ∀(r:List Oper) (i:Nat) (env:Env),(∀j,j < r.length->l (i+j)=false)->ab8 l zs i r env=env
 |[],_,_,_=>rfl
 |o::r,i,env,h=>by
  have h0:=h 0 (by simp)
  rw[aD8] at h0;simp only[ab8,h0,Bool.false_eq_true,if_false];exact aD4 r (i+1) env fun j hj=>by have:=h (j+1) (by simp;omega);rwa [show i+(j+1)=i+1+j by omega] at this
theorem aM5{zs zs':Nat->AV}{l l':Nat->Bool}: ∀(r:List Oper) (i:Nat) (env:Env),(∀j,j < r.length->zs (i+j)=zs' (i+j)/\l (i+j)=l' (i+j))->ab8 l zs i r env=ab8 l' zs' i r env
 |[],_,_,_=>rfl
 |o::r,i,env,h=>by
  obtain⟨h0,h1⟩:=h 0 (by simp)
  rw[aD8] at h0 h1;simp only[ab8,h0,h1];exact aM5 r (i+1) _ fun j hj=>by have:=h (j+1) (by simp;omega);rwa [show i+(j+1)=i+1+j by omega] at this
theorem bm4{all:List Oper}{j:Nat}{b:Bool}{env:Env}(hb:aq6 all env j=.lit (.bool b))(t:Nat):get (known1 all j b env) t=get env t:=by
 unfold known1;rw[get_put];unfold aq6 at hb;split
 ·rename_i hd
  rw[hd] at hb;exact hb.symm
 ·rfl
theorem be1{all:List Oper}{j:Nat}{env env':Env}(h: ∀t,get env t=get env' t):aq6 all env j=aq6 all env' j:=by
 unfold aq6;split
 ·exact h _
 ·rfl
theorem bA2{P:Program}{L:Tab}{all:List Oper}{H:List AObj}{K:Env->List AObj->Prop}: ∀(r:List Oper) (i:Nat) (env env₀:Env),(∀t,get env t=get env₀ t)->aw8 P L all r env H K->
  ∃(zs:Nat->AV) (env':Env),(∀(k:Nat) o,r[k]?=some o->Does P L all o (ab8 (fun j=>decide (j < i+k)) zs i r env₀) H (zs (i+k)))/\(∀t,get (ab8 (fun _=>true) zs i r env₀) t=get env' t)/\K env' H
 |[],i,env,env₀,he,h=>⟨fun _=>.any,env,fun k o e=>by simp at e,fun t=>(he t).symm,h⟩
 |o::r,i,env,env₀,he,h=>by
  have fin: ∀z env₁,(∀t,get env₁ t=get env₀ t)->Does P L all o env₀ H z->aw8 P L all r (put o.dst z env₁) H K->
    ∃(zs:Nat->AV) (env':Env),(∀(k:Nat) q,(o::r)[k]?=some q->Does P L all q (ab8 (fun j=>decide (j < i+k)) zs i (o::r) env₀) H (zs (i+k)))/\(∀t,get (ab8 (fun _=>true) zs i (o::r) env₀) t=get env' t)/\K env' H:=fun z env₁ he₁ hz hr=>by
   obtain⟨zs,env',h1,h2,h3⟩:=bA2 r (i+1) _ (put o.dst z env₀) (fun t=>by rw[get_put,get_put,he₁ t]) hr
   refine⟨fun j=>if j=i then z else zs j,env',fun k q e=>?_,fun t=>?_,h3⟩
   ·cases k with
    |zero=>
     simp only[List.getElem?_cons_zero,Option.some.injEq] at e;subst e;rw[aD4 _ _ _ fun j _=>by simp]
     simpa using hz
    |succ k=>
     have:=h1 k q (by simpa using e)
     have e1:ab8 (fun j=>decide (j < i+(k+1))) (fun j=>if j=i then z else zs j) i (o::r) env₀=ab8 (fun j=>decide (j < i+1+k)) zs (i+1) r (put o.dst z env₀):=by
      simp only[ab8,show i < i+(k+1) by omega,decide_true,if_true]
      exact aM5 r (i+1) _ fun j _=>⟨by rw[if_neg (by omega)],by rw[show i+(k+1)=i+1+k by omega]⟩
     rw[e1];simp only[show¬(i+(k+1)=i) by omega,if_false]
     rwa [show i+(k+1)=i+1+k by omega]
   ·have e1:ab8 (fun _=>true) (fun j=>if j=i then z else zs j) i (o::r) env₀=ab8 (fun _=>true) zs (i+1) r (put o.dst z env₀):=by
     simp only[ab8,if_true];exact aM5 r (i+1) _ fun j _=>⟨by rw[if_neg (by omega)],rfl⟩
    rw[e1];exact h2 t
  have hq: ∀env₁ z,(∀t,get env₁ t=get env₀ t)->ao6 P L o env₁ H z->ao6 P L o env₀ H z:=fun env₁ z he₁ hz=>by
   unfold ao6 at hz⊢;rwa [<-aT7 (env:=env₁) fun x _ t _=>he₁ t]
  unfold aw8 at h;cases hg:o.guard with
  |none=>
   rw[hg] at h;obtain⟨z,hz,hk⟩:=aI3 h;exact fin z env he (by unfold Does;rw[hg];exact hq env z he hz) hk
  |some jw=>
   obtain⟨j,want⟩:=jw;rw[hg] at h;simp only[ay5] at h;split at h
   ·rename_i b hb
    have hb0:aq6 all env₀ j=.lit (.bool b):=by rw[<-be1 he];exact hb
    by_cases e:b=want
    ·subst e
     have he₁: ∀t,get (known1 all j b env) t=get env₀ t:=fun t=>(bm4 hb t).trans (he t)
     obtain⟨z,hz,hk⟩:=aI3 (h.1 rfl);exact fin z _ he₁ (by unfold Does;rw[hg];exact .inl ⟨b,hb0,.inl ⟨rfl,hq _ z he₁ hz⟩⟩) hk
    ·have hbn:b=!want:=by cases b<;>cases want<;>simp_all
     have he₁: ∀t,get (known1 all j (!want) env) t=get env₀ t:=fun t=>(bm4 (hbn▸hb) t).trans (he t)
     exact fin (.lit undef) _ he₁ (by unfold Does;rw[hg];exact .inl ⟨b,hb0,.inr ⟨e,rfl⟩⟩) (h.2 e)
   ·rename_i ar hb
    exact fin (.lit undef) env he (by unfold Does;rw[hg];exact .inr ⟨ar,by rw[<-be1 he];exact hb,rfl⟩) h
   ·exact h.elim
theorem b67{P:Program}{L:Tab}(hL:ac7 P L)(hm:P.follows .mixedOrders=true){n:Nat}{rid:Nat}{ops:List Oper}(hops:ay3 n ops=true)(hdr:aI2 ops=true){Q:Exit->Env->List AObj->Prop}{env:Env}{H:List AObj}
  (h:aw8 P L ops ops env H (Q .normal)):AW P n (.region rid ops.toArray true) Q env H:=by
 obtain⟨zs,env',h1,h2,h3⟩:=bA2 ops 0 env env (fun _=>rfl) h
 exact bZ9 hL hm hops hdr zs (fun i o e=>by have:=h1 i o e;rwa [Nat.zero_add] at this) env' h2 h3
end V
end
end Go.Proofs.YtdkpdjfimckdgaaGreatDoor
