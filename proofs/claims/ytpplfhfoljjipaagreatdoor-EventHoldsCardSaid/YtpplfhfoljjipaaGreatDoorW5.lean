/- Objects as lists of pairs; how deep right trees are. No program in sight. -/
import Derived.Test.YtpplfhfoljjipaaGreatDoorW4
import Derived.Test.YtpplfhfoljjipaaGreatDoorW3
import Derived.Lib.ItoaNum
import Derived.Lib.ItoaWalk
import Derived.Lib.ItoaMem
set_option linter.unusedVariables false
set_option linter.unusedSimpArgs false
set_option maxRecDepth 10000
set_option maxHeartbeats 4000000
namespace Go.Proofs.YtpplfhfoljjipaaGreatDoor
section
open Go V
abbrev Prs:=List (bytes×JV)
def ad3(s:bytes)(x:JV):Prs->Prs
 |[]=>[(s,x)]
 |p::r=>if ah6 p.1 s=true then p::ad3 s x r else if p.1=s then(s,x)::r else(s,x)::p::r
def ad6(s:bytes):Prs->Option JV
 |[]=>none
 |p::r=>if p.1=s then some p.2 else ad6 s r
def ofP(v:JV)(l:Prs):JV:=.mk v.kind v.num v.text (l.map (·.1)) (l.map (·.2))
def prs(v:JV):Prs:=v.names.zip v.items
theorem cx7{v:JV}(h:v.names.length=v.items.length):ofP v (prs v)=v:=by
 obtain⟨k,n,t,ns,is⟩:=v;simp only[JV.names,JV.items] at h;simp only[ofP,prs,JV.kind,JV.num,JV.text,JV.names,JV.items];rw[List.map_fst_zip (by omega),List.map_snd_zip (by omega)]
theorem db2: ∀l:Prs,(l.map (·.1)).zip (l.map (·.2))=l
 |[]=>rfl
 |p::r=>by rw[List.map_cons,List.map_cons,List.zip_cons_cons,db2 r]
theorem cx0(v:JV)(l:Prs):prs (ofP v l)=l:=db2 l
theorem cU5(s:bytes)(x:JV): ∀l:Prs,(if(l.map (·.1))[pos (l.map (·.1)) s]?=some s then(l.map (·.1),(l.map (·.2)).set (pos (l.map (·.1)) s) x) else((l.map (·.1)).insertIdx (pos (l.map (·.1)) s) s,(l.map (·.2)).insertIdx (pos (l.map (·.1)) s) x))=((ad3 s x l).map (·.1),(ad3 s x l).map (·.2))
 |[]=>by simp[ad3,pos]
 |p::r=>by
  have ih:=cU5 s x r;rw[List.map_cons,List.map_cons,ce0,ad3];by_cases h:ah6 p.1 s=true
  ·rw[if_pos h,if_pos h,List.getElem?_cons_succ,List.map_cons,List.map_cons,List.set_cons_succ,ch9,ch9]
   by_cases h2:(r.map (·.1))[pos (r.map (·.1)) s]?=some s
   ·rw[if_pos h2] at ih⊢
    simp only[Prod.mk.injEq] at ih;rw[<-ih.1,<-ih.2]
   ·rw[if_neg h2] at ih⊢
    simp only[Prod.mk.injEq] at ih;rw[<-ih.1,<-ih.2]
  ·rw[if_neg h,if_neg h,List.getElem?_cons_zero]
   by_cases h2:p.1=s
   ·rw[if_pos (congrArg some h2),if_pos h2,List.map_cons,List.map_cons,List.set_cons_zero,h2]
   ·rw[if_neg (fun e=>h2 (Option.some.inj e)),if_neg h2,List.insertIdx_zero,List.insertIdx_zero]
    rfl
theorem aZ6(v:JV)(l:Prs)(s:bytes)(x:JV):at6 (ofP v l) s x=ofP v (ad3 s x l):=by
 have h:=cU5 s x l;by_cases h2:(l.map (·.1))[pos (l.map (·.1)) s]?=some s
 ·rw[if_pos h2] at h
  simp only[Prod.mk.injEq] at h;rw[cT5 (v:=ofP v l) h2];have:ofP v (ad3 s x l)=.mk v.kind v.num v.text ((ad3 s x l).map (·.1)) ((ad3 s x l).map (·.2)):=rfl;rw[this,<-h.1,<-h.2];rfl
 ·rw[if_neg h2] at h
  simp only[Prod.mk.injEq] at h;rw[cf4 (v:=ofP v l) h2];have:ofP v (ad3 s x l)=.mk v.kind v.num v.text ((ad3 s x l).map (·.1)) ((ad3 s x l).map (·.2)):=rfl;rw[this,<-h.1,<-h.2];rfl
theorem d21{v:JV}(h:v.names.length=v.items.length)(s:bytes)(x:JV):at6 v s x=ofP v (ad3 s x (prs v)):=by
 rw[<-aZ6,cx7 h]
theorem cE0(s:bytes): ∀l:Prs,(match(l.map (·.1)).findIdx? (fun n=>n==s) with|some i=>(l.map (·.2))[i]?|none=>none)=ad6 s l
 |[]=>rfl
 |p::r=>by
  have ih:=cE0 s r;rw[List.map_cons,List.map_cons,List.findIdx?_cons,ad6];by_cases h:p.1=s
  ·rw[if_pos h,if_pos (by simpa using h)]
   rfl
  ·rw[if_neg h,if_neg (by simpa using h),<-ih]
   cases(r.map (·.1)).findIdx? (fun n=>n==s) with
   |none=>rfl
   |some i=>rfl
theorem aJ3{v:JV}(hk:v.kind=6)(l:Prs)(s:bytes):ae1 (ofP v l) s=ad6 s l:=by
 rw[<-cE0,ae1];exact if_pos hk
theorem el9{a b:bytes}(h:ah6 a b=true): ¬a=b:=cS6 h
theorem aT5(s:bytes)(x:JV): ∀l:Prs,ad6 s (ad3 s x l)=some x
 |[]=>by simp[ad3,ad6]
 |p::r=>by
  rw[ad3];split
  ·rename_i h
   rw[ad6,if_neg (el9 h),aT5 s x r]
  ·split
   ·rw[ad6,if_pos rfl]
   ·rw[ad6,if_pos rfl]
theorem aw0{s t:bytes}(h:t≠s)(x:JV): ∀l:Prs,ad6 t (ad3 s x l)=ad6 t l
 |[]=>by simp[ad3,ad6,h.symm]
 |p::r=>by
  rw[ad3];split
  ·rw[ad6,ad6,aw0 h x r]
  ·split
   ·rename_i h2
    rw[ad6,ad6,if_neg h.symm,if_neg (by rw[h2];exact h.symm)]
   ·rw[ad6,if_neg h.symm]
theorem bs8{s:bytes}{x:JV}: ∀{l:Prs} {t:bytes},t∈(ad3 s x l).map (·.1)↔t=s\/t∈l.map (·.1)
 |[],t=>by simp[ad3]
 |p::r,t=>by
  rw[ad3];split
  ·rw[List.map_cons,xq8,bs8 (l:=r),List.map_cons,xq8]
   constructor
   ·rintro(h|h|h)
    ·exact .inr (.inl h)
    ·exact .inl h
    ·exact .inr (.inr h)
   ·rintro(h|h|h)
    ·exact .inr (.inl h)
    ·exact .inl h
    ·exact .inr (.inr h)
  ·split
   ·rename_i h
    rw[List.map_cons,xq8,List.map_cons,xq8,h];constructor
    ·rintro(h|h)
     ·exact .inl h
     ·exact .inr (.inr h)
    ·rintro(h|h|h)
     ·exact .inl h
     ·exact .inl h
     ·exact .inr h
   ·rw[List.map_cons,xq8]
theorem cR9{s:bytes}{x:JV}: ∀{l:Prs} {y:JV},y∈(ad3 s x l).map (·.2)->y=x\/y∈l.map (·.2)
 |[],y,h=>by simp[ad3] at h;exact .inl h
 |p::r,y,h=>by
  rw[ad3] at h;split at h
  ·rw[List.map_cons,xq8] at h
   rcases h with h|h
   ·exact .inr (by rw[List.map_cons,xq8];exact .inl h)
   ·rcases cR9 h with h|h
    ·exact .inl h
    ·exact .inr (by rw[List.map_cons,xq8];exact .inr h)
  ·split at h
   ·rw[List.map_cons,xq8] at h
    rcases h with h|h
    ·exact .inl h
    ·exact .inr (by rw[List.map_cons,xq8];exact .inr h)
   ·rw[List.map_cons,xq8] at h
    exact h
theorem bs3{s:bytes}{x:JV}: ∀{l:Prs},srt (l.map (·.1))=true->srt ((ad3 s x l).map (·.1))=true
 |[],_=>rfl
 |p::r,h=>by
  have h0:=h;rw[List.map_cons] at h;rw[ad3];split
  ·rename_i hl
   rw[List.map_cons];refine cd3 (fun b hb=>?_) (bs3 (bg6 h))
   rcases bs8.1 hb with rfl|hb
   ·exact hl
   ·exact aS0 h b hb
  ·rename_i hl
   split
   ·rename_i he
    rw[List.map_cons];simp only;rw[<-he];exact h
   ·rename_i he
    have h1:ah6 s p.1=true:=by
     cases e:ah6 s p.1 with
     |true=>rfl
     |false=>exact absurd (cD0 (by simpa using hl) e) he
    rw[List.map_cons];refine cd3 (fun b hb=>?_) h0
    rw[List.map_cons] at hb;rcases xq8.1 hb with rfl|hb
    ·exact h1
    ·exact aP1 h1 (aS0 h b hb)
def bj8:Prs->Prs->Option Prs
 |a,[]=>some a
 |a,p::r=>if(ad6 p.1 a).isSome then none else bj8 (ad3 p.1 p.2 a) r
def ah2(a l:Prs):Prs:=l.foldl (fun a p=>ad3 p.1 p.2 a) a
theorem aE4{s:bytes}: ∀{l:Prs},(ad6 s l).isSome=true↔s∈l.map (·.1)
 |[]=>by simp[ad6]
 |p::r=>by
  rw[ad6,List.map_cons,xq8];split
  ·rename_i h;simp[h]
  ·rename_i h
   rw[aE4 (l:=r)];constructor
   ·exact .inr
   ·rintro(e|e)
    ·exact absurd e.symm h
    ·exact e
open Classical in
theorem cA0: ∀(l a:Prs),bj8 a l=if(l.map (·.1)).Nodup/\ ∀s∈l.map (·.1),s∉a.map (·.1) then some (ah2 a l) else none
 |[],a=>by rw[if_pos ⟨List.nodup_nil,fun s hs=>by cases hs⟩];rfl
 |p::r,a=>by
  rw[bj8];by_cases h:(ad6 p.1 a).isSome=true
  ·rw[if_pos h,if_neg]
   rintro⟨_,h2⟩
   exact h2 p.1 (by rw[List.map_cons];exact au8 ..) (aE4.1 h)
  ·rw[if_neg h,cA0 r]
   have h':p.1∉a.map (·.1):=fun e=>h (aE4.2 e)
   by_cases h3:(r.map (·.1)).Nodup/\ ∀s∈r.map (·.1),s∉(ad3 p.1 p.2 a).map (·.1)
   ·rw[if_pos h3,if_pos]
    ·rfl
    ·rw[List.map_cons,ch8]
     refine⟨⟨fun e=>h3.2 _ e (bs8.2 (.inl rfl)),h3.1⟩,fun s hs=>?_⟩
     rcases xq8.1 hs with rfl|hs
     ·exact h'
     ·exact fun e=>h3.2 s hs (bs8.2 (.inr e))
   ·rw[if_neg h3,if_neg]
    rintro⟨h4,h5⟩
    rw[List.map_cons,ch8] at h4;refine h3 ⟨h4.2,fun s hs e=>?_⟩
    rcases bs8.1 e with rfl|e
    ·exact h4.1 hs
    ·exact h5 s (by rw[List.map_cons];exact aA0 _ hs) e
theorem aN0{n:Nat}{v:JV}(h:ab3 n v=true):bh8 v=true\/(0 < n/\aQ5 v=true/\v.items.all (ab3 (n - 1))=true):=by
 cases n with
 |zero=>exact .inl h
 |succ n=>
  rw[ab3,bT4,xq3] at h;rcases h with h|h
  ·exact .inl h
  ·exact .inr ⟨Nat.succ_pos _,h.1,h.2⟩
theorem bz4{n:Nat}{v:JV}(h:bh8 v=true):ab3 n v=true:=by
 cases n with
 |zero=>exact h
 |succ n=>rw[ab3,h];rfl
theorem bM8{n:Nat}{v:JV}(h:aQ5 v=true)(k:v.items.all (ab3 n)=true):ab3 (n+1) v=true:=by
 rw[ab3,h,k,Bool.and_self,Bool.or_true]
theorem dF9{v:JV}(h:aQ5 v=true):v.kind=5\/v.kind=6:=by
 unfold aQ5 at h;split at h
 ·exact .inl (by assumption)
 ·split at h
  ·exact .inr (by assumption)
  ·cases h
theorem bh7{v:JV}(h:bh8 v=true): ¬(v.kind=5\/v.kind=6):=by
 unfold bh8 at h;intro hk;split at h
 ·omega
 ·split at h
  ·omega
  ·split at h
   ·omega
   ·cases h
theorem bh0{n m:Nat}(hnm:n<=m): ∀v:JV,ab3 n v=true->ab3 m v=true:=by
 induction n generalizing m with
 |zero=>exact fun v h=>bz4 h
 |succ n ih=>
  intro v h;rcases aN0 h with h|⟨_,h1,h2⟩
  ·exact bz4 h
  ·obtain⟨m,rfl⟩: ∃k,m=k+1:=⟨m - 1,by omega⟩
   refine bM8 h1 (xq5.2 fun x hx=>ih (by omega) x (xq5.1 h2 x hx))
theorem bX5{m:Nat}: ∀(l:List Nat) (a:Nat),m<=a\/m∈l->m<=l.foldl max a
 |[],a,h=>by rcases h with h|h;exact h;cases h
 |b::l,a,h=>by
  refine bX5 l (max a b) ?_;rcases h with h|h
  ·exact .inl (by omega)
  ·rcases xq8.1 h with rfl|h
   ·exact .inl (by omega)
   ·exact .inr h
theorem dM4{m:Nat}{v x:JV}(hk:v.kind=5\/v.kind=6)(hx:x∈v.items):al6 m x+1<=al6 (m+1) v:=by
 rw[al6,if_pos hk];have:=bX5 (m:=al6 m x) (v.items.map (al6 m)) 0 (.inr (xq6.2 ⟨x,hx,rfl⟩));omega
theorem du5{m k:Nat}{v:JV}(h: ∀x∈v.items,al6 m x<=k):al6 (m+1) v<=k+1:=by
 rw[al6];split
 ·have:=bd8 (m:=k) (v.items.map (al6 m)) 0 (by omega) fun y hy=>by
   obtain⟨x,hx,rfl⟩:=xq6.1 hy;exact h x hx
  omega
 ·omega
theorem bN0: ∀(m k:Nat) (n:Nat) (v:JV),ab3 n v=true->al6 m v<=k->k < m->ab3 k v=true
 |0,k,n,v,_,_,h3=>by omega
 |m+1,k,n,v,h1,h2,h3=>by
  rcases aN0 h1 with h|⟨_,h4,h5⟩
  ·exact bz4 h
  ·have hk:=dF9 h4
   have hd:1<=al6 (m+1) v:=by rw[al6,if_pos hk];omega
   obtain⟨k,rfl⟩: ∃j,k=j+1:=⟨k - 1,by omega⟩
   refine bM8 h4 (xq5.2 fun x hx=>?_)
   have:=dM4 (m:=m) hk hx;exact bN0 m k (n - 1) x (xq5.1 h5 x hx) (by omega) (by omega)
theorem bQ5: ∀(k m:Nat) (v:JV),ab3 k v=true->al6 m v<=k
 |k,0,v,_=>aP7 _
 |k,m+1,v,h=>by
  rcases aN0 h with h|⟨h3,h4,h5⟩
  ·rw[al6,if_neg (bh7 h)];exact aP7 _
  ·obtain⟨k,rfl⟩: ∃j,k=j+1:=⟨k - 1,by omega⟩
   exact du5 fun x hx=>bQ5 k m x (xq5.1 h5 x hx)
theorem aI0{n:Nat}{v:JV}(h:ab3 n v=true)(hk:v.kind=6):0 < n/\v.num=0/\v.text=[]/\v.names.length=v.items.length/\v.names.all Lib.validD=true/\srt v.names=true/\v.items.all (ab3 (n - 1))=true:=by
 rcases aN0 h with h|⟨h3,h4,h5⟩
 ·exact absurd (.inr hk) (bh7 h)
 ·unfold aQ5 at h4
  rw[if_neg (by omega),if_pos hk] at h4
  simp only[be8,aI4,xq3,decide_eq_true_eq] at h4;exact⟨h3,h4.1.1,h4.1.2,h4.2.1.1,h4.2.1.2,h4.2.2,h5⟩
theorem bW0{n:Nat}{l:Prs}(h1: ∀s∈l.map (·.1),Lib.validD s=true)(h2:srt (l.map (·.1))=true)(h3: ∀x∈l.map (·.2),ab3 n x=true):ab3 (n+1) (ofP ad2 l)=true:=by
 refine bM8 ?_ (xq5.2 h3);unfold aQ5;rw[if_neg (by show¬((6:Int)=5);decide),if_pos (by rfl)]
 simp only[be8,aI4,xq3,decide_eq_true_eq];exact⟨⟨rfl,rfl⟩,⟨by simp[ofP,JV.names,JV.items],xq5.2 h1⟩,h2⟩
theorem eB3{n:Nat}{v:JV}(h:ab3 n v=true)(hk:v.kind=6):v=ofP ad2 (prs v):=by
 obtain⟨_,h1,h2,h3,_⟩:=aI0 h hk;have:=cx7 h3;rw[ofP,hk,h1,h2] at this;exact this.symm
theorem bm9{v:JV}(h:v.names.length=v.items.length):(prs v).map (·.1)=v.names:=by
 unfold prs;rw[List.map_fst_zip (by omega)]
theorem cB8{v:JV}(h:v.names.length=v.items.length):(prs v).map (·.2)=v.items:=by
 unfold prs;rw[List.map_snd_zip (by omega)]
def bj5(p:bytes->Bool)(l:Prs):Prs:=l.filter (fun q=>!p q.1)
def aC6(p:bytes->Bool)(v:JV):JV:=if v.kind=6/\ab3 12 v=true then ofP ad2 (bj5 p (prs v)) else v
theorem bM1{l:Prs}{p:bytes×JV->Bool}(h:srt (l.map (·.1))=true):srt ((l.filter p).map (·.1))=true:=
 c48 ((cM0 h).sublist (List.Sublist.map _ cI1))
def sumP(l:Prs):Nat:=(l.map fun p=>al5 p.1+aa2 p.2).sum
theorem aZ3(v:JV)(l:Prs):aa2 (ofP v l)=1+v.text.length+sumP l:=by
 rw[av2,aM2];show 1+v.text.length+((l.map (·.1)).map al5).sum+((l.map (·.2)).map aa2).sum=_
 have:((l.map (·.1)).map al5).sum+((l.map (·.2)).map aa2).sum=sumP l:=by
  unfold sumP;induction l with
  |nil=>rfl
  |cons p r ih=>simp only[List.map_cons,bt8];omega
 omega
theorem av4(p:bytes×JV)(r:Prs):sumP (p::r)=al5 p.1+aa2 p.2+sumP r:=by unfold sumP;rw[List.map_cons,bt8]
theorem cd2(s:bytes)(x:JV): ∀l:Prs,sumP (ad3 s x l)<=al5 s+aa2 x+sumP l
 |[]=>by rw[ad3,av4];exact xq0 _
 |p::r=>by
  rw[ad3];have:=cd2 s x r;split
  ·rw[av4,av4];omega
  ·split
   ·rw[av4,av4];simp only;omega
   ·rw[av4];exact xq0 _
theorem b93(p:bytes×JV->Bool): ∀l:Prs,sumP (l.filter p)<=sumP l
 |[]=>xq0 _
 |q::r=>by
  have:=b93 p r;rw[aP6];split
  ·rw[av4,av4];omega
  ·rw[av4];omega
theorem cM1{v:JV}(h:v.names.length=v.items.length):aa2 v=1+v.text.length+sumP (prs v):=by
 rw[<-aZ3,cx7 h]
theorem size_put{v:JV}(h:v.names.length=v.items.length)(s:bytes)(x:JV):aa2 (at6 v s x)<=aa2 v+al5 s+aa2 x:=by
 rw[d21 h,aZ3,cM1 h];have:=cd2 s x (prs v);omega
theorem bM3(p:bytes->Bool)(v:JV):aa2 (aC6 p v)<=aa2 v:=by
 unfold aC6;split
 ·rename_i hc
  obtain⟨_,h1,h2,h3,_⟩:=aI0 hc.2 hc.1;rw[aZ3,cM1 h3];have:=b93 (fun q=>!p q.1) (prs v)
  unfold bj5;show 1+0+_<=_
  omega
 ·exact xq0 _
end
section
open Go V
theorem eg4{v:JV}(h:v.names.length=v.items.length):(prs v).length=v.names.length:=by
 unfold prs;rw[List.length_zip];omega
theorem eg5{v:JV}(h:v.names.length=v.items.length){i:Nat}(hi:i < v.names.length):(prs v)[i]?=some (v.names.getD i [],v.items.getD i aa7):=by
 unfold prs;rw[List.getElem?_zip_eq_some];exact⟨aT4 [] hi,aT4 aa7 (by omega)⟩
theorem bg1{α:Type}{l:List α}{i:Nat}{a:α}(h:l[i]?=some a):l.take (i+1)=l.take i++[a]:=by
 rw[ci8,h];rfl
theorem cX6{α:Type}{l:List α}{i:Nat}{a:α}(h:l[i]?=some a):l.drop i=a::l.drop (i+1):=by
 have hi:=aa0 h;rw[bC9 hi];rw[xq1 hi] at h;cases h
 rfl
structure PS where
 i:Nat
 d:Bool
 o:Prs
abbrev dF0(m m2:Nat)(o:Prs):List AV:=[.lit (.int .i64 6),.lit (.int .i64 0),.str [],.sl (.tok m) 1 ((o.map (·.1)).map .str),.sl (.tok m2) 5 ((o.map (·.2)).map jAV)]
def dp9(H:List AObj)(o:Prs):List AObj:=H++[.cells (.one 25) au5,.cells (.one 25) (dF0 (H.length+2) (H.length+3) o),.grow 1 o.length none,.grow 5 o.length none]
end
section
open Go V
def af8(v:JV)(s:bytes)(x:JV):JV×Int:=
 if v.kind=6/\ab3 12 v=true/\ab3 12 x=true/\Lib.validD s=true then(if 12<=al6 13 x then(aa7,4) else(at6 v s x,0)) else(aa7,1)
theorem bK9{v x:JV}{s:bytes}(h: ¬(v.kind=6/\ab3 12 v=true/\ab3 12 x=true/\Lib.validD s=true)):af8 v s x=(aa7,1):=if_neg h
theorem dE8{n:Nat}{v:JV}(h:ab3 n v=true)(hk:v.kind=6)(hs:aa2 v<=40000):dp8 v:=by
 obtain⟨_,_,_,h3,_,h5,_⟩:=aI0 h hk;have:=dA0 v;exact⟨h3,h5,by omega⟩
theorem aF9{H M:List AObj}{p:JV×Int}{e:Int}(h:p=(aa7,e)):Done H (fun x H'=>x=af9 p/\H'=H) (.tup [.agg au5,.lit (.int .i64 e)]) (H++M):=by
 subst h;exact am0 (ax3 le_zero) (aa5 (af9 (aa7,e)) (Le.refl _) bW7 ⟨rfl,rfl⟩)
theorem bZ6(v x:JV)(s:bytes)(H:List AObj)(hv:aa2 v<=40000)(hx:aa2 x<=40000)(hs:s.length<=10000):o8 Tryz.prog 46 [jAV v,.str s,jAV x] H (fun y H'=>y=af9 (af8 v s x)/\H'=H):=by
 have cv:=fun H=>aM0 v H hv
 have cx:=fun H=>aM0 x H hx
 have cs:=fun H=>aF1 (o:=.sh) s H (ay9 hs (by decide))
 have cd:=fun H=>dQ4 x H hx
 by_cases hk:v.kind=6
 ·have hkt:=eq_true hk
  by_cases h1:ab3 12 v=true
  ·by_cases h2:ab3 12 x=true
   ·by_cases h3:Lib.validD s=true
    ·have hw:af8 v s x=if 12<=al6 13 x then(aa7,4) else(at6 v s x,0):=if_pos ⟨hk,h1,h2,h3⟩
     rw[hw];by_cases h4:12<=al6 13 x
     ·rw[if_pos h4]
      have h4t:(12<=((al6 13 x:Nat):Int))=True:=eq_true (by omega)
      refine y8 [] [.cell 6 25,.tmp 7] 38 Tryz.func46 ?_;repeat' first|refine o6 ?_|simp -dsimp -implicitDefEqProofs (disch:=first|omega|simp only[ll];omega) only[go_sem,hkt,h1,h2,h3,h4t]|refine o5 (cv _) ?_|refine o5 (cx _) ?_|refine o5 (aF1 s _ (ay9 hs (by decide))) ?_|refine o5 (cd _) ?_|fail
      exact aF9 rfl
     ·rw[if_neg h4]
      have h4f:(12<=((al6 13 x:Nat):Int))=False:=eq_false (by omega)
      have cp:=fun H=>eb2 v s x H (dE8 h1 hk hv)
      refine y8 [] [.cell 6 25,.tmp 7] 38 Tryz.func46 ?_;repeat' first|refine o6 ?_|simp -dsimp -implicitDefEqProofs (disch:=first|omega|simp only[ll];omega) only[go_sem,hkt,h1,h2,h3,h4f]|refine o5 (cv _) ?_|refine o5 (cx _) ?_|refine o5 (aF1 s _ (ay9 hs (by decide))) ?_|refine o5 (cd _) ?_|refine o5 (cp _) ?_|fail
      exact aa5 (af9 (at6 v s x,0)) (Le.refl _) bW7 ⟨rfl,rfl⟩
    ·rw[bK9 (fun h=>h3 h.2.2.2)]
     have h3f:Lib.validD s=false:=by simpa using h3
     refine y8 [] [.cell 6 25,.tmp 7] 38 Tryz.func46 ?_;repeat' first|refine o6 ?_|simp -dsimp -implicitDefEqProofs (disch:=first|omega|simp only[ll];omega) only[go_sem,hkt,h1,h2,h3f]|refine o5 (cv _) ?_|refine o5 (cx _) ?_|refine o5 (aF1 s _ (ay9 hs (by decide))) ?_|fail
     exact aF9 rfl
   ·rw[bK9 (fun h=>h2 h.2.2.1)]
    have h2f:ab3 12 x=false:=by simpa using h2
    refine y8 [] [.cell 6 25,.tmp 7] 38 Tryz.func46 ?_;repeat' first|refine o6 ?_|simp -dsimp -implicitDefEqProofs (disch:=first|omega|simp only[ll];omega) only[go_sem,hkt,h1,h2f]|refine o5 (cv _) ?_|refine o5 (cx _) ?_|fail
    exact aF9 rfl
  ·rw[bK9 (fun h=>h1 h.2.1)]
   have h1f:ab3 12 v=false:=by simpa using h1
   refine y8 [] [.cell 6 25,.tmp 7] 38 Tryz.func46 ?_;repeat' first|refine o6 ?_|simp -dsimp -implicitDefEqProofs (disch:=first|omega|simp only[ll];omega) only[go_sem,hkt,h1f]|refine o5 (cv _) ?_|fail
   exact aF9 rfl
 ·rw[bK9 (fun h=>hk h.1)]
  have hkf:=eq_false hk;refine y8 [] [.cell 6 25,.tmp 7] 38 Tryz.func46 ?_;repeat' first|refine o6 ?_|simp -dsimp -implicitDefEqProofs (disch:=first|omega|simp only[ll];omega) only[go_sem,hkf]
  exact aF9 rfl
def hasB(ns:List bytes)(s:bytes):Bool:=ns.any (fun n=>n==s)
theorem cg0(ns:List bytes)(s:bytes):decide (0<=bd3 ns s)=hasB ns s:=by
 unfold bd3 hasB;cases h:ns.findIdx? (fun n=>n==s) with
 |none=>
  rw[di8] at h;rw[decide_eq_false (by simp only;omega)]
  symm
  rw[cH5];exact fun x hx=>by simpa using h x hx
 |some i=>
  obtain⟨h1,h2,_⟩:=di9.1 h;rw[decide_eq_true (by simp only;omega)]
  symm
  rw[bK3];exact⟨_,aR4 h1,h2⟩
theorem d62{p:bytes->Bool}{l:Prs}{i:Nat}{a:bytes×JV}(h:l[i]?=some a):bj5 p (l.take (i+1))=bj5 p (l.take i)++(if p a.1=true then[] else[a]):=by
 rw[bg1 h];unfold bj5;rw[List.filter_append,aP6,List.filter_nil];cases p a.1<;>rfl
theorem d63(p:bytes->Bool)(l:Prs)(i:Nat):(bj5 p (l.take i)).length<=i:=by
 have:=List.length_filter_le (fun q=>!p q.1) (l.take i)
 rw[List.length_take] at this;unfold bj5;omega
theorem bC0{o:Own}(v:JV)(ns:List bytes)(H:List AObj)(hv:aa2 v<=40000)(hn:ns.length<=100000):o8 Tryz.prog 86 [jAV v,.sl o 1 (ns.map .str)] H (fun y H'=>y=jAV (aC6 (hasB ns) v)/\H'=H):=by
 have cv:=fun H=>aM0 v H hv
 by_cases hk:v.kind=6
 ·have hkt:=eq_true hk
  by_cases h1:ab3 12 v=true
  ·have hj:aC6 (hasB ns) v=ofP ad2 (bj5 (hasB ns) (prs v)):=if_pos ⟨hk,h1⟩
   rw[hj];have hok:=dE8 h1 hk hv;have hpl:=eg4 hok.1;have hn1:=hok.1;have hn2:=hok.2.2;have hpg:=fun i hi=>eg5 (v:=v) (i:=i) hok.1 hi
   have mS: ∀(a:List bytes) (b:bytes),a.map AV.str++[.str b]=(a++[b]).map AV.str:=fun a b=>by simp
   have mJ: ∀(a:List JV) (b:JV),a.map jAV++[jAV b]=(a++[b]).map jAV:=fun a b=>by simp
   refine y8 [1000009] [.cell 4 25] 48 Tryz.func86 ?_;repeat' first|refine o6 ?_|simp -dsimp -implicitDefEqProofs (disch:=omega) only[go_sem,hkt,h1]|refine o5 (cv _) ?_|fail
   refine cg9 (H.length+1) 3 1 (by simp;exact⟨rfl,rfl⟩) rfl (by decide) ?_
   refine cg9 (H.length+1) 4 5 (by simp;exact⟨rfl,rfl⟩) rfl (by decide) ?_
   refine aa8 ab2 mixed [1000009] [1,2,4,5,19,20] (fun i:Nat=>i<=v.names.length) (fun i=>[(21,.int .i64 i)]) (fun i=>dp9 H (bj5 (hasB ns) ((prs v).take i))) (fun i=>v.names.length - i) (by kernel_rfl) ?_ 0 (by omega) y9 (by simp[dp9,bj5])
   intro i hi;have hol:=d63 (hasB ns) (prs v) i;unfold dp9;dsimp only[dF0,au5];by_cases hil:i < v.names.length
   ·have t1:=d62 (p:=hasB ns) (hpg i hil)
    have cc:=fun H=>bR7 (o:=o) ns (v.names.getD i []) H (by omega)
    rw[cg0] at cc;cases hp:hasB ns (v.names.getD i []) with
    |true=>
     rw[if_pos hp,List.append_nil] at t1;repeat' first|refine o6 ?_|simp -dsimp -implicitDefEqProofs (disch:=first|assumption|omega) only[go_sem,hp]|refine o5 (cc _) ?_|refine vcA ?_ ?_|omega|refine ac8 fun _=>?_
     refine again (i+1) ?_ ?_ ?_ y9
     ·omega
     ·omega
     ·rw[t1]
    |false=>
     rw[if_neg (by rw[hp];decide)] at t1
     generalize bj5 (hasB ns) ((prs v).take i)=q at*;repeat' first|refine o6 ?_|simp -dsimp -implicitDefEqProofs (disch:=first|assumption|omega|simp only[ll];omega) only[go_sem,hp,mS,mJ]|refine o5 (cc _) ?_|refine vcA ?_ ?_|omega|refine ac8 fun _=>?_
     refine again (i+1) ?_ ?_ ?_ y9
     ·omega
     ·omega
     ·rw[t1];simp
   ·obtain rfl:i=v.names.length:=by omega
    rw[<-hpl,bf9];repeat' first|refine o6 ?_|simp -dsimp -implicitDefEqProofs (disch:=(simp only[ll];omega)) only[go_sem]|refine vcA ?_ ?_|omega|refine ac8 fun _=>?_
    exact am0 (bX1 aG7 aG7) (aa5 (jAV (ofP ad2 (bj5 (hasB ns) (prs v)))) (Le.refl _) (ae5 _) ⟨rfl,rfl⟩)
  ·have hj:aC6 (hasB ns) v=v:=if_neg (fun h=>h1 h.2)
   rw[hj];have h1f:ab3 12 v=false:=by simpa using h1
   refine y8 [1000009] [.cell 4 25] 48 Tryz.func86 ?_;repeat' first|refine o6 ?_|simp -dsimp -implicitDefEqProofs (disch:=first|omega|simp only[ll];omega) only[go_sem,hkt,h1f]|refine o5 (cv _) ?_|fail
   exact aa5 (jAV v) (Le.refl _) (ae5 _) ⟨rfl,rfl⟩
 ·have hj:aC6 (hasB ns) v=v:=if_neg (fun h=>hk h.1)
  rw[hj];have hkf:=eq_false hk;refine y8 [1000009] [.cell 4 25] 48 Tryz.func86 ?_;repeat' first|refine o6 ?_|simp -dsimp -implicitDefEqProofs (disch:=first|omega|simp only[ll];omega) only[go_sem,hkf]
  exact aa5 (jAV v) (Le.refl _) (ae5 _) ⟨rfl,rfl⟩
end
section
open Go V
theorem b37{v x:JV}{s:bytes}(h:(af8 v s x).2=0):v.kind=6/\ab3 12 v=true/\ab3 11 x=true/\Lib.validD s=true/\(af8 v s x).1=at6 v s x:=by
 unfold af8 at h⊢;split at h
 ·rename_i hc
  rw[if_pos hc];split at h
  ·cases h
  ·rename_i hd
   rw[if_neg hd];exact⟨hc.1,hc.2.1,bN0 13 11 12 x hc.2.2.1 (by omega) (by omega),hc.2.2.2,rfl⟩
 ·cases h
theorem dQ9{v x:JV}{s:bytes}(h:(af8 v s x).2≠0):(af8 v s x).1=aa7:=by
 unfold af8 at h⊢;split at h
 ·rename_i hc
  rw[if_pos hc];split at h
  ·rename_i hd;rw[if_pos hd]
  ·exact absurd rfl h
 ·rename_i hc;rw[if_neg hc]
theorem a05{v x:JV}{s:bytes}:aa2 (af8 v s x).1<=aa2 v+al5 s+aa2 x:=by
 have h1:=aA2 v;by_cases h:(af8 v s x).2=0
 ·obtain⟨hk,hr,_,_,e⟩:=b37 h
  rw[e];exact size_put (aI0 hr hk).2.2.2.1 s x
 ·rw[dQ9 h]
  have:aa2 aa7=1:=rfl;omega
end
section
open Go V
def bA6(p:bytes×JV):Bool:=ab3 12 p.2&&Lib.validD p.1
def aY0(p:bytes×JV):Bool:=decide (12<=al6 13 p.2)
def aB7(l:Prs):JV×Int:=
 if l.all bA6=true then(match bj8 [] l with|none=>(aa7,6)|some a=>if l.any aY0=true then(aa7,4) else(ofP ad2 a,0)) else(aa7,1)
theorem cC7{l:Prs}{i:Nat}{p:bytes×JV}(h:l[i]?=some p)(k:bA6 p=false):aB7 l=(aa7,1):=by
 refine if_neg fun e=>?_
 rw[xq5.1 e p (bC3 h)] at k;cases k
theorem dG2{l:Prs}(h: ∀j,j < l.length->bA6 (l.getD j ([],aa7))=true):aB7 l=(match bj8 [] l with|none=>(aa7,6)|some a=>if l.any aY0=true then(aa7,4) else(ofP ad2 a,0)):=by
 refine if_pos (xq5.2 fun p hp=>?_)
 obtain⟨j,hj,rfl⟩:=di7.1 hp;have:=h j hj;rwa [List.getD,xq1 hj] at this
theorem dO9{l acc:Prs}{i:Nat}{p:bytes×JV}(h:l[i]?=some p):bj8 acc (l.drop i)=if(ad6 p.1 acc).isSome then none else bj8 (ad3 p.1 p.2 acc) (l.drop (i+1)):=by
 rw[cX6 h,bj8]
theorem df6(s:bytes)(x:JV): ∀l:Prs,(ad3 s x l).length<=l.length+1
 |[]=>by simp[ad3]
 |p::r=>by
  have:=df6 s x r;rw[ad3];split
  ·simp;omega
  ·split<;>simp
theorem eL4{acc:Prs}(h:srt (acc.map (·.1))=true)(hl:acc.length<=20000):dp8 (ofP ad2 acc):=⟨by simp[ofP,JV.names,JV.items],h,by simpa [ofP,JV.names] using hl⟩
theorem bH8(acc:Prs)(s:bytes):ae1 (ofP ad2 acc) s=ad6 s acc:=aJ3 rfl acc s
def b65(H:List AObj)(v:JV):List AObj:=H++[.cells (.one 25) au5,.cells (.one 25) (af0 v)]
theorem eD9{m:Nat}: ∀z∈au5,Low m z:=fun z hz=>by
 simp only[au5,xq8,aK4,or_false] at hz;rcases hz with rfl|rfl|rfl|rfl|rfl
 ·exact .lit _
 ·exact .lit _
 ·exact .str _
 ·exact af6 (fun k e=>by cases e)
 ·exact af6 (fun k e=>by cases e)
theorem cy4{m:Nat}(v:JV): ∀z∈af0 v,Low m z:=fun z hz=>by
 have:=ae5 (m:=m) v;rw[aT1] at this;cases this with
 |agg _ h=>exact h z hz
theorem bW5(H:List AObj)(v v':JV): ∀(k:Nat) (sh:Shape) (cs:List AV),(b65 H v')[k]?=some (.cells sh cs)->(b65 H v)[k]?=some (.cells sh cs)\/ ∀z∈cs,Low (H.length+2) z:=
 a15 fun o ho sh cs e=>by
  simp only[xq8,aK4,or_false] at ho;subst e;rcases ho with h|h
  ·cases h;exact eD9
  ·cases h;exact cy4 v'
structure MS where
 i:Nat
 a:Prs
 t:Bool
theorem dy1{l:Prs}{i:Nat}{p:bytes×JV}(h:l[i]?=some p):(l.take (i+1)).any aY0=((l.take i).any aY0||aY0 p):=by
 rw[bg1 h,List.any_append];simp
theorem dR8(p:bytes×JV):aY0 p=decide (12<=((al6 13 p.2:Nat):Int)):=decide_eq_decide.2 (by omega)
abbrev co8(p:bytes×JV):List AV:=[.str p.1,.lit (.int .i64 p.2.kind),.lit (.int .i64 p.2.num),.str p.2.text,.sl .sh 1 (p.2.names.map .str),.sl .sh 5 (p.2.items.map jAV)]
theorem dQ6(H:List AObj): ∀(k:Nat) (sh:Shape) (cs:List AV),(H++[AObj.cells (.one 25) au5])[k]?=some (.cells sh cs)->(H++[AObj.cells (.one 25) au5])[k]?=some (.cells sh cs)\/ ∀z∈cs,Low (H.length+1) z:=fun _ _ _ e=>.inl e
theorem bi8(p:bytes×JV):bA6 p=(ab3 12 p.2&&Lib.validD p.1):=rfl
theorem dP9(l:Prs)(H:List AObj)(hl:l.length<=1000)(hsz: ∀p∈l,aa2 p.2<=10000/\p.1.length<=10000):o8 Tryz.prog 43 [.sl .sh 6 (l.map aD1)] H (fun y H'=>y=af9 (aB7 l)/\H'=H):=by
 have hsz': ∀i,i < l.length->aa2 (l.getD i ([],aa7)).2<=10000/\(l.getD i ([],aa7)).1.length<=10000:=fun i hi=>hsz _ (az3 hi)
 refine y8 [] [.cell 2 25,.tmp 3] 64 Tryz.func43 ?_;repeat' simp -dsimp -implicitDefEqProofs only[go_sem]
 refine aa8 ab2 mixed [] [0,2,12,13] (fun i:Nat=>i<=l.length/\ ∀j,j < i->bA6 (l.getD j ([],aa7))=true) (fun i=>[(14,.int .i64 i)]) (fun _=>H++[.cells (.one 25) au5]) (fun i=>l.length - i) (by kernel_rfl) ?_ 0 ⟨by omega,fun j hj=>by omega⟩ y9 rfl
 rintro i ⟨hi,hp⟩
 dsimp only[au5];by_cases hil:i < l.length
 ·have hg:=aT4 ([],aa7) hil
  obtain⟨z1,z2⟩:=hsz' i hil;have cR:=fun H=>aM0 (l.getD i ([],aa7)).2 H (ay9 z1 (by decide))
  have filt:((i:Int) < ((l.length:Nat):Int))=True:=eq_true (by omega)
  cases g1:ab3 12 (l.getD i ([],aa7)).2 with
  |false=>
   rw[cC7 hg (by rw[bi8,g1];rfl)]
   repeat' first|refine o6 ?_|simp -dsimp -implicitDefEqProofs (disch:=first|assumption|omega|simp only[ll];omega) only[go_sem,filt,g1]|refine o5 (cR _) ?_|fail
   exact aF9 rfl
  |true=>
   cases g2:Lib.validD (l.getD i ([],aa7)).1 with
   |false=>
    rw[cC7 hg (by rw[bi8,g1,g2];rfl)]
    repeat' first|refine o6 ?_|simp -dsimp -implicitDefEqProofs (disch:=first|assumption|omega|simp only[ll];omega) only[go_sem,filt,g1,g2]|refine o5 (cR _) ?_|refine o5 (aF1 _ _ (ay9 z2 (by decide))) ?_|fail
    exact aF9 rfl
   |true=>
    repeat' first|refine o6 ?_|simp -dsimp -implicitDefEqProofs (disch:=first|assumption|omega|simp only[ll];omega) only[go_sem,filt,g1,g2]|refine o5 (cR _) ?_|refine o5 (aF1 _ _ (ay9 z2 (by decide))) ?_|fail
    refine an7 (H.length+1) [.cells (.one 77) (co8 (l.getD i ([],aa7)))] (i+1) ?_ ?_ ?_ ?_ ?_ (by repeat(first|exact ah0|(refine ag1 ?_ ?_;focus(first|exact bG9|exact .lit _|exact .str _|exact .mp _ _ (by omega))))) ?_ y9
    ·omega
    ·exact⟨by omega,upto_succ hp (by rw[bi8,g1,g2];rfl)⟩
    ·simp
    ·simp
    ·simp
    ·exact dQ6 H
 ·obtain rfl:i=l.length:=by omega
  rw[dG2 hp];clear hp;generalize hQ:(match bj8 [] l with|none=>((aa7,6):JV×Int)|some a=>if l.any aY0=true then(aa7,4) else(ofP ad2 a,0))=Q
  repeat' first|refine o6 ?_|simp -dsimp -implicitDefEqProofs only[go_sem]|refine vcA ?_ ?_|omega|refine ac8 fun _=>?_
  refine cu5 (H.length+1) (sh:=.one 25) (cs:=[.lit (.int .i64 6),.lit (.int .i64 0),.str [],.sl .full 0 [],.sl .full 0 []]) (cs':=af0 ad2) (by simp) (.cons (Le.refl _) (.cons (Le.refl _) (.cons (Le.refl _) (.cons (ao3) (.cons (ao3) .nil))))) ?_
  refine aa8 ab2 mixed [] [2,6,32,33] (fun y:MS=>y.i<=l.length/\y.a.length<=y.i/\srt (y.a.map (·.1))=true/\y.t=(l.take y.i).any aY0/\bj8 y.a (l.drop y.i)=bj8 [] l) (fun y=>[(34,.int .i64 y.i),(7,.bool y.t)]) (fun y=>b65 H (ofP ad2 y.a)) (fun y=>l.length - y.i) (by kernel_rfl) ?_ ⟨0,[],false⟩ ⟨by simp,by simp,rfl,rfl,rfl⟩ y9 (by rw[show ofP ad2 []=ad2 from rfl];simp[b65])
  rintro⟨i,a,t⟩ ⟨hi,hal,hsrt,htl,hall⟩
  dsimp only at hi hal hsrt htl hall⊢;by_cases hil:i < l.length
  ·have hg:=aT4 ([],aa7) hil
   obtain⟨z1,z2⟩:=hsz' i hil;have filt:((i:Int) < ((l.length:Nat):Int))=True:=eq_true (by omega)
   have hok:=eL4 hsrt (by omega)
   rw[dO9 hg] at hall;have tt:=dy1 hg;rw[<-htl] at tt;have ti:=dR8 (l.getD i ([],aa7));have cG:=fun H=>bm3 (ofP ad2 a) (l.getD i ([],aa7)).1 H (by have:=hok.2.2;omega) (by have:=hok.2.2;have:=hok.1;omega)
   rw[aQ7,bH8] at cG;have cP:=fun H=>eb2 (ofP ad2 a) (l.getD i ([],aa7)).1 (l.getD i ([],aa7)).2 H hok
   rw[aZ6] at cP;have cD:=fun H=>dQ4 (l.getD i ([],aa7)).2 H (ay9 z1 (by decide))
   have hln:=df6 (l.getD i ([],aa7)).1 (l.getD i ([],aa7)).2 a;have hsr2:=bs3 (s:=(l.getD i ([],aa7)).1) (x:=(l.getD i ([],aa7)).2) hsrt;generalize hv0:ofP ad2 a=v0 at*;generalize hv1:ofP ad2 (ad3 (l.getD i ([],aa7)).1 (l.getD i ([],aa7)).2 a)=v1 at*;unfold b65;dsimp only[af0,au5];cases hj:(ad6 (l.getD i ([],aa7)).1 a).isSome with
   |true=>
    rw[if_pos hj] at hall;rw[<-hall] at hQ;subst hQ;repeat' first|refine o6 ?_|simp -dsimp -implicitDefEqProofs (disch:=first|assumption|omega|simp only[ll];omega) only[go_sem,filt,hj]|refine o5 (cG _) ?_|fail
    exact aF9 rfl
   |false=>
    have hz:(ad6 (l.getD i ([],aa7)).1 a).getD aa7=aa7:=by
     cases e:ad6 (l.getD i ([],aa7)).1 a with
     |none=>rfl
     |some x=>rw[e] at hj;cases hj
    rw[if_neg (by rw[hj];decide)] at hall
    cases t with
    |true=>
     repeat' first|refine o6 ?_|simp -dsimp -implicitDefEqProofs (disch:=first|assumption|omega|simp only[ll];omega) only[go_sem,filt,hj,hz]|refine o5 (cG _) ?_|refine o5 (cP _) ?_|refine o5 (cD _) ?_|fail
     refine an7 (H.length+2) [.cells (.one 77) (co8 (l.getD i ([],aa7))),.cells (.one 25) (af0 aa7)] ⟨i+1,ad3 (l.getD i ([],aa7)).1 (l.getD i ([],aa7)).2 a,true⟩ ?_ ?_ ?_ ?_ ?_ (by repeat(first|exact ah0|(refine ag1 ?_ ?_;focus(first|exact bG9|exact .lit _|exact .str _|exact .mp _ _ (by omega))))) ?_ y9
     ·dsimp only;omega
     ·exact⟨by dsimp only;omega,by dsimp only;omega,hsr2,by rw[tt];rfl,hall⟩
     ·dsimp only
      rw[hv1];simp
     ·simp
     ·simp
     ·exact bW5 H _ _
    |false=>
     cases hd:aY0 (l.getD i ([],aa7)) with
     |true=>
      rw[hd] at ti;have hdi:(12<=((al6 13 (l.getD i ([],aa7)).2:Nat):Int))=True:=eq_true (of_decide_eq_true ti.symm);repeat' first|refine o6 ?_|simp -dsimp -implicitDefEqProofs (disch:=first|assumption|omega|simp only[ll];omega) only[go_sem,filt,hj,hz,hdi]|refine o5 (cG _) ?_|refine o5 (cP _) ?_|refine o5 (cD _) ?_|fail
      refine an7 (H.length+2) [.cells (.one 77) (co8 (l.getD i ([],aa7))),.cells (.one 25) (af0 aa7)] ⟨i+1,ad3 (l.getD i ([],aa7)).1 (l.getD i ([],aa7)).2 a,true⟩ ?_ ?_ ?_ ?_ ?_ (by repeat(first|exact ah0|(refine ag1 ?_ ?_;focus(first|exact bG9|exact .lit _|exact .str _|exact .mp _ _ (by omega))))) ?_ y9
      ·dsimp only;omega
      ·exact⟨by dsimp only;omega,by dsimp only;omega,hsr2,by rw[tt,hd];rfl,hall⟩
      ·dsimp only
       rw[hv1];simp
      ·simp
      ·simp
      ·exact bW5 H _ _
     |false=>
      rw[hd] at ti;have hdi:(12<=((al6 13 (l.getD i ([],aa7)).2:Nat):Int))=False:=eq_false (of_decide_eq_false ti.symm);repeat' first|refine o6 ?_|simp -dsimp -implicitDefEqProofs (disch:=first|assumption|omega|simp only[ll];omega) only[go_sem,filt,hj,hz,hdi]|refine o5 (cG _) ?_|refine o5 (cP _) ?_|refine o5 (cD _) ?_|fail
      refine an7 (H.length+2) [.cells (.one 77) (co8 (l.getD i ([],aa7))),.cells (.one 25) (af0 aa7)] ⟨i+1,ad3 (l.getD i ([],aa7)).1 (l.getD i ([],aa7)).2 a,false⟩ ?_ ?_ ?_ ?_ ?_ (by repeat(first|exact ah0|(refine ag1 ?_ ?_;focus(first|exact bG9|exact .lit _|exact .str _|exact .mp _ _ (by omega))))) ?_ y9
      ·dsimp only;omega
      ·exact⟨by dsimp only;omega,by dsimp only;omega,hsr2,by rw[tt,hd];rfl,hall⟩
      ·dsimp only
       rw[hv1];simp
      ·simp
      ·simp
      ·exact bW5 H _ _
  ·obtain rfl:i=l.length:=by omega
   rw[ci0,bj8] at hall;rw[bf9] at htl;rw[<-hall] at hQ;dsimp only at hQ;unfold b65;dsimp only[af0,au5];cases t with
   |true=>
    rw[if_pos htl.symm] at hQ;subst hQ;repeat' first|refine o6 ?_|simp -dsimp -implicitDefEqProofs (disch:=(simp only[ll];omega)) only[go_sem]|refine vcA ?_ ?_|omega|refine ac8 fun _=>?_
    exact aF9 rfl
   |false=>
    rw[if_neg (by rw[<-htl];decide)] at hQ
    subst hQ;repeat' first|refine o6 ?_|simp -dsimp -implicitDefEqProofs (disch:=(simp only[ll];omega)) only[go_sem]|refine vcA ?_ ?_|omega|refine ac8 fun _=>?_
    exact aa5 (af9 (ofP ad2 a,0)) (Le.refl _) bW7 ⟨rfl,rfl⟩
end
section
open Go V
theorem dR1{w r:bytes}(hw: ∀b∈w,b.toNat < 128):Lib.validD (w++r)=Lib.validD r:=by
 have:=Lib.validD_ascii w.length (w++r) (by rw[bf5];exact hw)
 rwa [List.drop_left] at this
end
section
open Go V
def dI3(c:UInt8):Bool:=c==91||c==93||c==123||c==125||c==44||c==58
def eb6(w t:Bool)(c:UInt8):Bool:=if t then w else if w&&c==92 then w else if c==34 then !w else w
def eb7(w t:Bool)(c:UInt8):Bool:=if t then false else w&&c==92
inductive Wide:Bool->Bool->bytes->bytes->Prop
 |nil (w t:Bool):Wide w t [] []
 |cons (w t:Bool) (c:UInt8) (p q r m:bytes) (hp: ∀b∈p,bH5 b=true) (hq: ∀b∈q,bH5 b=true) (hs:(w=false/\dI3 c=true)\/(p=[]/\q=[])) (h:Wide (eb6 w t c) (eb7 w t c) r m):Wide w t (c::r) (p++c::(q++m))
inductive Tight:bytes->bytes->Prop
 |nil:Tight [] []
 |cons (c:UInt8) (q r m:bytes) (hc:bH5 c=false) (hq: ∀b∈q,bH5 b=true) (hs:dI3 c=true\/q=[]) (h:Wide (eb6 false false c) (eb7 false false c) r m):Tight (c::r) (c::(q++m))
end
section
open Go V
def hexS(n:Nat):UInt8:=[48,49,50,51,52,53,54,55,56,57,97,98,99,100,101,102].getD n 0
def aQ3(c:UInt8):bytes:=
 if c=34 then[92,34] else if c=92 then[92,92] else if c=8 then[92,98] else if c=9 then[92,116] else if c=10 then[92,110] else if c=12 then[92,102] else if c=13 then[92,114]
 else if c.toNat < 32 then[92,117,48,48,UInt8.ofNat (48+c.toNat/16),hexS (c.toNat%16)] else[c]
def aS4(s:bytes):bytes:=34::(s.flatMap aQ3++[34])
def aW0(first obj:Bool)(n:bytes):bytes:=(if first then[] else[44])++(if obj then aS4 n++[58] else[])
mutual
def af7:JV->bytes
 |.mk k n t ns is=>
  if k=1 then cI6 else if k=2 then cj7 else if k=3 then Lib.itoa n else if k=4 then aS4 t
  else if k=5 then 91::(aw6 false is true ns++[93])
  else if k=6 then 123::(aw6 true is true ns++[125])
  else cI7
def aw6(obj:Bool):List JV->Bool->List bytes->bytes
 |[],_,_=>[]
 |v::r,first,ns=>aW0 first obj (ns.headD [])++(af7 v++aw6 obj r false ns.tail)
end
theorem aE3(v:JV):af7 v=if v.kind=1 then cI6 else if v.kind=2 then cj7 else if v.kind=3 then Lib.itoa v.num else if v.kind=4 then aS4 v.text
  else if v.kind=5 then 91::(aw6 false v.items true v.names++[93]) else if v.kind=6 then 123::(aw6 true v.items true v.names++[125]) else cI7:=by
 cases v;rw[af7];rfl
theorem bP1(obj first:Bool)(ns:List bytes):aw6 obj [] first ns=[]:=by rw[aw6]
theorem aX2(obj first:Bool)(ns:List bytes)(v:JV)(r:List JV):aw6 obj (v::r) first ns=aW0 first obj (ns.headD [])++(af7 v++aw6 obj r false ns.tail):=by rw[aw6]
theorem d52(c:UInt8):(aQ3 c).length<=6/\1<=(aQ3 c).length:=by
 unfold aQ3;repeat' split
 all_goals simp
theorem aJ4(s:bytes):(s.flatMap aQ3).length<=6*s.length:=by
 induction s with
 |nil=>simp
 |cons c s ih=>
  have:=(d52 c).1;rw[b04,List.length_append,List.length_cons];omega
theorem bq1(s:bytes):(aS4 s).length<=6*s.length+2:=by
 have:=aJ4 s;unfold aS4;simp only[List.length_cons,List.length_append,List.length_nil];omega
theorem du4{d:Nat}(h:d < 10):(UInt8.ofNat (48+d)).toNat=48+d:=by
 rw[UInt8.toNat_ofNat_of_lt' (by show 48+d < 256;omega)]
theorem cX7{d:Nat}(h:d < 10):isDigit (UInt8.ofNat (48+d))=true:=by
 unfold isDigit;rw[du4 h];exact decide_eq_true (by omega)
theorem d59(u:Nat): ∀b∈Lib.decDigits u,isDigit b=true:=by
 induction u using Nat.strongRecOn with
 |ind u ih=>
  intro b hb;rw[Lib.decDigits] at hb;split at hb
  ·rename_i h
   simp only[xq8,aK4,or_false] at hb;subst hb;exact cX7 h
  ·rename_i h
   rcases aR3.1 hb with hb|hb
   ·exact ih (u/10) (by omega) b hb
   ·simp only[xq8,aK4,or_false] at hb
    subst hb;exact cX7 (by omega)
theorem dg8(u:Nat):Lib.decDigits u≠[]:=by
 rw[Lib.decDigits];split<;>simp
theorem du3(u:Nat):isDigit (peek (Lib.decDigits u))=true:=by
 have h2:=dg8 u;have h3:=d59 u;cases hd:Lib.decDigits u with
 |nil=>exact absurd hd h2
 |cons a b=>rw[hd] at h3;exact h3 a (au8 ..)
end
section
open Go V
def dz4(c:UInt8):Bool:=c==110||c==116||c==102||c==34||c==45||c==91||c==123||isDigit c
theorem dr7(n:Int): ∃c l,Lib.itoa n=c::l/\(c=45\/isDigit c=true):=by
 unfold Lib.itoa;split
 ·exact⟨_,_,rfl,.inl rfl⟩
 ·have h2:=dg8 n.toNat
  have h3:=du3 n.toNat;cases hd:Lib.decDigits n.toNat with
  |nil=>exact absurd hd h2
  |cons a b=>rw[hd] at h3;exact⟨a,b,rfl,.inr h3⟩
theorem ca4(v:JV): ∃c l,af7 v=c::l/\dz4 c=true:=by
 rw[aE3];split
 ·exact⟨_,_,rfl,rfl⟩
 split
 ·exact⟨_,_,rfl,rfl⟩
 split
 ·obtain⟨c,l,h1,h2⟩:=dr7 v.num
  refine⟨c,l,h1,?_⟩;unfold dz4;rcases h2 with rfl|h2
  ·rfl
  ·rw[h2,Bool.or_true]
 split
 ·exact⟨_,_,rfl,rfl⟩
 split
 ·exact⟨_,_,rfl,rfl⟩
 split
 ·exact⟨_,_,rfl,rfl⟩
 ·exact⟨_,_,rfl,rfl⟩
theorem cy7{k n:Int}{t:bytes}{ns:List bytes}{is:List JV}:(JV.mk k n t ns is).kind=k:=rfl
theorem bA4(obj:Bool): ∀(l:List JV) (b:Bool) (ns:List bytes),l.length<=(aw6 obj l b ns).length
 |[],_,_=>by simp
 |x::l,b,ns=>by
  have:=bA4 obj l false ns.tail;obtain⟨c,p,h1,_⟩:=ca4 x;rw[aX2,h1];simp only[List.length_append,List.length_cons];omega
theorem dn7{n:Nat}{v:JV}(h:ab3 n v=true)(hk:v.kind=5): ∃k,n=k+1/\v=.mk 5 0 [] [] v.items/\v.items.all (ab3 k)=true:=by
 rcases aN0 h with h|⟨h0,h1,h2⟩
 ·exact absurd (.inl hk) (bh7 h)
 ·unfold aQ5 be8 at h1
  rw[if_pos hk] at h1;simp only[xq3,decide_eq_true_eq] at h1;refine⟨n - 1,by omega,?_,h2⟩
  obtain⟨k,nu,t,ns,is⟩:=v;simp only[JV.kind,JV.num,JV.text,JV.names,JV.items] at hk h1⊢;obtain⟨⟨rfl,rfl⟩,rfl⟩:=h1;rw[hk]
theorem eE9(v:JV):v=.mk v.kind v.num v.text v.names v.items:=by cases v;rfl
theorem bM9{n:Nat}{v:JV}(h:ab3 n v=true)(hk:v.kind≠5/\v.kind≠6):v=.mk v.kind v.num v.text [] []/\((v.kind=0\/v.kind=1\/v.kind=2)/\v.num=0/\v.text=[]\/v.kind=3/\v.text=[]/\ -9007199254740991<=v.num/\v.num<=9007199254740991\/v.kind=4/\v.num=0/\Lib.validD v.text=true):=by
 have he:=eE9 v;rcases aN0 h with h|⟨_,h,_⟩
 ·unfold bh8 be8 bq8 at h
  by_cases h2:v.kind=0\/v.kind=1\/v.kind=2
  ·rw[if_pos h2] at h
   simp only[xq3,decide_eq_true_eq] at h;obtain⟨⟨e1,e2⟩,e3,e4⟩:=h;rw[e3,e4] at he;exact⟨he,.inl ⟨h2,e1,e2⟩⟩
  rw[if_neg h2] at h;by_cases h3:v.kind=3
  ·rw[if_pos h3] at h
   simp only[xq3,decide_eq_true_eq] at h;obtain⟨⟨⟨e3,e4⟩,e2⟩,h4⟩:=h;rw[e3,e4] at he;exact⟨he,.inr (.inl ⟨h3,e2,h4⟩)⟩
  rw[if_neg h3] at h;by_cases h4:v.kind=4
  ·rw[if_pos h4] at h
   simp only[xq3,decide_eq_true_eq] at h;obtain⟨⟨⟨e3,e4⟩,e1⟩,h5⟩:=h;rw[e3,e4] at he;exact⟨he,.inr (.inr ⟨h4,e1,h5⟩)⟩
  rw[if_neg h4] at h;cases h
 ·unfold aQ5 at h
  rw[if_neg hk.1,if_neg hk.2] at h;cases h
theorem cT8{n:Int}(h1: -9007199254740991<=n)(h2:n<=9007199254740991):(Lib.itoa n).length<=17:=by
 have hd: ∀(k u:Nat),u < 10^k->(Lib.decDigits u).length<=max k 1:=by
  intro k;induction k with
  |zero=>
   intro u h;have:u < 1:=h;obtain rfl:u=0:=by omega
   rw[Lib.decDigits_one (by omega)]
   simp
  |succ k ih=>
   intro u h;rw[Lib.decDigits];split
   ·simp
    try omega
   ·rename_i h3
    have:=ih (u/10) (by rw[aM5] at h;omega)
    rw[List.length_append,List.length_cons,List.length_nil];cases k with
    |zero=>have:u < 10:=h;omega
    |succ k=>omega
 have h16:(10:Nat)^16=10000000000000000:=by decide
 unfold Lib.itoa;split
 ·have:=hd 16 n.natAbs (by omega)
  rw[List.length_cons];omega
 ·have:=hd 16 n.toNat (by omega)
  omega
theorem bP0(obj:Bool): ∀(l:List JV) (b:Bool) (ns:List bytes),(∀x∈l,(af7 x).length+1<=24*aa2 x)->(obj=true->ns.length=l.length)->(aw6 obj l b ns).length<=24*(l.map aa2).sum+24*(ns.map al5).sum
 |[],b,ns,_,_=>by rw[bP1];simp
 |x::l,b,ns,h,hn=>by
  have h1:=h x (au8 ..);have h2:=bP0 obj l false ns.tail (fun y hy=>h y (aA0 _ hy)) (fun e=>by have:=hn e;simp only[List.length_cons] at this;rw[List.length_tail];omega)
  have h3:(aW0 b obj (ns.headD [])).length+24*(ns.tail.map al5).sum<=1+24*(ns.map al5).sum:=by
   unfold aW0;have hb:(if b=true then([]:bytes) else[44]).length<=1:=by cases b<;>simp
   rw[List.length_append];cases obj with
   |false=>
    cases ns with
    |nil=>simp;cases b<;>simp
    |cons s ns=>simp;cases b<;>simp<;>omega
   |true=>
    cases ns with
    |nil=>simp at hn
    |cons s ns=>
     have:=bq1 s;have hw:al5 s=1+s.length:=rfl;simp only[if_true,List.headD_cons,List.tail_cons,List.map_cons,bt8,List.length_append,List.length_cons,List.length_nil,hw];omega
  rw[aX2,List.map_cons,bt8];simp only[List.length_append];omega
theorem do4: ∀(n:Nat) (v:JV),ab3 n v=true->(af7 v).length+1<=24*aa2 v:=by
 intro n;induction n with
 |zero=>
  intro v h;have h0:=aA2 v;have ht:=size_text v;have hq:=bq1 v.text;by_cases hk:v.kind≠5/\v.kind≠6
  ·obtain⟨h1,h2⟩:=bM9 h hk
   rw[aE3];repeat' split
   all_goals first|omega|(simp[cI6,cj7,cI7];omega)|skip
   have:=cT8 (n:=v.num) (by omega) (by omega)
   omega
  ·rcases aN0 h with h|⟨h,_⟩
   ·exact absurd (by omega) (bh7 h)
   ·omega
 |succ n ih=>
  intro v h;have h0:=aA2 v;have ht:=size_text v;have hq:=bq1 v.text;by_cases hk:v.kind≠5/\v.kind≠6
  ·obtain⟨h1,h2⟩:=bM9 h hk
   rw[aE3];repeat' split
   all_goals first|omega|(simp[cI6,cj7,cI7];omega)|skip
   have:=cT8 (n:=v.num) (by omega) (by omega)
   omega
  ·have hsz:aa2 v=1+v.text.length+(v.names.map al5).sum+(v.items.map aa2).sum:=by rw[av2,aM2]
   by_cases h5:v.kind=5
   ·obtain⟨k,e,h1,h2⟩:=dn7 h h5
    obtain rfl:n=k:=by omega
    have:=bP0 false v.items true v.names (fun x hx=>ih x (xq5.1 h2 x hx)) (fun e=>by cases e)
    rw[aE3,if_neg (by omega),if_neg (by omega),if_neg (by omega),if_neg (by omega),if_pos h5]
    simp only[List.length_cons,List.length_append,List.length_nil];omega
   ·obtain⟨_,h1,h2,h3,h4,h6,h7⟩:=aI0 h (by omega)
    have:=bP0 true v.items true v.names (fun x hx=>ih x (xq5.1 h7 x hx)) (fun _=>h3)
    rw[aE3,if_neg (by omega),if_neg (by omega),if_neg (by omega),if_neg (by omega),if_neg h5,if_pos (by omega)]
    simp only[List.length_cons,List.length_append,List.length_nil];omega
end
section
open Go V
theorem dK7{s:bytes}{i:Nat}(h:i < s.length):(s.take (i+1)).flatMap aQ3=(s.take i).flatMap aQ3++aQ3 (s.getD i 0):=by
 rw[ci8,xq1 h,List.getD,xq1 h,ci1];simp
theorem q_len{f l g:bytes}{n:Nat}(ht:g=f++l)(h:n=l.length):f.length+1+n=(34::g).length:=by rw[ht,h];simp;omega
end
section
open Go V
theorem eu9(x:Nat)(H:List AObj)(hx:x < 18446744073709551616):o8 Tryz.prog 248 [.lit (.int .u64 x)] H (fun y H'=>y=.lit (.int .i64 ((Lib.bitLen x:Nat):Int))/\H'=H):=by
 refine y8 [] [.tmp 2] 25 Tryz.func248 ?_;go_name_bytes B hB
 have hT: ∀i:Fin 256,(B.data.toList.getD i.val 0).toNat=Lib.bitLen i.val:=by rw[<-hB];decide+kernel
 have hl:B.data.toList.length=256:=by rw[<-hB];decide+kernel
 clear hB;have hT': ∀v,v < 256->(B.data.toList.getD v 0).toNat=Lib.bitLen v:=fun v h=>hT ⟨v,h⟩
 have hb: ∀v,v < 256->Lib.bitLen v<=8:=fun v h=>Lib.bitLen_le8 ⟨v,h⟩
 clear hT;repeat' first|refine o6 ?_|simp -dsimp -implicitDefEqProofs (disch:=omega) only[go_sem,hl]|refine vcA ?_ ?_|omega|refine ac8 fun _=>?_
 ·have e1:=hT' (((x/4294967296)/65536)/256) (by omega)
  have e2:=hb (((x/4294967296)/65536)/256) (by omega)
  rw[e1,IntWalk.i64_in _ (by omega)]
  refine o9 ⟨int_eq ?_,rfl⟩;rw[Lib.bitLen_shift32 x (by omega) hx,Lib.bitLen_shift16 (x/4294967296) (by omega) (by omega),Lib.bitLen_shift8 ((x/4294967296)/65536) (by omega) (by omega)]
  omega
 ·have e1:=hT' ((x/4294967296)/65536) (by omega)
  have e2:=hb ((x/4294967296)/65536) (by omega)
  rw[e1,IntWalk.i64_in _ (by omega)]
  refine o9 ⟨int_eq ?_,rfl⟩;rw[Lib.bitLen_shift32 x (by omega) hx,Lib.bitLen_shift16 (x/4294967296) (by omega) (by omega)]
  omega
 ·have e1:=hT' ((x/4294967296)/256) (by omega)
  have e2:=hb ((x/4294967296)/256) (by omega)
  rw[e1,IntWalk.i64_in _ (by omega)]
  refine o9 ⟨int_eq ?_,rfl⟩;rw[Lib.bitLen_shift32 x (by omega) hx,Lib.bitLen_shift8 (x/4294967296) (by omega) (by omega)]
  omega
 ·have e1:=hT' (x/4294967296) (by omega)
  have e2:=hb (x/4294967296) (by omega)
  rw[e1,IntWalk.i64_in _ (by omega)]
  refine o9 ⟨int_eq ?_,rfl⟩;rw[Lib.bitLen_shift32 x (by omega) hx]
  omega
 ·have e1:=hT' ((x/65536)/256) (by omega)
  have e2:=hb ((x/65536)/256) (by omega)
  rw[e1,IntWalk.i64_in _ (by omega)]
  refine o9 ⟨int_eq ?_,rfl⟩;rw[Lib.bitLen_shift16 x (by omega) (by omega),Lib.bitLen_shift8 (x/65536) (by omega) (by omega)]
  omega
 ·have e1:=hT' (x/65536) (by omega)
  have e2:=hb (x/65536) (by omega)
  rw[e1,IntWalk.i64_in _ (by omega)]
  refine o9 ⟨int_eq ?_,rfl⟩;rw[Lib.bitLen_shift16 x (by omega) (by omega)]
  omega
 ·have e1:=hT' (x/256) (by omega)
  have e2:=hb (x/256) (by omega)
  rw[e1,IntWalk.i64_in _ (by omega)]
  refine o9 ⟨int_eq ?_,rfl⟩;rw[Lib.bitLen_shift8 x (by omega) (by omega)]
  omega
 ·have e1:=hT' x (by omega)
  have e2:=hb x (by omega)
  rw[e1,IntWalk.i64_in _ (by omega)]
  refine o9 ⟨int_eq ?_,rfl⟩;omega
theorem c77(x:Nat)(H:List AObj)(hx:x<=64):o8 Tryz.prog 247 [.lit (.int .i64 x)] H (fun y H'=>y=.lit (.int .i64 ((Lib.l10 x:Nat):Int))/\H'=H):=by
 refine y8 [] [.tmp 2] 6 Tryz.func247 ?_;repeat' simp -dsimp -implicitDefEqProofs (disch:=omega) only[go_sem]
 refine o9 ⟨int_eq ?_,rfl⟩;unfold Lib.l10;omega
theorem es9(b:Bool)(H:List AObj):o8 Tryz.prog 249 [.lit (.bool b)] H (fun y H'=>y=.lit (.int .i64 (if b then 1 else 0))/\H'=H):=by
 cases b
 all_goals
  refine y8 [] [.tmp 2] 4 Tryz.func249 ?_;repeat' first|refine o6 ?_|simp -dsimp -implicitDefEqProofs only[go_sem]
  exact o9 ⟨rfl,rfl⟩
theorem ef6(i:Nat)(H:List AObj)(hi:i < 100):o8 Tryz.prog 239 [.lit (.int .i64 i)] H (fun y H'=>y=.str (Lib.decDigits i)/\H'=H):=by
 by_cases h:i < 10
 ·have ht:((i:Int) < 10)=True:=eq_true (by omega)
  refine y8 [] [.tmp 2] 15 Tryz.func239 ?_;go_name_bytes B hB
  have hBs:B=Lib.digits36:=by rw[<-hB];decide+kernel
  have hl:B.data.toList.length=36:=by rw[hBs];exact Lib.digits36_size
  clear hB;repeat' first|refine o6 ?_|simp -dsimp -implicitDefEqProofs (disch:=omega) only[go_sem,ht,hl]|refine vcA ?_ ?_|omega
  have:=Lib.digits36_piece h;rw[<-hBs] at this;rw[show ((i:Int)+1).toNat=i+1 by omega,this]
  exact o9 ⟨rfl,rfl⟩
 ·have ht:((i:Int) < 10)=False:=eq_false (by omega)
  refine y8 [] [.tmp 2] 15 Tryz.func239 ?_;go_name_bytes B hB
  go_name_bytes C hC
  have hCs:C=Lib.smalls:=by rw[<-hC];decide+kernel
  have hl:C.data.toList.length=200:=by rw[hCs];exact Lib.smalls_size
  clear hB hC;repeat' first|refine o6 ?_|simp -dsimp -implicitDefEqProofs (disch:=omega) only[go_sem,ht,hl]|refine vcA ?_ ?_|omega
  have:=Lib.smalls_piece h hi;rw[<-hCs] at this;rw[show ((i:Int)*2+2).toNat=i*2+2 by omega,show ((i:Int)*2).toNat=i*2 by omega,this]
  exact o9 ⟨rfl,rfl⟩
theorem ca7(u:Nat)(H:List AObj)(h1:1<=u)(h2:u < 18446744073709551616):o8 Tryz.prog 240 [.lit (.int .u64 u)] H (fun y H'=>y=.lit (.int .i64 ((Lib.nDigits u:Nat):Int))/\H'=H):=by
 obtain⟨e1,e2⟩:=Lib.numDigits_eq u h1 h2;have e3:=Lib.bitLen_le u 64 (xq0 _) h2;have cL:=fun H=>eu9 u H h2
 have cP:=fun H=>c77 (Lib.bitLen u) H e3
 generalize Lib.l10 (Lib.bitLen u)=q at*;have hg:aj0 11=.ip (.agg bh5):=ds8 rfl rfl;have hp:=dU1 (i:=q) (by omega)
 refine y8 [] [.tmp 2] 15 Tryz.func240 ?_;repeat' first|simp -dsimp -implicitDefEqProofs (disch:=omega) only[go_sem,hg,hp,ca5]|refine o5 (cL _) ?_|refine o5 (cP _) ?_|refine o5 (es9 _ _) ?_|refine vcA ?_ ?_|omega
 refine o9 ⟨int_eq ?_,rfl⟩;rw[<-e1];by_cases h:10^q<=u
 ·have hc:((10^q:Nat):Int)<=(u:Int):=Int.ofNat_le.mpr h
  simp only[if_pos h,if_pos hc];omega
 ·have hc: ¬((10^q:Nat):Int)<=(u:Int):=fun h'=>h (Int.ofNat_le.mp h')
  simp only[if_neg h,if_neg hc];omega
end
section
open Go V
def c24(d:Array UInt8):List AV:=o7 0::(d.toList.map o7++List.replicate (23 - d.size) (AV.lit (.int .u8 0)))
theorem dh2{d:Array UInt8}(h:d.size<=23):(c24 d).length=24:=by
 unfold c24;simp
 omega
theorem cz3{d:Array UInt8}{i j:Nat}{v:Int}(x:UInt8)(h:i < d.size)(hj:j=1+i)(hv:v=(x.toNat:Int)):(c24 d).set j (AV.lit (.int .u8 v))=c24 (d.setIfInBounds i x):=by
 subst hj hv;unfold c24;rw[show 1+i=i+1 by omega,List.set_cons_succ,bC7 _ _ (by simp;exact h)]
 rw[cI3,Array.size_setIfInBounds,ar1];rfl
def bU3(d:Array UInt8)(k w:Nat):Array UInt8:=(d.setIfInBounds (k+1) (Lib.sm (w*2+1))).setIfInBounds k (Lib.sm (w*2))
theorem aj8(d:Array UInt8)(k w:Nat):(bU3 d k w).size=d.size:=by simp[bU3]
theorem aw9{nd0 u k v:Nat}{d:Array UInt8}(h:Lib.FmtInv nd0 u (k+2) v d):Lib.FmtInv nd0 u k (v/100) (bU3 d k (v%100)):=h.step2'
theorem ax5{B:ByteArray}{d:Array UInt8}{i1 i0 a1 a0:Nat}(k w:Nat)(hB:B=Lib.smalls)(hk:k+1 < d.size)(h1:i1=w*2+1)(h0:i0=w*2)(ha1:a1=1+(k+1))(ha0:a0=1+k):
  ((c24 d).set a1 (AV.lit (.int .u8 (((B.data.toList.getD i1 0).toNat:Nat):Int)))).set a0 (AV.lit (.int .u8 (((B.data.toList.getD i0 0).toNat:Nat):Int)))=c24 (bU3 d k w):=by
 subst hB h1 h0;show ((c24 d).set a1 (AV.lit (.int .u8 (((Lib.sm (w*2+1)).toNat:Nat):Int)))).set a0 (AV.lit (.int .u8 (((Lib.sm (w*2)).toNat:Nat):Int)))=_
 rw[cz3 (i:=k+1) (Lib.sm (w*2+1)) hk ha1 rfl,cz3 (i:=k) (Lib.sm (w*2)) (by simp;omega) ha0 rfl]
 rfl
theorem b80{d:Array UInt8}{z:Int}(w:Nat)(h:0 < d.size)(hw:w < 10)(hz:z=48+(w:Int)):(c24 d).set 1 (AV.lit (.int .u8 z))=c24 (d.setIfInBounds 0 (UInt8.ofNat (48+w))):=
 cz3 (UInt8.ofNat (48+w)) h rfl (by
  rw[hz,UInt8.toNat_ofNat_of_lt' (by show 48+w < 256;omega)]
  omega)
theorem d40(u:Nat)(d0:Array UInt8)(H:List AObj)(hd:d0.size=Lib.nDigits u)(h2:u < 18446744073709551616)(h3:d0.size<=20):
  o8 Tryz.prog 241 [.msl H.length 1 d0.size 23,.lit (.int .u64 u)] (H++[.cells (.one 279) (c24 d0)]) (fun y H'=> ∃dk v',Lib.FmtInv d0.size u 0 v' dk/\y=.tup []/\H'=H++[.cells (.one 279) (c24 dk)]):=by
 have hst:Lib.FmtInv d0.size u d0.size u d0:=Lib.FmtInv.start d0 u (by rw[hd];exact Lib.lt_pow_nDigits u)
 refine y8 [1000007,1000008,1000009,1000010,1000017,1000018,1000023] [] 167 Tryz.func241 ?_;go_name_bytes B hB
 have hBs:B=Lib.smalls:=by rw[<-hB];decide+kernel
 have hl:B.data.toList.length=200:=by rw[hBs];exact Lib.smalls_size
 clear hB;repeat' simp -dsimp -implicitDefEqProofs only[go_sem]
 refine aa8 ab2 mixed [1000007,1000008,1000009,1000010,1000017,1000018,1000023] [0] (fun(x:Nat×Nat×Array UInt8)=>Lib.FmtInv d0.size u x.1 x.2.1 x.2.2) (fun x=>[(4,.int .i64 x.1),(1,.int .u64 x.2.1)]) (fun x=>H++[.cells (.one 279) (c24 x.2.2)]) (fun x=>x.1) (by kernel_rfl) ?_ (d0.size,u,d0) hst y9 rfl
 rintro⟨nd,v,d⟩ hI
 dsimp only at*;by_cases h8:8<=nd
 ·have hc:((nd:Int)≥8)=True:=eq_true (by omega)
  have hle:=hI.le;have hcl:=dh2 (d:=d) (by rw[hI.size];omega)
  obtain⟨k,rfl⟩: ∃k,nd=k+8:=⟨nd - 8,by omega⟩
  have hvb:v < 18446744073709551616:=by
   rw[hI.rest];exact cH0 (Nat.div_le_self _ _) h2
  have j1:=aw9 (k:=k+6) hI;have j2:=aw9 (k:=k+4) j1;have j3:=aw9 (k:=k+2) j2;have j4:=aw9 (k:=k) j3;have hs:=hI.size;generalize hv4:v/100/100/100/100=v4 at j4;generalize hd4:bU3 (bU3 (bU3 (bU3 d (k+6) (v%100)) (k+4) (v/100%100)) (k+2) (v/100/100%100)) k (v/100/100/100%100)=d4 at j4;clear j1 j2 j3;repeat' first|refine o6 ?_|simp -dsimp -implicitDefEqProofs (disch:=omega) only[go_sem,hc,hl,hcl]|refine vcA ?_ ?_|omega
  refine again ((k,v4,d4)) ?_ ?_ ?_ y9
  ·show k < k+8
   omega
  ·exact j4
  ·rw[ax5 (d:=d) (k+6) (v%100) hBs (by omega) (by omega) (by omega) (by omega) (by omega),
    ax5 (k+4) (v/100%100) hBs (by rw[aj8];omega) (by omega) (by omega) (by omega) (by omega),
    ax5 (k+2) (v/100/100%100) hBs (by rw[aj8,aj8];omega) (by omega) (by omega) (by omega) (by omega),
    ax5 k (v/100/100/100%100) hBs (by rw[aj8,aj8,aj8];omega) (by omega) (by omega) (by omega) (by omega),hd4]
 ·have hc:((nd:Int)≥8)=False:=eq_false (by omega)
  have hv7:=hI.lt7 (by omega)
  have hcl:=dh2 (d:=d) (by rw[hI.size];omega)
  have hle:=hI.le;have hs:=hI.size;repeat' first|refine o6 ?_|simp -dsimp -implicitDefEqProofs (disch:=omega) only[go_sem,hc,hl,hcl]|refine vcA ?_ ?_|omega|refine ac8 fun _=>?_
  ·obtain rfl:nd=7:=by omega
   have j1:=aw9 (k:=5) hI;have j2:=aw9 (k:=3) j1;have j3:=aw9 (k:=1) j2;have e1:v/100/100/100 < 10:=by simpa using j3.small
   refine ae7 _ (Le.refl _) (by simp) ⟨_,_,j3.step1,rfl,?_⟩
   rw[ax5 (d:=_) 5 (v%100) hBs (by(try simp only[aj8]);omega) (by omega) (by omega) (by omega) (by omega),ax5 (d:=_) 3 (v/100%100) hBs (by(try simp only[aj8]);omega) (by omega) (by omega) (by omega) (by omega),ax5 (d:=_) 1 (v/100/100%100) hBs (by(try simp only[aj8]);omega) (by omega) (by omega) (by omega) (by omega),b80 (v/100/100/100) (by(try simp only[aj8]);omega) e1 (by omega)]
  ·obtain rfl:nd=6:=by omega
   have j1:=aw9 (k:=4) hI;have j2:=aw9 (k:=2) j1;have j3:=aw9 (k:=0) j2;refine ae7 _ (Le.refl _) (by simp) ⟨_,_,j3,rfl,?_⟩
   rw[ax5 (d:=_) 4 (v%100) hBs (by(try simp only[aj8]);omega) (by omega) (by omega) (by omega) (by omega),ax5 (d:=_) 2 (v/100%100) hBs (by(try simp only[aj8]);omega) (by omega) (by omega) (by omega) (by omega),ax5 (d:=_) 0 (v/100/100%100) hBs (by(try simp only[aj8]);omega) (by omega) (by omega) (by omega) (by omega)]
  ·obtain rfl:nd=5:=by omega
   have j1:=aw9 (k:=3) hI;have j2:=aw9 (k:=1) j1;have e1:v/100/100 < 10:=by simpa using j2.small
   refine ae7 _ (Le.refl _) (by simp) ⟨_,_,j2.step1,rfl,?_⟩
   rw[IntWalk.u8_in (48+(v:Int)/10000) (by omega)]
   rw[ax5 (d:=_) 3 (v%100) hBs (by(try simp only[aj8]);omega) (by omega) (by omega) (by omega) (by omega),ax5 (d:=_) 1 (v/100%100) hBs (by(try simp only[aj8]);omega) (by omega) (by omega) (by omega) (by omega),b80 (v/100/100) (by(try simp only[aj8]);omega) e1 (by omega)]
  ·obtain rfl:nd=4:=by omega
   have j1:=aw9 (k:=2) hI;have j2:=aw9 (k:=0) j1;refine ae7 _ (Le.refl _) (by simp) ⟨_,_,j2,rfl,?_⟩
   rw[ax5 (d:=_) 2 (v%100) hBs (by(try simp only[aj8]);omega) (by omega) (by omega) (by omega) (by omega),ax5 (d:=_) 0 (v/100%100) hBs (by(try simp only[aj8]);omega) (by omega) (by omega) (by omega) (by omega)]
  ·obtain rfl:nd=3:=by omega
   have j1:=aw9 (k:=1) hI;have e1:v/100 < 10:=by simpa using j1.small
   refine ae7 _ (Le.refl _) (by simp) ⟨_,_,j1.step1,rfl,?_⟩
   rw[IntWalk.u8_in (48+(v:Int)/100) (by omega)]
   rw[ax5 (d:=_) 1 (v%100) hBs (by(try simp only[aj8]);omega) (by omega) (by omega) (by omega) (by omega),b80 (v/100) (by(try simp only[aj8]);omega) e1 (by omega)]
  ·obtain rfl:nd=2:=by omega
   have j1:=aw9 (k:=0) hI;refine ae7 _ (Le.refl _) (by simp) ⟨_,_,j1,rfl,?_⟩
   rw[ax5 (d:=_) 0 (v%100) hBs (by(try simp only[aj8]);omega) (by omega) (by omega) (by omega) (by omega)]
  ·obtain rfl:nd=1:=by omega
   have e1:v < 10:=by simpa using hI.small
   refine ae7 _ (Le.refl _) (by simp) ⟨_,_,hI.step1,rfl,?_⟩
   rw[IntWalk.u8_in (48+(v:Int)) (by omega)]
   rw[b80 (v) (by(try simp only[aj8]);omega) e1 (by omega)]
  ·obtain rfl:nd=0:=by omega
   refine ae7 _ (Le.refl _) (by simp) ⟨_,_,hI,rfl,?_⟩
   rfl
end
section
open Go V
def l24(l:List UInt8):List AV:=o7 0::(l.map o7++List.replicate (23 - l.length) (AV.lit (.int .u8 0)))
theorem d72{n:Nat}(h:n<=23):c24 (Array.replicate n 0)=List.replicate 24 (AV.lit (.int .u8 0)):=by
 unfold c24;have e:o7 0=AV.lit (.int .u8 0):=rfl;rw[Array.toList_replicate,aY9,Array.size_replicate,e,cH2,show n+(23 - n)=23 by omega]
 rfl
theorem d73{u v':Nat}{dk:Array UInt8}(h:Lib.FmtInv (Lib.nDigits u) u 0 v' dk):c24 dk=l24 (Lib.decDigits u):=by
 have e:dk.toList=Lib.decDigits u:=by
  refine List.ext_getElem (by rw[dj7,h.size,Lib.decDigits_length]) fun j h1 h2=>?_
  rw[Lib.row_is_numeral h j h2,Array.getElem_toList];exact(getElem!_pos dk j (by simpa using h1)).symm
 unfold c24 l24;rw[e,h.size,Lib.decDigits_length]
theorem de6{l:List UInt8}(h:l.length<=23):(l24 l).length=24:=by
 unfold l24;simp
 omega
theorem em5{l:List UInt8}{n:Nat}(h:l.length=n):((l24 l).set 0 (AV.lit (.int .u8 45))).take (n+1)=(45::l).map o7:=by
 subst h;unfold l24;rw[List.set_cons_zero,ak3,ci2 (by simp)]
 rfl
theorem em4{l:List UInt8}{n:Nat}(h:l.length=n):((l24 l).drop 1).take n=l.map o7:=by
 subst h;unfold l24;rw[aj3,List.drop_zero,ci2 (by simp)]
theorem bO2{u:Nat}(h:u < 18446744073709551616):Lib.nDigits u<=20:=by
 rcases a98 u with e|e
 ·subst e
  rw[Lib.nDigits_small (by omega)]
  omega
 ·have:=Lib.numDigits_eq u e h
  split at this<;>omega
theorem cW6(u:Nat)(H:List AObj)(h2:u < 18446744073709551616):
  o8 Tryz.prog 241 [.msl H.length 1 (Lib.nDigits u) 23,.lit (.int .u64 u)] (H++[.cells (.one 279) (List.replicate 24 (AV.lit (.int .u8 0)))]) (fun y H'=>y=.tup []/\H'=H++[.cells (.one 279) (l24 (Lib.decDigits u))]):=by
 have hn:=bO2 h2;have:=d40 u (Array.replicate (Lib.nDigits u) 0) H (by simp) h2 (by simpa using hn)
 rw[d72 (by omega),Array.size_replicate] at this
 refine this.mono fun _ H' ⟨dk,v',hI,ey,e⟩=>⟨ey,?_⟩
 rw[e,d73 hI]
theorem da9(i:Int)(H:List AObj)(h1: -9223372036854775808 < i)(h2:i < 9223372036854775808):o8 Tryz.prog 224 [.lit (.int .i64 i),.lit (.int .i64 10)] H (fun y H'=>y=.str (Lib.itoa i)/\H'=H):=by
 by_cases hs:0<=i/\i < 100
 ·obtain⟨n,rfl⟩:=dj1 hs.1
  have hc1:((0:Int)<=(n:Int))=True:=eq_true (by omega)
  have hc2:((n:Int) < 100)=True:=eq_true (by omega)
  rw[Lib.itoa_nonneg];refine y8 [5] [.tmp 4] 54 Tryz.func224 ?_;repeat' first|refine o6 ?_|simp -dsimp -implicitDefEqProofs only[go_sem,hc1,hc2]|refine o5 (ef6 _ _ (by omega)) ?_|fail
  exact o9 ⟨rfl,rfl⟩
 ·by_cases hn:i < 0
  ·obtain⟨u,rfl⟩: ∃u:Nat,i= -(u:Int):=⟨i.natAbs,by omega⟩
   have hc1:((0:Int)<= -(u:Int))=False:=eq_false (by omega)
   have hc2:(-(u:Int) < 0)=True:=eq_true (by omega)
   have hd:=bO2 (u:=u) (by omega)
   have hz:(1+((Lib.nDigits u:Nat):Int)).toNat - 1=Lib.nDigits u:=by omega
   have hl:=Lib.decDigits_length u;have hu1:IntKind.u64.wrap (-(u:Int))=18446744073709551616 - (u:Int):=by
    show (-(u:Int))%18446744073709551616=_
    omega
   have hu2:IntKind.u64.wrap (0 - (18446744073709551616 - (u:Int)))=(u:Int):=by
    show (0 - (18446744073709551616 - (u:Int)))%18446744073709551616=_
    omega
   rw[Lib.itoa_neg u (by omega)]
   refine y8 [5] [.tmp 4] 54 Tryz.func224 ?_;have hl24:=de6 (l:=Lib.decDigits u) (by omega)
   have hn1:=em5 hl;have hz2:(1+((Lib.nDigits u:Nat):Int)).toNat - 0=Lib.nDigits u+1:=by omega
   repeat' first|refine o6 ?_|simp -dsimp -implicitDefEqProofs (disch:=omega) only[go_sem,hc1,hc2,hu1,hu2,hz,hz2,hl24,hn1]|refine o5 (ca7 _ _ ?_ ?_) ?_|refine o5 (cW6 _ _ ?_) ?_|refine vcA ?_ ?_|omega
   ·exact cb8 (45::Lib.decDigits u)
   ·rw[show az1 (o7 45::(Lib.decDigits u).map o7)=45::Lib.decDigits u from bD2 (45::Lib.decDigits u)]
    exact aa5 _ (Le.refl _) (.str _) ⟨rfl,rfl⟩
  ·obtain⟨u,rfl⟩:=dj1 (show 0<=i by omega)
   have hc1:((0:Int)<=(u:Int))=True:=eq_true (by omega)
   have hc2:((u:Int) < 0)=False:=eq_false (by omega)
   have hc3:((u:Int) < 100)=False:=eq_false (by omega)
   have hd:=bO2 (u:=u) (by omega)
   have hz:(1+((Lib.nDigits u:Nat):Int)).toNat - 1=Lib.nDigits u:=by omega
   have hl:=Lib.decDigits_length u;rw[Lib.itoa_nonneg];refine y8 [5] [.tmp 4] 54 Tryz.func224 ?_;have hl24:=de6 (l:=Lib.decDigits u) (by omega)
   have hp1:=em4 hl;repeat' first|refine o6 ?_|simp -dsimp -implicitDefEqProofs (disch:=omega) only[go_sem,hc1,hc2,hc3,hz,hl24,hp1]|refine o5 (ca7 _ _ ?_ ?_) ?_|refine o5 (cW6 _ _ ?_) ?_|refine vcA ?_ ?_|omega
   exact aa5 _ (Le.refl _) (.str _) ⟨rfl,rfl⟩
theorem eM0(i:Int)(H:List AObj)(h1: -9223372036854775808 < i)(h2:i < 9223372036854775808):o8 Tryz.prog 199 [.lit (.int .i64 i)] H (fun y H'=>y=.str (Lib.itoa i)/\H'=H):=by
 have c:=fun H=>da9 i H h1 h2
 refine y8 [] [.tmp 2] 5 Tryz.func199 ?_;repeat' first|simp -dsimp -implicitDefEqProofs only[go_sem]|refine o5 (c _) ?_|fail
 exact o9 ⟨rfl,rfl⟩
theorem dQ1(i:Int)(H:List AObj)(h1: -9223372036854775808 < i)(h2:i < 9223372036854775808):o8 Tryz.prog 145 [.lit (.int .i64 i)] H (fun y H'=>y=.str (Lib.itoa i)/\H'=H):=by
 have c:=fun H=>eM0 i H h1 h2
 refine y8 [] [.tmp 2] 5 Tryz.func145 ?_;repeat' first|simp -dsimp -implicitDefEqProofs only[go_sem]|refine o5 (c _) ?_|fail
 exact o9 ⟨rfl,rfl⟩
end
section
open Go V
mutual
def trT:JV->bytes->bytes
 |.mk k n t ns is,o=>
  if 8192 < o.length then o
  else if k=5 then itT false is true ns (o++[91])++[93]
  else if k=6 then itT true is true ns (o++[123])++[125]
  else o++af7 (.mk k n t ns is)
def itT(obj:Bool):List JV->Bool->List bytes->bytes->bytes
 |[],_,_,o=>o
 |v::r,first,ns,o=>itT obj r false ns.tail (trT v (o++aW0 first obj (ns.headD [])))
end
theorem ck6(v:JV)(o:bytes):trT v o=if 8192 < o.length then o else if v.kind=5 then itT false v.items true v.names (o++[91])++[93] else if v.kind=6 then itT true v.items true v.names (o++[123])++[125] else o++af7 v:=by
 cases v;rw[trT];rfl
theorem de8(obj first:Bool)(ns:List bytes)(o:bytes):itT obj [] first ns o=o:=by rw[itT]
theorem cU0(obj first:Bool)(ns:List bytes)(v:JV)(r:List JV)(o:bytes):itT obj (v::r) first ns o=itT obj r false ns.tail (trT v (o++aW0 first obj (ns.headD []))):=by rw[itT]
def Cut(o p x:bytes):Prop:=o.length<=x.length/\x.length<=o.length+p.length/\(x=o++p\/(8192 < x.length/\8192 < o.length+p.length))
theorem bj4(o p:bytes):Cut o p (o++p):=⟨by simp,by simp,.inl rfl⟩
theorem bn9{o p q x y:bytes}(h:Cut o p x)(k:Cut x q y):Cut o (p++q) y:=by
 obtain⟨h1,h2,h3⟩:=h;obtain⟨k1,k2,k3⟩:=k;refine⟨by omega,by rw[List.length_append];omega,?_⟩
 rw[List.length_append];rcases h3 with rfl|h3
 ·rcases k3 with rfl|k3
  ·left;rw[List.append_assoc]
  ·right;rw[List.length_append] at k3;omega
 ·right;omega
theorem dh0{o p x:bytes}(h:Cut o p x)(q:bytes):Cut o (p++q) (x++q):=bn9 h (bj4 x q)
theorem cT9{obj:Bool}: ∀(l:List JV) (first:Bool) (ns:List bytes) (o:bytes),(∀x∈l,∀o,Cut o (af7 x) (trT x o))->Cut o (aw6 obj l first ns) (itT obj l first ns o)
 |[],first,ns,o,_=>by
  rw[de8,bP1];have:=bj4 o [];rw[List.append_nil] at this;exact this
 |v::r,first,ns,o,h=>by
  rw[cU0,aX2,<-List.append_assoc];exact bn9 (bn9 (bj4 o _) (h v (au8 ..) _)) (cT9 r false ns.tail _ fun x hx=>h x (aA0 _ hx))
theorem cL4: ∀(v:JV) (o:bytes),Cut o (af7 v) (trT v o):=by
 refine JV.induct fun k n t ns is ih o=>?_
 rw[ck6];by_cases h:8192 < o.length
 ·rw[if_pos h]
  exact⟨xq0 _,by omega,.inr ⟨h,by omega⟩⟩
 rw[if_neg h];by_cases h5:k=5
 ·subst h5
  rw[aE3,cy7,if_pos rfl,if_neg (by decide),if_neg (by decide),if_neg (by decide),if_neg (by decide),if_pos rfl]
  exact dh0 (bn9 (p:=[91]) (bj4 o [91]) (cT9 is true ns _ ih)) [93]
 by_cases h6:k=6
 ·subst h6
  rw[aE3,cy7,if_neg (by decide),if_pos rfl,if_neg (by decide),if_neg (by decide),if_neg (by decide),if_neg (by decide),if_neg (by decide),if_pos rfl]
  exact dh0 (bn9 (p:=[123]) (bj4 o [123]) (cT9 is true ns _ ih)) [125]
 rw[cy7,if_neg h5,if_neg h6];exact bj4 _ _
theorem ex0(v:JV):(8192 < (trT v []).length↔8192 < (af7 v).length)/\((af7 v).length<=8192->trT v []=af7 v):=by
 obtain⟨h1,h2,h3⟩:=cL4 v [];simp only[List.length_nil,Nat.zero_add,List.nil_append] at h2 h3;rcases h3 with h|h
 ·rw[h];exact⟨Iff.rfl,fun _=>rfl⟩
 ·exact⟨⟨fun _=>h.2,fun _=>h.1⟩,fun k=>by omega⟩
theorem cr4{α:Type}(l:List α)(i:Nat)(d:α):(l.drop i).headD d=l.getD i d:=by
 rw[List.headD_eq_head?_getD,List.head?_drop,List.getD]
theorem eF0{obj:Bool}{v:JV}{i:Nat}(h:i < v.items.length)(o:bytes):itT obj (v.items.drop i) (i==0) (v.names.drop i) o=itT obj (v.items.drop (i+1)) (i+1==0) (v.names.drop (i+1)) (trT (v.items.getD i aa7) (o++aW0 (i==0) obj (v.names.getD i []))):=by
 rw[drop_cons aa7 h,cU0,cr4,List.tail_drop];rfl
theorem dI0{obj:Bool}{v:JV}{i:Nat}(h:i < v.items.length):aw6 obj (v.items.drop i) (i==0) (v.names.drop i)=aW0 (i==0) obj (v.names.getD i [])++(af7 (v.items.getD i aa7)++aw6 obj (v.items.drop (i+1)) (i+1==0) (v.names.drop (i+1))):=by
 rw[drop_cons aa7 h,aX2,cr4,List.tail_drop];rfl
end
section
open Go V
def pA(a:AV)(H:List AObj)(k m:Nat)(o:bytes):List AObj:=(H.set k (aG1 121 m a o)).set m (aQ2 o.length)
theorem dD1{a b:AV}{H:List AObj}{k m:Nat}{o p:bytes}(h:k≠m):((pA a H k m o).set k (aG1 121 m b p)).set m (aQ2 p.length)=pA b H k m p:=by
 unfold pA;rw[List.set_comm _ _ (Ne.symm h),List.set_set,List.set_set]
theorem ai8{a:AV}{H:List AObj}{k m:Nat}{o:bytes}:(pA a H k m o).length=H.length:=by simp[pA]
structure PAt(H:List AObj)(k m:Nat):Prop where
 kl:k < H.length
 ml:m < H.length
 ne:k≠m
theorem cP3{a:AV}{H:List AObj}{k m:Nat}{o:bytes}(h:PAt H k m):(pA a H k m o)[k]?=some (aG1 121 m a o):=by
 unfold pA;rw[ar4 h.ne.symm,ay8 h.kl]
theorem dV0{a:AV}{H:List AObj}{k m:Nat}{o:bytes}(h:PAt H k m):(pA a H k m o)[m]?=some (aQ2 o.length):=by
 unfold pA;rw[ay8 (by rw[List.length_set];exact h.ml)]
theorem eK2:bT 121:=by unfold bT;kernel_rfl
theorem ar6{a:AV}{H:List AObj}{k m:Nat}{o:bytes}{z:Int}(c:UInt8)(hz:z=(c.toNat:Int))(h:PAt H k m)(ha:aO0 k a)(hl:o.length<=100000000):
  o8 Tryz.prog 184 [.mp k 0,.lit (.int .u8 z)] (pA a H k m o) (fun x H'=>x=.lit .nilIface/\H'=pA (.mp k 0) H k m (o++[c])):=by
 subst hz;have:=cc3 (c:=c) eK2 (cP3 h) ha (dV0 h) hl;rw[dD1 h.ne] at this;exact this
theorem aO8{a:AV}{H:List AObj}{k m:Nat}{o l:bytes}(h:PAt H k m)(ha:aO0 k a)(hl:o.length<=100000000)(hl2:l.length<=100000000):
  o8 Tryz.prog 144 [.mp k 0,.str l] (pA a H k m o) (fun x H'=>x=.tup [.int .i64 l.length,.lit .nilIface]/\H'=pA (.mp k 0) H k m (o++l)):=by
 have:=cG4 (l:=l) eK2 (cP3 h) ha (dV0 h) hl hl2;rw[dD1 h.ne] at this;exact this
theorem dL7(c:UInt8):(∃j,j < 7/\aD9 [34,92,8,9,10,12,13] c=((j:Nat):Int)/\aQ3 c=[92,([34,92,98,116,110,102,114]:bytes).getD j 0])\/(aD9 [34,92,8,9,10,12,13] c= -1/\c.toNat < 32/\aQ3 c=[92,117,48,48,hexS (c.toNat/16),hexS (c.toNat%16)])\/(aD9 [34,92,8,9,10,12,13] c= -1/\ ¬c.toNat < 32/\aQ3 c=[c]):=by
 have: ∀n:Fin 256,(∃j,j < 7/\aD9 [34,92,8,9,10,12,13] (UInt8.ofNat n.val)=((j:Nat):Int)/\aQ3 (UInt8.ofNat n.val)=[92,([34,92,98,116,110,102,114]:bytes).getD j 0])\/(aD9 [34,92,8,9,10,12,13] (UInt8.ofNat n.val)= -1/\(UInt8.ofNat n.val).toNat < 32/\aQ3 (UInt8.ofNat n.val)=[92,117,48,48,hexS ((UInt8.ofNat n.val).toNat/16),hexS ((UInt8.ofNat n.val).toNat%16)])\/(aD9 [34,92,8,9,10,12,13] (UInt8.ofNat n.val)= -1/\ ¬(UInt8.ofNat n.val).toNat < 32/\aQ3 (UInt8.ofNat n.val)=[UInt8.ofNat n.val]):=by decide+kernel
 have:=this ⟨c.toNat,c.toNat_lt⟩;simp only[UInt8.ofNat_toNat] at this;exact this
theorem aJ1{a:AV}{H:List AObj}{k m:Nat}{o:bytes}(s:bytes)(h:PAt H k m)(ha:aO0 k a)(hl:o.length<=10000000)(hs:s.length<=100000):
  o8 Tryz.prog 146 [.mp k 0,.str s] (pA a H k m o) (fun x H'=>x=.tup []/\H'=pA (.mp k 0) H k m (o++aS4 s)):=by
 refine y8 [1000009,1000012,1000013] [] 65 Tryz.func146 ?_;repeat' first|simp -dsimp -implicitDefEqProofs only[go_sem]|refine o5 (ar6 34 rfl h ha (by omega)) ?_|refine⟨_,_,ar6 34 rfl h ha (by omega),?_⟩|fail
 refine aa8 ab2 mixed [1000009,1000012,1000013] [0,1,12] (fun i:Nat=>i<=s.length) (fun i=>[(13,.int .i64 i)]) (fun i=>pA (.mp k 0) H k m (o++34::(s.take i).flatMap aQ3)) (fun i=>s.length - i) (by kernel_rfl) ?_ 0 (by omega) y9 rfl
 intro i hi;have hfl:=aJ4 (s.take i);have htl:(s.take i).length<=100000:=by rw[List.length_take];omega
 have hlo:(o++34::(s.take i).flatMap aQ3).length<=20000000:=by simp only[List.length_append,List.length_cons];omega
 by_cases hil:i < s.length
 ·have ht:=dK7 hil
  generalize hc:s.getD i 0=c at ht;generalize hf:(s.take i).flatMap aQ3=f at*;have hcl:=c.toNat_lt;rcases dL7 c with⟨j,hj,hi1,hi2⟩|⟨hi1,hi3,hi2⟩|⟨hi1,hi3,hi2⟩
  ·have hI:=fun H=>aP5 [34,92,8,9,10,12,13] c H
   rw[hi1] at hI;rw[hi2] at ht;repeat' first|refine o6 ?_|simp -dsimp -implicitDefEqProofs (disch:=omega) only[go_sem,hc,List.length_append,List.length_cons,List.length_nil]|refine o5 (hI _) ?_|refine⟨_,_,hI _,?_⟩|refine o5 (ar6 92 rfl h af2 ?_) ?_|refine⟨_,_,ar6 92 rfl h af2 ?_,?_⟩|refine o5 (ar6 _ rfl h af2 ?_) ?_|refine⟨_,_,ar6 _ rfl h af2 ?_,?_⟩|refine vcA ?_ ?_|omega|refine ac8 fun _=>?_
   rw[<-ht];refine again (i+1) ?_ ?_ rfl y9
   ·omega
   ·omega
  ·have hI:=fun H=>aP5 [34,92,8,9,10,12,13] c H
   rw[hi1] at hI;rw[hi2] at ht;have hct:((c.toNat:Int) < 32)=True:=eq_true (by omega)
   repeat' first|refine o6 ?_|simp -dsimp -implicitDefEqProofs (disch:=omega) only[go_sem,hc,hct,List.length_append,List.length_cons,List.length_nil]|refine o5 (hI _) ?_|refine⟨_,_,hI _,?_⟩|refine o5 (aO8 h af2 ?_ ?_) ?_|refine⟨_,_,aO8 h af2 ?_ ?_,?_⟩|refine o5 (ar6 _ rfl h af2 ?_) ?_|refine⟨_,_,ar6 _ rfl h af2 ?_,?_⟩|refine vcA ?_ ?_|omega|refine ac8 fun _=>?_
   have ht2:(s.take (i+1)).flatMap aQ3=f++[92,117,48,48,([48,49,50,51,52,53,54,55,56,57,97,98,99,100,101,102]:bytes).getD (c.toNat/16) 0,([48,49,50,51,52,53,54,55,56,57,97,98,99,100,101,102]:bytes).getD (c.toNat%16) 0]:=ht;rw[show ((c.toNat:Int)%16).toNat=c.toNat%16 by omega,<-ht2]
   refine again (i+1) ?_ ?_ rfl y9
   ·omega
   ·omega
  ·have hI:=fun H=>aP5 [34,92,8,9,10,12,13] c H
   rw[hi1] at hI;rw[hi2] at ht;have hct:((c.toNat:Int) < 32)=False:=eq_false (by omega)
   repeat' first|refine o6 ?_|simp -dsimp -implicitDefEqProofs (disch:=omega) only[go_sem,hc,hct,List.length_append,List.length_cons,List.length_nil]|refine o5 (hI _) ?_|refine⟨_,_,hI _,?_⟩|refine o5 (ar6 c rfl h af2 ?_) ?_|refine⟨_,_,ar6 c rfl h af2 ?_,?_⟩|refine vcA ?_ ?_|omega|refine ac8 fun _=>?_
   rw[<-ht];refine again (i+1) ?_ ?_ rfl y9
   ·omega
   ·omega
 ·obtain rfl:i=s.length:=by omega
  rw[bf9] at*;repeat' first|refine o6 ?_|simp -dsimp -implicitDefEqProofs only[go_sem,List.length_append,List.length_cons,List.length_nil]|refine o5 (ar6 34 rfl h af2 ?_) ?_|refine⟨_,_,ar6 34 rfl h af2 ?_,?_⟩|refine vcA ?_ ?_|omega|refine ac8 fun _=>?_
  exact ae7 _ (Le.refl _) (by rw[ai8,ai8];exact xq0 _) ⟨rfl,rfl⟩
end
section
open Go V
theorem b66{m:Nat}{x:AV}(h:Low m x:=by(first|(first|exact .lit _|exact .str _|exact .any|exact af5|exact ah5|exact .mp _ _ (by omega)|exact .msl _ _ _ _ (by omega)|exact af6 (fun k e=>by cases e)|exact ae5 _|exact ak1|exact ak0|exact an0|exact am9 _)|(refine ah9 ?_;repeat(first|exact ac4|(refine aa3 ?_ ?_;focus(first|exact .lit _|exact .str _|exact .any|exact af5|exact ah5|exact .mp _ _ (by omega)|exact .msl _ _ _ _ (by omega)|exact af6 (fun k e=>by cases e)|exact ae5 _|exact ak1|exact ak0|exact an0|exact am9 _))))|(refine aB8 ?_;repeat(first|exact ac4|(refine aa3 ?_ ?_;focus(first|exact .lit _|exact .str _|exact .any|exact af5|exact ah5|exact .mp _ _ (by omega)|exact .msl _ _ _ _ (by omega)|exact af6 (fun k e=>by cases e)|exact ae5 _|exact ak1|exact ak0|exact an0|exact am9 _)))))):Low m x:=h
theorem PAt.app{H:List AObj}{k m:Nat}(h:PAt H k m)(M:List AObj):PAt (H++M) k m:=⟨by have:=h.kl;rw[List.length_append];omega,by have:=h.ml;rw[List.length_append];omega,h.ne⟩
theorem aS7{a:AV}{H:List AObj}{k m:Nat}{o:bytes}{M:List AObj}(h:PAt H k m):pA a H k m o++M=pA a (H++M) k m o:=by
 unfold pA;rw[bC7 _ _ h.kl,bC7 _ _ (by rw[List.length_set];exact h.ml)]
theorem cp1{a:AV}{H:List AObj}{k m:Nat}{o:bytes}{M:List AObj}(h:PAt H k m):(pA a (H++M) k m o)[H.length]?=M[0]?:=by
 rw[<-aS7 h,xq7 (by rw[ai8];exact xq0 _),ai8,ap6]
theorem b56{a:AV}{H:List AObj}{k m:Nat}{o:bytes}{M:List AObj}{x:AObj}(h:PAt H k m):(pA a (H++M) k m o).set H.length x=pA a (H++M.set 0 x) k m o:=by
 rw[<-aS7 h,<-aS7 h,aD2 _ _ (by rw[ai8];exact xq0 _),ai8,ap6]
theorem el4{m k:Nat}{a:AV}(h:aO0 k a)(hk:k < m):Low m a:=by
 rcases h with rfl|rfl
 ·exact .lit _
 ·exact .mp _ _ hk
theorem co9{a b:AV}{H:List AObj}{k m mm:Nat}{o p:bytes}(h:PAt H k m)(hb:aO0 k b)(hmm:H.length<=mm): ∀(j:Nat) (sh:Shape) (cs:List AV),(pA b H k m p)[j]?=some (.cells sh cs)->(pA a H k m o)[j]?=some (.cells sh cs)\/ ∀z∈cs,Low mm z:=fun j sh cs e=>by
 have h1:=h.kl;have h2:=h.ml;by_cases hj:j=m
 ·subst hj
  rw[dV0 h] at e;cases e
 ·by_cases hk:j=k
  ·subst hk
   rw[cP3 h] at e;cases e
   right
   intro z hz;simp only[xq8,aK4,or_false] at hz;rcases hz with rfl|rfl
   ·exact el4 hb (by omega)
   ·exact bl8 (fun x hx=>by
     obtain⟨c,_,rfl⟩:=xq6.1 hx;exact⟨_,rfl⟩) (fun k e=>by cases e;omega)
  ·left
   unfold pA at e⊢;rw[ar4 (Ne.symm hj),ar4 (Ne.symm hk)] at e⊢;exact e
theorem am9{m:Nat}(v:JV):Low m (jAV v).ip:=by
 rw[aT1];refine .ip _ fun y hy=>?_
 simp[AV.flat,aa1] at hy
 rcases hy with rfl|rfl|rfl|rfl|rfl
 ·exact .lit _
 ·exact .lit _
 ·exact .str _
 ·exact ak0
 ·exact ak1
theorem dU3{a:AV}{H:List AObj}{k m:Nat}{o:bytes}{d:Nat}(v:JV)(f l:UInt8)(h:PAt H k m)(ha:aO0 k a)(hr:ab3 (d+1) v=true)(hk:v.kind=5\/v.kind=6)(hs:o.length+(af7 v).length<=1000000)(hsz:aa2 v<=40000)
  (ih: ∀x∈v.items,∀(H:List AObj) (o:bytes),PAt H k m->o.length+(af7 x).length<=1000000->o8 Tryz.prog 88 [.mp k 0,jAV x] (pA (.mp k 0) H k m o) (fun x' H'=>x'=.tup []/\H'=pA (.mp k 0) H k m (trT x o))):
  o8 Tryz.prog 147 [.mp k 0,jAV v,.lit (.int .u8 f.toNat),.lit (.int .u8 l.toNat)] (pA a H k m o) (fun x H'=>x=.tup []/\H'=pA (.mp k 0) H k m (itT (decide (v.kind=6)) v.items true v.names (o++[f])++[l])):=by
 have hpe:(af7 v).length=(aw6 (decide (v.kind=6)) v.items true v.names).length+2:=by
  rw[aE3,if_neg (by omega),if_neg (by omega),if_neg (by omega),if_neg (by omega)]
  rcases hk with e|e
  ·rw[if_pos e,decide_eq_false (by omega)];simp
  ·rw[if_neg (by omega),if_pos e,decide_eq_true e];simp
 have hn:v.kind=6->v.names.length=v.items.length:=fun e=>(aI0 hr e).2.2.2.1
 have hszi:=aM9 v;have hszn:=fun i (hi:i < v.names.length)=>cA8 (v:=v) (az3 (d:=[]) hi)
 have hkl:=h.kl;generalize hF:itT (decide (v.kind=6)) v.items true v.names (o++[f])=F;refine y8 [] [] 52 Tryz.func147 ?_;repeat' first|simp -dsimp -implicitDefEqProofs only[go_sem]|refine o5 (ar6 f rfl h ha (by omega)) ?_|refine⟨_,_,ar6 f rfl h ha (by omega),?_⟩|fail
 refine aa8 ab2 mixed [] [0,3,5,16,17] (fun p:Nat×bytes=>p.1<=v.items.length/\itT (decide (v.kind=6)) (v.items.drop p.1) (p.1==0) (v.names.drop p.1) p.2=F/\p.2.length+(aw6 (decide (v.kind=6)) (v.items.drop p.1) (p.1==0) (v.names.drop p.1)).length+1<=1000000) (fun p=>[(18,.int .i64 p.1)]) (fun p=>pA (.mp k 0) H k m p.2) (fun p=>v.items.length - p.1) (by kernel_rfl) ?_ (0,o++[f]) ⟨by simp,hF,by simp only[List.drop_zero,List.length_append,List.length_cons,List.length_nil];rw[show ((0:Nat)==0)=true from rfl];omega⟩ y9 rfl
 rintro⟨i,x⟩ ⟨hi,hx,hxl⟩
 dsimp only at hi hx hxl⊢;by_cases hil:i < v.items.length
 ·rw[eF0 hil] at hx
  rw[dI0 hil] at hxl;have hcut:=cL4 (v.items.getD i aa7) (x++aW0 (i==0) (decide (v.kind=6)) (v.names.getD i []));have hih:=ih _ (az3 (d:=aa7) hil);have hnm:v.kind=6->i < v.names.length:=fun e=>by have:=hn e;omega
  simp only[List.length_append] at hxl;have h44:aW0 (i==0) (decide (v.kind=6)) (v.names.getD i [])=(if i=0 then[] else[44])++(if v.kind=6 then aS4 (v.names.getD i [])++[58] else[]):=by
   unfold aW0;by_cases e:i=0
   ·subst e;simp
   ·rw[show (i==0)=false from beq_eq_false_iff_ne.2 e];simp[e]
  rw[h44] at hx hxl hcut;have hq:=bq1 (v.names.getD i []);have hqs:v.kind=6->(v.names.getD i []).length<=100000:=fun e=>by have:=hszn i (hnm e);omega
  generalize hsn:v.names.getD i []=s at*;generalize hy:v.items.getD i aa7=y at*;have hp1:=ca4 y;obtain⟨c1,c2,c3⟩:=hcut;simp only[List.length_append] at c2;have hlen1: ∀z:bytes,(trT y z).length<=10000000->(trT y z).length<=100000000:=fun z h=>by omega
  by_cases h0:i=0
  ·have hc0:((0:Int) < (i:Int))=False:=eq_false (by omega)
   rw[if_pos h0] at hx hxl c1 c2 c3;by_cases h6:v.kind=6
   ·have hc6:(v.kind=6)=True:=eq_true h6
    have hn6:=hnm h6;have hq6:=hqs h6;rw[if_pos h6] at hx hxl c1 c2 c3;simp only[List.length_append,List.length_cons,List.length_nil] at hxl c2;repeat' first|refine o6 ?_|simp -dsimp -implicitDefEqProofs (disch:=first|assumption|omega|simp only[ll];omega) only[go_sem,hc0,hc6,hy,hsn,aS7 h,ai8,cp1 h,b56 h,List.length_append,List.length_cons,List.length_nil]|refine o5 (aJ1 _ (h.app _) af2 ?_ ?_) ?_|refine⟨_,_,aJ1 _ (h.app _) af2 ?_ ?_,?_⟩|refine o5 (ar6 58 rfl (h.app _) af2 ?_) ?_|refine⟨_,_,ar6 58 rfl (h.app _) af2 ?_,?_⟩|refine o5 (hih _ _ (h.app _) ?_) ?_|refine⟨_,_,hih _ _ (h.app _) ?_,?_⟩|refine vcA ?_ ?_|omega|refine ac8 fun _=>?_
    refine an7 (H.length) ([.cells (.one 25) (af0 y)]) ((i+1,trT y (x++([]++(aS4 s++[58]))))) ?_ ?_ ?_ ?_ ?_ (by repeat(first|exact ah0|(refine ag1 ?_ ?_;focus exact b66))) ?_ y9
    ·dsimp only;omega
    ·refine⟨by dsimp only;omega,hx,?_⟩
     dsimp only;omega
    ·dsimp only
     rw[aS7 h];simp[af0]
    ·exact ai8
    ·exact bf7 ai8
    ·exact co9 h af2 (xq0 _)
   ·have hc6:(v.kind=6)=False:=eq_false h6
    rw[if_neg h6] at hx hxl c1 c2 c3;simp only[List.length_append,List.length_cons,List.length_nil] at hxl c2;repeat' first|refine o6 ?_|simp -dsimp -implicitDefEqProofs (disch:=first|assumption|omega|simp only[ll];omega) only[go_sem,hc0,hc6,hy,hsn,aS7 h,ai8,cp1 h,b56 h,List.length_append,List.length_cons,List.length_nil]|refine o5 (aJ1 _ (h.app _) af2 ?_ ?_) ?_|refine⟨_,_,aJ1 _ (h.app _) af2 ?_ ?_,?_⟩|refine o5 (ar6 58 rfl (h.app _) af2 ?_) ?_|refine⟨_,_,ar6 58 rfl (h.app _) af2 ?_,?_⟩|refine o5 (hih _ _ (h.app _) ?_) ?_|refine⟨_,_,hih _ _ (h.app _) ?_,?_⟩|refine vcA ?_ ?_|omega|refine ac8 fun _=>?_
    refine an7 (H.length) ([.cells (.one 25) (af0 y)]) ((i+1,trT y (x++([]++[])))) ?_ ?_ ?_ ?_ ?_ (by repeat(first|exact ah0|(refine ag1 ?_ ?_;focus exact b66))) ?_ y9
    ·dsimp only;omega
    ·refine⟨by dsimp only;omega,hx,?_⟩
     dsimp only;omega
    ·dsimp only
     rw[aS7 h];simp[af0]
    ·exact ai8
    ·exact bf7 ai8
    ·exact co9 h af2 (xq0 _)
  ·have hc0:((0:Int) < (i:Int))=True:=eq_true (by omega)
   rw[if_neg h0] at hx hxl c1 c2 c3;by_cases h6:v.kind=6
   ·have hc6:(v.kind=6)=True:=eq_true h6
    have hn6:=hnm h6;have hq6:=hqs h6;rw[if_pos h6] at hx hxl c1 c2 c3;simp only[List.length_append,List.length_cons,List.length_nil] at hxl c2;repeat' first|refine o6 ?_|simp -dsimp -implicitDefEqProofs (disch:=first|assumption|omega|simp only[ll];omega) only[go_sem,hc0,hc6,hy,hsn,aS7 h,ai8,cp1 h,b56 h,List.length_append,List.length_cons,List.length_nil]|refine o5 (ar6 44 rfl (h.app _) af2 ?_) ?_|refine⟨_,_,ar6 44 rfl (h.app _) af2 ?_,?_⟩|refine o5 (aJ1 _ (h.app _) af2 ?_ ?_) ?_|refine⟨_,_,aJ1 _ (h.app _) af2 ?_ ?_,?_⟩|refine o5 (ar6 58 rfl (h.app _) af2 ?_) ?_|refine⟨_,_,ar6 58 rfl (h.app _) af2 ?_,?_⟩|refine o5 (hih _ _ (h.app _) ?_) ?_|refine⟨_,_,hih _ _ (h.app _) ?_,?_⟩|refine vcA ?_ ?_|omega|refine ac8 fun _=>?_
    refine an7 (H.length) ([.cells (.one 25) (af0 y)]) ((i+1,trT y (x++([44]++(aS4 s++[58]))))) ?_ ?_ ?_ ?_ ?_ (by repeat(first|exact ah0|(refine ag1 ?_ ?_;focus exact b66))) ?_ y9
    ·dsimp only;omega
    ·refine⟨by dsimp only;omega,hx,?_⟩
     dsimp only;omega
    ·dsimp only
     rw[aS7 h];simp[af0]
    ·exact ai8
    ·exact bf7 ai8
    ·exact co9 h af2 (xq0 _)
   ·have hc6:(v.kind=6)=False:=eq_false h6
    rw[if_neg h6] at hx hxl c1 c2 c3;simp only[List.length_append,List.length_cons,List.length_nil] at hxl c2;repeat' first|refine o6 ?_|simp -dsimp -implicitDefEqProofs (disch:=first|assumption|omega|simp only[ll];omega) only[go_sem,hc0,hc6,hy,hsn,aS7 h,ai8,cp1 h,b56 h,List.length_append,List.length_cons,List.length_nil]|refine o5 (ar6 44 rfl (h.app _) af2 ?_) ?_|refine⟨_,_,ar6 44 rfl (h.app _) af2 ?_,?_⟩|refine o5 (aJ1 _ (h.app _) af2 ?_ ?_) ?_|refine⟨_,_,aJ1 _ (h.app _) af2 ?_ ?_,?_⟩|refine o5 (ar6 58 rfl (h.app _) af2 ?_) ?_|refine⟨_,_,ar6 58 rfl (h.app _) af2 ?_,?_⟩|refine o5 (hih _ _ (h.app _) ?_) ?_|refine⟨_,_,hih _ _ (h.app _) ?_,?_⟩|refine vcA ?_ ?_|omega|refine ac8 fun _=>?_
    refine an7 (H.length) ([.cells (.one 25) (af0 y)]) ((i+1,trT y (x++([44]++[])))) ?_ ?_ ?_ ?_ ?_ (by repeat(first|exact ah0|(refine ag1 ?_ ?_;focus exact b66))) ?_ y9
    ·dsimp only;omega
    ·refine⟨by dsimp only;omega,hx,?_⟩
     dsimp only;omega
    ·dsimp only
     rw[aS7 h];simp[af0]
    ·exact ai8
    ·exact bf7 ai8
    ·exact co9 h af2 (xq0 _)
 ·obtain rfl:i=v.items.length:=by omega
  repeat' first|refine o6 ?_|simp -dsimp -implicitDefEqProofs only[go_sem]|refine o5 (ar6 l rfl h af2 ?_) ?_|refine⟨_,_,ar6 l rfl h af2 ?_,?_⟩|refine vcA ?_ ?_|omega|refine ac8 fun _=>?_
  rw[ci0,de8] at hx;rw[hx];exact ae7 _ (Le.refl _) (by rw[ai8,ai8];exact xq0 _) ⟨rfl,rfl⟩
theorem db9{v:JV}{o:bytes}(h:8192 < o.length):trT v o=o:=by rw[ck6,if_pos h]
theorem ef2{v:JV}{o:bytes}(h: ¬8192 < o.length)(hk:v.kind≠5/\v.kind≠6):trT v o=o++af7 v:=by rw[ck6,if_neg h,if_neg hk.1,if_neg hk.2]
theorem cn7{a:AV}{H:List AObj}{k m:Nat}{o:bytes}{d:Nat}(v:JV)(h:PAt H k m)(ha:aO0 k a)(ha2:8192 < o.length->a=.mp k 0)(hr:ab3 d v=true)(hk:v.kind≠5/\v.kind≠6)(hs:o.length+(af7 v).length<=1000000)(hsz:aa2 v<=40000):
  o8 Tryz.prog 88 [.mp k 0,jAV v] (pA a H k m o) (fun x H'=>x=.tup []/\H'=pA (.mp k 0) H k m (trT v o)):=by
 have hkl:=h.kl;have hL:=dw2 (T:=121) (cP3 (a:=a) (o:=o) h);by_cases hol:8192 < o.length
 ·have hc:(8192 < ((o.length:Nat):Int))=True:=eq_true (by omega)
  have e:=ha2 hol;subst e;rw[db9 hol];refine y8 [1000010] [] 54 Tryz.func88 ?_;repeat' first|refine o6 ?_|simp -dsimp -implicitDefEqProofs only[go_sem,hc]|refine o5 (hL) ?_|refine⟨_,_,hL,?_⟩|fail
  exact ae7 _ (Le.refl _) (by exact xq0 _) ⟨rfl,rfl⟩
 ·have hc:(8192 < ((o.length:Nat):Int))=False:=eq_false (by omega)
  rw[ef2 hol hk];obtain⟨h1,h2⟩:=bM9 hr hk;have hpe:=aE3 v;have htx:=size_text v;rcases h2 with⟨h2,_⟩|⟨h2,_,h3,h4⟩|⟨h2,_⟩
  ·rcases h2 with e|e|e
   ·rw[e,if_neg (by decide),if_neg (by decide),if_neg (by decide),if_neg (by decide),if_neg (by decide),if_neg (by decide)] at hpe
    rw[hpe];refine y8 [1000010] [] 54 Tryz.func88 ?_;repeat' first|refine o6 ?_|simp -dsimp -implicitDefEqProofs (disch:=omega) only[go_sem,hc,e]|refine o5 (hL) ?_|refine⟨_,_,hL,?_⟩|refine o5 (aO8 h ha (by omega) (by decide)) ?_|refine⟨_,_,aO8 h ha (by omega) (by decide),?_⟩|fail
    exact ae7 _ (Le.refl _) (by rw[ai8,ai8];exact xq0 _) ⟨rfl,rfl⟩
   ·rw[e,if_pos rfl] at hpe
    rw[hpe];refine y8 [1000010] [] 54 Tryz.func88 ?_;repeat' first|refine o6 ?_|simp -dsimp -implicitDefEqProofs (disch:=omega) only[go_sem,hc,e]|refine o5 (hL) ?_|refine⟨_,_,hL,?_⟩|refine o5 (aO8 h ha (by omega) (by decide)) ?_|refine⟨_,_,aO8 h ha (by omega) (by decide),?_⟩|fail
    exact ae7 _ (Le.refl _) (by rw[ai8,ai8];exact xq0 _) ⟨rfl,rfl⟩
   ·rw[e,if_neg (by decide),if_pos rfl] at hpe
    rw[hpe];refine y8 [1000010] [] 54 Tryz.func88 ?_;repeat' first|refine o6 ?_|simp -dsimp -implicitDefEqProofs (disch:=omega) only[go_sem,hc,e]|refine o5 (hL) ?_|refine⟨_,_,hL,?_⟩|refine o5 (aO8 h ha (by omega) (by decide)) ?_|refine⟨_,_,aO8 h ha (by omega) (by decide),?_⟩|fail
    exact ae7 _ (Le.refl _) (by rw[ai8,ai8];exact xq0 _) ⟨rfl,rfl⟩
  ·rw[h2,if_neg (by decide),if_neg (by decide),if_pos rfl] at hpe
   rw[hpe] at hs⊢;refine y8 [1000010] [] 54 Tryz.func88 ?_;repeat' first|refine o6 ?_|simp -dsimp -implicitDefEqProofs (disch:=omega) only[go_sem,hc,h2]|refine o5 (hL) ?_|refine⟨_,_,hL,?_⟩|refine o5 (dQ1 _ _ ?_ ?_) ?_|refine⟨_,_,dQ1 _ _ ?_ ?_,?_⟩|refine o5 (aO8 h ha ?_ ?_) ?_|refine⟨_,_,aO8 h ha ?_ ?_,?_⟩|omega
   exact ae7 _ (Le.refl _) (by rw[ai8,ai8];exact xq0 _) ⟨rfl,rfl⟩
  ·rw[h2,if_neg (by decide),if_neg (by decide),if_neg (by decide),if_pos rfl] at hpe
   rw[hpe];refine y8 [1000010] [] 54 Tryz.func88 ?_;repeat' first|refine o6 ?_|simp -dsimp -implicitDefEqProofs (disch:=omega) only[go_sem,hc,h2]|refine o5 (hL) ?_|refine⟨_,_,hL,?_⟩|refine o5 (aJ1 _ h ha ?_ ?_) ?_|refine⟨_,_,aJ1 _ h ha ?_ ?_,?_⟩|omega
   exact ae7 _ (Le.refl _) (by rw[ai8,ai8];exact xq0 _) ⟨rfl,rfl⟩
theorem eg3: ∀(d:Nat) (v:JV) (a:AV) (H:List AObj) (k m:Nat) (o:bytes),PAt H k m->aO0 k a->(8192 < o.length->a=.mp k 0)->ab3 d v=true->o.length+(af7 v).length<=1000000->aa2 v<=40000->
  o8 Tryz.prog 88 [.mp k 0,jAV v] (pA a H k m o) (fun x H'=>x=.tup []/\H'=pA (.mp k 0) H k m (trT v o)):=by
 intro d;induction d with
 |zero=>
  intro v a H k m o h ha ha2 hr hs hsz;by_cases hk:v.kind≠5/\v.kind≠6
  ·exact cn7 v h ha ha2 hr hk hs hsz
  ·rcases aN0 hr with h|⟨h,_⟩
   ·exact absurd (by omega) (bh7 h)
   ·omega
 |succ d ih=>
  intro v a H k m o h ha ha2 hr hs hsz;by_cases hk:v.kind≠5/\v.kind≠6
  ·exact cn7 v h ha ha2 hr hk hs hsz
  have hk56:v.kind=5\/v.kind=6:=by omega
  have hkl:=h.kl;have hL:=dw2 (T:=121) (cP3 (a:=a) (o:=o) h);by_cases hol:8192 < o.length
  ·have hc:(8192 < ((o.length:Nat):Int))=True:=eq_true (by omega)
   have e:=ha2 hol;subst e;rw[db9 hol];refine y8 [1000010] [] 54 Tryz.func88 ?_;repeat' first|refine o6 ?_|simp -dsimp -implicitDefEqProofs only[go_sem,hc]|refine o5 (hL) ?_|refine⟨_,_,hL,?_⟩|fail
   exact ae7 _ (Le.refl _) (by exact xq0 _) ⟨rfl,rfl⟩
  ·have hc:(8192 < ((o.length:Nat):Int))=False:=eq_false (by omega)
   have hall:v.items.all (ab3 d)=true:=by
    rcases aN0 hr with h|⟨_,_,h⟩
    ·exact absurd hk56 (bh7 h)
    ·exact h
   have hit:=fun(f l:UInt8)=>dU3 (a:=a) (H:=H) (k:=k) (m:=m) (o:=o) (d:=d) v f l h ha hr hk56 hs hsz fun x hx H o h ho=>ih x (.mp k 0) H k m o h af2 (fun _=>rfl) (xq5.1 hall x hx) ho (by have:=aS1 hx;omega)
   have htr:=ck6 v o;rw[if_neg hol] at htr;rcases hk56 with e|e
   ·have hi:=hit 91 93
    rw[e,if_pos rfl] at htr;rw[e,decide_eq_false (by decide)] at hi
    rw[htr];refine y8 [1000010] [] 54 Tryz.func88 ?_;repeat' first|refine o6 ?_|simp -dsimp -implicitDefEqProofs (disch:=omega) only[go_sem,hc,e]|refine o5 (hL) ?_|refine⟨_,_,hL,?_⟩|refine o5 (hi) ?_|refine⟨_,_,hi,?_⟩|refine vcA ?_ ?_
    ·rw[aT1,e]
    ·exact ae7 _ (Le.refl _) (by rw[ai8,ai8];exact xq0 _) ⟨rfl,rfl⟩
   ·have hi:=hit 123 125
    rw[e,if_neg (by decide),if_pos rfl] at htr
    rw[e,decide_eq_true rfl] at hi;rw[htr];refine y8 [1000010] [] 54 Tryz.func88 ?_;repeat' first|refine o6 ?_|simp -dsimp -implicitDefEqProofs (disch:=omega) only[go_sem,hc,e]|refine o5 (hL) ?_|refine⟨_,_,hL,?_⟩|refine o5 (hi) ?_|refine⟨_,_,hi,?_⟩|refine vcA ?_ ?_
    ·rw[aT1,e]
    ·exact ae7 _ (Le.refl _) (by rw[ai8,ai8];exact xq0 _) ⟨rfl,rfl⟩
def aY5(H:List AObj)(a:AV)(o:bytes):List AObj:=H++[aG1 121 (H.length+1) a o,aQ2 o.length]
theorem dZ6(H:List AObj)(a:AV)(o:bytes):PAt (aY5 H a o) H.length (H.length+1):=⟨by simp[aY5],by simp[aY5],by omega⟩
theorem cR5(H:List AObj)(a b:AV)(o p:bytes):pA b (aY5 H a o) H.length (H.length+1) p=aY5 H b p:=by
 unfold pA aY5;rw[aD2 _ _ (xq0 _),ap6,aD2 _ _ (by omega),aM6]
 rfl
theorem de2(H:List AObj)(a:AV)(o:bytes):(aY5 H a o)[H.length]?=some (aG1 121 (H.length+1) a o):=by
 unfold aY5;rw[xq7 (xq0 _),ap6];rfl
theorem ek3(H:List AObj)(a:AV)(o:bytes):(aY5 H a o)[H.length+1]?=some (aQ2 o.length):=by
 unfold aY5;rw[xq7 (by omega),aM6]
 rfl
def ai7(v:JV):bytes×Int:=if ab3 12 v=true then(if 8192 < (af7 v).length then([],3) else(af7 v,0)) else([],1)
def aE6(p:bytes×Int):AV:=.tup [.str p.1,.lit (.int .i64 p.2)]
def aV8(v:JV):Int:=if(ai7 v).2=3 then 8193 else(ai7 v).1.length
theorem cA2(v:JV)(H:List AObj)(hs:aa2 v<=40000):o8 Tryz.prog 50 [jAV v] H (fun x H'=>x=aE6 (ai7 v)/\H'=H):=by
 have hR:=fun H=>aM0 v H hs
 cases hr:ab3 12 v with
 |false=>
  rw[hr] at hR;refine y8 [3000004005] [.tmp 2,.tmp 3] 15 Tryz.func50 ?_;repeat' first|refine o6 ?_|simp -dsimp -implicitDefEqProofs only[go_sem]|refine o5 (hR _) ?_|refine⟨_,_,hR _,?_⟩|fail
  exact o9 ⟨by rw[ai7,hr];rfl,rfl⟩
 |true=>
  rw[hr] at hR;have hps:=do4 12 v hr;have ht:=eg3 12 v (.lit (.pointer none)) (aY5 H (.lit (.pointer none)) []) H.length (H.length+1) [] (dZ6 _ _ _) dh6 (fun h=>absurd h (by decide)) hr (by rw[List.length_nil];omega) hs
  rw[cR5,cR5] at ht;obtain⟨t1,t2⟩:=ex0 v;have hcut:=(cL4 v []).2.1;generalize trT v []=y at*;have hL:=dw2 (T:=121) (de2 H (.mp H.length 0) y);have hS:=cZ7 (T:=121) (de2 H (.mp H.length 0) y) (ek3 H (.mp H.length 0) y) (by rw[List.length_nil] at hcut;omega)
  have hre:ai7 v=if 8192 < (af7 v).length then([],3) else(af7 v,0):=by rw[ai7,hr,if_pos rfl]
  rw[hre];unfold aY5 at ht;by_cases hl:8192 < (af7 v).length
  ·have hy:=t1.2 hl
   have hc:(8192 < ((y.length:Nat):Int))=True:=eq_true (by omega)
   rw[if_pos hl];refine y8 [3000004005] [.tmp 2,.tmp 3] 15 Tryz.func50 ?_;repeat' first|refine o6 ?_|simp -dsimp -implicitDefEqProofs only[go_sem,hc]|refine o5 (hR _) ?_|refine⟨_,_,hR _,?_⟩|refine o5 (ht) ?_|refine⟨_,_,ht,?_⟩|refine o5 (hL) ?_|refine⟨_,_,hL,?_⟩|refine o5 (hS) ?_|refine⟨_,_,hS,?_⟩|fail
   exact aa5 _ (Le.refl _) (ah9 (aa3 (.str _) (aa3 (.lit _) ac4))) ⟨rfl,rfl⟩
  ·have hy:=t2 (by omega)
   have hc:(8192 < ((y.length:Nat):Int))=False:=eq_false (by have:=t1.1;omega)
   rw[if_neg hl,<-hy];refine y8 [3000004005] [.tmp 2,.tmp 3] 15 Tryz.func50 ?_;repeat' first|refine o6 ?_|simp -dsimp -implicitDefEqProofs only[go_sem,hc]|refine o5 (hR _) ?_|refine⟨_,_,hR _,?_⟩|refine o5 (ht) ?_|refine⟨_,_,ht,?_⟩|refine o5 (hL) ?_|refine⟨_,_,hL,?_⟩|refine o5 (hS) ?_|refine⟨_,_,hS,?_⟩|fail
   exact aa5 _ (Le.refl _) (ah9 (aa3 (.str _) (aa3 (.lit _) ac4))) ⟨rfl,rfl⟩
end
section
open Go V
theorem cO7(v:JV):ai7 v=([],1)/\ab3 12 v=false\/ai7 v=([],3)/\ab3 12 v=true/\8192 < (af7 v).length\/ai7 v=(af7 v,0)/\ab3 12 v=true/\(af7 v).length<=8192:=by
 unfold ai7;cases hr:ab3 12 v with
 |false=>exact .inl ⟨rfl,rfl⟩
 |true=>
  rw[if_pos rfl];by_cases h:8192 < (af7 v).length
  ·rw[if_pos h];exact .inr (.inl ⟨rfl,rfl,h⟩)
  ·rw[if_neg h];exact .inr (.inr ⟨rfl,rfl,by omega⟩)
theorem d96(v:JV)(H:List AObj)(hs:aa2 v<=40000):o8 Tryz.prog 22 [jAV v] H (fun x H'=>x=.lit (.int .i64 (aV8 v))/\H'=H):=by
 have hP:=fun H=>cA2 v H hs
 have hle:aV8 v=if(ai7 v).2=3 then 8193 else((ai7 v).1.length:Int):=rfl
 rw[hle];unfold aE6 at hP;have h13:(1:Int)=3↔False:=by decide
 rcases cO7 v with⟨e,_⟩|⟨e,_⟩|⟨e,_,hl⟩
 all_goals
  rw[e] at hP⊢;dsimp only at hP⊢;refine y8 [] [.tmp 2] 14 Tryz.func22 ?_;repeat' first|refine o6 ?_|simp -dsimp -implicitDefEqProofs only[go_sem]|refine o5 (hP _) ?_|fail
  exact o9 ⟨rfl,rfl⟩
end
section
open Go V
def ae0:bytes:=[104,97,115,104,101,115]
def ab5:bytes:=[115,105,103,110,97,116,117,114,101,115]
def aA3:bytes:=[117,110,115,105,103,110,101,100]
def ad4:bytes:=[99,111,110,116,101,110,116]
def aB5:bytes:=[116,121,112,101]
def aD8:bytes:=[115,104,97,50,53,54]
def ay4:List bytes:=[[97,117,116,104,95,101,118,101,110,116,115],[99,111,110,116,101,110,116],[100,101,112,116,104],[104,97,115,104,101,115],[111,114,105,103,105,110,95,115,101,114,118,101,114,95,116,115],[112,114,101,118,95,101,118,101,110,116,115],[114,111,111,109,95,105,100],[115,101,110,100,101,114],[115,105,103,110,97,116,117,114,101,115],[115,116,97,116,101,95,107,101,121],[116,121,112,101]]
def as7(k:bytes):List bytes:=
 if k=[109,46,114,111,111,109,46,99,114,101,97,116,101] then[[99,114,101,97,116,111,114]]
 else if k=[109,46,114,111,111,109,46,109,101,109,98,101,114] then[[109,101,109,98,101,114,115,104,105,112]]
 else if k=[109,46,114,111,111,109,46,106,111,105,110,95,114,117,108,101,115] then[[106,111,105,110,95,114,117,108,101]]
 else if k=[109,46,114,111,111,109,46,112,111,119,101,114,95,108,101,118,101,108,115] then[[98,97,110],[101,118,101,110,116,115],[101,118,101,110,116,115,95,100,101,102,97,117,108,116],[105,110,118,105,116,101],[107,105,99,107],[114,101,100,97,99,116],[115,116,97,116,101,95,100,101,102,97,117,108,116],[117,115,101,114,115],[117,115,101,114,115,95,100,101,102,97,117,108,116]]
 else if k=[109,46,114,111,111,109,46,104,105,115,116,111,114,121,95,118,105,115,105,98,105,108,105,116,121] then[[104,105,115,116,111,114,121,95,118,105,115,105,98,105,108,105,116,121]]
 else[]
def aa6:bytes:=[65,66,67,68,69,70,71,72,73,74,75,76,77,78,79,80,81,82,83,84,85,86,87,88,89,90,97,98,99,100,101,102,103,104,105,106,107,108,109,110,111,112,113,114,115,116,117,118,119,120,121,122,48,49,50,51,52,53,54,55,56,57,43,47]
def bM7:bytes:=[65,66,67,68,69,70,71,72,73,74,75,76,77,78,79,80,81,82,83,84,85,86,87,88,89,90,97,98,99,100,101,102,103,104,105,106,107,108,109,110,111,112,113,114,115,116,117,118,119,120,121,122,48,49,50,51,52,53,54,55,56,57,45,95]
def ap4:bytes:=List.replicate 32 0
def am2(v:JV):Bool:=decide (v.kind=6)&&ab3 12 v
def bg5(v:JV):bytes×Int:=if(ai7 v).2=0 then(sum256 (ai7 v).1,0) else(ap4,(ai7 v).2)
def am4(ns:List bytes)(v:JV):JV:=aC6 (fun s=>!hasB ns s) v
def bm0(v:JV):bytes:=((ae1 v aB5).getD aa7).text
def ab6(v:JV):JV×Int:=
 if am2 v=true then(match ae1 v ad4 with
  |some c=>if c.kind=6 then af8 (am4 ay4 v) ad4 (am4 (as7 (bm0 v)) c) else(am4 ay4 v,0)
  |none=>(am4 ay4 v,0))
 else(aa7,1)
def ad1(v:JV):bytes×Int:=if am2 v=true then bg5 (aC6 (hasB [ae0,ab5,aA3]) v) else(ap4,1)
def aQ0(v:JV):bytes×Int:=if(ab6 v).2=0 then bg5 (aC6 (hasB [ab5]) (ab6 v).1) else(ap4,(ab6 v).2)
def aq2(v:JV):bytes×Int:=if(aQ0 v).2=0 then(36::ac5 bM7 (aQ0 v).1,0) else([],(aQ0 v).2)
def ad5(s:bytes):JV:=.mk 4 0 s [] []
def aw2(s:bytes):JV:=.mk 6 0 [] [aD8] [ad5 s]
def ab4(v:JV):JV×Int:=if(ad1 v).2=0 then af8 v ae0 (aw2 (ac5 aa6 (ad1 v).1)) else(aa7,(ad1 v).2)
def br1(v:JV):Bool:=
 decide ((ad1 v).2=0)&&(match ae1 ((ae1 v ae0).getD aa7) aD8 with|some t=>decide (t.kind=4)&&decide (t.text=ac5 aa6 (ad1 v).1)|none=>false)
theorem bN3(v:JV):(ai7 v).1.length<=8192:=by
 unfold ai7;split
 ·split
  ·exact aP7 _
  ·rename_i h
   show (af7 v).length<=8192
   omega
 ·exact aP7 _
theorem bL8(v:JV):(bg5 v).1.length=32:=by
 unfold bg5;split
 ·exact bL9 _
 ·rfl
theorem be1(v:JV):(ad1 v).1.length=32:=by
 unfold ad1;split
 ·exact bL8 _
 ·rfl
theorem dT3(v:JV):(aQ0 v).1.length=32:=by
 unfold aQ0;split
 ·exact bL8 _
 ·rfl
theorem d25{s:bytes}{x:JV}: ∀{l:Prs},(∀y∈l,ah6 y.1 s=false/\y.1≠s)->ad3 s x l=(s,x)::l
 |[],_=>rfl
 |q::r,h=>by
  have:=h q (au8 ..);rw[ad3,if_neg (by rw[this.1];decide),if_neg this.2]
theorem br2{p:bytes->Bool}{s:bytes}(hp:p s=false)(x:JV): ∀l:Prs,(ad3 s x l).filter (fun q=>p q.1)=l.filter (fun q=>p q.1)
 |[]=>by simp[ad3,hp]
 |q::r=>by
  rw[ad3];split
  ·rw[aP6,aP6,br2 hp x r]
  ·split
   ·rename_i h
    subst h;rw[aP6,aP6,if_neg (by rw[hp];decide),if_neg (by rw[hp];decide)]
   ·rw[aP6,if_neg (by show¬(p s=true);rw[hp];decide)]
theorem bB3{p:bytes->Bool}{s:bytes}(hp:p s=true)(x:JV): ∀l:Prs,srt (l.map (·.1))=true->(ad3 s x l).filter (fun q=>p q.1)=ad3 s x (l.filter (fun q=>p q.1))
 |[],_=>by simp[ad3,hp]
 |q::r,hs=>by
  have ih:=bB3 hp x r (bg6 hs);rw[ad3];by_cases h:ah6 q.1 s=true
  ·rw[if_pos h,aP6,aP6,ih]
   split
   ·rw[ad3,if_pos h]
   ·rfl
  ·rw[if_neg h]
   by_cases he:q.1=s
   ·rw[if_pos he,aP6,aP6,if_pos hp,if_pos (by rw[he];exact hp),ad3,if_neg h,if_pos he]
   ·rw[if_neg he,aP6,if_pos hp,d25]
    intro y hy;have hy2:=(bf6.1 hy).1;have h0:ah6 q.1 s=false:=by simpa using h
    have h1:ah6 s q.1=true:=by
     cases e:ah6 s q.1 with
     |true=>rfl
     |false=>exact absurd (cD0 h0 e) he
    rcases xq8.1 hy2 with rfl|hy3
    ·exact⟨h0,he⟩
    ·have h2:=aP1 h1 (aS0 hs y.1 (ch7 hy3))
     exact⟨c78 h2,fun e=>by rw[e,aA5] at h2;cases h2⟩
theorem cD5(s:bytes)(x y:JV): ∀l:Prs,ad3 s x (ad3 s y l)=ad3 s x l
 |[]=>by simp[ad3,aA5]
 |q::r=>by
  conv=>lhs;rw[ad3]
  conv=>rhs;rw[ad3]
  split
  ·rename_i h
   rw[ad3,if_pos h,cD5 s x y r]
  ·split
   ·rw[ad3,if_neg (by rw[aA5];decide),if_pos rfl]
   ·rw[ad3,if_neg (by rw[aA5];decide),if_pos rfl]
theorem aP3{p:bytes->Bool}{s:bytes}(hp:p s=true): ∀l:Prs,ad6 s (l.filter fun q=>p q.1)=ad6 s l
 |[]=>rfl
 |q::r=>by
  have ih:=aP3 hp r;rw[aP6];by_cases h:q.1=s
  ·rw[if_pos (by rw[h];exact hp),ad6,ad6,if_pos h,if_pos h]
  ·conv=>rhs;rw[ad6,if_neg h]
   split
   ·rw[ad6,if_neg h,ih]
   ·exact ih
structure OkL(l:Prs):Prop where
 srt:srt (l.map (·.1))=true
 valid: ∀s∈l.map (·.1),Lib.validD s=true
 items: ∀x∈l.map (·.2),ab3 11 x=true
theorem aV3{v:JV}(h:am2 v=true):v=ofP ad2 (prs v)/\OkL (prs v):=by
 unfold am2 at h;rw[xq3,decide_eq_true_eq] at h;obtain⟨_,_,_,h3,h4,h5,h6⟩:=aI0 h.2 h.1;exact⟨eB3 h.2 h.1,by rw[bm9 h3];exact h5,by rw[bm9 h3];exact xq5.1 h4,by rw[cB8 h3];exact xq5.1 h6⟩
theorem bH2{l:Prs}(h:OkL l):ab3 12 (ofP ad2 l)=true:=bW0 h.valid h.srt h.items
theorem cJ4{l:Prs}(h:OkL l):am2 (ofP ad2 l)=true:=by
 unfold am2;rw[bH2 h];rfl
theorem OkL.filter{l:Prs}(h:OkL l)(p:bytes×JV->Bool):OkL (l.filter p):=
 ⟨bM1 h.srt,fun s hs=>by
  obtain⟨q,hq,rfl⟩:=xq6.1 hs;exact h.valid _ (ch7 (bf6.1 hq).1),fun x hx=>by
  obtain⟨q,hq,rfl⟩:=xq6.1 hx;exact h.items _ (ch7 (bf6.1 hq).1)⟩
theorem OkL.ins{l:Prs}(h:OkL l){s:bytes}{x:JV}(hs:Lib.validD s=true)(hx:ab3 11 x=true):OkL (ad3 s x l):=
 ⟨bs3 h.srt,fun t ht=>by
  rcases bs8.1 ht with rfl|ht
  ·exact hs
  ·exact h.valid _ ht,fun y hy=>by
  rcases cR9 hy with rfl|hy
  ·exact hx
  ·exact h.items _ hy⟩
theorem OkL.get{l:Prs}(h:OkL l){s:bytes}{x:JV}(e:ad6 s l=some x):ab3 11 x=true:=by
 have: ∀{l:Prs},(∀x∈l.map (·.2),ab3 11 x=true)->ad6 s l=some x->ab3 11 x=true:=by
  intro l;induction l with
  |nil=>intro _ e;cases e
  |cons q r ih=>
   intro hi e;rw[ad6] at e;split at e
   ·cases e
    exact hi _ (by simp)
   ·exact ih (fun y hy=>hi y (by simp only[List.map_cons,xq8];exact .inr hy)) e
 exact this h.items e
theorem cJ6{l:Prs}(h:OkL l)(p:bytes->Bool):aC6 p (ofP ad2 l)=ofP ad2 (l.filter fun q=>!p q.1):=by
 unfold aC6;rw[if_pos ⟨rfl,bH2 h⟩,cx0];rfl
theorem cq9{l:Prs}(h:OkL l)(ns:List bytes):am4 ns (ofP ad2 l)=ofP ad2 (l.filter fun q=>hasB ns q.1):=by
 unfold am4;rw[cJ6 h];simp
theorem bO9{c:JV}(ns:List bytes)(h:ab3 11 c=true)(hk:c.kind=6):ab3 11 (am4 ns c)=true/\(am4 ns c).kind=6:=by
 have h12:=bh0 (m:=12) (by omega) c h
 obtain⟨_,_,_,h3,h4,h5,h6⟩:=aI0 h hk;unfold am4 aC6;rw[if_pos ⟨hk,h12⟩];refine⟨bW0 (n:=10) (fun t ht=>?_) (bM1 (by rw[bm9 h3];exact h5)) (fun y hy=>?_),rfl⟩
 ·obtain⟨q,hq,rfl⟩:=xq6.1 ht
  exact xq5.1 h4 _ (by rw[<-bm9 h3];exact xq6.2 ⟨q,(bf6.1 hq).1,rfl⟩)
 ·obtain⟨q,hq,rfl⟩:=xq6.1 hy
  exact xq5.1 h6 _ (by rw[<-cB8 h3];exact xq6.2 ⟨q,(bf6.1 hq).1,rfl⟩)
theorem dr6{c:JV}(ns:List bytes)(h:ab3 11 c=true)(hk:c.kind=6):am4 ns (am4 ns c)=am4 ns c:=by
 have h12:=bh0 (m:=12) (by omega) c h
 obtain⟨e,ok⟩:=aV3 (v:=c) (by unfold am2;rw[h12,decide_eq_true hk];rfl)
 rw[e,cq9 ok,cq9 (ok.filter _),List.filter_filter];simp
theorem dw5{l:Prs}(h:OkL l){s:bytes}{x:JV}(hs:Lib.validD s=true)(hx:ab3 11 x=true):af8 (ofP ad2 l) s x=(ofP ad2 (ad3 s x l),0):=by
 have hd:=bQ5 11 13 x hx;unfold af8;rw[if_pos ⟨rfl,bH2 h,bh0 (by omega) x hx,hs⟩,if_neg (by omega),aZ6]
def aG8(l:Prs):bytes:=((ad6 aB5 l).getD aa7).text
def av3(l:Prs):Prs:=l.filter fun q=>hasB ay4 q.1
def aq6(l:Prs):Prs:=match ad6 ad4 l with
 |some c=>if c.kind=6 then ad3 ad4 (am4 (as7 (aG8 l)) c) (av3 l) else av3 l
 |none=>av3 l
theorem bU2:Lib.validD ad4=true:=by decide+kernel
theorem cc9:Lib.validD ae0=true:=by decide+kernel
theorem bl4{l:Prs}(h:OkL l):ab6 (ofP ad2 l)=(ofP ad2 (aq6 l),0)/\OkL (aq6 l):=by
 have hk:bm0 (ofP ad2 l)=aG8 l:=by unfold bm0 aG8;rw[aJ3 rfl]
 unfold ab6 aq6;rw[if_pos (cJ4 h),aJ3 rfl,cq9 h,hk];have ho:OkL (av3 l):=h.filter _;cases e:ad6 ad4 l with
 |none=>exact⟨rfl,ho⟩
 |some c=>
  dsimp only;by_cases hc:c.kind=6
  ·obtain⟨h1,h2⟩:=bO9 (as7 (aG8 l)) (h.get e) hc
   rw[if_pos hc,if_pos hc];exact⟨dw5 ho bU2 h1,ho.ins bU2 h1⟩
  ·rw[if_neg hc,if_neg hc]
   exact⟨rfl,ho⟩
theorem bV8(l:Prs):av3 (av3 l)=av3 l:=by
 unfold av3;rw[List.filter_filter];simp
theorem cB7{l:Prs}(h:OkL l):aq6 (aq6 l)=aq6 l:=by
 have hT:hasB ay4 aB5=true:=by decide
 have hC:hasB ay4 ad4=true:=by decide
 have g1:ad6 ad4 (av3 l)=ad6 ad4 l:=aP3 hC l;have g2:ad6 aB5 (av3 l)=ad6 aB5 l:=aP3 hT l;cases e:ad6 ad4 l with
 |none=>
  have e1:aq6 l=av3 l:=by unfold aq6;rw[e]
  rw[e1];unfold aq6;rw[g1,e,bV8]
 |some c=>
  by_cases hc:c.kind=6
  ·have e1:aq6 l=ad3 ad4 (am4 (as7 (aG8 l)) c) (av3 l):=by unfold aq6;rw[e];dsimp only;rw[if_pos hc]
   obtain⟨h1,h2⟩:=bO9 (as7 (aG8 l)) (h.get e) hc;have e2:aG8 (aq6 l)=aG8 l:=by
    rw[e1];conv=>lhs;unfold aG8
    rw[aw0 (by decide),g2]
    rfl
   have e3:ad6 ad4 (aq6 l)=some (am4 (as7 (aG8 l)) c):=by rw[e1,aT5]
   have e0:aq6 (aq6 l)=match ad6 ad4 (aq6 l) with
    |some c=>if c.kind=6 then ad3 ad4 (am4 (as7 (aG8 (aq6 l))) c) (av3 (aq6 l)) else av3 (aq6 l)
    |none=>av3 (aq6 l):=rfl
   rw[e0,e3];dsimp only;rw[if_pos h2,e2,dr6 _ (h.get e) hc,e1];have e4:av3 (ad3 ad4 (am4 (as7 (aG8 l)) c) (av3 l))=ad3 ad4 (am4 (as7 (aG8 l)) c) (av3 l):=by
    have:=bB3 (p:=hasB ay4) hC (am4 (as7 (aG8 l)) c) (av3 l) (h.filter _).srt;have e5:=bV8 l;unfold av3 at this e5⊢;rw[this,e5]
   rw[e4,cD5]
  ·have e1:aq6 l=av3 l:=by unfold aq6;rw[e];dsimp only;rw[if_neg hc]
   rw[e1];unfold aq6;rw[g1,e];dsimp only;rw[if_neg hc,bV8]
theorem bB6{l:Prs}(h:OkL l):ad1 (ofP ad2 l)=bg5 (ofP ad2 (l.filter fun q=>!hasB [ae0,ab5,aA3] q.1)):=by
 unfold ad1;rw[if_pos (cJ4 h),cJ6 h]
theorem do0{l:Prs}(h:OkL l):aQ0 (ofP ad2 l)=bg5 (ofP ad2 ((aq6 l).filter fun q=>!hasB [ab5] q.1)):=by
 obtain⟨h1,h2⟩:=bl4 h;unfold aQ0;rw[h1,if_pos rfl,cJ6 h2]
theorem dc8{v:JV}(h:(ab6 v).2=0):am2 v=true:=by
 unfold ab6 at h;split at h
 ·assumption
 ·cases h
theorem aX5{v:JV}(h:(ad1 v).2=0):am2 v=true:=by
 unfold ad1 at h;split at h
 ·assumption
 ·cases h
theorem dB7{v:JV}(h:am2 v=true):(ab6 v).2=0/\ab6 (ab6 v).1=ab6 v/\aq2 (ab6 v).1=aq2 v:=by
 obtain⟨e,ok⟩:=aV3 h;obtain⟨h1,h2⟩:=bl4 ok;obtain⟨h3,h4⟩:=bl4 h2;rw[<-e] at h1;rw[cB7 ok] at h3;have h5:aQ0 (ab6 v).1=aQ0 v:=by
  rw[h1,do0 h2,cB7 ok,<-do0 ok,<-e]
 refine⟨by rw[h1],by rw[h1,h3],?_⟩
 unfold aq2;rw[h5]
theorem dx5: ∀c∈aa6,c.toNat < 128:=by decide
theorem d57{letters:bytes}(h: ∀c∈letters,c.toNat < 128)(b:bytes): ∀c∈ac5 letters b,c.toNat < 128:=fun c hc=>by
 obtain⟨j,_,rfl⟩:=xq6.1 hc;rw[List.getD];cases e:letters[aD5 b j]? with
 |none=>decide
 |some x=>exact h x (bC3 e)
theorem dx3{l:bytes}(h: ∀c∈l,c.toNat < 128):Lib.validD l=true:=by
 have:=dR1 (r:=[]) h;rw[List.append_nil] at this;rw[this];decide+kernel
theorem bL7{s:bytes}(h:Lib.validD s=true)(n:Nat):ab3 n (ad5 s)=true:=bz4 (by
 unfold bh8 ad5 bq8;simp[JV.kind,JV.names,JV.items,JV.num,JV.text,h])
theorem bU7{s:bytes}(h:Lib.validD s=true):ab3 11 (aw2 s)=true:=by
 have:=bW0 (n:=10) (l:=[(aD8,ad5 s)]) (fun t ht=>by
  simp only[List.map_cons,List.map_nil,xq8,aK4,or_false] at ht;subst ht;decide+kernel) rfl (fun x hx=>by
  simp only[List.map_cons,List.map_nil,xq8,aK4,or_false] at hx;subst hx;exact bL7 h 10)
 exact this
theorem bn8(b:bytes):Lib.validD (ac5 aa6 b)=true:=dx3 (d57 dx5 b)
theorem bw6{v:JV}(h:(ad1 v).2=0):ab4 v=(ofP ad2 (ad3 ae0 (aw2 (ac5 aa6 (ad1 v).1)) (prs v)),0):=by
 obtain⟨e,ok⟩:=aV3 (aX5 h);unfold ab4;rw[if_pos h];conv=>lhs;arg 1;rw[e]
 rw[dw5 ok cc9 (bU7 (bn8 _))]
theorem aT3{v:JV}(h:(ab4 v).2=0):(ad1 v).2=0:=by
 unfold ab4 at h;split at h
 ·assumption
 ·exact h
theorem c81{v:JV}(h:(ab4 v).2=0):ad1 (ab4 v).1=ad1 v:=by
 have hc:=aT3 h;obtain⟨e,ok⟩:=aV3 (aX5 hc);rw[bw6 hc,bB6 (ok.ins cc9 (bU7 (bn8 _)))];conv=>rhs;rw[e,bB6 ok]
 congr 2
 exact br2 (p:=fun s=>!hasB [ae0,ab5,aA3] s) (by decide) _ _
theorem cr6{v:JV}(h:(ab4 v).2=0):ae1 (ab4 v).1 ae0=some (aw2 (ac5 aa6 (ad1 v).1)):=by
 rw[bw6 (aT3 h),aJ3 rfl,aT5]
theorem b48(s:bytes):ae1 (aw2 s) aD8=some (ad5 s):=by
 have:=aJ3 (v:=ad2) rfl [(aD8,ad5 s)] aD8;rw[ad6,if_pos rfl] at this;exact this
theorem bP3{v:JV}(h:(ab4 v).2=0):(ab6 (ab4 v).1).2=0/\ae1 (ab6 (ab4 v).1).1 ae0=some (aw2 (ac5 aa6 (ad1 v).1)):=by
 have hc:=aT3 h;obtain⟨e,ok⟩:=aV3 (aX5 hc);have ok2:=ok.ins cc9 (bU7 (bn8 (ad1 v).1));obtain⟨h1,h2⟩:=bl4 ok2;rw[bw6 hc,h1];refine⟨rfl,?_⟩;rw[aJ3 rfl];have ho:ad6 ae0 (av3 (ad3 ae0 (aw2 (ac5 aa6 (ad1 v).1)) (prs v)))=some (aw2 (ac5 aa6 (ad1 v).1)):=by
  unfold av3;rw[aP3 (by decide),aT5]
 unfold aq6;split
 ·split
  ·rw[aw0 (by decide),ho]
  ·exact ho
 ·exact ho
theorem bz2(ns:List bytes)(v:JV):aa2 (am4 ns v)<=aa2 v:=bM3 _ _
end
section
open Go V
theorem dv9{P:Program}{f:FuncId}{H:List AObj}{R:AV->List AObj->Prop}{k:Nat}{sh:Shape}{cs:List AV}{x y:AV}(hk:H[k]?=some (.cells sh cs))(fz:Frz1 H k x y)(h:o8 P f [y] (H.set k .gone) R):o8 P f [x] H R:=fun G w vs hi ha=>by
 obtain⟨hi',st⟩:=b73 hi hk;refine(h _ w vs hi' ⟨ha.1,fun j y' u ey ev=>?_⟩).mono ?_
 ·cases j with
  |zero=>
   cases ey
   exact cz1 hi hk fz u (ha.2 0 x u rfl ev)
  |succ j=>simp at ey
 ·rintro v w' ⟨x,G',H',h1,h2,h3,h4⟩
  exact⟨x,G',H',h1,st.trans h2,h3,h4⟩
theorem dJ8{H:List AObj}{k:Nat}{sh:Shape}{l:bytes}{cap:Nat}(hk:H[k]?=some (.cells sh (l.map o7))):Frz1 H k (.msl k 0 l.length cap) (.sl .sh 1 (l.map o7)):=by
 have hfl:aa1 (l.map o7)=l.map o7:=an5 o7 (fun _=>rfl) l
 refine .msl 0 l.length cap 1 sh (l.map o7) (l.map o7) hk (by simp) (fun x hx=>by obtain⟨c,_,rfl⟩:=xq6.1 hx;exact⟨rfl,rfl⟩) (by rw[hfl];simp) fun j c y e1 e2=>?_
 rw[hfl] at e2;rw[Nat.zero_add,e2] at e1;cases e1
 exact .keep _
theorem ac1{l:bytes}:(l.map o7).all AV.scalar=true:=xq5.2 (bh6 fun _=>rfl)
theorem aH5:List.replicate 32 (AV.lit (.int .u8 0))=ap4.map o7:=by simp[ap4,o7]
theorem as5{l m:bytes}(h:l.length=32)(k:m.length=32):ag0 (l.map o7) 0 (m.map o7)=m.map o7:=by
 rw[aF0 _ _ _ (by simp;omega)]
 simp[h,k]
def bk7(p:bytes×Int):AV:=.tup [.agg (p.1.map o7),.lit (.int .i64 p.2)]
theorem bW6{m:Nat}{p:bytes×Int}:Low m (bk7 p):=ah9 (aa3 at1 (aa3 (.lit _) ac4))
theorem aS9(v:JV)(H:List AObj)(hv:aa2 v<=40000):o8 Tryz.prog 54 [jAV v] H (fun y H'=>y=.bool (am2 v)/\H'=H):=by
 have cv:=fun H=>aM0 v H hv
 unfold am2;by_cases hk:v.kind=6
 ·have hkt:=eq_true hk
  rw[decide_eq_true hk,Bool.true_and];refine y8 [] [.tmp 2] 10 Tryz.func54 ?_;repeat' first|refine o6 ?_|simp -dsimp -implicitDefEqProofs (disch:=omega) only[go_sem,hkt]|refine o5 (cv _) ?_|fail
  exact o9 ⟨rfl,rfl⟩
 ·have hkf:=eq_false hk
  rw[decide_eq_false hk,aH0];refine y8 [] [.tmp 2] 10 Tryz.func54 ?_;repeat' first|refine o6 ?_|simp -dsimp -implicitDefEqProofs (disch:=omega) only[go_sem,hkf]|refine o5 (cv _) ?_|fail
  exact o9 ⟨rfl,rfl⟩
theorem ea8(v:JV)(H:List AObj)(hv:aa2 v<=40000):o8 Tryz.prog 85 [jAV v] H (fun y H'=>y=bk7 (bg5 v)/\H'=H):=by
 have cp:=fun H=>cA2 v H hv
 have hpl:=bN3 v;have hz:(ap4).length=32:=rfl;unfold aE6 at cp;unfold bg5;by_cases h:(ai7 v).2=0
 ·rw[if_pos h]
  rw[h] at cp;have hsl:=bL9 (ai7 v).1;have cs:=fun H=>d91 (o:=.full) (o2:=.sh) (ai7 v).1 H (by omega)
  generalize sum256 (ai7 v).1=sm at*;generalize (ai7 v).1=t at*;have ha:=as5 hz hsl;refine y8 [] [.cell 2 28,.tmp 3] 19 Tryz.func85 ?_;repeat' first|refine o6 ?_|simp -dsimp -implicitDefEqProofs (disch:=(simp only[ll];omega)) only[go_sem,aH5,ha,ac1,hsl,hz,dh3]|refine o5 (cp _) ?_|refine o5 (cs _) ?_|fail
  exact aa5 _ (Le.refl _) (bW6 (p:=(sm,0))) ⟨rfl,rfl⟩
 ·rw[if_neg h]
  have hf:=eq_false h;have ha:=as5 hz hz;generalize ai7 v=p at*;refine y8 [] [.cell 2 28,.tmp 3] 19 Tryz.func85 ?_;repeat' first|refine o6 ?_|simp -dsimp -implicitDefEqProofs (disch:=(simp only[ll];omega)) only[go_sem,hf,aH5,ha,ac1,hz]|refine o5 (cp _) ?_|fail
  exact aa5 _ (Le.refl _) (bW6 (p:=(ap4,p.2))) ⟨rfl,rfl⟩
theorem dJ1(ns:List bytes)(v:JV):aC6 (hasB (v.names.filter fun s=>!hasB ns s)) v=am4 ns v:=by
 unfold am4 aC6;split
 ·rename_i h
  obtain⟨_,_,_,h3,_⟩:=aI0 h.2 h.1;unfold bj5;congr 1
  apply List.filter_congr
  intro q hq;have hm:q.1∈v.names:=by rw[<-bm9 h3];exact ch7 hq
  congr 1
  unfold hasB;rw[b06,bK3];constructor
  ·rintro⟨x,hx,he⟩
   have:=(bf6.1 hx).2;simp only[beq_iff_eq] at he;rw[he] at this;exact this
  ·intro h
   exact⟨q.1,bf6.2 ⟨hm,h⟩,by simp⟩
 ·rfl
theorem d35(ns l:List bytes)(i:Nat):((l.take i).filter fun s=>!hasB ns s).length<=i:=by
 have:=List.length_filter_le (fun s=>!hasB ns s) (l.take i)
 rw[List.length_take] at this;omega
theorem d34(ns l:List bytes){i:Nat}(h:i < l.length):((l.take (i+1)).filter fun s=>!hasB ns s)=((l.take i).filter fun s=>!hasB ns s)++(if hasB ns (l.getD i [])=true then[] else[l.getD i []]):=by
 have e:l[i]?=some (l.getD i []):=by rw[cG9,xq1 h];rfl
 rw[bg1 e,List.filter_append,aP6,List.filter_nil];cases hasB ns (l.getD i [])<;>rfl
def cV5(H:List AObj)(g:List bytes):List AObj:=H++[.cells (.one 25) au5,.grow 1 g.length none]
theorem dH5(v:JV)(t:bytes)(H:List AObj)(hv:aa2 v<=40000)(ha: ∀c∈t,c.toNat < 128)(ht:t.length<=1000)(hf:(a19 t).length<=1000):o8 Tryz.prog 55 [jAV v,.str t] H (fun y H'=>y=jAV (am4 (a19 t) v)/\H'=H):=by
 have cf:=fun H=>ea0 t H ha (by omega)
 rw[<-dJ1];generalize a19 t=ns at*;have mS: ∀(a:List bytes) (b:bytes),a.map AV.str++[.str b]=(a++[b]).map AV.str:=fun a b=>by simp
 have hn1:v.names.length<=40000:=by have:=aU6 v;omega
 refine y8 [] [.cell 4 25] 30 Tryz.func55 ?_;repeat' first|simp -dsimp -implicitDefEqProofs (disch:=omega) only[go_sem]|refine o5 (cf _) ?_|fail
 refine bI7 6 1 rfl (by decide) (fun h=>absurd rfl h) ?_
 rw[show∀o:AObj,(H++[o]).length=H.length+1 from fun o=>by simp]
 refine aa8 ab2 mixed [] [2,4,5,12,13] (fun i:Nat=>i<=v.names.length) (fun i=>[(14,.int .i64 i),(6,.sl (.tok (H.length+1)) 1 (((v.names.take i).filter fun s=>!hasB ns s).map .str))]) (fun i=>cV5 H ((v.names.take i).filter fun s=>!hasB ns s)) (fun i=>v.names.length - i) (by kernel_rfl) ?_ 0 (by omega) y9 (by simp[cV5,au5])
 intro i hi;have hgl:=d35 ns v.names i;unfold cV5;dsimp only[au5];by_cases hil:i < v.names.length
 ·have t1:=d34 ns v.names hil
  have cc:=fun H=>bR7 (o:=.sh) ns (v.names.getD i []) H (by omega)
  rw[cg0] at cc;cases hp:hasB ns (v.names.getD i []) with
  |true=>
   rw[if_pos hp,List.append_nil] at t1;repeat' first|refine o6 ?_|simp -dsimp -implicitDefEqProofs (disch:=first|assumption|omega) only[go_sem,hp]|refine o5 (cc _) ?_|refine vcA ?_ ?_|omega|refine ac8 fun _=>?_
   rw[<-t1];refine again (i+1) ?_ ?_ rfl y9
   ·omega
   ·omega
  |false=>
   rw[if_neg (by rw[hp];decide)] at t1
   generalize ((v.names.take i).filter fun s=>!hasB ns s)=q at*
   repeat' first|refine o6 ?_|simp -dsimp -implicitDefEqProofs (disch:=first|assumption|omega) only[go_sem,hp,mS]|refine o5 (cc _) ?_|refine vcA ?_ ?_|omega|refine ac8 fun _=>?_
   rw[show q.length+1=(q++[v.names.getD i []]).length by simp,<-t1]
   refine again (i+1) ?_ ?_ rfl y9
   ·omega
   ·omega
 ·obtain rfl:i=v.names.length:=by omega
  rw[bf9] at hgl⊢;generalize (v.names.filter fun s=>!hasB ns s)=q at*
  have cw:=fun H'=>bC0 (o:=.tok (H.length+1)) v q H' hv (by omega)
  repeat' first|refine o6 ?_|simp -dsimp -implicitDefEqProofs (disch:=(simp only[ll];omega)) only[go_sem]|refine o5 (cw _) ?_|refine vcA ?_ ?_|omega|refine ac8 fun _=>?_
  exact aa5 (jAV (aC6 (hasB q) v)) (Le.refl _) (ae5 _) ⟨rfl,rfl⟩
end
section
open Go V
def dD2:bytes:=[97,117,116,104,95,101,118,101,110,116,115,32,99,111,110,116,101,110,116,32,100,101,112,116,104,32,104,97,115,104,101,115,32,111,114,105,103,105,110,95,115,101,114,118,101,114,95,116,115,32,112,114,101,118,95,101,118,101,110,116,115,32,114,111,111,109,95,105,100,32,115,101,110,100,101,114,32,115,105,103,110,97,116,117,114,101,115,32,115,116,97,116,101,95,107,101,121,32,116,121,112,101]
def innerS(k:bytes):bytes:=
 if k=[109,46,114,111,111,109,46,99,114,101,97,116,101] then[99,114,101,97,116,111,114]
 else if k=[109,46,114,111,111,109,46,109,101,109,98,101,114] then[109,101,109,98,101,114,115,104,105,112]
 else if k=[109,46,114,111,111,109,46,106,111,105,110,95,114,117,108,101,115] then[106,111,105,110,95,114,117,108,101]
 else if k=[109,46,114,111,111,109,46,112,111,119,101,114,95,108,101,118,101,108,115] then[98,97,110,32,101,118,101,110,116,115,32,101,118,101,110,116,115,95,100,101,102,97,117,108,116,32,105,110,118,105,116,101,32,107,105,99,107,32,114,101,100,97,99,116,32,115,116,97,116,101,95,100,101,102,97,117,108,116,32,117,115,101,114,115,32,117,115,101,114,115,95,100,101,102,97,117,108,116]
 else if k=[109,46,114,111,111,109,46,104,105,115,116,111,114,121,95,118,105,115,105,98,105,108,105,116,121] then[104,105,115,116,111,114,121,95,118,105,115,105,98,105,108,105,116,121]
 else[]
theorem cP5:a19 dD2=ay4:=by decide+kernel
theorem cU6(k:bytes):a19 (innerS k)=as7 k/\(∀c∈innerS k,c.toNat < 128)/\(innerS k).length<=1000/\(as7 k).length<=1000:=by
 unfold innerS as7;repeat' split
 all_goals decide+kernel
theorem en6(k:bytes)(H:List AObj):o8 Tryz.prog 56 [.str k] H (fun y H'=>y=.str (innerS k)/\H'=H):=by
 unfold innerS;by_cases h0:k=[109,46,114,111,111,109,46,99,114,101,97,116,101]
 ·rw[if_pos h0]
  have t0:=eq_true h0;refine y8 [] [.tmp 2] 14 Tryz.func56 ?_;repeat' first|refine o6 ?_|simp -dsimp -implicitDefEqProofs only[go_sem,t0]
  exact o9 ⟨rfl,rfl⟩
 ·rw[if_neg h0]
  have f0:=eq_false h0;by_cases h1:k=[109,46,114,111,111,109,46,109,101,109,98,101,114]
  ·rw[if_pos h1]
   have t1:=eq_true h1;refine y8 [] [.tmp 2] 14 Tryz.func56 ?_;repeat' first|refine o6 ?_|simp -dsimp -implicitDefEqProofs only[go_sem,f0,t1]
   exact o9 ⟨rfl,rfl⟩
  ·rw[if_neg h1]
   have f1:=eq_false h1;by_cases h2:k=[109,46,114,111,111,109,46,106,111,105,110,95,114,117,108,101,115]
   ·rw[if_pos h2]
    have t2:=eq_true h2;refine y8 [] [.tmp 2] 14 Tryz.func56 ?_;repeat' first|refine o6 ?_|simp -dsimp -implicitDefEqProofs only[go_sem,f0,f1,t2]
    exact o9 ⟨rfl,rfl⟩
   ·rw[if_neg h2]
    have f2:=eq_false h2;by_cases h3:k=[109,46,114,111,111,109,46,112,111,119,101,114,95,108,101,118,101,108,115]
    ·rw[if_pos h3]
     have t3:=eq_true h3;refine y8 [] [.tmp 2] 14 Tryz.func56 ?_;repeat' first|refine o6 ?_|simp -dsimp -implicitDefEqProofs only[go_sem,f0,f1,f2,t3]
     exact o9 ⟨rfl,rfl⟩
    ·rw[if_neg h3]
     have f3:=eq_false h3;by_cases h4:k=[109,46,114,111,111,109,46,104,105,115,116,111,114,121,95,118,105,115,105,98,105,108,105,116,121]
     ·rw[if_pos h4]
      have t4:=eq_true h4;refine y8 [] [.tmp 2] 14 Tryz.func56 ?_;repeat' first|refine o6 ?_|simp -dsimp -implicitDefEqProofs only[go_sem,f0,f1,f2,f3,t4]
      exact o9 ⟨rfl,rfl⟩
     ·rw[if_neg h4]
      have f4:=eq_false h4;refine y8 [] [.tmp 2] 14 Tryz.func56 ?_;repeat' first|refine o6 ?_|simp -dsimp -implicitDefEqProofs only[go_sem,f0,f1,f2,f3,f4]
      exact o9 ⟨rfl,rfl⟩
theorem ax7{v:JV}{n:Nat}(h:aa2 v<=n):v.names.length<=n/\v.items.length<=n:=by
 have h1:=aU6 v;have h2:=aM9 v;exact⟨by omega,by omega⟩
theorem ah1{H M:List AObj}{p:JV×Int}{x:JV}{n:Int}(h:p=(x,n)):Done H (fun y H'=>y=af9 p/\H'=H) (.tup [jAV x,.lit (.int .i64 n)]) (H++M):=by
 subst h;exact aa5 (af9 (x,n)) (Le.refl _) (ah9 (aa3 (ae5 _) (aa3 (.lit _) ac4))) ⟨rfl,rfl⟩
theorem bR6(v:JV)(H:List AObj)(hv:aa2 v<=40000):o8 Tryz.prog 30 [jAV v] H (fun y H'=>y=af9 (ab6 v)/\H'=H):=by
 have co:=fun H=>aS9 v H (by omega)
 have ck:=fun H=>dH5 v dD2 H (by omega) (by decide) (by decide) (by decide+kernel)
 have hgn:=ax7 (n:=100000) (v:=v) (by omega)
 have cg:=fun s H=>bm3 v s H hgn.1 hgn.2
 rw[cP5] at ck;unfold aQ7 at cg;by_cases ho:am2 v=true
 ·cases hg:ae1 v ad4 with
  |none=>
   have e:ab6 v=(am4 ay4 v,0):=by unfold ab6;rw[if_pos ho,hg]
   rw[e];have cg1:=cg ad4;rw[hg] at cg1;refine y8 [1000008,1000008000004,1000008000005,1000008001004] [.cell 2 25,.tmp 3] 42 Tryz.func30 ?_;repeat' first|refine o6 ?_|simp -dsimp -implicitDefEqProofs (disch:=(simp only[ll];omega)) only[go_sem,ho]|refine o5 (co _) ?_|refine⟨_,_,co _,?_⟩|refine o5 (ck _) ?_|refine⟨_,_,ck _,?_⟩|refine o5 (cg1 _) ?_|refine⟨_,_,cg1 _,?_⟩|fail
   exact ah1 rfl
  |some c=>
   have cg1:=cg ad4;have hc:=aC4 (v:=v) (s:=ad4);rw[hg] at cg1 hc;rw[Option.getD_some] at cg1 hc;by_cases h6:c.kind=6
   ·have e:ab6 v=af8 (am4 ay4 v) ad4 (am4 (as7 (bm0 v)) c):=by unfold ab6;rw[if_pos ho,hg];exact if_pos h6
    rw[e];have cg2:=cg aB5;have hk:((ae1 v aB5).getD aa7).text=bm0 v:=rfl;generalize (ae1 v aB5).getD aa7=ty at*;have ci:=fun H=>en6 (bm0 v) H
    have hi:=cU6 (bm0 v);have ck2:=fun H=>dH5 c (innerS (bm0 v)) H (by omega) hi.2.1 hi.2.2.1 (by rw[hi.1];exact hi.2.2.2)
    rw[hi.1] at ck2;have s1:=bz2 ay4 v;have s2:=bz2 (as7 (bm0 v)) c;have cw:=fun H=>bZ6 (am4 ay4 v) (am4 (as7 (bm0 v)) c) ad4 H (by omega) (by omega) (by decide)
    have t6:=eq_true h6;unfold af9 at cw;refine y8 [1000008,1000008000004,1000008000005,1000008001004] [.cell 2 25,.tmp 3] 42 Tryz.func30 ?_;repeat' first|refine o6 ?_|simp -dsimp -implicitDefEqProofs (disch:=first|omega|simp only[ll];omega) only[go_sem,ho,t6,hk]|refine o5 (co _) ?_|refine⟨_,_,co _,?_⟩|refine o5 (ck _) ?_|refine⟨_,_,ck _,?_⟩|refine o5 (cg1 _) ?_|refine⟨_,_,cg1 _,?_⟩|refine o5 (cg2 _) ?_|refine⟨_,_,cg2 _,?_⟩|refine o5 (ci _) ?_|refine⟨_,_,ci _,?_⟩|refine o5 (ck2 _) ?_|refine⟨_,_,ck2 _,?_⟩|refine o5 (cw _) ?_|refine⟨_,_,cw _,?_⟩|fail
    exact ah1 rfl
   ·have e:ab6 v=(am4 ay4 v,0):=by unfold ab6;rw[if_pos ho,hg];exact if_neg h6
    rw[e];have f6:=eq_false h6;refine y8 [1000008,1000008000004,1000008000005,1000008001004] [.cell 2 25,.tmp 3] 42 Tryz.func30 ?_;repeat' first|refine o6 ?_|simp -dsimp -implicitDefEqProofs (disch:=first|omega|simp only[ll];omega) only[go_sem,ho,f6]|refine o5 (co _) ?_|refine⟨_,_,co _,?_⟩|refine o5 (ck _) ?_|refine⟨_,_,ck _,?_⟩|refine o5 (cg1 _) ?_|refine⟨_,_,cg1 _,?_⟩|fail
    exact ah1 rfl
 ·unfold ab6
  rw[if_neg ho];have hf:am2 v=false:=by simpa using ho
  refine y8 [1000008,1000008000004,1000008000005,1000008001004] [.cell 2 25,.tmp 3] 42 Tryz.func30 ?_;repeat' first|refine o6 ?_|simp -dsimp -implicitDefEqProofs (disch:=(simp only[ll];omega)) only[go_sem,hf]|refine o5 (co _) ?_|refine⟨_,_,co _,?_⟩|fail
  exact aF9 rfl
theorem bQ2{H M:List AObj}{p:bytes×Int}{l:bytes}{n:Int}(h:p=(l,n)):Done H (fun y H'=>y=bk7 p/\H'=H) (.tup [.agg (l.map o7),.lit (.int .i64 n)]) (H++M):=by
 subst h;exact aa5 (bk7 (l,n)) (Le.refl _) bW6 ⟨rfl,rfl⟩
theorem ct4{H M:List AObj}{p:bytes×Int}{l:bytes}{n:Int}(h:p=(l,n)):Done H (fun y H'=>y=aE6 p/\H'=H) (.tup [.str l,.lit (.int .i64 n)]) (H++M):=by
 subst h;exact aa5 (aE6 (l,n)) (Le.refl _) (ah9 (aa3 (.str _) (aa3 (.lit _) ac4))) ⟨rfl,rfl⟩
theorem c92{H:List AObj}{p:bytes×Int}{l:bytes}{n:Int}(h:p=(l,n)):Done H (fun y H'=>y=aE6 p/\H'=H) (.tup [.str l,.lit (.int .i64 n)]) H:=by
 subst h;exact o9 ⟨rfl,rfl⟩
theorem dQ5(v:JV)(H:List AObj)(hv:aa2 v<=40000):o8 Tryz.prog 80 [jAV v] H (fun y H'=>y=bk7 (ad1 v)/\H'=H):=by
 have co:=fun H=>aS9 v H hv
 have cw:=fun H=>bC0 (o:=.full) v [ae0,ab5,aA3] H hv (by decide)
 have hs:=bM3 (hasB [ae0,ab5,aA3]) v;have cs:=fun H=>ea8 (aC6 (hasB [ae0,ab5,aA3]) v) H (by omega)
 have hl:=bL8 (aC6 (hasB [ae0,ab5,aA3]) v);unfold bk7 at cs;by_cases ho:am2 v=true
 ·have e:ad1 v=bg5 (aC6 (hasB [ae0,ab5,aA3]) v):=if_pos ho
  rw[e];generalize bg5 (aC6 (hasB [ae0,ab5,aA3]) v)=p at*;have ha:=as5 (l:=ap4) rfl hl;have hz:(ap4).length=32:=rfl;refine y8 [] [.cell 2 28,.tmp 3] 14 Tryz.func80 ?_;repeat' first|refine o6 ?_|simp -dsimp -implicitDefEqProofs (disch:=(simp only[ll];omega)) only[go_sem,ho,aH5,ha,ac1,hz,hl]|refine o5 (co _) ?_|refine⟨_,_,co _,?_⟩|refine o5 (cw _) ?_|refine⟨_,_,cw _,?_⟩|refine o5 (cs _) ?_|refine⟨_,_,cs _,?_⟩|fail
  exact bQ2 rfl
 ·have e:ad1 v=(ap4,1):=if_neg ho
  rw[e];have hf:am2 v=false:=by simpa using ho
  have ha:=as5 (l:=ap4) (m:=ap4) rfl rfl;have hz:(ap4).length=32:=rfl;refine y8 [] [.cell 2 28,.tmp 3] 14 Tryz.func80 ?_;repeat' first|refine o6 ?_|simp -dsimp -implicitDefEqProofs (disch:=(simp only[ll];omega)) only[go_sem,hf,aH5,ha,ac1,hz]|refine o5 (co _) ?_|refine⟨_,_,co _,?_⟩|fail
  exact bQ2 rfl
theorem da4(v:JV)(H:List AObj)(hv:aa2 v<=40000)(hw:aa2 (ab6 v).1<=40000):o8 Tryz.prog 48 [jAV v] H (fun y H'=>y=bk7 (aQ0 v)/\H'=H):=by
 have co:=fun H=>bR6 v H hv
 unfold af9 at co;by_cases ho:(ab6 v).2=0
 ·have e:aQ0 v=bg5 (aC6 (hasB [ab5]) (ab6 v).1):=if_pos ho
  rw[e];generalize ab6 v=r at*;have cw:=fun H=>bC0 (o:=.full) r.1 [ab5] H (by omega) (by decide)
  have hs:=bM3 (hasB [ab5]) r.1;have cs:=fun H=>ea8 (aC6 (hasB [ab5]) r.1) H (by omega)
  have hl:=bL8 (aC6 (hasB [ab5]) r.1);unfold bk7 at cs;generalize bg5 (aC6 (hasB [ab5]) r.1)=p at*;have ha:=as5 (l:=ap4) rfl hl;have hz:(ap4).length=32:=rfl;refine y8 [] [.cell 2 28,.tmp 3] 21 Tryz.func48 ?_;repeat' first|refine o6 ?_|simp -dsimp -implicitDefEqProofs (disch:=(simp only[ll];omega)) only[go_sem,ho,aH5,ha,ac1,hz,hl]|refine o5 (co _) ?_|refine⟨_,_,co _,?_⟩|refine o5 (cw _) ?_|refine⟨_,_,cw _,?_⟩|refine o5 (cs _) ?_|refine⟨_,_,cs _,?_⟩|fail
  exact bQ2 rfl
 ·have e:aQ0 v=(ap4,(ab6 v).2):=if_neg ho
  rw[e];have hf:=eq_false ho;generalize ab6 v=r at*;have ha:=as5 (l:=ap4) (m:=ap4) rfl rfl;have hz:(ap4).length=32:=rfl;refine y8 [] [.cell 2 28,.tmp 3] 21 Tryz.func48 ?_;repeat' first|refine o6 ?_|simp -dsimp -implicitDefEqProofs (disch:=(simp only[ll];omega)) only[go_sem,hf,aH5,ha,ac1,hz]|refine o5 (co _) ?_|refine⟨_,_,co _,?_⟩|fail
  exact bQ2 rfl
theorem dQ2{o:Own}(b:bytes)(H:List AObj)(h:b.length=32):o8 Tryz.prog 49 [.sl o 1 (b.map o7)] H (fun y H'=>y=aE6 (36::ac5 bM7 b,0)/\H'=H):=by
 have cs: ∀(o:Own) H,o8 Tryz.prog 87 [.sl o 1 (b.map o7)] H (fun y H'=>y=.str (ac5 bM7 b)/\H'=H):=fun o H=>eL7 (o:=o) b H (by omega)
 have hl:(List.map o7 b).length=32:=by rw[List.length_map];exact h
 have he:(ac5 bM7 b).length<=1000:=by rw[az4,h];decide
 generalize ac5 bM7 b=t at*;refine y8 [] [.tmp 2,.tmp 3] 10 Tryz.func49 ?_;repeat' first|refine o6 ?_|simp -dsimp -implicitDefEqProofs only[go_sem,h,hl]|refine o5 (cs _ _) ?_|refine⟨_,_,cs _ _,?_⟩|refine vcA ?_ ?_|omega
 exact c92 rfl
theorem cV7{P:Program}{f:FuncId}{H:List AObj}{R:AV->List AObj->Prop}{l:bytes}{sh:Shape}(hl:l.length=32)(h:o8 P f [.sl .sh 1 (l.map o7)] (H++[.gone]) R):o8 P f [.msl H.length 0 32 32] (H++[.cells sh (l.map o7)]) R:=by
 have hk:(H++[AObj.cells sh (l.map o7)])[H.length]?=some (.cells sh (l.map o7)):=by simp
 have fz:=dJ8 (cap:=32) hk;rw[hl] at fz;exact dv9 hk fz (by simpa using h)
theorem dJ7{P:Program}{f:FuncId}{H:List AObj}{R:AV->List AObj->Prop}{l:bytes}{sh:Shape}{a:AObj}(hl:l.length=32)(h:o8 P f [.sl .sh 1 (l.map o7)] (H++[a,.gone]) R):o8 P f [.msl (H.length+1) 0 32 32] (H++[a,.cells sh (l.map o7)]) R:=by
 have:=cV7 (P:=P) (f:=f) (H:=H++[a]) (R:=R) (sh:=sh) hl (by simpa using h)
 simpa using this
theorem c05(v:JV)(H:List AObj)(hv:aa2 v<=40000)(hw:aa2 (ab6 v).1<=40000):o8 Tryz.prog 21 [jAV v] H (fun y H'=>y=aE6 (aq2 v)/\H'=H):=by
 have co:=fun H=>da4 v H hv hw
 have hl:=dT3 v;unfold bk7 at co;by_cases ho:(aQ0 v).2=0
 ·have e:aq2 v=(36::ac5 bM7 (aQ0 v).1,0):=if_pos ho
  rw[e];generalize aQ0 v=p at*;have ha:=as5 (l:=ap4) rfl hl;have hz:(ap4).length=32:=rfl;have ci:=fun(H:List AObj) (sh:Shape)=>cV7 (H:=H) (sh:=sh) hl (dQ2 (o:=.sh) p.1 (H++[.gone]) hl)
  generalize ac5 bM7 p.1=t at*;unfold aE6 at ci;refine y8 [] [.tmp 2,.tmp 3] 18 Tryz.func21 ?_;repeat' first|refine o6 ?_|simp -dsimp -implicitDefEqProofs only[go_sem,ho,aH5,ha,ac1,hz,hl]|refine o5 (co _) ?_|refine⟨_,_,co _,?_⟩|refine o5 (ci _ _) ?_|refine⟨_,_,ci _ _,?_⟩|fail
  exact ct4 rfl
 ·have e:aq2 v=([],(aQ0 v).2):=if_neg ho
  rw[e];have hf:=eq_false ho;generalize aQ0 v=p at*;have ha:=as5 (l:=ap4) rfl hl;have hz:(ap4).length=32:=rfl;refine y8 [] [.tmp 2,.tmp 3] 18 Tryz.func21 ?_;repeat' first|refine o6 ?_|simp -dsimp -implicitDefEqProofs only[go_sem,hf,aH5,ha,ac1,hz]|refine o5 (co _) ?_|refine⟨_,_,co _,?_⟩|refine vcA ?_ ?_|omega
  exact ct4 rfl
theorem cC9(v:JV)(H:List AObj)(hv:aa2 v<=40000):o8 Tryz.prog 45 [jAV v] H (fun y H'=>y=af9 (ad5 (ac5 aa6 (ad1 v).1),(ad1 v).2)/\H'=H):=by
 have co:=fun H=>dQ5 v H (by omega)
 have hl:=be1 v;unfold bk7 at co;generalize ad1 v=p at*;have ha:=as5 (l:=ap4) rfl hl;have hz:(ap4).length=32:=rfl;have ce: ∀H:List AObj,o8 Tryz.prog 81 [.sl .sh 1 (p.1.map o7)] H (fun y H'=>y=.str (ac5 aa6 p.1)/\H'=H):=fun H=>c09 (o:=.sh) p.1 H (by omega)
 have ci:=fun(H:List AObj) (sh:Shape) (a:AObj)=>dJ7 (H:=H) (sh:=sh) (a:=a) hl (ce (H++[a,.gone]))
 generalize ac5 aa6 p.1=t at*;refine y8 [] [.cell 2 25,.tmp 3] 15 Tryz.func45 ?_;repeat' first|simp -dsimp -implicitDefEqProofs (disch:=(simp only[ll];omega)) only[go_sem,aH5,ha,ac1,hz]|refine o5 (co _) ?_|refine⟨_,_,co _,?_⟩|refine o5 (ci _ _ _) ?_|refine⟨_,_,ci _ _ _,?_⟩|refine vcA ?_ ?_|omega
 exact am0 (ax3 b67) (ah1 rfl)
theorem d03{s:bytes}(h:Lib.validD s=true):aB7 [(aD8,ad5 s)]=(aw2 s,0):=by
 have g:bA6 (aD8,ad5 s)=true:=by
  rw[bi8,bL7 h,Bool.true_and];exact(by decide+kernel:Lib.validD aD8=true)
 have t:aY0 (aD8,ad5 s)=false:=rfl;unfold aB7;simp only[List.all_cons,List.all_nil,List.any_cons,List.any_nil,g,t,Bool.and_true,Bool.or_false,if_true];rfl
theorem d99(v:JV)(H:List AObj)(hv:aa2 v<=40000):o8 Tryz.prog 18 [jAV v] H (fun y H'=>y=af9 (ab4 v)/\H'=H):=by
 have co:=fun H=>cC9 v H hv
 unfold af9 at co;have hE:(ac5 aa6 (ad1 v).1).length<=1000:=by rw[az4,be1];decide
 have hV:=bn8 (ad1 v).1;by_cases ho:(ad1 v).2=0
 ·have e:ab4 v=af8 v ae0 (aw2 (ac5 aa6 (ad1 v).1)):=if_pos ho
  rw[e];generalize ac5 aa6 (ad1 v).1=t at*;have hs:aa2 (ad5 t)<=2000:=by simp[ad5,av2,JV.text,JV.names,JV.items,aW9];omega
  have hs2:aa2 (aw2 t)<=3000:=by simp[aw2,ad5,av2,JV.text,JV.names,JV.items,aW9,al5,aD8];omega
  have cm:=fun H=>dP9 [(aD8,ad5 t)] H (by simp) (fun p hp=>by
   simp only[xq8,aK4,or_false] at hp;subst hp;exact⟨by dsimp only;omega,(by decide:aD8.length<=10000)⟩)
  rw[d03 hV] at cm;have cm2:=fun H=>(cm H).weak (args:=[.sl .full 6 [aD1 (aD8,ad5 t)]]) rfl (fun j x y h1 h2=>by
   cases j with
   |zero=>cases h1;cases h2;exact aG7
   |succ j=>simp at h1)
  have cw:=fun H=>bZ6 v (aw2 t) ae0 H (by omega) (by omega) (by decide)
  unfold af9 at cm2 cw;refine y8 [] [.cell 2 25,.tmp 3] 32 Tryz.func18 ?_;repeat' first|refine o6 ?_|simp -dsimp -implicitDefEqProofs (disch:=first|omega|simp only[ll];omega) only[go_sem,ho]|refine o5 (co _) ?_|refine⟨_,_,co _,?_⟩|refine o5 (cm2 _) ?_|refine⟨_,_,cm2 _,?_⟩|refine o5 (cw _) ?_|refine⟨_,_,cw _,?_⟩|fail
  exact ah1 rfl
 ·have e:ab4 v=(aa7,(ad1 v).2):=if_neg ho
  rw[e];have hf:=eq_false ho;refine y8 [] [.cell 2 25,.tmp 3] 32 Tryz.func18 ?_;repeat' first|refine o6 ?_|simp -dsimp -implicitDefEqProofs (disch:=(simp only[ll];omega)) only[go_sem,hf]|refine o5 (co _) ?_|refine⟨_,_,co _,?_⟩|fail
  exact aF9 rfl
end
section
namespace V
open Go
section
variable {P:Program}{L:Tab}{mu:List Nat}{n:Nat}{Q:Exit->Env->List AObj->Prop}{env:Env}{H:List AObj}
def bp3(P:Program)(L:Tab)(mu:List Nat)(n:Nat):Nat->Code->(Exit->Env->List AObj->Prop)->Env->List AObj->Prop
 |k+1,.seq x y,Q,env,H=>vcC P L mu n x (Ex (fun env H=>bp3 P L mu n k y Q env H) Q) env H
 |_,c,Q,env,H=>AW P n c Q env H
theorem aW6(hL:ad9 P L)(hm:P.follows .mixedOrders=true): ∀(k:Nat) (c:Code) {Q:Exit->Env->List AObj->Prop} {env:Env} {H:List AObj},okC mu n c=true->bp3 P L mu n k c Q env H->AW P n c Q env H
 |0,c,_,_,_,_,h=>by
  cases c<;>exact h
 |k+1,.seq x y,Q,env,H,ho,h=>by
  simp only[okC,xq3] at ho;exact bI5 ((ak7 hL hm x ho.1 h).mono fun e env' H' q=>by
   cases e with
   |normal=>exact aW6 hL hm k y ho.2 q
   |_=>exact q)
 |k+1,.skip,_,_,_,_,h=>h
 |k+1,.cond _ _ _,_,_,_,_,h=>h
 |k+1,.block _ _,_,_,_,_,h=>h
 |k+1,.exit _,_,_,_,_,h=>h
 |k+1,.ret,_,_,_,_,h=>h
 |k+1,.region _ _ _,_,_,_,_,h=>h
 |k+1,.loop _,_,_,_,_,h=>h
 |k+1,.scope _,_,_,_,_,h=>h
 |k+1,.rangeFunc _ _ _ _,_,_,_,_,h=>h
 |k+1,.label _,_,_,_,_,h=>h
 |k+1,.goto _,_,_,_,_,h=>h
 |k+1,.refuse _,_,_,_,_,h=>h
theorem d60{c:Code}:bp3 P L mu n 0 c Q env H=AW P n c Q env H:=by cases c<;>rfl
theorem d61{k:Nat}{x y:Code}:bp3 P L mu n (k+1) (.seq x y) Q env H=vcC P L mu n x (Ex (fun env H=>bp3 P L mu n k y Q env H) Q) env H:=rfl
theorem aE1(hL:ad9 P L)(hm:P.follows .mixedOrders=true)(mu:List Nat){c:Code}(ho:okC mu n c=true)(h:vcC P L mu n c Q env H):AW P n c Q env H:=ak7 hL hm c ho h
theorem cZ0(hL:ad9 P L)(hm:P.follows .mixedOrders=true)(mu:List Nat)(k:Nat){c:Code}(ho:okC mu n c=true)(h:bp3 P L mu n k c Q env H):AW P n c Q env H:=aW6 hL hm k c ho h
theorem aw8(hL:ad9 P L)(hm:P.follows .mixedOrders=true)(mu:List Nat)(k:Nat){f:FuncId}{fn:Func}{c:Code}{n:Nat}{rs:List ResultVar}{args:List AV}{H:List AObj}{R:AV->List AObj->Prop}(hf:P.funcs[f]?=some fn)(hb:fn.body=some c)(hname:(fn.name== "runtime.NumGoroutine")=false)(hn:fn.ntmps=n)
  (hrs:fn.results.toList=rs) (hargs:args.length<=n) (ho:okC mu n c=true) (h:bp3 P L mu n k c (bR8 L rs H R) (aL8 0 args) H):o8 P f args H R:=
 bZ5 hL hf hb hname hn hrs hargs (aW6 hL hm k c ho h)
theorem aG2{c:Code}(t k:Nat){sh:Shape}{cs:List AV}(ht:get env t=.mp k 0)(hk:H[k]?=some (.cells sh cs))(h:AW P n c Q ((t,.ip (.agg cs))::env) (H.set k .gone)):AW P n c Q env H:=
 eK6 hk (fun u=>by
  rw[bi9];split
  ·rename_i e
   subst e;rw[ht];refine .mp 0 sh cs _ hk (by simp[AV.flat]) fun j a b h1 h2=>?_
   rw[Nat.zero_add] at h1;simp only[AV.flat] at h2;rw[h1] at h2;cases h2
   exact .keep _
  ·exact .keep _) h
end
attribute [go_sem] d60 d61
end V
end
section
namespace V
open Go
variable {ds:List Deferred}{ro:Option Nat}{N:Nat}
theorem reorder{G:Gh}{H:List AObj}{w:World}{k:Nat}{T:TypeId}{zs:List AV}(hi:HInv G (H++List.replicate k (.cells (.one T) zs)) w)(hH: ∀(j:Nat) (sh:Shape) (cs:List AV),H[j]?=some (AObj.cells sh cs)-> ∀x∈cs,Low H.length x)(hz: ∀z∈zs,∃v,z=.lit v)
  (p:Nat->Nat) (hp: ∀i,i < k->p i < k) (hinj: ∀i j,i < k->j < k->p i=p j->i=j):
  ∃G',HInv G' (H++List.replicate k (.cells (.one T) zs)) w/\(∀G₀ w₀,Step G₀ H w₀ G (H++List.replicate k (.cells (.one T) zs)) w->Step G₀ H w₀ G' (H++List.replicate k (.cells (.one T) zs)) w)/\
   (∀i,i < k-> ∀v,Rel G (H++List.replicate k (.cells (.one T) zs)) w (.mp (H.length+p i) 0) v->Rel G' (H++List.replicate k (.cells (.one T) zs)) w (.mp (H.length+i) 0) v)/\ ∀x v,Low H.length x->Rel G (H++List.replicate k (.cells (.one T) zs)) w x v->Rel G' (H++List.replicate k (.cells (.one T) zs)) w x v:=by
 have htk:(H++List.replicate k (AObj.cells (.one T) zs)).take H.length=H:=bf5;have hc:=hi.cut H.length fun j sh cs hj e=>hH j sh cs (by rw[<-e,xq4 hj])
 rw[htk] at hc;have hat: ∀i,i < k->(H++List.replicate k (AObj.cells (.one T) zs))[H.length+i]?=some (.cells (.one T) zs):=fun i h=>by
  rw[xq7 (by omega),aM6,b33,if_pos h]
 have hlt: ∀j o,(H++List.replicate k (AObj.cells (.one T) zs))[j]?=some o->(j < H.length/\H[j]?=some o)\/ ∃i,i < k/\j=H.length+i/\o=.cells (.one T) zs:=fun j o e=>by
  rcases an9 j H.length with h|h
  ·exact .inl ⟨h,by rw[<-e,xq4 h]⟩
  ·rw[xq7 h,b33] at e
   split at e
   ·rename_i h2
    cases e
    exact .inr ⟨j - H.length,h2,by omega,rfl⟩
   ·cases e
 let b':Nat->Nat:=fun j=>if H.length<=j/\j < H.length+k then G.blk (H.length+p (j - H.length)) else G.blk j
 have hb1: ∀j,j < H.length->b' j=G.blk j:=fun j h=>if_neg (by omega)
 have hb2: ∀i,i < k->b' (H.length+i)=G.blk (H.length+p i):=fun i h=>by
  show (if _ then _ else _)=_
  rw[if_pos (by omega),aM6]
 have st: ∀G₀ w₀,Step G₀ H w₀ G (H++List.replicate k (.cells (.one T) zs)) w->Step G₀ H w₀ {G with blk:=b'} (H++List.replicate k (.cells (.one T) zs)) w:=fun G₀ w₀ s=>⟨s.os,s.tape,s.output,s.size,s.imm,s.cell,s.whole,fun j=>by
  have:=s.obj j;cases e:H[j]? with
  |none=>rw[e] at this;exact this
  |some o=>
   rw[e] at this;have hj:=hb1 j (aa0 e);cases o with
   |cells t cs=>exact⟨this.1,hj.trans this.2.1,this.2.2⟩
   |gone=>exact⟨this.1,hj.trans this.2.1,this.2.2⟩
   |loop r E=>exact⟨this.1,hj.trans this.2.1,this.2.2⟩
   |grow s n t=>exact this⟩
 have st0:Step G H w {G with blk:=b'} (H++List.replicate k (.cells (.one T) zs)) w:=st G w ⟨rfl,rfl,rfl,xq0 _,fun _ _ h=>h,fun _ _ _=>rfl,fun _ _=>rfl,fun j=>by
  cases e:H[j]? with
  |none=>
   intro r E e';rcases hlt j _ e' with⟨_,h⟩|⟨_,_,_,h⟩
   ·rw[e] at h;cases h
   ·cases h
  |some o=>
   have hj:(H++List.replicate k (AObj.cells (.one T) zs))[j]?=some o:=by rw[xq4 (aa0 e)];exact e
   cases o with
   |cells t cs=>exact⟨⟨_,hj,rfl⟩,rfl,rfl⟩
   |gone=>exact⟨hj,rfl,rfl⟩
   |loop r E=>exact⟨hj,rfl,rfl⟩
   |grow s n t=>exact⟨n,hj,xq0 _,fun _=>rfl⟩⟩
 have hlow: ∀x v,Low H.length x->Rel G (H++List.replicate k (.cells (.one T) zs)) w x v->Rel {G with blk:=b'} (H++List.replicate k (.cells (.one T) zs)) w x v:=fun x v hx r=>by
  have:=r.cut H.length hx;rw[htk] at this;exact this.mono st0
 refine⟨{G with blk:=b'},⟨hi.lt,fun j sh cs e=>?_,fun j s n t e=>?_,fun i j b e1 e2=>?_,hc.tabs.step st0⟩,st,fun i h v r=>?_,hlow⟩
 ·rcases hlt j _ e with⟨hj,e'⟩|⟨i,hik,rfl,e'⟩
  ·obtain⟨arr,T',fr,h1,h2,h3,h4,h5,h6⟩:=hc.cells j sh cs e'
   refine⟨arr,T',fr,by show w.heap[b' j]?=_;rw[hb1 j hj];exact h1,h2,fun i x v ex ev=>(h3 i x v ex ev).mono st0,fun off=>by show¬G.imm (b' j) off;rw[hb1 j hj];exact h4 off,fun off=>by show _->w.frozen? ⟨b' j,off,none⟩=false;rw[hb1 j hj];exact h5 off,h6⟩
  ·cases e'
   obtain⟨arr,T',fr,h1,h2,h3,h4,h5,h6⟩:=hi.cells (H.length+p i) _ _ (hat (p i) (hp i hik));refine⟨arr,T',fr,by show w.heap[b' _]?=_;rw[hb2 i hik];exact h1,h2,fun i x v ex ev=>?_,fun off=>by show¬G.imm (b' _) off;rw[hb2 i hik];exact h4 off,fun off=>by show _->w.frozen? ⟨b' _,off,none⟩=false;rw[hb2 i hik];exact h5 off,h6⟩
   have:=h3 i x v ex ev;obtain⟨u,rfl⟩:=hz x (bC3 ex);cases this
   exact .lit _
 ·rcases hlt j _ e with⟨_,e'⟩|⟨_,_,_,e'⟩
  ·exact hc.grow j s n t e'
  ·cases e'
 ·have hs: ∀j b,site {G with blk:=b'} (H++List.replicate k (.cells (.one T) zs)) j=some b-> ∃j',(j'=j/\j < H.length\/ ∃i,i < k/\j=H.length+i/\j'=H.length+p i)/\site G (H++List.replicate k (.cells (.one T) zs)) j'=some b:=fun j b e=>by
   cases eo:(H++List.replicate k (AObj.cells (.one T) zs))[j]? with
   |none=>unfold site at e;rw[eo] at e;cases e
   |some o=>
    rcases hlt j _ eo with⟨hj,e'⟩|⟨i,hik,rfl,rfl⟩
    ·refine⟨j,.inl ⟨rfl,hj⟩,?_⟩
     unfold site at e⊢;rw[eo] at e⊢;cases o with
     |cells t cs=>show some (G.blk j)=_;rw[<-hb1 j hj];exact e
     |_=>exact e
    ·refine⟨H.length+p i,.inr ⟨i,hik,rfl,rfl⟩,?_⟩
     unfold site at e⊢;rw[eo] at e;rw[hat (p i) (hp i hik)];show some (G.blk _)=_
     rw[<-hb2 i hik];exact e
  obtain⟨i',h1,s1⟩:=hs i b e1;obtain⟨j',h2,s2⟩:=hs j b e2;have:=hi.apart i' j' b s1 s2;rcases h1 with⟨rfl,h1⟩|⟨x,hx,rfl,rfl⟩<;>rcases h2 with⟨rfl,h2⟩|⟨y,hy,rfl,rfl⟩
  ·exact this
  ·omega
  ·omega
  ·rw[hinj x y hx hy (by omega)]
 ·cases r with
  |mp _ _ o h1 h2=>
   have:=Rel.mp (G:={G with blk:=b'}) (H:=H++List.replicate k (.cells (.one T) zs)) (w:=w) (H.length+i) 0 _ (hat i h) rfl;rw[show ({G with blk:=b'}:Gh).blk (H.length+i)=G.blk (H.length+p i) from hb2 i h] at this
   exact this
theorem dn9{P:Program}(hm:P.follows .mixedOrders=true){rid:Nat}{ops:List Oper}(hdr:aO3 ops=true){Q:Exit->Act->World->Prop}{a:Act}{w:World}(I:(Nat->Bool)->Act->World->Prop)
  (h0:I (fun _=>false) a {w with drawn:=w.drawn+1})
  (hstep: ∀(l:Nat->Bool) (i:Nat) (o:Oper) (a':Act) (w':World) (K:Act->World->Prop),ops[i]?=some o->l i=false->(∀j,j∈(am1 ops []).getD i []->l j=true)->(∀(j:Nat) q,ops[j]?=some q->i∈(am1 ops []).getD j []->l j=false)->I l a' w'->
   (∀a'' w'',I (fun j=>if j=i then true else l j) a'' w''->K a'' w'')->wpOpIn (fw ro) N P ops.toArray Q i K a' w')
  (hend: ∀(l:Nat->Bool) a' w',(∀i,i < ops.length->l i=true)->I l a' w'->Q .normal a' w'):(Code.region rid ops.toArray true).wpIn (fw ro) N P Q a w:=by
 refine wpIn_region_draw fun t=>?_
 simp only[Region.schedule,hm,Bool.true_or,if_true];have hord: ∀(i:Nat) o,ops[i]?=some o->ordered (am1 ops []) ops i o 0 ops=true/\ ∀e∈o.after.toList,Region.binds .any e=true->e.on < i:=fun i o e=>by
  have:=aC1 ops 0 hdr i o e;rwa [Nat.zero_add] at this
 have key: ∀(fuel:Nat) (listed:Array Bool) (a:Act) (w':World),listed.size=ops.length->Past ops (fun j=>listed.getD j false)->I (fun j=>listed.getD j false) a w'->
   (∀i,i < ops.length->listed.getD i false=false->0 < fuel)->(fuel+(listed.toList.filter id).length=ops.length)->wpAnyIn (fw ro) N P .any ops.toArray Q fuel listed a w':=by
  intro fuel;induction fuel with
  |zero=>
   intro listed a w' hsz hpast hI hf _;have hall: ∀i,i < ops.length->listed.getD i false=true:=fun i hi=>by
    cases hl:listed.getD i false with
    |true=>rfl
    |false=>exact absurd (hf i hi hl) (bu0 _)
   refine⟨?_,hend _ a w' hall hI⟩;unfold Region.ready;rw[dj2];intro i hi;have hi':i < ops.length:=by simpa using hi
   have:=hall i hi';have h2:listed.getD i true=true:=by
    rw[as3,xq2 (by omega)] at this⊢
    exact this
   simp[h2]
  |succ fuel ih=>
   intro listed a w' hsz hpast hI hf hcount;refine⟨fun hnil=>?_,fun i hi=>?_⟩
   ·
    have hall: ∀i,i < ops.length->listed.getD i false=true:=by
     intro i;induction i using Nat.strongRecOn with
     |_ i ihi=>
      intro hi;cases hl:listed.getD i false with
      |true=>rfl
      |false=>
       exfalso
       have hmem:i∈Region.ready .any ops.toArray listed:=by
        unfold Region.ready;rw[bf6];refine⟨by simpa using hi,?_⟩
        have h2:listed.getD i true=false:=by
         rw[as3,xq2 (by omega)] at hl⊢
         exact hl
        have ho:ops.toArray[i]?=some ops[i]:=by simp[hi]
        rw[h2,ho];simp only[Bool.not_false,Bool.true_and,Option.map_some,Option.getD_some];rw[b09];intro e he;have:=(hord i ops[i] (xq1 hi)).2 e (a97.2 he);cases hb:Region.binds .any e with
        |false=>rfl
        |true=>
         have h3:=this hb;rw[ihi e.on h3 (by omega)]
         rfl
       rw[hnil] at hmem;cases hmem
    exact hend _ a w' hall hI
   ·unfold Region.ready at hi
    rw[bf6] at hi;obtain⟨hi1,hi2⟩:=hi;have hi':i < ops.length:=by simpa using hi1
    have ho:ops.toArray[i]?=some ops[i]:=by simp[hi']
    rw[ho] at hi2;simp only[Option.map_some,Option.getD_some,xq3,Bool.not_eq_true'] at hi2;obtain⟨hl0,hready⟩:=hi2;have hl:listed.getD i false=false:=by
     rw[as3,xq2 (by omega)] at hl0⊢
     exact hl0
    have hpre: ∀e∈(ops[i]).after.toList,Region.binds .any e=true->listed.getD e.on false=true:=fun e he hb=>by
     rw[b09] at hready;have:=hready e (a97.1 he);rw[hb] at this;simpa using this
    have hoi:ops[i]?=some ops[i]:=xq1 hi';obtain⟨hor,hback⟩:=hord i ops[i] hoi;have hbi: ∀j,j∈(am1 ops []).getD i []->listed.getD j false=true:=fun j hj=>
     aA8 hpast ops [] [] rfl rfl (fun i j o hi=>by simp at hi) i j ops[i] hj hoi hpre
    have hlater: ∀(j:Nat) q,ops[j]?=some q->i∈(am1 ops []).getD j []->listed.getD j false=false:=fun j q hq hij=>by
     cases hlj:listed.getD j false with
     |false=>rfl
     |true=>
      have:=aA8 hpast ops [] [] rfl rfl (fun i j o hi=>by simp at hi) j i q hij hq (hpast j q hq hlj)
      rw[hl] at this;cases this
    have hgd: ∀j,(listed.setIfInBounds i true).getD j false=if j=i then true else listed.getD j false:=fun j=>by
     simp only[as3,b35];by_cases hji:j=i
     ·subst hji
      simp[show j < listed.size by omega]
     ·simp[hji,show¬(i=j) from fun h=>hji h.symm]
    have hcnt:fuel+((listed.setIfInBounds i true).toList.filter id).length=ops.length:=by
     have:((listed.setIfInBounds i true).toList.filter id).length=(listed.toList.filter id).length+1:=by
      rw[cI3];have hli:i < listed.toList.length:=by simp;omega
      have hlf:listed.toList[i]=false:=by
       rw[as3,xq2 (by omega)] at hl
       simpa using hl
      have key2: ∀(l:List Bool) (i:Nat) (hi:i < l.length),l[i]=false->((l.set i true).filter id).length=(l.filter id).length+1:=by
       intro l;induction l with
       |nil=>intro i hi;simp at hi
       |cons b r ih=>
        intro i hi he;cases i with
        |zero=>simp at he;subst he;simp
        |succ i=>
         simp only[List.set_cons_succ,aP6];have:=ih i (by simpa using hi) (by simpa using he)
         cases b<;>simp[this]
      exact key2 _ i hli hlf
     omega
    refine hstep _ i ops[i] a w' _ hoi hl hbi hlater hI fun a'' w'' hI'=>?_
    have hfe:(fun j=>(listed.setIfInBounds i true).getD j false)=fun j=>if j=i then true else listed.getD j false:=funext hgd
    refine ih _ a'' w'' (by simp[hsz]) (fun j q hq hlj e he hb=>?_) (hfe▸hI') (fun j hj hlj=>?_) hcnt
    ·simp only[hgd] at hlj⊢
     by_cases hji:j=i
     ·subst hji
      have hqe:q=ops[j]:=by rw[hoi] at hq;exact(Option.some.inj hq).symm
      subst hqe;split
      ·rfl
      ·exact hpre e he hb
     ·rw[if_neg hji] at hlj
      split
      ·rfl
      ·exact hpast j q hq hlj e he hb
    ·
     rcases a98 fuel with h0|h0
     ·exfalso
      rw[h0,Nat.zero_add] at hcnt;have hfull: ∀(l:List Bool),(l.filter id).length=l.length-> ∀b∈l,b=true:=fun l hl b hb=>by
       have:=cI2.1 (List.Sublist.eq_of_length (cI1 (l:=l) (p:=id)) hl) b hb;simpa using this
      have hlen:((listed.setIfInBounds i true).toList.filter id).length=(listed.setIfInBounds i true).toList.length:=by rw[hcnt];simp[hsz]
      have hjs:j < (listed.setIfInBounds i true).size:=by simp;omega
      have:=hfull _ hlen ((listed.setIfInBounds i true)[j]) (by rw[a97];exact Array.getElem_mem hjs)
      rw[as3,xq2 hjs] at hlj;simp only[Option.getD_some] at hlj;rw[this] at hlj;cases hlj
     ·exact h0
 refine wpAnyIn_sound ops.toArray.size t _ a _ (key ops.toArray.size _ a _ (by simp) (fun i o ho hl=>?_) ?_ (fun i hi _=>by simp;omega) (by simp))
 ·simp only[as3,bK6] at hl
  split at hl<;>cases hl
 ·have:(fun j=>(Array.replicate ops.toArray.size false).getD j false)=fun _=>false:=funext fun j=>by
   rw[as3,bK6];split<;>rfl
  rw[this];exact h0
theorem a81{R:AV->AV->Prop}{z z':Nat->AV}{l l':Nat->Bool}{t:Nat}: ∀(ops:List Oper) (i:Nat) (env env':Env),R (get env t) (get env' t)->(∀(j:Nat) o,ops[j]?=some o->o.dst=some t->l (i+j)=l' (i+j)/\(l (i+j)=true->R (z (i+j)) (z' (i+j))))->R (get (ab9 l z i ops env) t) (get (ab9 l' z' i ops env') t)
 |[],_,_,_,h,_=>h
 |o::r,i,env,env',h,hl=>by
  simp only[ab9];refine a81 r (i+1) _ _ ?_ fun j o' e hd=>by have:=hl (j+1) o' (by simpa using e) hd;rwa [show i+(j+1)=i+1+j by omega] at this
  by_cases hd:o.dst=some t
  ·obtain⟨h1,h2⟩:=hl 0 o rfl hd
   rw[ar7] at h1 h2;rw[<-h1];cases hli:l i with
   |false=>simpa using h
   |true=>
    simp only[if_true];rw[get_put,get_put,if_pos hd,if_pos hd];exact h2 hli
  ·have e1: ∀(b:Bool) (x:AV) (e:Env),get (if b then put o.dst x e else e) t=get e t:=fun b x e=>by
    cases b
    ·rfl
    ·simp only[if_true]
     rw[get_put,if_neg hd]
   rw[e1,e1];exact h
theorem cb9{k i:Nat}(h:i < k):(List.range k).idxOf i=i:=by
 have hm:i∈List.range k:=ba0.2 h;have h1:=ci9 hm;have h2:=cH8 h1;rw[List.getElem_range] at h2;exact h2
def cJ3(T:TypeId)(nr na:Nat)(ops:List Oper):Bool:=
 ((ops.drop nr).take na).all (fun o=>(match o.op with|.alloc t=>t==T|_=>false)&&o.guard.isNone)&&
 (ops.drop (nr+na)).all (fun o=>o.dst.isNone&&o.guard.isNone)&&
 (ops.take nr).all (fun o=>((ops.drop nr).take na).all fun q=>match q.dst with|some d=>!(touches ops o).contains d|none=>true)&&
 (List.range ops.length).all (fun j=>decide (j < nr+na)||(List.range j).all fun i=>((am1 ops []).getD j []).contains i)
theorem cG3{P:Program}{L:Tab}(hL:ad9 P L)(hm:P.follows .mixedOrders=true){n rid nr na:Nat}{T:TypeId}{ops:List Oper}(hops:aA6 n ops=true)(hdr:aO3 ops=true)(hok:cJ3 T nr na ops=true)(hlen:nr+na<=ops.length){Q:Exit->Env->List AObj->Prop}{env:Env}{H:List AObj}
  (zs:Nat->AV) (hreads: ∀(i:Nat) o,i < nr->ops[i]?=some o-> ∀M,DoesE P L [] ops o (ab9 (fun j=>decide (j < i)) zs 0 ops env) (H++M) (zs i) (H++M)) (hlow: ∀i,i < nr->Low H.length (zs i)) (hk:known (L T)=true) (hzero: ∀z∈(L T).zero,∃v,z=.lit v)
  (env2:Env) (henv: ∀t,get (ab9 (fun j=>decide (j < nr+na)) (fun i=>if i < nr then zs i else .mp (H.length+(i - nr)) 0) 0 ops env) t=get env2 t) (oh:Nat->List AObj) (oh0:oh 0=H++List.replicate na (.cells (.one T) (L T).zero))
  (hst: ∀(j:Nat) o,ops[nr+na+j]?=some o-> ∃z,ac6 P L [] o env2 (oh j) fun x H'=>x=z/\H'=oh (j+1)) (hQ:Q .normal env2 (oh (ops.length - (nr+na)))):AW P n (.region rid ops.toArray true) Q env H:=fun ro N ds G a w s=>by
 simp only[cJ3,xq3,xq5] at hok;obtain⟨⟨⟨ok1,ok2⟩,ok3⟩,ok4⟩:=hok;have kA: ∀(j:Nat) o,j < na->ops[nr+j]?=some o->(∃d ty pos af,o=⟨d,.alloc T,ty,pos,af,none⟩):=fun j o hj e=>by
  have:=ok1 o (au9.2 ⟨j,by rw[aK6,if_pos hj,aP9];exact e⟩)
  obtain⟨d,op,ty,pos,af,g⟩:=o;cases op<;>simp at this
  obtain⟨rfl,h2⟩:=this;subst h2;exact⟨_,_,_,_,rfl⟩
 have kS: ∀(j:Nat) o,ops[nr+na+j]?=some o->o.dst=none/\o.guard=none:=fun j o e=>by
  have:=ok2 o (au9.2 ⟨j,by rw[aP9];exact e⟩)
  simpa using this
 have kR: ∀(i j:Nat) o q,i < nr->j < na->ops[i]?=some o->ops[nr+j]?=some q-> ∀t,q.dst=some t->t∉touches ops o:=fun i j o q hi hj e1 e2 t ht=>by
  have:=ok3 o (au9.2 ⟨i,by rw[aK6,if_pos hi];exact e1⟩) q (au9.2 ⟨j,by rw[aK6,if_pos hj,aP9];exact e2⟩)
  rw[ht] at this;simpa using this
 have kB: ∀i j,nr+na<=j->j < ops.length->i < j->i∈(am1 ops []).getD j []:=fun i j h1 h2 h3=>by
  have:=ok4 j (ba0.2 h2);rw[bT4,decide_eq_true_eq] at this;rcases this with h|h
  ·omega
  ·have:=xq5.1 h i (ba0.2 h3)
   simpa using this
 have hord: ∀(i:Nat) o,ops[i]?=some o->ordered (am1 ops []) ops i o 0 ops=true:=fun i o e=>by
  have:=(aC1 ops 0 hdr i o e).1;rwa [Nat.zero_add] at this
 have hHlow: ∀(j:Nat) (sh:Shape) (cs:List AV),H[j]?=some (AObj.cells sh cs)-> ∀x∈cs,Low H.length x:=fun j sh cs e x hx=>by
  obtain⟨arr,T',fr,hb',hsz,hr',_⟩:=s.inv.cells j sh cs e;obtain⟨i,hi⟩:=au9.1 hx;have hja:i < arr.size:=aC3 (aa0 hi) hsz;exact(hr' i x _ hi (xq2 hja)).low
 have henvlow: ∀t,Low H.length (get env t):=fun t=>(s.env t).low
 let zo:AObj:=.cells (.one T) (L T).zero
 let zA:List Nat->Nat->AV:=fun al i=>if i < nr then zs i else .mp (H.length+al.idxOf (i - nr)) 0
 let Hs:List Nat->Nat->List AObj:=fun al m=>if m=0 then H++List.replicate al.length zo else oh m
 let I:(Nat->Bool)->Act->World->Prop:=fun l a' w'=> ∃(G':Gh) (al:List Nat) (m:Nat),al.Nodup/\(∀j,j∈al↔(j < na/\l (nr+j)=true))/\((∀j,j < na->l (nr+j)=true)->al=List.range na)/\(∀j,nr+na+j < ops.length->(l (nr+na+j)=true↔j < m))/\nr+na+m<=ops.length/\(0 < m-> ∀i,i < nr+na->l i=true)/\
  Step G H w G' (Hs al m) w'/\Sat n ds G' (ab9 l (zA al) 0 ops env) (Hs al m) a' w'
 have hput: ∀(l:Nat->Bool) (z:Nat->AV) (i:Nat) o,ops[i]?=some o->l i=false->(∀(j:Nat) q,ops[j]?=some q->i∈(am1 ops []).getD j []->l j=false)-> ∀t,get (put o.dst (z i) (ab9 l z 0 ops env)) t=get (ab9 (fun j=>if j=i then true else l j) z 0 ops env) t:=fun l z i o hoi hl hlater t=>by
  have h1:=bB4 (zs:=z) (l:=l) (t:=t) ops 0 env i o hoi (by rw[Nat.zero_add];exact hl) (fun j q hj hq hlj hd=>by
   intro hqd;rw[Nat.zero_add] at hlj;have hsp:=aF5 ops 0 (hord i o hoi) j q t hq hqd (by omega) (by unfold touches;rw[hd];simp)
   rw[Nat.zero_add] at hsp;rw[hlater j q hq (hsp.2 hj)] at hlj;cases hlj)
  simp only[Nat.zero_add] at h1;exact h1.symm
 have hallen: ∀(l:Nat->Bool) (al:List Nat),al.Nodup->(∀j,j∈al↔(j < na/\l (nr+j)=true))->(∀j,j < na->l (nr+j)=true)->al.length=na:=fun l al hnd hmem hall=>by
  have:=(List.perm_ext_iff_of_nodup hnd List.nodup_range).2 fun j=>by rw[hmem,ba0];exact⟨fun h=>h.1,fun h=>⟨h,hall j h⟩⟩
  rw[this.length_eq,List.length_range]
 have hfin: ∀(l:Nat->Bool) (m:Nat),(∀i,i < nr+na->l i=true)-> ∀t,get (ab9 l (zA (List.range na)) 0 ops env) t=get env2 t:=fun l m hl t=>by
  rw[<-henv t];refine a81 (R:=fun x y=>x=y) ops 0 env env rfl fun j o e hd=>?_
  rw[Nat.zero_add];have hj:j < nr+na:=by
   rcases an9 j (nr+na) with h|h
   ·exact h
   ·have:=(kS (j - (nr+na)) o (by rw[show nr+na+(j - (nr+na))=j by omega];exact e)).1
    rw[hd] at this;cases this
  refine⟨by rw[hl j hj,decide_eq_true hj],fun _=>?_⟩
  show (if j < nr then zs j else AV.mp (H.length+(List.range na).idxOf (j - nr)) 0)=_
  split
  ·rfl
  ·rw[cb9 (by omega)]
 refine dn9 hm hdr I ?_ ?_ ?_
 ·refine⟨G,[],0,List.nodup_nil,fun j=>by simp,fun h=>?_,fun j _=>by simp,by omega,fun h=>absurd h (bu0 _),?_,?_⟩
  ·have:na=0:=by
    rcases a98 na with h2|h2
    ·exact h2
    ·exact absurd (h 0 h2) (by simp)
   subst this;rfl
  ·show Step G H w G (H++[]) _
   rw[List.append_nil];exact aM1
  ·show Sat n ds G _ (H++[]) a _
   rw[List.append_nil];refine(s.step aM1 (cf9 s.inv)).of_get fun t=>?_
   rw[aI5 ops 0 env fun j _=>rfl]
 ·rintro l i o a' w' K hoi hl hbi hlater ⟨G',al,m,hnd,hmem,hfull,hm1,hm2,hm3,hst',hs⟩ hK
  have hilt:i < ops.length:=aa0 hoi;have ho':ops.toArray[i]?=some o:=by simpa using hoi
  rcases an9 i (nr+na) with hi|hi
  ·
   have hm0:m=0:=by
    rcases a98 m with h|h
    ·exact h
    ·rw[hm3 h i hi] at hl
     cases hl
   subst hm0;change Step G H w G' (H++List.replicate al.length zo) w' at hst'
   change Sat n ds G' _ (H++List.replicate al.length zo) a' w' at hs
   have hstores: ∀(i0:Nat),i0 < nr+na-> ∀j,nr+na+j < ops.length->((if nr+na+j=i0 then true else l (nr+na+j))=true↔j < 0):=fun i0 h0 j hj=>by
    rw[if_neg (by omega)]
    exact hm1 j hj
   rcases an9 i nr with hir|hir
   ·
    have hsame: ∀t∈touches ops o,get (ab9 (fun j=>decide (j < i)) zs 0 ops env) t=get (ab9 l (zA al) 0 ops env) t:=fun t ht=>by
     refine a81 (R:=fun x y=>x=y) ops 0 env env rfl fun j q hq hd=>?_
     rw[Nat.zero_add];have hjr:j < nr:=by
      rcases an9 j nr with h|h
      ·exact h
      ·rcases an9 j (nr+na) with h2|h2
       ·exact absurd ht (kR i (j - nr) o q hir (by omega) hoi (by rw[show nr+(j - nr)=j by omega];exact hq) t hd)
       ·have:=(kS (j - (nr+na)) q (by rw[show nr+na+(j - (nr+na))=j by omega];exact hq)).1
        rw[hd] at this;cases this
     refine⟨?_,fun _=>?_⟩
     ·by_cases hji:j=i
      ·subst hji
       rw[hl];simp
      ·have hsp:=aF5 ops 0 (hord i o hoi) j q t hq hd (by omega) ht
       rw[Nat.zero_add] at hsp;rcases an9 j i with h1|h1
       ·rw[hbi j (hsp.1 h1)]
        simpa using h1
       ·rw[hlater j q hq (hsp.2 (by omega))]
        simpa using h1
     ·show zs j=if j < nr then zs j else _
      rw[if_pos hjr]
    have hd:=bD8 (fun t ht=>hsame t ht) (hreads i o hir hoi (List.replicate al.length zo))
    refine bQ4 hL (all:=ops.toArray) (by simpa using hops) ho' hd hs fun G'' a'' w'' hs'' hst''=>hK a'' w'' ?_
    refine⟨G'',al,0,hnd,fun j=>?_,fun h=>hfull fun j hj=>by have:=h j hj;simp only at this;rwa [if_neg (by omega)] at this,hstores i hi,hm2,fun h=>absurd h (bu0 _),hst'.trans hst'',hs''.of_get fun t=>?_⟩
    ·show _↔j < na/\(if nr+j=i then true else l (nr+j))=true
     rw[hmem,if_neg (by omega)]
    ·have:=hput l (zA al) i o hoi hl hlater t
     rw[show zA al i=zs i from if_pos hir] at this
     exact this
   ·
    obtain⟨j,rfl⟩: ∃j,i=nr+j:=⟨i - nr,by omega⟩
    have hjna:j < na:=by omega
    obtain⟨d,ty,pos,af,rfl⟩:=kA j o hjna hoi;have hjn:j∉al:=fun h=>by
     have:=((hmem j).1 h).2;rw[hl] at this;cases this
    have hrep:H++List.replicate al.length zo++[zo]=H++List.replicate (al++[j]).length zo:=by
     rw[List.length_append,List.length_cons,List.length_nil,List.replicate_succ',List.append_assoc]
    have hd:DoesE P L [] ops ⟨d,.alloc T,ty,pos,af,none⟩ (ab9 l (zA al) 0 ops env) (H++List.replicate al.length zo) (.mp (H.length+al.length) 0) (H++List.replicate (al++[j]).length zo):=by
     unfold DoesE;dsimp only;rw[cP9];refine⟨hk,?_⟩;show AV.mp (H++List.replicate al.length zo).length 0=_/\H++List.replicate al.length zo++[zo]=_
     rw[List.length_append,List.length_replicate];exact⟨rfl,hrep⟩
    refine bQ4 hL (all:=ops.toArray) (by simpa using hops) ho' hd hs fun G'' a'' w'' hs'' hst''=>hK a'' w'' ?_
    have hnd':(al++[j]).Nodup:=by
     rw[List.nodup_append];refine⟨hnd,by simp,fun x hx y hy=>?_⟩
     simp only[xq8,aK4,or_false] at hy;subst hy;exact fun e=>hjn (e▸hx)
    have hmem': ∀k,k∈al++[j]↔(k < na/\(if nr+k=nr+j then true else l (nr+k))=true):=fun k=>by
     rw[aR3,hmem];by_cases hkj:k=j
     ·subst hkj
      simp[hjna]
     ·rw[if_neg (by omega)]
      simp[hkj]
    have henv': ∀t,get (put d (.mp (H.length+al.length) 0) (ab9 l (zA al) 0 ops env)) t=get (ab9 (fun k=>if k=nr+j then true else l k) (zA (al++[j])) 0 ops env) t:=fun t=>by
     have h1:=hput l (zA (al++[j])) (nr+j) _ hoi hl hlater t;rw[<-h1];have hz:zA (al++[j]) (nr+j)=.mp (H.length+al.length) 0:=by
      show (if nr+j < nr then _ else AV.mp (H.length+(al++[j]).idxOf (nr+j - nr)) 0)=_
      rw[if_neg (by omega),aM6,List.idxOf_append,if_neg hjn]
      simp
     rw[hz,get_put,get_put];split
     ·rfl
     ·refine a81 (R:=fun x y=>x=y) ops 0 env env rfl fun k q hq hd=>⟨rfl,fun hlk=>?_⟩
      rw[Nat.zero_add] at hlk⊢;show (if k < nr then zs k else AV.mp (H.length+al.idxOf (k - nr)) 0)=if k < nr then zs k else AV.mp (H.length+(al++[j]).idxOf (k - nr)) 0
      split
      ·rfl
      ·rename_i hkn
       have hkl:k < nr+na:=by
        rcases an9 k (nr+na) with h|h
        ·exact h
        ·have:=(kS (k - (nr+na)) q (by rw[show nr+na+(k - (nr+na))=k by omega];exact hq)).1
         rw[hd] at this;cases this
       have:k - nr∈al:=(hmem _).2 ⟨by omega,by rw[show nr+(k - nr)=k by omega];exact hlk⟩
       rw[List.idxOf_append,if_pos this]
    have hs3:=hs''.of_get henv';have hst3:=hst'.trans hst'';by_cases hperm: ∀k,k < na->k∈al++[j]
    ·
     have hfl:=hallen (fun k=>if k=nr+j then true else l k) _ hnd' hmem' fun k hk=>((hmem' k).1 (hperm k hk)).2
     have hz0:Hs (al++[j]) 0=H++List.replicate na zo:=by
      show H++List.replicate (al++[j]).length zo=_
      rw[hfl]
     rw[hfl] at hs3 hst3;have hinv:=hs3.inv;obtain⟨G3,hi3,st3,hr3,hlow3⟩:=reorder (k:=na) (T:=T) (zs:=(L T).zero) hinv hHlow hzero (fun i=>(al++[j]).idxOf i) (fun i hi=>by rw[<-hfl];exact ci9 (hperm i hi)) (fun i k hi hk e=>by
      have h1:=cH8 (ci9 (hperm i hi));have h2:=cH8 (ci9 (hperm k hk));rw[<-h1,<-h2];congr 1)
     refine⟨G3,List.range na,0,List.nodup_range,fun k=>?_,fun _=>rfl,hstores (nr+j) hi,hm2,fun h=>absurd h (bu0 _),?_,?_⟩
     ·rw[ba0]
      constructor
      ·intro hk
       exact(hmem' k).1 (hperm k hk)
      ·exact fun h=>h.1
     ·show Step G H w G3 (H++List.replicate (List.range na).length zo) w''
      rw[List.length_range];exact st3 G w hst3
     ·show Sat n ds G3 _ (H++List.replicate (List.range na).length zo) a'' w''
      rw[List.length_range];refine⟨hs3.size,hs3.defers,fun t=>?_,hi3⟩
      have:=a81 (R:=fun x y=> ∀v,Rel G'' (H++List.replicate na zo) w'' x v->Rel G3 (H++List.replicate na zo) w'' y v) (t:=t) (l:=fun k=>if k=nr+j then true else l k) (l':=fun k=>if k=nr+j then true else l k) (z:=zA (al++[j])) (z':=zA (List.range na)) ops 0 env env (fun v r=>hlow3 _ v (henvlow t) r) fun k q hq hd=>⟨rfl,fun hlk=>?_⟩
      ·exact this _ (hs3.env t)
      ·rw[Nat.zero_add] at hlk⊢
       show∀v,Rel _ _ _ (if k < nr then zs k else AV.mp (H.length+(al++[j]).idxOf (k - nr)) 0) v->Rel _ _ _ (if k < nr then zs k else AV.mp (H.length+(List.range na).idxOf (k - nr)) 0) v
       by_cases hkn:k < nr
       ·rw[if_pos hkn,if_pos hkn]
        exact fun v r=>hlow3 _ v (hlow k hkn) r
       ·rw[if_neg hkn,if_neg hkn]
        have hkl:k < nr+na:=by
         rcases an9 k (nr+na) with h|h
         ·exact h
         ·have:=(kS (k - (nr+na)) q (by rw[show nr+na+(k - (nr+na))=k by omega];exact hq)).1
          rw[hd] at this;cases this
        rw[cb9 (by omega)]
        exact fun v r=>hr3 (k - nr) (by omega) v r
    ·exact⟨G'',al++[j],0,hnd',hmem',fun h=>absurd (fun k hk=>(hmem' k).2 ⟨hk,h k hk⟩) hperm,hstores (nr+j) hi,hm2,fun h=>absurd h (bu0 _),hst3,hs3⟩
  ·
   obtain⟨j,rfl⟩: ∃j,i=nr+na+j:=⟨i - (nr+na),by omega⟩
   have hall: ∀k,k < nr+na->l k=true:=fun k hk=>hbi k (kB k _ (by omega) hilt (by omega))
   have hal:al=List.range na:=hfull fun k hk=>hall _ (by omega)
   subst hal;have hmj:m=j:=by
    have h1: ¬j < m:=fun h=>by rw[(hm1 j hilt).2 h] at hl;cases hl
    rcases an9 m j with h|h
    ·have:=hbi (nr+na+m) (kB _ _ (by omega) hilt (by omega))
     have:=(hm1 m (by omega)).1 this
     omega
    ·omega
   subst hmj;have hHs:Hs (List.range na) m=oh m:=by
    show (if m=0 then H++List.replicate (List.range na).length zo else oh m)=oh m
    split
    ·rename_i h
     rw[h,oh0,List.length_range]
    ·rfl
   rw[hHs] at hst' hs;obtain⟨hdn,hgn⟩:=kS m o hoi;obtain⟨z,hz⟩:=hst m o hoi;have hs2:=hs.of_get (hfin l m hall);have hd:DoesE P L [] ops o env2 (oh m) z (oh (m+1)):=by
    unfold DoesE;rw[hgn];exact hz
   refine bQ4 hL (all:=ops.toArray) (by simpa using hops) ho' hd hs2 fun G'' a'' w'' hs'' hst''=>hK a'' w'' ?_
   rw[hdn] at hs'';refine⟨G'',List.range na,m+1,hnd,fun k=>?_,fun _=>rfl,fun k hk=>?_,by omega,fun _ k hk=>?_,?_,?_⟩
   ·rw[hmem]
    constructor
    ·exact fun h=>⟨h.1,by show (if nr+k=nr+na+m then true else l (nr+k))=true;rw[if_neg (by omega)];exact h.2⟩
    ·exact fun h=>⟨h.1,hall _ (by omega)⟩
   ·show (if nr+na+k=nr+na+m then true else l (nr+na+k))=true↔_
    by_cases hkm:k=m
    ·subst hkm
     simp
    ·rw[if_neg (by omega),hm1 k hk]
     omega
   ·show (if k=nr+na+m then true else l k)=true
    rw[if_neg (by omega)]
    exact hall k hk
   ·show Step G H w G'' (oh (m+1)) w''
    exact hst'.trans hst''
   ·show Sat n ds G'' _ (oh (m+1)) a'' w''
    refine hs''.of_get fun t=>?_
    exact(hfin (fun k=>if k=nr+na+m then true else l k) m (fun k hk=>by show (if k=nr+na+m then true else l k)=true;rw[if_neg (by omega)];exact hall k hk) t).symm
 ·rintro l a' w' hall ⟨G',al,m,hnd,hmem,hfull,hm1,hm2,hm3,hst',hs⟩
  have hal:al=List.range na:=hfull fun j hj=>hall _ (by omega)
  subst hal;have hmm:m=ops.length - (nr+na):=by
   rcases an9 m (ops.length - (nr+na)) with h|h
   ·have:=(hm1 m (by omega)).1 (hall _ (by omega))
    omega
   ·omega
  have hHs:Hs (List.range na) m=oh m:=by
   show (if m=0 then H++List.replicate (List.range na).length zo else oh m)=oh m
   split
   ·rename_i h
    rw[h,oh0,List.length_range]
   ·rfl
  rw[hHs] at hst' hs;rw[<-hmm] at hQ;exact⟨G',env2,oh m,hs.of_get (hfin l m fun i hi=>hall i (by omega)),hst',hQ⟩
def b39(P:Program)(f:AV)(args:List AV)(H:List AObj)(K:AV->Prop)[Tag K]:Prop:=
 match f with
 |.fn (.func g) fs cs=> ∃z,(∀M,o8 P g (fs++args++cs) (H++M) (fun x H'=>x=z/\H'=H++M))/\K z
 |_=>False
def cI8(P:Program)(L:Tab)(o:Oper)(env:Env)(H:List AObj)(K:AV->Prop):Prop:=
 match o.op with
 |.call c=>match c.callee with
  |.value f=>b39 P (ev env f) (c.args.toList.map (ev env)) H K
  |_=>False
 |.move _|.assign _|.slice .. |.fieldAddr .. |.field .. |.index .. |.indexAddr .. |.load .. |.sliceToArrayPointer .. |.extract .. |.build .. |.unOp .. =>az6 P L o env [] K
 |_=>False
theorem c38{P:Program}{L:Tab}{o:Oper}{env:Env}{H:List AObj}{K:AV->Prop}(h:cI8 P L o env H K): ∃z,(∀M,ar5 P L o env (H++M) z)/\K z:=by
 obtain⟨dst,op,ty,pos,af,g⟩:=o;cases op<;>simp only[cI8] at h<;>try exact h.elim
 case call c=>
  obtain⟨callee,args,ats⟩:=c;cases callee<;>simp only at h<;>try exact h.elim
  case value f=>
   unfold b39 at h;split at h
   ·rename_i g' fs cs ef
    obtain⟨z,hz,hk⟩:=h;refine⟨z,fun M=>?_,hk⟩
    unfold ar5 ac6;simp only;unfold ba3;rw[ef];exact hz M
   ·exact h.elim
 case load t x=>
  obtain⟨z,hz,hk⟩:=bk6 h;refine⟨z,fun M=>?_,hk⟩
  unfold ar5 at hz⊢;simp only[ac6] at hz⊢;cases hx:ev env x with
  |ip y=>
   rw[hx] at hz;exact⟨hz.1,hz.2.1,rfl⟩
  |_=>
   rw[hx] at hz;simp[aY3,lift] at hz
 all_goals
  obtain⟨z,hz,hk⟩:=bk6 h;exact⟨z,fun M=>cd9 rfl hz,hk⟩
def bW8:AV->Bool
 |.lit _=>true
 |_=>false
def aj9(P:Program)(L:Tab)(H:List AObj)(ops:List Oper)(env:Env)(j:Nat)(M:List AObj)(K:Env->List AObj->Prop)[Tag K]:Prop:=
 match ops with
 |[]=>K env M
 |o::r=>match o.op with
  |.alloc t=>known (L t)=true/\(L t).zero.all bW8=true/\aj9 P L H r (put o.dst (.mp (H.length+j) 0) env) (j+1) (M++[.cells (.one t) (L t).zero]) K
  |.store .. =>al0 P L [] o env M fun _ M'=>aj9 P L H r env j M' K
  |_=>cI8 P L o env H fun z=>Low H.length z/\aj9 P L H r (put o.dst z env) j M K
def cN6(o:Oper):Bool:=o.guard.isNone&&match o.op with
 |.alloc _=>false
 |.store .. =>false
 |_=>true
def stOp(o:Oper):Bool:=match o.op with
 |.store .. =>true
 |_=>false
def cq3(T:TypeId)(nr na:Nat)(ops:List Oper):Bool:=cJ3 T nr na ops&&(ops.take nr).all cN6&&(ops.drop (nr+na)).all stOp&&decide (nr+na<=ops.length)&&decide (0 < na)
section
variable {P:Program}{L:Tab}{H:List AObj}
theorem dF5{o:Oper}{r:List Oper}{env:Env}{j:Nat}{M:List AObj}{K:Env->List AObj->Prop}(ho:cN6 o=true)(h:aj9 P L H (o::r) env j M K):cI8 P L o env H fun z=>Low H.length z/\aj9 P L H r (put o.dst z env) j M K:=by
 obtain⟨d,op,ty,pos,af,g⟩:=o;unfold aj9 at h;cases op<;>simp[cN6] at ho<;>exact h
theorem cq2{K:Env->List AObj->Prop}{j:Nat}{M:List AObj}{all:List Oper}{rest:List Oper}: ∀(r:List Oper) (i:Nat) (env env₀:Env),(∀t,get env t=get env₀ t)->(∀o∈r,cN6 o=true)->aj9 P L H (r++rest) env j M K->
  ∃(zs:Nat->AV) (env':Env),(∀(k:Nat) o,r[k]?=some o->(∀M,DoesE P L [] all o (ab9 (fun j=>decide (j < i+k)) zs i (r++rest) env₀) (H++M) (zs (i+k)) (H++M))/\Low H.length (zs (i+k)))/\(∀t,get (ab9 (fun j=>decide (j < i+r.length)) zs i (r++rest) env₀) t=get env' t)/\aj9 P L H rest env' j M K
 |[],i,env,env₀,he,_,h=>⟨fun _=>.any,env,fun k o e=>by simp at e,fun t=>by
    rw[aI5 _ _ _ fun j _=>by simp]
    exact(he t).symm,h⟩
 |o::r,i,env,env₀,he,hr,h=>by
  obtain⟨z,hz,hl,hk⟩:=c38 (dF5 (hr o (au8 ..)) h);obtain⟨zs,env',h1,h2,h3⟩:=cq2 r (i+1) _ (put o.dst z env₀) (fun t=>by rw[get_put,get_put,he t]) (fun q hq=>hr q (aA0 _ hq)) hk
  refine⟨fun j=>if j=i then z else zs j,env',fun k q e=>?_,fun t=>?_,h3⟩
  ·cases k with
   |zero=>
    simp only[List.getElem?_cons_zero,Option.some.injEq] at e;subst e;refine⟨fun M=>?_,by simpa using hl⟩
    rw[aI5 _ _ _ fun j _=>by simp]
    have hg:o.guard=none:=by
     have:=hr o (au8 ..);simp only[cN6,xq3,Option.isNone_iff_eq_none] at this;exact this.1
    unfold DoesE;rw[hg];have:=hz M;unfold ar5 at this;rw[<-ba2 (env:=env) fun x _ t _=>he t]
    simpa using this
   |succ k=>
    have:=h1 k q (by simpa using e)
    have e1:ab9 (fun j=>decide (j < i+(k+1))) (fun j=>if j=i then z else zs j) i ((o::r)++rest) env₀=ab9 (fun j=>decide (j < i+1+k)) zs (i+1) (r++rest) (put o.dst z env₀):=by
     simp only[List.cons_append,ab9,show i < i+(k+1) by omega,decide_true,if_true]
     exact aT7 (r++rest) (i+1) _ fun j _=>⟨by rw[if_neg (by omega)],by rw[show i+(k+1)=i+1+k by omega]⟩
    rw[e1];simp only[show¬(i+(k+1)=i) by omega,if_false]
    rwa [show i+(k+1)=i+1+k by omega]
  ·have e1:ab9 (fun j=>decide (j < i+(o::r).length)) (fun j=>if j=i then z else zs j) i ((o::r)++rest) env₀=ab9 (fun j=>decide (j < i+1+r.length)) zs (i+1) (r++rest) (put o.dst z env₀):=by
    simp only[List.cons_append,List.length_cons,ab9,show i < i+(r.length+1) by omega,decide_true,if_true]
    exact aT7 (r++rest) (i+1) _ fun j _=>⟨by rw[if_neg (by omega)],decide_eq_decide.2 (by omega)⟩
   rw[e1];exact h2 t
theorem cb4{K:Env->List AObj->Prop}{T:TypeId}{rest:List Oper}: ∀(r:List Oper) (j i:Nat) (env env₀:Env) (M:List AObj),(∀t,get env t=get env₀ t)->(∀o∈r,∃d ty pos af,o=⟨d,.alloc T,ty,pos,af,none⟩)->aj9 P L H (r++rest) env j M K->
  ∃env',(∀t,get (ab9 (fun k=>decide (k < i+r.length)) (fun k=>.mp (H.length+(k - i+j)) 0) i (r++rest) env₀) t=get env' t)/\(r≠[]->known (L T)=true/\ ∀z∈(L T).zero,∃v,z=.lit v)/\aj9 P L H rest env' (j+r.length) (M++List.replicate r.length (.cells (.one T) (L T).zero)) K
 |[],j,i,env,env₀,M,he,_,h=>⟨env,fun t=>by
    rw[aI5 _ _ _ fun j _=>by simp]
    exact(he t).symm,fun h=>absurd rfl h,by simpa using h⟩
 |o::r,j,i,env,env₀,M,he,hr,h=>by
  obtain⟨d,ty,pos,af,rfl⟩:=hr o (au8 ..);obtain⟨h1,h2,h3⟩:known (L T)=true/\(L T).zero.all bW8=true/\aj9 P L H (r++rest) (put d (.mp (H.length+j) 0) env) (j+1) (M++[.cells (.one T) (L T).zero]) K:=by
   rw[List.cons_append] at h;unfold aj9 at h;exact h
  obtain⟨env',g1,_,g3⟩:=cb4 r (j+1) (i+1) _ (put d (.mp (H.length+j) 0) env₀) _ (fun t=>by rw[get_put,get_put,he t]) (fun q hq=>hr q (aA0 _ hq)) h3
  refine⟨env',fun t=>?_,fun _=>⟨h1,fun z hz=>?_⟩,?_⟩
  ·have e1:ab9 (fun k=>decide (k < i+(r.length+1))) (fun k=>.mp (H.length+(k - i+j)) 0) i (⟨d,.alloc T,ty,pos,af,none⟩::r++rest) env₀=ab9 (fun k=>decide (k < i+1+r.length)) (fun k=>.mp (H.length+(k - (i+1)+(j+1))) 0) (i+1) (r++rest) (put d (.mp (H.length+j) 0) env₀):=by
    simp only[List.cons_append,ab9,show i < i+(r.length+1) by omega,decide_true,if_true,ap6,Nat.zero_add]
    exact aT7 (r++rest) (i+1) _ fun k _=>⟨by rw[show i+1+k - i+j=i+1+k - (i+1)+(j+1) by omega],decide_eq_decide.2 (by omega)⟩
   rw[List.length_cons,e1];exact g1 t
  ·have:=xq5.1 h2 z hz
   cases z<;>simp[bW8] at this
   exact⟨_,rfl⟩
  ·rw[List.length_cons,show j+(r.length+1)=j+1+r.length by omega,di6]
   rw[List.append_assoc] at g3;exact g3
theorem ca9{K:Env->List AObj->Prop}{env:Env}{j:Nat}: ∀(r:List Oper) (M:List AObj),(∀o∈r,stOp o=true)->aj9 P L H r env j M K-> ∃oh:Nat->List AObj,oh 0=M/\(∀(k:Nat) o,r[k]?=some o-> ∃z,ac6 P L [] o env (oh k) fun x H'=>x=z/\H'=oh (k+1))/\K env (oh r.length)
 |[],M,_,h=>⟨fun _=>M,rfl,fun k o e=>by simp at e,h⟩
 |o::r,M,hr,h=>by
  have h':al0 P L [] o env M fun _ M'=>aj9 P L H r env j M' K:=by
   have:=hr o (au8 ..);obtain⟨d,op,ty,pos,af,g⟩:=o;unfold aj9 at h;cases op<;>simp[stOp] at this
   exact h
  obtain⟨z,M',hz,hk⟩:=b92 h';obtain⟨oh,h0,h1,h2⟩:=ca9 r M' (fun q hq=>hr q (aA0 _ hq)) hk
  refine⟨fun k=>if k=0 then M else oh (k - 1),rfl,fun k q e=>?_,?_⟩
  ·cases k with
   |zero=>
    simp only[List.getElem?_cons_zero,Option.some.injEq] at e;subst e;exact⟨z,by simpa [h0] using hz⟩
   |succ k=>
    simpa using h1 k q (by simpa using e)
  ·simpa using h2
theorem bI6{P:Program}{L:Tab}(hL:ad9 P L)(hm:P.follows .mixedOrders=true){n rid:Nat}(T:TypeId)(nr na:Nat){ops:List Oper}(hops:aA6 n ops=true)(hdr:aO3 ops=true)(hok:cq3 T nr na ops=true){Q:Exit->Env->List AObj->Prop}{env:Env}{H:List AObj}
  {K:Env->List AObj->Prop} (hK: ∀env H,K env H->Q .normal env H) (h:aj9 P L H ops env 0 H K):AW P n (.region rid ops.toArray true) Q env H:=by
 simp only[cq3,xq3,decide_eq_true_eq] at hok;obtain⟨⟨⟨⟨ok1,ok2⟩,ok3⟩,hlen⟩,hpos⟩:=hok;have e0:ops=ops.take nr++((ops.drop nr).take na++ops.drop (nr+na)):=by
  rw[<-List.drop_drop,bJ6,bJ6]
 have l1:(ops.take nr).length=nr:=by rw[List.length_take];omega
 have l2:((ops.drop nr).take na).length=na:=by rw[List.length_take,List.length_drop];omega
 have hA: ∀o∈(ops.drop nr).take na,∃d ty pos af,o=⟨d,.alloc T,ty,pos,af,none⟩:=fun o ho=>by
  have ok1':=ok1;simp only[cJ3,xq3,xq5] at ok1';have:=ok1'.1.1.1 o ho;obtain⟨d,op,ty,pos,af,g⟩:=o;cases op<;>simp at this
  obtain⟨rfl,h2⟩:=this;subst h2;exact⟨_,_,_,_,rfl⟩
 generalize hrs:ops.take nr=rs at*;generalize has:(ops.drop nr).take na=al at*;generalize hss:ops.drop (nr+na)=ss at*;rw[e0] at h;obtain⟨zs,env1,h1,h2,h3⟩:=cq2 (all:=ops) rs 0 env env (fun _=>rfl) (fun o ho=>xq5.1 ok2 o ho) h
 obtain⟨env2,g1,g2,g3⟩:=cb4 al 0 nr env1 env1 H (fun _=>rfl) hA h3
 obtain⟨oh,k0,k1,k2⟩:=ca9 ss _ (fun o ho=>xq5.1 ok3 o ho) g3
 obtain⟨hk,hz⟩:=g2 (by intro e;rw[e] at l2;simp at l2;omega)
 have hsplit: ∀(l:Nat->Bool) (z:Nat->AV) (a b:List Oper) (i:Nat) (e:Env),ab9 l z i (a++b) e=ab9 l z (i+a.length) b (ab9 l z i a e):=fun l z a=>by
  induction a with
  |nil=>intro b i e;rfl
  |cons o a ih=>
   intro b i e;simp only[List.cons_append,ab9,List.length_cons];rw[ih,show i+1+a.length=i+(a.length+1) by omega]
 have hcong: ∀(l l':Nat->Bool) (z z':Nat->AV) (a:List Oper) (i:Nat) (e e':Env),(∀t,get e t=get e' t)->(∀k,k < a.length->l (i+k)=l' (i+k)/\z (i+k)=z' (i+k))-> ∀t,get (ab9 l z i a e) t=get (ab9 l' z' i a e') t:=fun l l' z z' a i e e' he hk t=>
  a81 (R:=fun x y=>x=y) a i e e' (he t) fun j o ej _=>⟨(hk j (aa0 ej)).1,fun _=>(hk j (aa0 ej)).2⟩
 refine cG3 hL hm (T:=T) (nr:=nr) (na:=na) hops hdr ok1 hlen zs (fun i o hi e M=>?_) (fun i hi=>?_) hk hz env2 (fun t=>?_) oh (by rw[k0,l2]) (fun j o e=>?_) ?_
 ·have hi':rs[i]?=some o:=by rw[<-hrs,aK6,if_pos hi];exact e
  have:=(h1 i o hi').1 M;rw[Nat.zero_add,<-e0] at this;exact this
 ·have hi':rs[i]?=some rs[i]:=xq1 (by omega)
  have:=(h1 i _ hi').2;rwa [Nat.zero_add] at this
 ·rw[<-g1 t]
  conv=>lhs;rw[e0]
  rw[hsplit,Nat.zero_add,l1];refine hcong _ _ _ _ _ _ _ _ (fun t=>?_) (fun k hk=>?_) t
  ·rw[<-h2 t,Nat.zero_add,hsplit,Nat.zero_add,l1]
   have hn:ab9 (fun j=>decide (j < nr)) zs nr (al++ss) (ab9 (fun j=>decide (j < nr)) zs 0 rs env)=ab9 (fun j=>decide (j < nr)) zs 0 rs env:=aI5 _ _ _ fun j _=>by simp
   rw[hn];refine hcong _ _ _ _ _ _ _ _ (fun _=>rfl) (fun k hk=>⟨?_,?_⟩) t
   ·rw[Nat.zero_add,decide_eq_true (by omega),decide_eq_true (by omega)]
   ·show (if 0+k < nr then zs (0+k) else _)=_
    rw[if_pos (by omega)]
  ·refine⟨by rw[l2],?_⟩
   show (if nr+k < nr then zs (nr+k) else AV.mp (H.length+(nr+k - nr)) 0)=AV.mp (H.length+(nr+k - nr+0)) 0
   rw[if_neg (by omega),ar7]
 ·exact k1 j o (by rw[<-hss,aP9];exact e)
 ·have:ops.length - (nr+na)=ss.length:=by rw[<-hss,List.length_drop]
  rw[this];exact hK _ _ k2
theorem b85{P:Program}{L:Tab}(hL:ad9 P L)(hm:P.follows .mixedOrders=true)(mu:List Nat)(k:Nat)(T:TypeId)(nr na:Nat){n rid:Nat}{ops:List Oper}{rest:Code}{Q:Exit->Env->List AObj->Prop}{env:Env}{H:List AObj}(hok:(aA6 n ops&&aO3 ops&&cq3 T nr na ops&&okC mu n rest)=true)
  (h:aj9 P L H ops env 0 H fun env H=>bp3 P L mu n k rest Q env H):AW P n (.seq (.region rid ops.toArray true) rest) Q env H:=by
 simp only[xq3] at hok;obtain⟨⟨⟨o1,o2⟩,o3⟩,o4⟩:=hok;exact bI5 (bI6 hL hm T nr na o1 o2 o3 (fun env H q=>aW6 hL hm k rest o4 q) h)
end
theorem cY9{P:Program}{L:Tab}(hL:ad9 P L)(hm:P.follows .mixedOrders=true)(mu:List Nat)(T:TypeId)(nr na:Nat){n rid:Nat}{ops:List Oper}{rest:Code}{Q:Exit->Env->List AObj->Prop}{env:Env}{H:List AObj}(hok:(aA6 n ops&&aO3 ops&&cq3 T nr na ops&&okC mu n rest)=true)
  (h:aj9 P L H ops env 0 H fun env H=>vcC P L mu n rest Q env H):AW P n (.seq (.region rid ops.toArray true) rest) Q env H:=by
 simp only[xq3] at hok;obtain⟨⟨⟨o1,o2⟩,o3⟩,o4⟩:=hok;exact bI5 (bI6 hL hm T nr na o1 o2 o3 (fun env H q=>ak7 hL hm rest o4 q) h)
section
variable {P:Program}{L:Tab}{H M:List AObj}{r:List Oper}{env:Env}{j m:Nat}{K:Env->List AObj->Prop}{d:Option Tmp}{ty:TypeId}{pos:String}{af:Array Edge}
theorem eB7:aj9 P L H [] env j M K=K env M:=rfl
theorem dZ2{t:TypeId}:aj9 P L H (⟨d,.alloc t,ty,pos,af,none⟩::r) env j M K=(known (L t)=true/\(L t).zero.all bW8=true/\aj9 P L H r (put d (.mp (H.length+j) 0) env) (j+1) (M++[.cells (.one t) (L t).zero]) K):=rfl
theorem dZ0{t:TypeId}{a x:Operand}:aj9 P L H (⟨d,.store t a x,ty,pos,af,none⟩::r) env j M K=bs1 L t (ev env a) (ev env x) M fun _ M'=>aj9 P L H r env j M' K:=rfl
theorem dZ1{t:TypeId}{x:Operand}{lo hi mx:Option Operand}:aj9 P L H (⟨d,.slice t x lo hi mx,ty,pos,af,none⟩::r) env j M K=az6 P L ⟨d,.slice t x lo hi mx,ty,pos,af,none⟩ env [] fun z=>Low H.length z/\aj9 P L H r (put d z env) j M K:=rfl
theorem cR2{t:TypeId}{x:Operand}{f:Nat}:aj9 P L H (⟨d,.fieldAddr t x f,ty,pos,af,none⟩::r) env j M K=az6 P L ⟨d,.fieldAddr t x f,ty,pos,af,none⟩ env [] fun z=>Low H.length z/\aj9 P L H r (put d z env) j M K:=rfl
theorem ej6{t:TypeId}{x:Operand}:aj9 P L H (⟨d,.load t x,ty,pos,af,none⟩::r) env j M K=az6 P L ⟨d,.load t x,ty,pos,af,none⟩ env [] fun z=>Low H.length z/\aj9 P L H r (put d z env) j M K:=rfl
theorem bD4{t:TypeId}{x:Operand}:aj9 P L H (⟨d,.sliceToArrayPointer t x,ty,pos,af,none⟩::r) env j M K=az6 P L ⟨d,.sliceToArrayPointer t x,ty,pos,af,none⟩ env [] fun z=>Low H.length z/\aj9 P L H r (put d z env) j M K:=rfl
theorem ej7{f:Operand}{az:Array Operand}{ts:Array TypeId}:aj9 P L H (⟨d,.call ⟨.value f,az,ts⟩,ty,pos,af,none⟩::r) env j M K=b39 P (ev env f) (az.toList.map (ev env)) H fun z=>Low H.length z/\aj9 P L H r (put d z env) j M K:=rfl
theorem dM6{f:FuncId}{args:List AV}{D:AV->Prop}:b39 P (.fn (.func f) [] []) args H D= ∃z,(∀N M,N=H++M->o8 P f args N (fun x H'=>x=z/\H'=N))/\bf0 (D z):=by
 show (∃z,(∀M,o8 P f ([]++args++[]) (H++M) (fun x H'=>x=z/\H'=H++M))/\D z)=_
 simp only[List.nil_append,List.append_nil,bi7];apply propext
 exact⟨fun⟨z,h,k⟩=>⟨z,fun N M e=>e▸h M,k⟩,fun⟨z,h,k⟩=>⟨z,fun M=>h _ M rfl,k⟩⟩
theorem ek9{l:List UInt8}:Low m (.agg (l.map o7))=True:=eq_true (.agg _ fun x hx=>by
 obtain⟨b,_,rfl⟩:=xq6.1 hx;exact .lit _)
theorem eD8{l:List UInt8}:Low m (.ip (.agg (l.map o7)))=True:=eq_true (.ip _ fun x hx=>by
 obtain⟨b,_,rfl⟩:=xq6.1 hx;exact .lit _)
theorem eD6{l:List UInt8}{s:Nat}:Low m (.sl .sh s (l.map o7))=True:=eq_true af5
theorem dO8{k:Nat}{x:AV}(h:bW8 x=true):(List.replicate k x).all bW8=true:=by simp[h]
end
attribute [go_sem] eB7 dZ2 dZ0 ej7 dM6 ek9 eD8 eD6 bW8 dZ1 cR2 ej6 bD4
end V
end
section
namespace Fe
open Go V
abbrev W:=BitVec 64
def mW:W:=2251799813685247#64
def aj2(l:List W):Nat->List W×W
 |0=>(l,0)
 |i+1=>((aj2 l i).1.set i (((aj2 l i).1.getD i 0+(aj2 l i).2)&&&mW),((aj2 l i).1.getD i 0+(aj2 l i).2)>>>51)
def be5(l:List W):List W:=(aj2 l 5).1.set 0 ((aj2 l 5).1.getD 0 0+19*(aj2 l 5).2)
def af1(l:List W):List W:=be5 (be5 l)
def ag6:List W->Nat
 |[]=>0
 |x::l=>x.toNat+2251799813685248*ag6 l
def pF:Nat:=57896044618658097711785492504343953926634992332820282019728792003956564819949
theorem by1(x:W):(x&&&mW).toNat=x.toNat%2251799813685248:=by
 rw[cj3];exact cj1 x.toNat 51
theorem b47(x:W):(x>>>51).toNat=x.toNat/2251799813685248:=by
 rw[bt7,aK5]
theorem aH4{x y:W}(h:x.toNat+y.toNat < 18446744073709551616):(x+y).toNat=x.toNat+y.toNat:=by
 rw[bK2,ar2 h]
theorem b63{x:W}(h:x.toNat < 100000000000000000):(19*x).toNat=19*x.toNat:=by
 rw[bC2];show 19*x.toNat%_=_
 omega
theorem digit{x q:W}(hx:x.toNat < 1152921504606846976)(hq:q.toNat < 1048576):((x+q)&&&mW).toNat+2251799813685248*((x+q)>>>51).toNat=x.toNat+q.toNat/\((x+q)&&&mW).toNat < 2251799813685248/\((x+q)>>>51).toNat < 1024:=by
 rw[by1,b47,aH4 (by omega)]
 omega
def Lim(n:Nat)(l:List W):Prop:=l.length=5/\ ∀x∈l,x.toNat < n
theorem bW9{n:Nat}{l:List W}(h:Lim n l): ∃a b c d e,l=[a,b,c,d,e]/\a.toNat < n/\b.toNat < n/\c.toNat < n/\d.toNat < n/\e.toNat < n:=by
 obtain⟨hl,hx⟩:=h;match l,hl with
 |[a,b,c,d,e],_=>exact⟨a,b,c,d,e,rfl,hx _ (by simp),hx _ (by simp),hx _ (by simp),hx _ (by simp),hx _ (by simp)⟩
theorem bH1{n:Nat}{a b c d e:W}(h1:a.toNat < n)(h2:b.toNat < n)(h3:c.toNat < n)(h4:d.toNat < n)(h5:e.toNat < n):Lim n [a,b,c,d,e]:=⟨rfl,fun x hx=>by
 simp only[xq8,aK4,or_false] at hx;rcases hx with rfl|rfl|rfl|rfl|rfl<;>assumption⟩
theorem cP0{l:List W}(h:Lim 1152921504606846976 l): ∃a b c d e k,be5 l=[a,b,c,d,e]/\ag6 (be5 l)+pF*k=ag6 l/\a.toNat < 2251799813685248+19*1024/\b.toNat < 2251799813685248/\c.toNat < 2251799813685248/\d.toNat < 2251799813685248/\e.toNat < 2251799813685248/\a.toNat < 2251799813685248+19*k+1/\k < 1024:=by
 obtain⟨a,b,c,d,e,rfl,ha,hb,hc,hd,he⟩:=bW9 h;have hP: ∃q1 q2 q3 q4 q5 x1 x2 x3 x4 x5:W,be5 [a,b,c,d,e]=[x1+19*q5,x2,x3,x4,x5]/\x1.toNat+2251799813685248*q1.toNat=a.toNat/\x1.toNat < 2251799813685248/\q1.toNat < 1024/\x2.toNat+2251799813685248*q2.toNat=b.toNat+q1.toNat/\x2.toNat < 2251799813685248/\q2.toNat < 1024/\x3.toNat+2251799813685248*q3.toNat=c.toNat+q2.toNat/\x3.toNat < 2251799813685248/\q3.toNat < 1024/\x4.toNat+2251799813685248*q4.toNat=d.toNat+q3.toNat/\x4.toNat < 2251799813685248/\q4.toNat < 1024/\x5.toNat+2251799813685248*q5.toNat=e.toNat+q4.toNat/\x5.toNat < 2251799813685248/\q5.toNat < 1024:=by
  obtain⟨a1,a2,a3⟩:=digit (x:=a) (q:=0) ha (by decide)
  have h0:(0:W).toNat=0:=rfl;rw[h0] at a1;obtain⟨b1,b2,b3⟩:=digit (x:=b) (q:=(a+0)>>>51) hb (by omega)
  obtain⟨c1,c2,c3⟩:=digit (x:=c) (q:=(b+(a+0)>>>51)>>>51) hc (by omega)
  obtain⟨d1,d2,d3⟩:=digit (x:=d) (q:=(c+(b+(a+0)>>>51)>>>51)>>>51) hd (by omega)
  obtain⟨e1,e2,e3⟩:=digit (x:=e) (q:=(d+(c+(b+(a+0)>>>51)>>>51)>>>51)>>>51) he (by omega)
  exact⟨_,_,_,_,_,_,_,_,_,_,rfl,a1,a2,a3,b1,b2,b3,c1,c2,c3,d1,d2,d3,e1,e2,e3⟩
 obtain⟨q1,q2,q3,q4,q5,x1,x2,x3,x4,x5,h0,a1,a2,a3,b1,b2,b3,c1,c2,c3,d1,d2,d3,e1,e2,e3⟩:=hP;have hm:=b63 (x:=q5) (by omega)
 have hs:=aH4 (x:=x1) (y:=19*q5) (by omega)
 refine⟨_,_,_,_,_,q5.toNat,h0,?_,by omega,b2,c2,d2,e2,by omega,e3⟩
 rw[h0];simp only[ag6,pF];omega
theorem aX7{l:List W}(h:Lim 1152921504606846976 l):Lim 4503599627370496 (af1 l)/\ag6 (af1 l)%pF=ag6 l%pF/\ag6 (af1 l) < 2*pF:=by
 obtain⟨a,b,c,d,e,k,h1,h2,h3,h4,h5,h6,h7,h8,h9⟩:=cP0 h;have hl:Lim 1152921504606846976 (be5 l):=by rw[h1];exact bH1 (by omega) (by omega) (by omega) (by omega) (by omega)
 obtain⟨a',b',c',d',e',k',g1,g2,g3,g4,g5,g6,g7,g8,g9⟩:=cP0 hl;have hv:ag6 (af1 l)=ag6 [a',b',c',d',e']:=by unfold af1;rw[g1]
 have hp:pF=57896044618658097711785492504343953926634992332820282019728792003956564819949:=rfl;refine⟨?_,?_,?_⟩
 ·unfold af1;rw[g1];exact bH1 (by omega) (by omega) (by omega) (by omega) (by omega)
 ·have:ag6 l=ag6 (af1 l)+pF*(k'+k):=by
   unfold af1;rw[bf1];omega
  rw[this,bK1]
 ·rw[hv]
  simp only[ag6,hp];omega
def az0(f:Nat->W)(l:List W)(i:Nat):List W:=(List.range l.length).map fun j=>if j < i then f j else l.getD j 0
def ah4(l m:List W):List W:=af1 (az0 (fun j=>l.getD j 0+m.getD j 0) l 5)
def ae9(l m:List W):List W:=af1 ((az0 (fun j=>l.getD j 0+9007199254740988 - m.getD j 0) l 5).set 0 ((az0 (fun j=>l.getD j 0+9007199254740988 - m.getD j 0) l 5).getD 0 0 - 72))
theorem dc2{x y:W}(h:y.toNat<=x.toNat):(x - y).toNat=x.toNat - y.toNat:=BitVec.toNat_sub_of_le h
theorem dU2{l m:List W}(hl:Lim 4503599627370496 l)(hm:Lim 4503599627370496 m):Lim 4503599627370496 (ah4 l m)/\ag6 (ah4 l m)%pF=(ag6 l+ag6 m)%pF:=by
 obtain⟨a,b,c,d,e,rfl,ha,hb,hc,hd,he⟩:=bW9 hl;obtain⟨f,g,h,i,j,rfl,hf,hg,hh,hi,hj⟩:=bW9 hm;have hs:az0 (fun n=>[a,b,c,d,e].getD n 0+[f,g,h,i,j].getD n 0) [a,b,c,d,e] 5=[a+f,b+g,c+h,d+i,e+j]:=rfl
 have h1:=aH4 (x:=a) (y:=f) (by omega)
 have h2:=aH4 (x:=b) (y:=g) (by omega)
 have h3:=aH4 (x:=c) (y:=h) (by omega)
 have h4:=aH4 (x:=d) (y:=i) (by omega)
 have h5:=aH4 (x:=e) (y:=j) (by omega)
 have hv:=aX7 (bH1 (n:=1152921504606846976) (a:=a+f) (b:=b+g) (c:=c+h) (d:=d+i) (e:=e+j) (by omega) (by omega) (by omega) (by omega) (by omega))
 unfold ah4;rw[hs];refine⟨hv.1,?_⟩;rw[hv.2.1];congr 1
 simp only[ag6,h1,h2,h3,h4,h5];omega
theorem aT0{l m:List W}(hl:Lim 4503599627370496 l)(hm:Lim 4503599627370496 m):Lim 4503599627370496 (ae9 l m)/\(ag6 (ae9 l m)+ag6 m)%pF=ag6 l%pF:=by
 obtain⟨a,b,c,d,e,rfl,ha,hb,hc,hd,he⟩:=bW9 hl;obtain⟨f,g,h,i,j,rfl,hf,hg,hh,hi,hj⟩:=bW9 hm;have hs:(az0 (fun n=>[a,b,c,d,e].getD n 0+9007199254740988 - [f,g,h,i,j].getD n 0) [a,b,c,d,e] 5).set 0 ((az0 (fun n=>[a,b,c,d,e].getD n 0+9007199254740988 - [f,g,h,i,j].getD n 0) [a,b,c,d,e] 5).getD 0 0 - 72)=[a+9007199254740988 - f - 72,b+9007199254740988 - g,c+9007199254740988 - h,d+9007199254740988 - i,e+9007199254740988 - j]:=rfl
 have hq:(9007199254740988:W).toNat=9007199254740988:=rfl;have hq2:(72:W).toNat=72:=rfl;have hd1: ∀{x y:W},x.toNat < 4503599627370496->y.toNat < 4503599627370496->(x+9007199254740988 - y).toNat=x.toNat+9007199254740988 - y.toNat:=fun {x y} hx hy=>by
  have:=aH4 (x:=x) (y:=9007199254740988) (by omega)
  rw[dc2 (by omega),this,hq]
 have h1:=hd1 ha hf;have h2:=hd1 hb hg;have h3:=hd1 hc hh;have h4:=hd1 hd hi;have h5:=hd1 he hj;have h6:(a+9007199254740988 - f - 72).toNat=a.toNat+9007199254740988 - f.toNat - 72:=by rw[dc2 (by omega),h1,hq2]
 have hv:=aX7 (bH1 (n:=1152921504606846976) (a:=a+9007199254740988 - f - 72) (b:=b+9007199254740988 - g) (c:=c+9007199254740988 - h) (d:=d+9007199254740988 - i) (e:=e+9007199254740988 - j) (by omega) (by omega) (by omega) (by omega) (by omega))
 unfold ae9;rw[hs];refine⟨hv.1,?_⟩;rw[bK0,hv.2.1,<-bK0];have:ag6 [a+9007199254740988 - f - 72,b+9007199254740988 - g,c+9007199254740988 - h,d+9007199254740988 - i,e+9007199254740988 - j]+ag6 [f,g,h,i,j]=ag6 [a,b,c,d,e]+pF*4:=by
  simp only[ag6,h2,h3,h4,h5,h6,pF];omega
 rw[this,bK1]
def ai5(n:Nat)(x y:W):Nat:=(n+x.toNat*y.toNat)%340282366920938463463374607431768211456
def bR0(l m:List W)(n:Nat)(all:List Nat):List Nat:=all.set ((n/5+n%5)%5) (ai5 (all.getD ((n/5+n%5)%5) 0) (l.getD (n/5) 0) (if n/5+n%5 < 5 then m.getD (n%5) 0 else 19*m.getD (n%5) 0))
def au2(l m:List W):Nat->List Nat
 |0=>[0,0,0,0,0]
 |n+1=>bR0 l m n (au2 l m n)
def bw0(all:List Nat)(c:W)(i:Nat):Nat:=ai5 (all.getD i 0) c 1
def ap1(all:List Nat):Nat->List W×W
 |0=>([0,0,0,0,0],0)
 |i+1=>((ap1 all i).1.set i (BitVec.ofNat 64 (bw0 all (ap1 all i).2 i)&&&mW),BitVec.ofNat 64 (bw0 all (ap1 all i).2 i/2251799813685248))
def aa9(l m:List W):List W:=
 let s:=ap1 (au2 l m 25) 5
 af1 ((s.1.set 0 (s.1.getD 0 0+(BitVec.ofNat 64 (s.2.toNat*19)&&&mW))).set 1 (s.1.getD 1 0+BitVec.ofNat 64 (s.2.toNat*19/2251799813685248)))
theorem eR3(a b c d e f g h i j:W):au2 [a,b,c,d,e] [f,g,h,i,j] 25=
  [(a.toNat*f.toNat+b.toNat*(19*j).toNat+c.toNat*(19*i).toNat+d.toNat*(19*h).toNat+e.toNat*(19*g).toNat)%340282366920938463463374607431768211456,
   (a.toNat*g.toNat+b.toNat*f.toNat+c.toNat*(19*j).toNat+d.toNat*(19*i).toNat+e.toNat*(19*h).toNat)%340282366920938463463374607431768211456,
   (a.toNat*h.toNat+b.toNat*g.toNat+c.toNat*f.toNat+d.toNat*(19*j).toNat+e.toNat*(19*i).toNat)%340282366920938463463374607431768211456,
   (a.toNat*i.toNat+b.toNat*h.toNat+c.toNat*g.toNat+d.toNat*f.toNat+e.toNat*(19*j).toNat)%340282366920938463463374607431768211456,
   (a.toNat*j.toNat+b.toNat*i.toNat+c.toNat*h.toNat+d.toNat*g.toNat+e.toNat*f.toNat)%340282366920938463463374607431768211456]:=by
 have:au2 [a,b,c,d,e] [f,g,h,i,j] 25=[ai5 (ai5 (ai5 (ai5 (ai5 0 a f) b (19*j)) c (19*i)) d (19*h)) e (19*g),ai5 (ai5 (ai5 (ai5 (ai5 0 a g) b f) c (19*j)) d (19*i)) e (19*h),ai5 (ai5 (ai5 (ai5 (ai5 0 a h) b g) c f) d (19*j)) e (19*i),ai5 (ai5 (ai5 (ai5 (ai5 0 a i) b h) c g) d f) e (19*j),ai5 (ai5 (ai5 (ai5 (ai5 0 a j) b i) c h) d g) e f]:=by kernel_rfl
 rw[this];simp only[ai5,Nat.mod_add_mod,Nat.zero_add]
theorem dd4{x y a b:Nat}(hx:x < a)(hy:y < b):x*y < a*b:=Nat.mul_lt_mul'' hx hy
theorem bW1{n:Nat}{c:W}(hn:n < 5192296858534827628530496329220096):(BitVec.ofNat 64 (ai5 n c 1)&&&mW).toNat+2251799813685248*(BitVec.ofNat 64 (ai5 n c 1/2251799813685248)).toNat=n+c.toNat/\(BitVec.ofNat 64 (ai5 n c 1)&&&mW).toNat < 2251799813685248/\(BitVec.ofNat 64 (ai5 n c 1/2251799813685248)).toNat<=(n+c.toNat)/2251799813685248:=by
 have hw:ai5 n c 1=n+c.toNat:=by
  unfold ai5;show (n+c.toNat*1)%_=_
  omega
 have hc2:=c.isLt;rw[hw,by1,aC2,aC2];simp only[Nat.reducePow];omega
theorem eO3{s0 s1 s2 s3 s4:Nat}(h0:s0 < 5192296858534827628530496329220096)(h1:s1 < 5192296858534827628530496329220096)(h2:s2 < 5192296858534827628530496329220096)(h3:s3 < 5192296858534827628530496329220096)(h4:s4 < 5192296858534827628530496329220096):
  ∃x0 x1 x2 x3 x4 c:W,ap1 [s0,s1,s2,s3,s4] 5=([x0,x1,x2,x3,x4],c)/\x0.toNat < 2251799813685248/\x1.toNat < 2251799813685248/\x2.toNat < 2251799813685248/\x3.toNat < 2251799813685248/\x4.toNat < 2251799813685248/\c.toNat < 2305843009213703952/\
   x0.toNat+2251799813685248*(x1.toNat+2251799813685248*(x2.toNat+2251799813685248*(x3.toNat+2251799813685248*(x4.toNat+2251799813685248*c.toNat))))=s0+2251799813685248*(s1+2251799813685248*(s2+2251799813685248*(s3+2251799813685248*s4))):=by
 have z:(0:W).toNat=0:=rfl;obtain⟨a1,a2,a3⟩:=bW1 (n:=s0) (c:=0) h0;obtain⟨b1,b2,b3⟩:=bW1 (n:=s1) (c:=BitVec.ofNat 64 (ai5 s0 0 1/2251799813685248)) h1;obtain⟨c1,c2,c3⟩:=bW1 (n:=s2) (c:=BitVec.ofNat 64 (ai5 s1 (BitVec.ofNat 64 (ai5 s0 0 1/2251799813685248)) 1/2251799813685248)) h2;obtain⟨d1,d2,d3⟩:=bW1 (n:=s3) (c:=BitVec.ofNat 64 (ai5 s2 (BitVec.ofNat 64 (ai5 s1 (BitVec.ofNat 64 (ai5 s0 0 1/2251799813685248)) 1/2251799813685248)) 1/2251799813685248)) h3;obtain⟨e1,e2,e3⟩:=bW1 (n:=s4) (c:=BitVec.ofNat 64 (ai5 s3 (BitVec.ofNat 64 (ai5 s2 (BitVec.ofNat 64 (ai5 s1 (BitVec.ofNat 64 (ai5 s0 0 1/2251799813685248)) 1/2251799813685248)) 1/2251799813685248)) 1/2251799813685248)) h4;rw[z] at a1 a3;have hP: ∃x0 x1 x2 x3 x4 q0 q1 q2 q3 q4:W,ap1 [s0,s1,s2,s3,s4] 5=([x0,x1,x2,x3,x4],q4)/\x0.toNat+2251799813685248*q0.toNat=s0+0/\x0.toNat < 2251799813685248/\x1.toNat+2251799813685248*q1.toNat=s1+q0.toNat/\x1.toNat < 2251799813685248/\x2.toNat+2251799813685248*q2.toNat=s2+q1.toNat/\x2.toNat < 2251799813685248/\x3.toNat+2251799813685248*q3.toNat=s3+q2.toNat/\x3.toNat < 2251799813685248/\x4.toNat+2251799813685248*q4.toNat=s4+q3.toNat/\x4.toNat < 2251799813685248:=
  ⟨_,_,_,_,_,_,_,_,_,_,rfl,a1,a2,b1,b2,c1,c2,d1,d2,e1,e2⟩
 clear a1 a2 a3 b1 b2 b3 c1 c2 c3 d1 d2 d3 e1 e2 e3;obtain⟨x0,x1,x2,x3,x4,q0,q1,q2,q3,q4,h,a1,a2,b1,b2,c1,c2,d1,d2,e1,e2⟩:=hP;have l3:=q3.isLt;refine⟨x0,x1,x2,x3,x4,q4,h,a2,b2,c2,d2,e2,by omega,by omega⟩
theorem dx9{l m:List W}(hl:Lim 4503599627370496 l)(hm:Lim 4503599627370496 m):Lim 4503599627370496 (aa9 l m)/\ag6 (aa9 l m)%pF=ag6 l*ag6 m%pF:=by
 obtain⟨a,b,c,d,e,rfl,ha,hb,hc,hd,he⟩:=bW9 hl;obtain⟨f,g,h,i,j,rfl,hf,hg,hh,hi,hj⟩:=bW9 hm;have n1:=b63 (x:=g) (by omega)
 have n2:=b63 (x:=h) (by omega)
 have n3:=b63 (x:=i) (by omega)
 have n4:=b63 (x:=j) (by omega)
 have q: ∀{x y:W},x.toNat < 4503599627370496->y.toNat < 4503599627370496->x.toNat*y.toNat < 20282409603651670423947251286016:=fun hx hy=>dd4 hx hy
 have hA:=eR3 a b c d e f g h i j;rw[n1,n2,n3,n4] at hA;have w: ∀x y:Nat,x*(19*y)=19*(x*y):=fun x y=>by rw[Nat.mul_left_comm]
 simp only[w] at hA;have v:ag6 [a,b,c,d,e]*ag6 [f,g,h,i,j]=
  (a.toNat*f.toNat+19*(b.toNat*j.toNat)+19*(c.toNat*i.toNat)+19*(d.toNat*h.toNat)+19*(e.toNat*g.toNat))
  +2251799813685248*((a.toNat*g.toNat+b.toNat*f.toNat+19*(c.toNat*j.toNat)+19*(d.toNat*i.toNat)+19*(e.toNat*h.toNat))
  +2251799813685248*((a.toNat*h.toNat+b.toNat*g.toNat+c.toNat*f.toNat+19*(d.toNat*j.toNat)+19*(e.toNat*i.toNat))
  +2251799813685248*((a.toNat*i.toNat+b.toNat*h.toNat+c.toNat*g.toNat+d.toNat*f.toNat+19*(e.toNat*j.toNat))
  +2251799813685248*(a.toNat*j.toNat+b.toNat*i.toNat+c.toNat*h.toNat+d.toNat*g.toNat+e.toNat*f.toNat))))
  +pF*((b.toNat*j.toNat+c.toNat*i.toNat+d.toNat*h.toNat+e.toNat*g.toNat)+2251799813685248*((c.toNat*j.toNat+d.toNat*i.toNat+e.toNat*h.toNat)+2251799813685248*((d.toNat*j.toNat+e.toNat*i.toNat)+2251799813685248*(e.toNat*j.toNat)))):=by
  simp only[ag6,pF];grind
 have b1:=q ha hf;have b2:=q hb hj;have b3:=q hc hi;have b4:=q hd hh;have b5:=q he hg;have b6:=q ha hg;have b7:=q hb hf;have b8:=q hc hj;have b9:=q hd hi;have b10:=q he hh;have b11:=q ha hh;have b12:=q hb hg;have b13:=q hc hf;have b14:=q hd hj;have b15:=q he hi;have b16:=q ha hi;have b17:=q hb hh;have b18:=q hc hg;have b19:=q hd hf;have b20:=q he hj;have b21:=q ha hj;have b22:=q hb hi;have b23:=q hc hh;have b24:=q hd hg;have b25:=q he hf;rw[ar2 (by omega),ar2 (by omega),ar2 (by omega),ar2 (by omega),ar2 (by omega)] at hA
 rw[v,bK1];obtain⟨x0,x1,x2,x3,x4,k,ho,y0,y1,y2,y3,y4,yk,hv⟩:=eO3 (s0:=a.toNat*f.toNat+19*(b.toNat*j.toNat)+19*(c.toNat*i.toNat)+19*(d.toNat*h.toNat)+19*(e.toNat*g.toNat)) (s1:=a.toNat*g.toNat+b.toNat*f.toNat+19*(c.toNat*j.toNat)+19*(d.toNat*i.toNat)+19*(e.toNat*h.toNat)) (s2:=a.toNat*h.toNat+b.toNat*g.toNat+c.toNat*f.toNat+19*(d.toNat*j.toNat)+19*(e.toNat*i.toNat)) (s3:=a.toNat*i.toNat+b.toNat*h.toNat+c.toNat*g.toNat+d.toNat*f.toNat+19*(e.toNat*j.toNat)) (s4:=a.toNat*j.toNat+b.toNat*i.toNat+c.toNat*h.toNat+d.toNat*g.toNat+e.toNat*f.toNat) (by omega) (by omega) (by omega) (by omega) (by omega)
 rw[<-hv];rw[<-hA] at ho;have e1:aa9 [a,b,c,d,e] [f,g,h,i,j]=af1 [x0+(BitVec.ofNat 64 (k.toNat*19)&&&mW),x1+BitVec.ofNat 64 (k.toNat*19/2251799813685248),x2,x3,x4]:=by
  unfold aa9;rw[ho];rfl
 have p1:(BitVec.ofNat 64 (k.toNat*19)&&&mW).toNat+2251799813685248*(BitVec.ofNat 64 (k.toNat*19/2251799813685248)).toNat=19*k.toNat/\(BitVec.ofNat 64 (k.toNat*19)&&&mW).toNat < 2251799813685248/\(BitVec.ofNat 64 (k.toNat*19/2251799813685248)).toNat < 20000:=by
  rw[by1,aC2,aC2];simp only[Nat.reducePow];rw[cG8 _ (by decide:2251799813685248∣18446744073709551616),ar2 (a:=k.toNat*19/2251799813685248) (aC3 ((cH4 (by decide)).2 (show k.toNat*19 < 20000*2251799813685248 by clear hv hA;omega)) (by decide))]
  refine⟨?_,a96 _ (by decide),(cH4 (by decide)).2 (by clear hv hA;omega)⟩
  have:=Nat.mod_add_div (k.toNat*19) 2251799813685248;rw[this,aZ1]
 generalize (BitVec.ofNat 64 (k.toNat*19)&&&mW)=u1 at*;generalize BitVec.ofNat 64 (k.toNat*19/2251799813685248)=u2 at*;have t1:=aH4 (x:=x0) (y:=u1) (by omega)
 have t2:=aH4 (x:=x1) (y:=u2) (by omega)
 have hc:=aX7 (bH1 (n:=1152921504606846976) (a:=x0+u1) (b:=x1+u2) (c:=x2) (d:=x3) (e:=x4) (by omega) (by omega) (by omega) (by omega) (by omega))
 rw[e1];refine⟨hc.1,?_⟩;rw[hc.2.1];have:x0.toNat+2251799813685248*(x1.toNat+2251799813685248*(x2.toNat+2251799813685248*(x3.toNat+2251799813685248*(x4.toNat+2251799813685248*k.toNat))))=ag6 [x0+u1,x1+u2,x2,x3,x4]+pF*k.toNat:=by
  simp only[ag6,pF,t1,t2];omega
 rw[this,bK1]
end Fe
end
end Go.Proofs.YtpplfhfoljjipaaGreatDoor
