/- Primes, and powers modulo them. No program in sight. -/
import Derived.Test.YtpplfhfoljjipaaGreatDoorW7
import Derived.Test.YtpplfhfoljjipaaGreatDoorW3
import Derived.Test.YtpplfhfoljjipaaGreatDoorCards
import Derived.Test.YtpplfhfoljjipaaGreatDoorTie
import Derived.ProofKit
import Derived.OpenShut
import Derived.Shelf.Vars
import Derived.Deep.DeepWitnessRowRef
set_option linter.unusedVariables false
set_option linter.unusedSimpArgs false
set_option maxRecDepth 100000
set_option maxHeartbeats 4000000
namespace Go.Proofs.YtpplfhfoljjipaaGreatDoor
section
namespace Nu
open Go V Fe Cu
def Pr(n:Nat):Prop:=2<=n/\ ∀m,m∣n->m=1\/m=n
theorem bV5{p a b:Nat}(hp:Pr p)(h:p∣a*b):p∣a\/p∣b:=by
 rcases hp.2 (Nat.gcd p a) (Nat.gcd_dvd_left p a) with h1|h1
 ·exact .inr (Nat.Coprime.dvd_of_dvd_mul_left h1 h)
 ·exact .inl (h1▸Nat.gcd_dvd_right p a)
theorem eN5: ∀n,2<=n-> ∃q,Pr q/\q∣n:=by
 intro n;induction n using Nat.strongRecOn with
 |_ n ih=>
  intro h;by_cases hp:Pr n
  ·exact⟨n,hp,Nat.dvd_refl n⟩
  ·obtain⟨m,hm,h1,h2⟩: ∃m,m∣n/\m≠1/\m≠n:=by
    apply Classical.byContradiction
    intro hc;refine hp ⟨h,fun m hm=>?_⟩
    by_cases h1:m=1
    ·exact .inl h1
    ·by_cases h2:m=n
     ·exact .inr h2
     ·exact absurd ⟨m,hm,h1,h2⟩ hc
   have hle:=by4 (by omega) hm
   have h0:m≠0:=fun e=>by
    subst e;have:=Nat.eq_zero_of_zero_dvd hm;omega
   obtain⟨q,hq,hd⟩:=ih m (by omega) (by omega)
   exact⟨q,hq,Nat.dvd_trans hd hm⟩
def aB3:List Nat->Nat
 |[]=>1
 |a::r=>a*aB3 r
theorem cn9{x:Nat}: ∀{L:List Nat},x∈L->aB3 L=x*aB3 (L.erase x)
 |y::r,h=>by
  by_cases e:y=x
  ·subst e
   rw[List.erase_cons_head];rfl
  ·have hx:x∈r:=by
    rcases xq8.1 h with h|h
    ·exact absurd h.symm e
    ·exact h
   rw[List.erase_cons_tail (by simpa using e)]
   show y*aB3 r=x*(y*aB3 (r.erase x))
   rw[cn9 hx];simp only[Nat.mul_left_comm]
theorem cB9: ∀(M L:List Nat),M.Nodup->(∀x∈M,x∈L)->M.length=L.length->aB3 M=aB3 L
 |[],L,_,_,h=>by rw[aR5 h.symm]
 |x::M,L,hd,hs,hl=>by
  have hx:=hs x (au8 ..);obtain⟨hn,hd2⟩:=ch8.1 hd;rw[cn9 hx];show x*aB3 M=_
  rw[cB9 M (L.erase x) hd2 (fun y hy=>(List.mem_erase_of_ne (fun e:y=x=>hn (by rw[<-e];exact hy))).2 (hs y (aA0 _ hy))) (by rw[List.length_erase_of_mem hx,<-hl];rfl)]
theorem cO6(a p:Nat): ∀L:List Nat,aB3 (L.map fun k=>a*k%p)%p=a^L.length*aB3 L%p
 |[]=>by simp[aB3]
 |k::L=>by
  show (a*k%p)*aB3 (L.map _)%p=a^(L.length+1)*(k*aB3 L)%p
  rw[bJ2,cO6 a p L,bJ1,<-bJ2,aM5];congr 1
  ac_rfl
theorem cO5{p:Nat}(hp:Pr p): ∀L:List Nat,(∀x∈L,¬p∣x)-> ¬p∣aB3 L
 |[],_,h=>by
  have:=by4 (by decide) h
  have:=hp.1;show False
  simp only[aB3] at*;omega
 |x::L,hx,h=>by
  rcases bV5 hp h with h|h
  ·exact hx x (au8 ..) h
  ·exact cO5 hp L (fun y hy=>hx y (aA0 _ hy)) h
theorem bj3{p a b:Nat}(h:a%p=b%p):p∣a - b:=di5 (Nat.sub_mod_eq_zero_of_mod_eq h)
theorem dq9{p x:Nat}(hx:1<=x)(h:p∣x - 1):x%p=1%p:=by
 obtain⟨k,hk⟩:=h;rw[show x=1+p*k by omega,bK1]
theorem dL3{p a:Nat}(hp:Pr p)(ha: ¬p∣a):a^(p - 1)%p=1:=by
 have h2:=hp.1;let L:=(List.range (p - 1)).map (· +1)
 have hL: ∀x,x∈L↔1<=x/\x < p:=fun x=>by
  simp only[L,xq6,ba0];constructor
  ·rintro⟨y,hy,rfl⟩
   omega
  ·intro h
   exact⟨x - 1,by omega,by omega⟩
 have hLl:L.length=p - 1:=by simp[L]
 have hLn:L.Nodup:=by
  simp only[L,List.Nodup,List.pairwise_map];exact(List.nodup_range (n:=p - 1)).imp fun h=>by omega
 have inj: ∀i j,i < p->j < p->j<=i->a*i%p=a*j%p->i=j:=fun i j hi hj hle h=>by
  have h1:=bj3 h;rw[<-Nat.mul_sub] at h1;rcases bV5 hp h1 with h1|h1
  ·exact absurd h1 ha
  ·rcases a98 (i - j) with h3|h3
   ·omega
   ·have:=by4 h3 h1
    omega
 have hM:aB3 (L.map fun k=>a*k%p)=aB3 L:=by
  refine cB9 _ _ ?_ (fun x hx=>?_) (by simp)
  ·rw[List.Nodup,List.pairwise_map]
   refine List.Pairwise.imp_of_mem (fun {i j} hi hj hne e=>?_) hLn
   have hi:=(hL i).1 hi;have hj:=(hL j).1 hj;rcases Nat.le_total i j with h|h
   ·exact hne (inj j i hj.2 hi.2 h e.symm).symm
   ·exact hne (inj i j hi.2 hj.2 h e)
  ·obtain⟨k,hk,rfl⟩:=xq6.1 hx
   have hk:=(hL k).1 hk;refine(hL _).2 ⟨?_,a96 _ (by omega)⟩
   rcases a98 (a*k%p) with h0|h0
   ·rcases bV5 hp (di5 h0) with h1|h1
    ·exact absurd h1 ha
    ·have:=by4 (by omega) h1
     omega
   ·exact h0
 have h1:=cO6 a p L;rw[hM,hLl] at h1;have hP:=cO5 hp L fun x hx hd=>by
  have hx:=(hL x).1 hx;have:=by4 (by omega) hd
  omega
 have hpos:1<=a^(p - 1):=Nat.pow_pos (Nat.pos_of_ne_zero fun e=>ha (by rw[e];exact Nat.dvd_zero p))
 have h3:=bj3 h1.symm;have h4:a^(p - 1)*aB3 L - aB3 L=(a^(p - 1) - 1)*aB3 L:=by rw[Nat.sub_mul,bf4]
 rw[h4] at h3;rcases bV5 hp h3 with h5|h5
 ·rw[dq9 hpos h5,ar2 (by omega)]
 ·exact absurd h5 hP
theorem eg6{r a:Nat}(hr:2<=r)(m n:Nat):a^m%r=1->a^n%r=1->a^(Nat.gcd m n)%r=1:=by
 induction m,n using Nat.gcd.induction with
 |H0 n=>intro _ h;rw[Nat.gcd_zero_left];exact h
 |H1 m n hm ih=>
  intro h1 h2;rw[Nat.gcd_rec];refine ih ?_ h1;have e:a^n=(a^m)^(n/m)*a^(n%m):=by rw[<-bS8,<-bC4,bJ7]
  rw[e,bJ2,Nat.pow_mod,h1,Nat.one_pow,ar2 (by omega:1 < r),bf4,bJ1] at h2
  exact h2
theorem eT6{N q m a x:Nat}(hN:2<=N)(hq:Pr q)(hm:N - 1=q*m)(h1:a^(N - 1)%N=1)(hx:a^m%N=x)(h2:Nat.gcd (x+N - 1) N=1)(r:Nat)(hr:Pr r)(hd:r∣N):q∣r - 1:=by
 subst hx;have h2r:=hr.1;have e1:a^(N - 1)%r=1:=by
  rw[<-cG8 _ hd,h1,ar2 (by omega)]
 have e2:(a^m)^q%r=1:=by rw[<-bS8,aZ1 m q,<-hm];exact e1
 have hna: ¬r∣a^m:=fun h=>by
  have hq1:=hq.1;have:r∣(a^m)^q:=by
   rw[show q=(q - 1)+1 by omega,aM5]
   exact Nat.dvd_trans h (Nat.dvd_mul_left _ _)
  rw[Nat.mod_eq_zero_of_dvd this] at e2;cases e2
 have e3:=dL3 hr hna;rcases hq.2 (Nat.gcd q (r - 1)) (Nat.gcd_dvd_left _ _) with h|h
 ·have e4:=eg6 h2r q (r - 1) e2 e3
  rw[h,Nat.pow_one] at e4;exfalso
  have h5:r∣a^m%N+N - 1:=by
   have hx:a^m%N%r=1:=by rw[cG8 _ hd];exact e4
   have hge:1<=a^m%N:=by
    rcases a98 (a^m%N) with h0|h0
    ·rw[h0] at hx;cases hx
    ·exact h0
   have h6:r∣a^m%N - 1:=bj3 (by rw[hx,ar2 (by omega)])
   have:a^m%N+N - 1=(a^m%N - 1)+N:=by omega
   rw[this];exact Nat.dvd_add h6 hd
  have:=Nat.dvd_gcd h5 hd;rw[h2] at this;have:=by4 (by decide) this
  omega
 ·rw[<-h]
  exact Nat.gcd_dvd_right _ _
theorem cJ2{N F:Nat}(hN:2<=N)(hF:N < F*F)(h: ∀r,Pr r->r∣N->F∣r - 1):Pr N:=by
 refine⟨hN,fun m hm=>?_⟩
 apply Classical.byContradiction
 intro hc;obtain⟨k,rfl⟩:=hm;have big: ∀x,x∣m*k->2<=x->F < x:=fun x hx h2=>by
  obtain⟨r,hr,hd⟩:=eN5 x h2;have h1:=h r hr (Nat.dvd_trans hd hx);have h3:=hr.1;have h4:=by4 (by omega) h1
  have h5:=by4 (by omega) hd
  omega
 have hm0:m≠0:=fun e=>by subst e;rw[by6] at hN;omega
 have hm1:m≠1:=fun e=>hc (.inl e)
 have hk0:k≠0:=fun e=>by subst e;rw[by5] at hN;omega
 have hk1:k≠1:=fun e=>hc (.inr (by rw[e,Nat.mul_one]))
 have a1:=big m (Nat.dvd_mul_right _ _) (by omega)
 have a2:=big k (Nat.dvd_mul_left _ _) (by omega)
 have:=Nat.mul_lt_mul'' a1 a2;omega
noncomputable def pmG(n:Nat)(f:Nat):Nat->Nat->Nat->Nat:=
 Nat.rec (motive:=fun _=>Nat->Nat->Nat->Nat) (fun _ _ c=>c) (fun _ r b e c=>force (b*b%n) fun b2=>force (e/2) fun e2=>force ((e%2)*(c*b%n)+(1 - e%2)*c) fun c2=>r b2 e2 c2) f
theorem eb3(n:Nat): ∀(f b e c:Nat),e < 2^f->pmG n f b e c%n=c*b^e%n
 |0,b,e,c,h=>by
  obtain rfl:e=0:=by simpa using h
  show c%n=_
  rw[bf2,Nat.mul_one]
 |f+1,b,e,c,h=>by
  have e1:pmG n (f+1) b e c=force (b*b%n) fun b2=>force (e/2) fun e2=>force ((e%2)*(c*b%n)+(1 - e%2)*c) fun c2=>pmG n f b2 e2 c2:=rfl
  rw[e1,force_eq,force_eq,force_eq,eb3 n f _ _ _ (by rw[aM5] at h;omega)]
  have e2:b^e=(b*b)^(e/2)*b^(e%2):=by
   rw[<-Nat.pow_two,<-bS8,<-bC4,bJ7]
  rw[e2,bJ2,Nat.pow_mod,bJ1,<-Nat.pow_mod,<-bJ2];rcases(by omega:e%2=0\/e%2=1) with h|h<;>rw[h]
  ·simp
  ·simp only[bf4,ap6,by6,ar7,Nat.pow_one]
   rw[bJ2,bJ1,<-bJ2];congr 1
   ac_rfl
theorem do7{n b e x:Nat}(f:Nat)(he:e < 2^f)(h:pmG n f b e 1%n=x):b^e%n=x:=by rw[<-h,eb3 n f b e 1 he,bf4]
theorem bN4{N q m:Nat}(f:Nat)(hN:2<=N)(hq:Pr q)(hm:N - 1=q*m)(hf:N < 2^f)(h1:pmG N f 2 (N - 1) 1%N=1)(h2:Nat.gcd (pmG N f 2 m 1%N+N - 1) N=1)(r:Nat)(hr:Pr r)(hd:r∣N):q∣r - 1:=
 eT6 hN hq hm (do7 f (by omega) h1) (do7 f (by
  have:m<=q*m:=Nat.le_mul_of_pos_left m (by have:=hq.1;omega)
  omega) rfl) h2 r hr hd
def dl4(n:Nat):Nat->Bool
 |0=>true
 |k+1=>!(Nat.beq (n%(k+2)) 0)&&dl4 n k
theorem dx8{n:Nat}: ∀{k:Nat},dl4 n k=true-> ∀d,2<=d->d<=k+1-> ¬d∣n
 |0,_,d,h1,h2,_=>by omega
 |k+1,h,d,h1,h2,hd=>by
  unfold dl4 at h;rw[xq3] at h;by_cases e:d=k+2
  ·subst e
   have h0:=h.1;rw[Nat.mod_eq_zero_of_dvd hd] at h0;cases h0
  ·exact dx8 h.2 d h1 (by omega) hd
theorem co1{n:Nat}(k:Nat)(hn:2<=n)(hk:n < (k+2)*(k+2))(h:dl4 n k=true):Pr n:=by
 refine⟨hn,fun m hm=>?_⟩
 apply Classical.byContradiction
 intro hc;obtain⟨j,rfl⟩:=hm;have big: ∀x,x∣m*j->2<=x->k+2<=x:=fun x hx h2=>by
  apply Classical.byContradiction
  intro hh;exact dx8 h x h2 (by omega) hx
 have hm0:m≠0:=fun e=>by subst e;rw[by6] at hn;omega
 have hm1:m≠1:=fun e=>hc (.inl e)
 have hk0:j≠0:=fun e=>by subst e;rw[by5] at hn;omega
 have hk1:j≠1:=fun e=>hc (.inr (by rw[e,Nat.mul_one]))
 have a1:=big m (Nat.dvd_mul_right _ _) (by omega)
 have a2:=big j (Nat.dvd_mul_left _ _) (by omega)
 have:=cH7 a1 a2;omega
end Nu
end
section
namespace Nu
open Go V Fe Cu
theorem eT5:Pr 127:=co1 10 (by decide) (by decide) (by kernel_rfl)
theorem eT4:Pr 8574133:=co1 2927 (by decide) (by decide) (by kernel_rfl)
theorem eT3:Pr 75707:=co1 274 (by decide) (by decide) (by kernel_rfl)
theorem eT2:Pr 132049:=co1 362 (by decide) (by decide) (by kernel_rfl)
theorem eT1:Pr 1919519569386763:=cJ2 (F:=8574133*127) (by decide) (by decide) fun r hr hd=>Nat.Coprime.mul_dvd_of_dvd_of_dvd (by decide)
 (bN4 (m:=223873314) 64 (by decide) eT4 (by decide) (by decide) (by kernel_rfl) (by kernel_rfl) r hr hd)
 (bN4 (m:=15114327318006) 64 (by decide) eT5 (by decide) (by decide) (by kernel_rfl) (by kernel_rfl) r hr hd)
theorem eT0:Pr 75445702479781427272750846543864801:=cJ2 (F:=1919519569386763*75707) (by decide) (by decide) fun r hr hd=>Nat.Coprime.mul_dvd_of_dvd_of_dvd (show Nat.gcd _ _=1 by kernel_rfl)
 (bN4 (m:=39304471641247389600) 128 (by decide) eT1 (by decide) (by decide) (by kernel_rfl) (by kernel_rfl) r hr hd)
 (bN4 (m:=996548568557483816196003626400) 128 (by decide) eT3 (by decide) (by decide) (by kernel_rfl) (by kernel_rfl) r hr hd)
theorem eS9:Pr 74058212732561358302231226437062788676166966415465897661863160754340907:=cJ2 (F:=75445702479781427272750846543864801*132049) (by decide) (by decide) fun r hr hd=>Nat.Coprime.mul_dvd_of_dvd_of_dvd (show Nat.gcd _ _=1 by kernel_rfl)
 (bN4 (m:=981609426360740691344999861639072106) 256 (by decide) eT0 (by decide) (by decide) (by kernel_rfl) (by kernel_rfl) r hr hd)
 (bN4 (m:=560838875966961948233089432233964578877287722099113947563882806794) 256 (by decide) eT2 (by decide) (by decide) (by kernel_rfl) (by kernel_rfl) r hr hd)
theorem ez8:Pr pF:=cJ2 (F:=74058212732561358302231226437062788676166966415465897661863160754340907) (by decide) (by decide)
 (bN4 (m:=781764) 256 (by decide) eS9 (by decide) (by decide) (by kernel_rfl) (by kernel_rfl))
instance:NeZero pF:=⟨by decide⟩
abbrev F:Type:=Fin pF
def cF(n:Nat):F:=Fin.ofNat pF n
theorem bx5(n:Nat):(cF n).val=n%pF:=rfl
theorem br8(x:F):cF x.val=x:=Fin.ext (ar2 x.isLt)
theorem cY2(n:Nat):cF (n%pF)=cF n:=Fin.ext (bJ1 _ _)
theorem bI2(a b:Nat):cF (a*b%pF)=cF a*cF b:=Fin.ext (by rw[Fin.val_mul,bx5,bx5,bx5,bJ1,bJ2])
theorem dN1(a b:Nat):cF ((a+b)%pF)=cF a+cF b:=Fin.ext (by rw[Fin.val_add,bx5,bx5,bx5,bJ1,bK0])
theorem eJ7(a b:Nat)(h:b < pF):cF ((a+(pF - b))%pF)=cF a - cF b:=Fin.ext (by
 rw[Fin.sub_def];show (a+(pF - b))%pF%pF=(pF - b%pF+a%pF)%pF
 rw[bJ1,ar2 h,bJ9,bK0,bK0 (pF - b) (a%pF),bJ1])
theorem eQ3{a b:Nat}:cF a=cF b↔a%pF=b%pF:=⟨fun h=>congrArg Fin.val h,fun h=>Fin.ext h⟩
def pwF(x:F):Nat->F
 |0=>1
 |n+1=>pwF x n*x
theorem cu0(a:Nat): ∀n,cF (a^n%pF)=pwF (cF a) n
 |0=>rfl
 |n+1=>by
  rw[pwF,<-cu0 a n,<-bI2,eQ3,aM5];simp
theorem aM3{x y:F}(h:x*y=0):x=0\/y=0:=by
 have h1:=congrArg Fin.val h;rw[Fin.val_mul] at h1;have h2:pF∣x.val*y.val:=di5 h1;rcases bV5 ez8 h2 with h3|h3
 ·exact .inl (Fin.ext (di4 h3 x.isLt))
 ·exact .inr (Fin.ext (di4 h3 y.isLt))
theorem dt7{x:F}(h:x≠0):pwF x (pF - 1)=1:=by
 have h1: ¬pF∣x.val:=fun hd=>h (Fin.ext (di4 hd x.isLt))
 have h2:=dL3 ez8 h1;rw[<-br8 x,<-cu0,h2];rfl
end Nu
end
section
namespace Nu
open Go V Fe Cu
theorem cx1(x y:F): ∀n,pwF (x*y) n=pwF x n*pwF y n
 |0=>by simp only[pwF];grobner
 |n+1=>by rw[pwF,pwF,pwF,cx1 x y n];grobner
theorem cx3(x:F)(m:Nat): ∀n,pwF x (m+n)=pwF x m*pwF x n
 |0=>by rw[ar7,pwF];grobner
 |n+1=>by rw[<-aP8,pwF,pwF,cx3 x m n];grobner
theorem powS(x:F)(n:Nat):pwF (x*x) n=pwF x (n+n):=by rw[cx1,cx3]
theorem cL3:(1:F)+1≠0:=fun h=>absurd (congrArg Fin.val h) (by decide)
theorem cp9:(1:F)≠0:=fun h=>absurd (congrArg Fin.val h) (by decide)
def bD7(x:F):F:=pwF x (pF - 2)
theorem bt0{x:F}(h:x≠0):x*bD7 x=1:=by
 have h1:=dt7 h;rw[show pF - 1=(pF - 2)+1 by decide,pwF] at h1
 unfold bD7;grobner
theorem en4:bD7 1=1:=by
 have:=bt0 cp9;grobner
theorem can{x y z:F}(h:z≠0)(e:x*z=y*z):x=y:=by
 have h1:=bt0 h;have:x*z*bD7 z=y*z*bD7 z:=by rw[e]
 grobner
theorem ay6{x y:F}(hx:x≠0)(hy:y≠0):x*y≠0:=fun h=>(aM3 h).elim hx hy
def bvW(n:List W):Nat->Nat
 |0=>0
 |k+1=>(if bp2 n k=true then 2^k else 0)+bvW n k
theorem cx2(a:Nat)(n:List W): ∀k x,cF (bh4 a n k x)=pwF (cF x) (2^k)*pwF (cF a) (bvW n k)
 |0,x=>by
  show cF x=_
  rw[bvW,bf2];show _=1*cF x*1
  grobner
 |k+1,x=>by
  have e1:bh4 a n (k+1) x=force (x*x%pF) fun y=>Bool.rec (bh4 a n k y) (force (y*a%pF) (bh4 a n k)) (bp2 n k):=rfl
  have e2:pwF (cF x) (2^(k+1))=pwF (cF x) (2^k)*pwF (cF x) (2^k):=by rw[<-cx3,show 2^(k+1)=2^k+2^k by rw[aM5];omega]
  rw[e1,force_eq,e2,bvW];cases bp2 n k with
  |true=>
   show cF (force _ _)=_
   rw[force_eq,cx2 a n k,bI2,bI2,cx1,cx1,if_pos rfl,cx3];grobner
  |false=>
   show cF (bh4 a n k _)=_
   rw[cx2 a n k,bI2,cx1,if_neg (by decide),Nat.zero_add]
theorem dN3:bvW aF8 256=pF - 2:=by kernel_rfl
theorem es8:bvW aY2 256=(pF+3)/8:=by kernel_rfl
theorem one_pow(n:Nat):pwF (cF 1) n=1:=by
 rw[<-cu0,Nat.one_pow];rfl
def dF:F:=cF b59
theorem eU9:dF≠0:=fun h=>absurd (congrArg Fin.val h) (by rw[show dF.val=b59%pF from rfl];decide+kernel)
theorem eN1{a n x:Nat}(f:Nat)(h:n < 2^f)(hx:pmG pF f a n 1%pF=x):pwF (cF a) n=cF x:=by rw[<-cu0,do7 f h hx]
theorem eP6:pwF dF ((pF - 1)/2)=cF (pF - 1):=eN1 256 (by decide) (by kernel_rfl)
theorem dN0:cF (pF - 1)+1=0:=by
 have:=dN1 (pF - 1) 1;rw[show (pF - 1+1)%pF=0 by decide] at this
 have h1:cF 1=1:=rfl;have h0:cF 0=0:=rfl;rw[h1,h0] at this;exact this.symm
theorem dq2{u w:F}(hw:w≠0):u*u≠dF*(w*w):=fun h=>by
 have hn:(pF - 1)/2+(pF - 1)/2=pF - 1:=by decide
 by_cases hu:u=0
 ·subst hu
  have h1:dF*(w*w)=0:=by rw[<-h];grobner
  rcases aM3 h1 with h2|h2
  ·exact eU9 h2
  ·exact(aM3 h2).elim hw hw
 ·have h1:pwF (u*u) ((pF - 1)/2)=pwF (dF*(w*w)) ((pF - 1)/2):=by rw[h]
  rw[powS,hn,dt7 hu,cx1,powS,hn,dt7 hw,eP6] at h1;have h2:=dN0;have h3:cF (pF - 1)=1:=by grobner
  rw[h3] at h2;exact cL3 h2
def iF:F:=cF ck4
theorem d27:iF*iF+1=0:=by
 have h:cF (ck4*ck4%pF)=cF (pF - 1):=congrArg cF (by kernel_rfl)
 rw[bI2] at h;have h2:=dN0;unfold iF;rw[h];exact h2
end Nu
end
section
namespace Nu
open Go V Fe Cu
abbrev A:Type:=F×F
def On(P:A):Prop:=P.2*P.2 - P.1*P.1=1+dF*(P.1*P.1)*(P.2*P.2)
def ee(P Q:A):F:=dF*P.1*Q.1*P.2*Q.2
def aq1(P Q:A):A:=((P.1*Q.2+Q.1*P.2)*bD7 (1+ee P Q),(P.2*Q.2+P.1*Q.1)*bD7 (1 - ee P Q))
theorem comp{P Q:A}(hP:On P)(hQ:On Q){e:F}(he:e*e=1):ee P Q≠e:=by
 obtain⟨x1,y1⟩:=P;obtain⟨x2,y2⟩:=Q;unfold On ee at*;dsimp only at*;intro h;have hi:=d27;have he0:e≠0:=fun h0=>by
  rw[h0] at he;exact cp9 (by grobner)
 have hx:x1*y1≠0:=fun h0=>he0 (by grobner)
 have s1:(iF*x1+e*y1)*(iF*x1+e*y1)=dF*((x1*y1*(iF*x2+y2))*(x1*y1*(iF*x2+y2))):=by grobner
 have s2:(iF*x1 - e*y1)*(iF*x1 - e*y1)=dF*((x1*y1*(iF*x2 - y2))*(x1*y1*(iF*x2 - y2))):=by grobner
 by_cases h1:iF*x2+y2=0
 ·by_cases h2:iF*x2 - y2=0
  ·have h3:(1+1)*y2=0:=by grobner
   rcases aM3 h3 with h4|h4
   ·exact cL3 h4
   ·exact he0 (by grobner)
  ·exact dq2 (ay6 hx h2) s2
 ·exact dq2 (ay6 hx h1) s1
theorem br6{P Q:A}(hP:On P)(hQ:On Q):1+ee P Q≠0:=fun h=>comp hP hQ (e:= -1) (by grobner) (by grobner)
theorem br7{P Q:A}(hP:On P)(hQ:On Q):1 - ee P Q≠0:=fun h=>comp hP hQ (e:=1) (by grobner) (by grobner)
theorem bB9{P Q:A}(hP:On P)(hQ:On Q):(aq1 P Q).1*(1+ee P Q)=P.1*Q.2+Q.1*P.2:=by
 have:=bt0 (br6 hP hQ);show (P.1*Q.2+Q.1*P.2)*bD7 (1+ee P Q)*(1+ee P Q)=_
 grobner
theorem bB8{P Q:A}(hP:On P)(hQ:On Q):(aq1 P Q).2*(1 - ee P Q)=P.2*Q.2+P.1*Q.1:=by
 have:=bt0 (br7 hP hQ);show (P.2*Q.2+P.1*Q.1)*bD7 (1 - ee P Q)*(1 - ee P Q)=_
 grobner
theorem eg7(d x1 y1 x2 y2:F)(hP:y1*y1 - x1*x1=1+d*(x1*x1)*(y1*y1))(hQ:y2*y2 - x2*x2=1+d*(x2*x2)*(y2*y2)):(y1*y2+x1*x2)*(y1*y2+x1*x2)*((1+d*x1*x2*y1*y2)*(1+d*x1*x2*y1*y2)) - (x1*y2+x2*y1)*(x1*y2+x2*y1)*((1 - d*x1*x2*y1*y2)*(1 - d*x1*x2*y1*y2))=(1+d*x1*x2*y1*y2)*(1+d*x1*x2*y1*y2)*((1 - d*x1*x2*y1*y2)*(1 - d*x1*x2*y1*y2))+d*((x1*y2+x2*y1)*(x1*y2+x2*y1))*((y1*y2+x1*x2)*(y1*y2+x1*x2)):=by grobner
theorem eA0(d x1 y1 x2 y2 x3 y3:F)(hP:y1*y1 - x1*x1=1+d*(x1*x1)*(y1*y1))(hQ:y2*y2 - x2*x2=1+d*(x2*x2)*(y2*y2))(hR:y3*y3 - x3*x3=1+d*(x3*x3)*(y3*y3)):((x1*y2+x2*y1)*(1 - d*x1*x2*y1*y2)*y3+x3*(y1*y2+x1*x2)*(1+d*x1*x2*y1*y2))*((1+d*x2*x3*y2*y3)*(1 - d*x2*x3*y2*y3)+d*x1*y1*(x2*y3+x3*y2)*(y2*y3+x2*x3))=(x1*(y2*y3+x2*x3)*(1+d*x2*x3*y2*y3)+(x2*y3+x3*y2)*y1*(1 - d*x2*x3*y2*y3))*((1+d*x1*x2*y1*y2)*(1 - d*x1*x2*y1*y2)+d*x3*y3*(x1*y2+x2*y1)*(y1*y2+x1*x2)):=by grobner
theorem ez9(d x1 y1 x2 y2 x3 y3:F)(hP:y1*y1 - x1*x1=1+d*(x1*x1)*(y1*y1))(hQ:y2*y2 - x2*x2=1+d*(x2*x2)*(y2*y2))(hR:y3*y3 - x3*x3=1+d*(x3*x3)*(y3*y3)):((y1*y2+x1*x2)*(1+d*x1*x2*y1*y2)*y3+(x1*y2+x2*y1)*(1 - d*x1*x2*y1*y2)*x3)*((1+d*x2*x3*y2*y3)*(1 - d*x2*x3*y2*y3) - d*x1*y1*(x2*y3+x3*y2)*(y2*y3+x2*x3))=(y1*(y2*y3+x2*x3)*(1+d*x2*x3*y2*y3)+x1*(x2*y3+x3*y2)*(1 - d*x2*x3*y2*y3))*((1+d*x1*x2*y1*y2)*(1 - d*x1*x2*y1*y2) - d*x3*y3*(x1*y2+x2*y1)*(y1*y2+x1*x2)):=by grobner
theorem bZ3{P Q:A}(hP:On P)(hQ:On Q):On (aq1 P Q):=by
 have hx:=bB9 hP hQ;have hy:=bB8 hP hQ;have hp:=br6 hP hQ;have hm:=br7 hP hQ;generalize aq1 P Q=R at*;obtain⟨x1,y1⟩:=P;obtain⟨x2,y2⟩:=Q;obtain⟨x3,y3⟩:=R;unfold On ee at*;dsimp only at*;have key:=eg7 dF x1 y1 x2 y2 hP hQ;rw[<-hx,<-hy] at key;generalize 1+dF*x1*x2*y1*y2=g at*;generalize 1 - dF*x1*x2*y1*y2=h at*;refine can (ay6 (ay6 hp hp) (ay6 hm hm)) ?_;clear hx hy hP hQ hp hm;grobner
theorem add_assoc{P Q R:A}(hP:On P)(hQ:On Q)(hR:On R):aq1 (aq1 P Q) R=aq1 P (aq1 Q R):=by
 have hPQ:=bZ3 hP hQ;have hQR:=bZ3 hQ hR;have a1:=bB9 hP hQ;have a2:=bB8 hP hQ;have a3:=bB9 hQ hR;have a4:=bB8 hQ hR;have b1:=bB9 hPQ hR;have b2:=bB8 hPQ hR;have b3:=bB9 hP hQR;have b4:=bB8 hP hQR;have n1:=br6 hP hQ;have n2:=br7 hP hQ;have n3:=br6 hQ hR;have n4:=br7 hQ hR;have n5:=br6 hPQ hR;have n6:=br7 hPQ hR;have n7:=br6 hP hQR;have n8:=br7 hP hQR;generalize aq1 (aq1 P Q) R=S at*;generalize aq1 P (aq1 Q R)=T at*;generalize aq1 P Q=U at*;generalize aq1 Q R=V at*;obtain⟨x1,y1⟩:=P;obtain⟨x2,y2⟩:=Q;obtain⟨x3,y3⟩:=R;obtain⟨x4,y4⟩:=U;obtain⟨x5,y5⟩:=V;obtain⟨x6,y6⟩:=S;obtain⟨x7,y7⟩:=T;unfold On ee at*;dsimp only at*;have k1:=eA0 dF x1 y1 x2 y2 x3 y3 hP hQ hR;have k2:=ez9 dF x1 y1 x2 y2 x3 y3 hP hQ hR;rw[<-a1,<-a2,<-a3,<-a4] at k1 k2;clear hP hQ hR hPQ hQR a1 a2 a3 a4;generalize 1+dF*x1*x2*y1*y2=g1 at*;generalize 1 - dF*x1*x2*y1*y2=g2 at*;generalize 1+dF*x2*x3*y2*y3=g3 at*;generalize 1 - dF*x2*x3*y2*y3=g4 at*;have hn:=ay6 (ay6 n1 n2) (ay6 n3 n4);have q1:(x4*y3+x3*y4)*(1+dF*x1*x5*y1*y5)=(x1*y5+x5*y1)*(1+dF*x4*x3*y4*y3):=can hn (by clear k2 b1 b2 b3 b4 n1 n2 n3 n4 n5 n6 n7 n8 hn;grobner)
 have q2:(y4*y3+x4*x3)*(1 - dF*x1*x5*y1*y5)=(y1*y5+x1*x5)*(1 - dF*x4*x3*y4*y3):=can hn (by clear q1 k1 b1 b2 b3 b4 n1 n2 n3 n4 n5 n6 n7 n8 hn;grobner)
 clear k1 k2 hn n1 n2 n3 n4;generalize 1+dF*x1*x5*y1*y5=h1 at*;generalize 1 - dF*x1*x5*y1*y5=h2 at*;generalize 1+dF*x4*x3*y4*y3=h3 at*;generalize 1 - dF*x4*x3*y4*y3=h4 at*;have r1:x6=x7:=can (ay6 n5 n7) (by clear q2 b2 b4 n5 n6 n7 n8;grobner)
 have r2:y6=y7:=can (ay6 n6 n8) (by clear r1 q1 b1 b3 n5 n6 n7 n8;grobner)
 rw[r1,r2]
theorem bZ4(P Q:A):aq1 P Q=aq1 Q P:=by
 have h:ee P Q=ee Q P:=by unfold ee;grobner
 unfold aq1;rw[h,show P.1*Q.2+Q.1*P.2=Q.1*P.2+P.1*Q.2 by grobner,show P.2*Q.2+P.1*Q.1=Q.2*P.2+Q.1*P.1 by grobner]
def O:A:=(0,1)
def bD5(P:A):A:=(0 - P.1,P.2)
theorem eV5:On O:=by
 unfold On O;grobner
theorem bw1{P:A}(h:On P):On (bD5 P):=by
 unfold On bD5 at*;grobner
theorem eA1(x:F):x+0=x:=by grobner
theorem de3(x:F):x - 0=x:=by grobner
theorem cu8(P:A):aq1 P O=P:=by
 have h:ee P O=0:=by unfold ee O;grobner
 unfold aq1;rw[h,eA1,de3,en4];unfold O;refine Prod.ext ?_ ?_
 ·show (P.1*1+0*P.2)*1=P.1
  grobner
 ·show (P.2*1+P.1*0)*1=P.2
  grobner
theorem eu1{P:A}(h:On P):aq1 (bD5 P) P=O:=by
 have a1:=bB9 (bw1 h) h;have a2:=bB8 (bw1 h) h;have n1:=br6 (bw1 h) h;have n2:=br7 (bw1 h) h;generalize aq1 (bD5 P) P=R at*;unfold On at h;unfold bD5 ee at*;dsimp only at*;refine Prod.ext ?_ ?_
 ·refine can n1 ?_
  show _=(0:F)*_
  grobner
 ·refine can n2 ?_
  show _=(1:F)*_
  grobner
def nA(P:A):Nat->A
 |0=>O
 |n+1=>aq1 (nA P n) P
theorem bi1{P:A}(h:On P): ∀n,On (nA P n)
 |0=>eV5
 |n+1=>bZ3 (bi1 h n) h
theorem cq4{P:A}(h:On P)(m:Nat): ∀n,nA P (m+n)=aq1 (nA P m) (nA P n)
 |0=>(cu8 _).symm
 |n+1=>by
  show aq1 (nA P (m+n)) P=aq1 (nA P m) (aq1 (nA P n) P)
  rw[cq4 h m n,add_assoc (bi1 h m) (bi1 h n) h]
theorem n_O: ∀n,nA O n=O
 |0=>rfl
 |n+1=>by
  show aq1 (nA O n) O=O
  rw[n_O n,cu8]
theorem dq7{P:A}(h:On P)(m:Nat): ∀n,nA P (m*n)=nA (nA P m) n
 |0=>rfl
 |n+1=>by
  show nA P (m*n+m)=aq1 (nA (nA P m) n) (nA P m)
  rw[cq4 h,dq7 h m n]
theorem eO4{P Q:A}(hP:On P)(hQ:On Q)(n:Nat):nA (aq1 P Q) n=aq1 (nA P n) (nA Q n):=by
 induction n with
 |zero=>rw[nA,nA,nA,cu8]
 |succ n ih=>
  have e1:=bi1 hP n;have e2:=bi1 hQ n;rw[nA,nA,nA,ih,add_assoc e1 e2 (bZ3 hP hQ),add_assoc e1 hP (bZ3 e2 hQ),<-add_assoc e2 hP hQ,<-add_assoc hP e2 hQ,bZ4 (nA Q n) P]
theorem eC9{P Q:A}(hP:On P)(hQ:On Q)(n:Nat):aq1 (nA (bD5 P) n) (aq1 (nA P n) Q)=Q:=by
 have e1:=bi1 (bw1 hP) n;have e2:=bi1 hP n;rw[<-add_assoc e1 e2 hQ,<-eO4 (bw1 hP) hP,eu1 hP,n_O,bZ4,cu8]
end Nu
end
section
namespace Nu
open Go V Fe Cu
abbrev Ok(l:List W):Prop:=Lim 4503599627370496 l
def vF(l:List W):F:=cF (ag6 l)
theorem cc8{l:List W}(h:Ok l):Is l (vF l).val:=⟨h,rfl⟩
theorem bu6{l:List W}{n:Nat}(h:Is l n):Ok l/\vF l=cF n:=⟨h.1,by rw[<-h.2,cY2];rfl⟩
theorem ao9{l m:List W}(hl:Ok l)(hm:Ok m):Ok (aa9 l m)/\vF (aa9 l m)=vF l*vF m:=by
 have h:=bu6 (ak5 (cc8 hl) (cc8 hm));rw[bI2,br8,br8] at h;exact h
theorem aR7{l m:List W}(hl:Ok l)(hm:Ok m):Ok (ah4 l m)/\vF (ah4 l m)=vF l+vF m:=by
 have h:=bu6 (aE7 (cc8 hl) (cc8 hm));rw[dN1,br8,br8] at h;exact h
theorem aO5{l m:List W}(hl:Ok l)(hm:Ok m):Ok (ae9 l m)/\vF (ae9 l m)=vF l - vF m:=by
 have h:=bu6 (aF7 (cc8 hl) (cc8 hm));rw[eJ7 _ _ (vF m).isLt,br8,br8] at h;exact h
theorem aW7:Ok zeroE/\vF zeroE=0:=bu6 bi6
theorem b42:Ok ax8/\vF ax8=1:=bu6 bH3
theorem bU1:Ok aD7/\vF aD7=dF:=bu6 b69
theorem dx4:Ok aX9/\vF aX9=iF:=bu6 de9
theorem dW5(x:F):1*x=x:=by grobner
theorem cc7{l:List W}(n:List W)(h:Ok l):Ok (al8 l n)/\vF (al8 l n)=pwF (vF l) (bvW n 256):=by
 have h:=bu6 (bA5 n (cc8 h));rw[cx2,br8,one_pow,dW5] at h;exact h
theorem aU5{l:List W}(h:Ok l):al3 l=leN 32 (vF l).val:=by
 have e:(vF l).val=ag6 l%pF:=bx5 _;rw[e];exact aT2 ⟨h,rfl⟩
def bE2(q:List W)(P:A):Prop:=Ok (pX q)/\Ok (pY q)/\Ok (pZ q)/\vF (pZ q)≠0/\vF (pX q)=P.1*vF (pZ q)/\vF (pY q)=P.2*vF (pZ q)
def aZ9(q:List W)(P:A):Prop:=bE2 q P/\Ok (pT q)/\vF (pT q)=P.1*P.2*vF (pZ q)
theorem cN7{q:List W}{P:A}(h:bE2 q P):bE2 (q.take 15) P:=by
 unfold bE2 pX pY pZ at*;rw[bJ3,b03,b03,bJ3,bJ3];exact h
theorem cN8{e f g h:List W}{P:A}(he:Ok e)(hf:Ok f)(hg:Ok g)(hh:Ok h)(h1:vF f≠0)(h2:vF g≠0)(hx:vF e=P.1*vF g)(hy:vF h=P.2*vF f):aZ9 (ax4 e f g h) P:=by
 obtain⟨e1,e2,e3,e4⟩:=dv1 (ad8 e f) (ad8 g h) (ad8 f g) (ad8 e h);unfold ax4 aZ9 bE2;rw[e1,e2,e3,e4];obtain⟨a1,b1⟩:=ao9 he hf;obtain⟨a2,b2⟩:=ao9 hg hh;obtain⟨a3,b3⟩:=ao9 hf hg;obtain⟨a4,b4⟩:=ao9 he hh;rw[b1,b2,b3,b4,hx,hy];exact⟨⟨a1,a2,a3,ay6 h1 h2,by grobner,by grobner⟩,a4,by grobner⟩
theorem cn2{x y:List W}(hx:Ok x)(hy:Ok y):aZ9 (ay0 x y) (vF x,vF y):=by
 obtain⟨e1,e2,e3,e4⟩:=dv1 hx.1 hy.1 (c:=ax8) rfl (ad8 x y);obtain⟨a1,b1⟩:=ao9 hx hy;obtain⟨a2,b2⟩:=b42;unfold ay0 aZ9 bE2;rw[e1,e2,e3,e4,b1,b2];exact⟨⟨hx,hy,a2,cp9,by grobner,by grobner⟩,a1,by grobner⟩
theorem ey9:aZ9 bk0 O:=by
 have h:=cn2 aW7.1 b42.1;rw[aW7.2,b42.2] at h;exact h
theorem q_1{z w d a b c e:F}:z*w+z*w+a*b*z*(c*e*w)*(d+d)=(1+1)*(z*w)*(1+d*a*c*b*e):=by grobner
theorem q_2{z w d a b c e:F}:z*w+z*w - a*b*z*(c*e*w)*(d+d)=(1+1)*(z*w)*(1 - d*a*c*b*e):=by grobner
theorem q_3{z w a b c e r g:F}(h:r*g=a*e+c*b):(b*z+a*z)*(e*w+c*w) - (b*z - a*z)*(e*w - c*w)=r*((1+1)*(z*w)*g):=by grobner
theorem q_4{z w a b c e r g:F}(h:r*g=b*e+a*c):(b*z+a*z)*(e*w+c*w)+(b*z - a*z)*(e*w - c*w)=r*((1+1)*(z*w)*g):=by grobner
theorem d_1{a b z r:F}(h:r*(b*b - a*a)=a*b+a*b):a*z*(a*z)+b*z*(b*z) - (a*z+b*z)*(a*z+b*z)=r*(a*z*(a*z) - b*z*(b*z)):=by grobner
theorem d_2{a b z r:F}(h:r*(1+1+a*a - b*b)=b*b+a*a):a*z*(a*z)+b*z*(b*z)=r*(z*z+z*z+(a*z*(a*z) - b*z*(b*z))):=by grobner
theorem d_3{a b z:F}(h:a*z*(a*z) - b*z*(b*z)=0):(b*b - a*a)*(z*z)=0:=by grobner
theorem d_4{a b z:F}(h:z*z+z*z+(a*z*(a*z) - b*z*(b*z))=0):(1+1+a*a - b*b)*(z*z)=0:=by grobner
theorem d_5{d a b:F}(h:b*b - a*a=1+d*(a*a)*(b*b)):1+d*a*a*b*b=b*b - a*a:=by grobner
theorem d_6{d a b:F}(h:b*b - a*a=1+d*(a*a)*(b*b)):1 - d*a*a*b*b=1+1+a*a - b*b:=by grobner
theorem dC0{p q:List W}{P Q:A}(hp:aZ9 p P)(hq:aZ9 q Q)(oP:On P)(oQ:On Q):aZ9 (bb6 p q) (aq1 P Q):=by
 obtain⟨⟨p1,p2,p3,pz,px,py⟩,p4,pt⟩:=hp;obtain⟨⟨q1,q2,q3,qz,qx,qy⟩,q4,qt⟩:=hq;have hx:=bB9 oP oQ;have hy:=bB8 oP oQ;have n1:=br6 oP oQ;have n2:=br7 oP oQ;obtain⟨u1,v1⟩:=aO5 p2 p1;obtain⟨u2,v2⟩:=aO5 q2 q1;obtain⟨u3,v3⟩:=ao9 u1 u2;obtain⟨u4,v4⟩:=aR7 p2 p1;obtain⟨u5,v5⟩:=aR7 q2 q1;obtain⟨u6,v6⟩:=ao9 u4 u5;obtain⟨u7,v7⟩:=ao9 p4 q4;obtain⟨u8,v8⟩:=aR7 bU1.1 bU1.1;obtain⟨u9,v9⟩:=ao9 u7 u8;obtain⟨w1,x1⟩:=ao9 p3 q3;obtain⟨w2,x2⟩:=aR7 w1 w1;obtain⟨w3,x3⟩:=aO5 u6 u3;obtain⟨w4,x4⟩:=aO5 w2 u9;obtain⟨w5,x5⟩:=aR7 w2 u9;obtain⟨w6,x6⟩:=aR7 u6 u3;rw[bU1.2] at v8;rw[v1,v2] at v3;rw[v4,v5] at v6;rw[v7,v8] at v9;rw[x1] at x2;rw[v6,v3] at x3 x6;rw[x2,v9] at x4 x5;have h2:=cL3;generalize aq1 P Q=R at*;rw[pt,qt,q_1] at x5;rw[pt,qt,q_2] at x4;rw[px,py,qx,qy] at x3 x6;rw[q_3 hx] at x3;rw[q_4 hy] at x6;have hz:=ay6 h2 (ay6 pz qz);exact cN8 w3 w4 w5 w6 (fun h=>ay6 hz n2 (x4.symm.trans h)) (fun h=>ay6 hz n1 (x5.symm.trans h)) (x3.trans (congrArg (R.1* ·) x5.symm)) (x6.trans (congrArg (R.2* ·) x4.symm))
theorem eN0{q:List W}{P:A}(hq:bE2 q P)(oP:On P):aZ9 (aC7 q) (aq1 P P):=by
 obtain⟨p1,p2,p3,pz,px,py⟩:=hq;have hx:=bB9 oP oP;have hy:=bB8 oP oP;have n1:=br6 oP oP;have n2:=br7 oP oP;obtain⟨u1,v1⟩:=ao9 p1 p1;obtain⟨u2,v2⟩:=ao9 p2 p2;obtain⟨u3,v3⟩:=aR7 p1 p2;obtain⟨u4,v4⟩:=ao9 u3 u3;obtain⟨u5,v5⟩:=ao9 p3 p3;obtain⟨u6,v6⟩:=aR7 u1 u2;obtain⟨u7,v7⟩:=aO5 u1 u2;obtain⟨u8,v8⟩:=aO5 u6 u4;obtain⟨u9,v9⟩:=aR7 u5 u5;obtain⟨w1,x1⟩:=aR7 u9 u7;rw[v3] at v4;rw[v1,v2] at v6 v7;rw[v6,v4] at v8;rw[v5] at v9;rw[v9,v7] at x1;rw[px,py] at v6 v7 v8 x1;generalize aq1 P P=R at*;have e1:1+ee P P=P.2*P.2 - P.1*P.1:=d_5 oP;have e2:1 - ee P P=1+1+P.1*P.1 - P.2*P.2:=d_6 oP;rw[e1] at hx n1;rw[e2] at hy n2;have hzz:=ay6 pz pz;rw[d_1 hx] at v8;rw[d_2 hy] at v6;exact cN8 u8 w1 u7 u6 (fun h=>ay6 n2 hzz (d_4 (x1.symm.trans h))) (fun h=>ay6 n1 hzz (d_3 (v7.symm.trans h))) (v8.trans (congrArg (R.1* ·) v7.symm)) (v6.trans (congrArg (R.2* ·) x1.symm))
def tvB(b:List UInt8):Nat->Nat
 |0=>0
 |j+1=>2*tvB b j+(if Cu.aJ6 b (255 - j)=true then 1 else 0)
theorem dd2{p:List W}{P:A}(b:List UInt8)(hp:aZ9 p P)(oP:On P): ∀j,aZ9 (aB6 p b j) (nA P (tvB b j))
 |0=>ey9
 |j+1=>by
  have ih:=eN0 (cN7 (dd2 b hp oP j).1) (bi1 oP _);rw[<-cq4 oP,<-Nat.two_mul] at ih;rw[aB6,tvB];by_cases hb:Cu.aJ6 b (255 - j)=true
  ·rw[if_pos hb,if_pos hb]
   exact dC0 ih hp (bi1 oP _) oP
  ·rw[if_neg hb,if_neg hb]
   exact ih
theorem cS8: ∀(b:List UInt8) (i:Nat),leV b/256^i%256=(b.getD i 0).toNat
 |[],i=>by simp[leV]
 |a::b,0=>by
  have:=a.toNat_lt;show (a.toNat+256*leV b)/256^0%256=a.toNat
  rw[bf2];omega
 |a::b,i+1=>by
  have:=a.toNat_lt;show (a.toNat+256*leV b)/256^(i+1)%256=(b.getD i 0).toNat
  rw[<-cS8 b i,aM5,aZ1 (256^i) 256,<-bJ5,show (a.toNat+256*leV b)/256=leV b by omega]
theorem eJ9(b:List UInt8)(i:Nat):Cu.aJ6 b i=decide (leV b/2^i%2=1):=by
 unfold Cu.aJ6;have h:=cS8 b (i/8);generalize b.getD (i/8) 0=c at*;have e1:2^i=256^(i/8)*2^(i%8):=by
  rw[show (256:Nat)=2^8 by decide,<-bS8,<-bC4,bJ7]
 rw[e1,<-bJ5];generalize leV b/256^(i/8)=v at*;have hm:i%8 < 8:=a96 _ (by decide)
 generalize i%8=k at*;rw[decide_eq_decide,<-aZ0,UInt8.toNat_and,UInt8.toNat_shiftRight,<-h];have e2:(UInt8.ofNat k).toNat%8=k:=by simp;omega
 rw[e2,aK5];show v%256/2^k&&&1=1↔_
 rw[Nat.and_one_is_mod];rcases(by omega:k=0\/k=1\/k=2\/k=3\/k=4\/k=5\/k=6\/k=7) with rfl|rfl|rfl|rfl|rfl|rfl|rfl|rfl<;>omega
theorem ea7(b:List UInt8)(hb:leV b < 2^256): ∀j,j<=256->tvB b j=leV b/2^(256 - j)
 |0,_=>by
  show 0=_
  rw[bK5 hb]
 |j+1,h=>by
  rw[tvB,ea7 b hb j (by omega),eJ9,show 256 - (j+1)=255 - j by omega,show 256 - j=(255 - j)+1 by omega,aM5,<-bJ5]
  generalize leV b/2^(255 - j)=v;by_cases h1:v%2=1
  ·rw[decide_eq_true h1,if_pos rfl]
   omega
  ·rw[decide_eq_false h1,if_neg (by decide)]
   omega
theorem bF8{p:List W}{P:A}{b:List UInt8}(hb:b.length=32)(hp:aZ9 p P)(oP:On P):aZ9 (aV5 p b) (nA P (leV b)):=by
 have h:=dd2 b hp oP 256;have hl:=eE6 b;rw[hb] at hl;rw[ea7 b hl 256 (xq0 _),ap6,bf2,by7] at h;exact h
end Nu
end
section
namespace Nu
open Go V Fe Cu
def aN9(P:A):List UInt8:=bv2 (leN 32 P.2.val) (decide (P.1.val%2=1))
theorem cS9(n v i:Nat)(h:i < n):(leN n v).getD i 0=UInt8.ofNat (v/256^i):=by
 unfold leN;rw[List.getD,ak8,aI7 h];rfl
theorem d15(n v:Nat):leN (n+1) v=UInt8.ofNat v::leN n (v/256):=by
 unfold leN;rw[List.range_succ_eq_map,List.map_cons,aW3,bf2,by7];congr 1
 refine bS9 fun i _=>?_
 show UInt8.ofNat (v/256^(i+1))=UInt8.ofNat (v/256/256^i)
 rw[bJ5,aM5,aZ1]
theorem b68: ∀(n v:Nat),leV (leN n v)=v%256^n
 |0,v=>by rw[bf2,Nat.mod_one];rfl
 |n+1,v=>by
  rw[d15];show (UInt8.ofNat v).toNat+256*leV (leN n (v/256))=_
  rw[b68 n,aM5,aZ1 (256^n) 256,Nat.mod_mul];simp
theorem dr5(x:F):leV (leN 32 x.val)=x.val:=by
 rw[b68,ar2 (aC3 x.isLt (by decide))]
theorem de5{x y:F}(h:leN 32 x.val=leN 32 y.val):x=y:=by
 have:=congrArg leV h;rw[dr5,dr5] at this;exact Fin.ext this
theorem dE7{l:List W}(h:Ok l):bD3 l=decide ((vF l).val%2=1):=by
 unfold bD3;rw[aU5 h,cS9 _ _ _ (by decide),bf2,by7,decide_eq_decide,<-aZ0,UInt8.toNat_and]
 show (UInt8.ofNat (vF l).val).toNat&&&1=1↔_
 rw[Nat.and_one_is_mod];simp
theorem cw7{q:List W}{P:A}(h:bE2 q P):aA7 q=aN9 P:=by
 obtain⟨p1,p2,p3,pz,px,py⟩:=h;obtain⟨u1,v1⟩:=cc7 aF8 p3;rw[dN3] at v1;have hi:vF (pZ q)*vF (al8 (pZ q) aF8)=1:=by rw[v1];exact bt0 pz
 obtain⟨u2,v2⟩:=ao9 p2 u1;obtain⟨u3,v3⟩:=ao9 p1 u1;have e2:vF (aa9 (pY q) (al8 (pZ q) aF8))=P.2:=by rw[v2,py];grobner
 have e3:vF (aa9 (pX q) (al8 (pZ q) aF8))=P.1:=by rw[v3,px];grobner
 unfold aA7 aN9;rw[aU5 u2,dE7 u3,e2,e3]
theorem ef3: ∀x:Fin 128,((UInt8.ofNat x.val|||128)&&&127)=UInt8.ofNat x.val/\(UInt8.ofNat x.val&&&127)=UInt8.ofNat x.val/\ ¬((UInt8.ofNat x.val|||128)&&&128)=0/\(UInt8.ofNat x.val&&&128)=0:=by decide+kernel
theorem b74(P:A):(aN9 P).length=32:=by unfold aN9;rw[cl6,bi3]
theorem eq4(P:A):Cu.aF6 (aN9 P)=leN 32 P.2.val/\bk8 (aN9 P)=decide (P.1.val%2=1):=by
 have hl:=bi3 32 P.2.val;have ht:P.2.val/256^31 < 128:=cG5 (aC3 P.2.isLt (by decide))
 have hg:=cS9 32 P.2.val 31 (by decide)
 obtain⟨t1,t2,t3,t4⟩:=ef3 ⟨_,ht⟩;dsimp only at t1 t2 t3 t4;rw[<-hg] at t1 t2 t3 t4;unfold aN9 Cu.aF6 bk8 bv2;generalize leN 32 P.2.val=l at*;have hself:l.set 31 (l.getD 31 0)=l:=by
  rw[List.getD,xq1 (by omega)]
  exact List.set_getElem_self _
 by_cases h:P.1.val%2=1
 ·rw[decide_eq_true h,if_pos rfl]
  have e:(l.set 31 (l.getD 31 0|||128)).getD 31 0=l.getD 31 0|||128:=by
   rw[List.getD,ay8 (by omega)]
   rfl
  rw[e,List.set_set,t1,hself];exact⟨rfl,decide_eq_true t3⟩
 ·rw[decide_eq_false h,if_neg (by decide),t2,hself]
  exact⟨rfl,decide_eq_false fun hh=>hh t4⟩
theorem ew2{y:List W}{P:A}(hy:Ok y)(e:vF y=P.2)(oP:On P):Ok (xSq y)/\vF (xSq y)=P.1*P.1:=by
 obtain⟨u1,v1⟩:=ao9 hy hy;obtain⟨u2,v2⟩:=aO5 u1 b42.1;obtain⟨u3,v3⟩:=ao9 u1 bU1.1;obtain⟨u4,v4⟩:=aR7 u3 b42.1;obtain⟨u5,v5⟩:=cc7 aF8 u4;obtain⟨u6,v6⟩:=ao9 u2 u5;rw[bU1.2] at v3;rw[b42.2] at v2 v4;rw[dN3] at v5;have hn:vF (ah4 (aa9 (aa9 y y) aD7) ax8)≠0:=fun h=>by
  rw[v4,v3,v1,e] at h;unfold On at oP;have h2:=d27;exact dq2 (u:=iF) (w:=1) cp9 (by grobner)
 have hi:=bt0 hn;have hi2:vF (al8 (ah4 (aa9 (aa9 y y) aD7) ax8) aF8)=bD7 (vF (ah4 (aa9 (aa9 y y) aD7) ax8)):=v5;rw[<-hi2] at hi;refine⟨u6,?_⟩;show vF (aa9 (ae9 (aa9 y y) ax8) (al8 (ah4 (aa9 (aa9 y y) aD7) ax8) aF8))=_
 rw[v6,v2,v1,e];rw[v4,v3,v1,e] at hi;unfold On at oP;generalize vF (al8 _ _)=z at*;grobner
theorem eN7:pF%2=1:=by decide
theorem de0{x:F}(h:x≠0):(0 - x).val%2=1↔x.val%2=0:=by
 have hx:x.val≠0:=fun e=>h (Fin.ext e)
 have hl:=x.isLt;have e:(0 - x:F).val=pF - x.val:=by
  rw[Fin.sub_def];show (pF - x.val+0%pF)%pF=_
  rw[Nat.zero_mod,ar7,ar2 (by omega)]
 rw[e];have:=eN7;omega
theorem dg5{c:List W}(h:Ok c):Ok (bm2 c)/\(vF (bm2 c)).val%2=0/\vF (bm2 c)*vF (bm2 c)=vF c*vF c:=by
 unfold bm2;rw[dE7 h];by_cases h1:(vF c).val%2=1
 ·rw[decide_eq_true h1,if_pos rfl]
  obtain⟨u,v⟩:=aO5 aW7.1 h;rw[aW7.2] at v;refine⟨u,?_,by rw[v];grobner⟩
  have hne:vF c≠0:=fun e=>by rw[e] at h1;cases h1
  have:=de0 hne;rw[v];omega
 ·rw[decide_eq_false h1,if_neg (by decide)]
  exact⟨h,by omega,rfl⟩
theorem ef9{e:List W}{x:F}(he:Ok e)(h:vF e=x*x):(aB2 e).2=true/\Ok (aB2 e).1/\(vF (aB2 e).1).val%2=0/\vF (aB2 e).1*vF (aB2 e).1=x*x:=by
 obtain⟨u1,v1⟩:=cc7 aY2 he;rw[es8,h] at v1;have hs: ∃s:F,(s=1\/s= -1)/\vF (al8 e aY2)*vF (al8 e aY2)=s*(x*x):=by
  by_cases hx:x=0
  ·refine⟨1,.inl rfl,?_⟩
   subst hx;have e0:pwF ((0:F)*0) ((pF+3)/8)=0:=by
    rw[show (pF+3)/8=((pF+3)/8 - 1)+1 by decide,pwF]
    grobner
   rw[v1,e0];grobner
  ·refine⟨pwF x ((pF - 1)/2),?_,?_⟩
   ·have h1:=dt7 hx
    rw[show pF - 1=(pF - 1)/2+(pF - 1)/2 by decide,cx3] at h1
    have h2:(pwF x ((pF - 1)/2) - 1)*(pwF x ((pF - 1)/2)+1)=0:=by grobner
    rcases aM3 h2 with h3|h3
    ·exact .inl (by grobner)
    ·exact .inr (by grobner)
   ·rw[v1,<-cx3,show (pF+3)/8+(pF+3)/8=(pF - 1)/4+1 by decide,pwF,powS,show (pF - 1)/4+(pF - 1)/4=(pF - 1)/2 by decide]
 obtain⟨s,hs1,hs2⟩:=hs;obtain⟨u2,v2⟩:=ao9 u1 u1;unfold aB2;generalize al8 e aY2=c at*;rw[aK9,aU5 u2,aU5 he];by_cases hc:vF c*vF c=x*x
 ·rw[if_pos (by rw[v2,h,hc])]
  obtain⟨w1,w2,w3⟩:=dg5 u1;exact⟨rfl,w1,w2,w3.trans hc⟩
 ·rw[if_neg fun hh=>hc (by have:=de5 hh;rw[v2,h] at this;exact this)]
  have hs3:s= -1:=by
   rcases hs1 with h1|h1
   ·exact absurd (by rw[hs2,h1];grobner) hc
   ·exact h1
  obtain⟨u3,v3⟩:=ao9 u1 dx4.1;obtain⟨u4,v4⟩:=ao9 u3 u3;rw[dx4.2] at v3;have hi:=d27;have h5:vF (aa9 c aX9)*vF (aa9 c aX9)=x*x:=by
   rw[v3];subst hs3;grobner
  rw[aK9,aU5 u4,aU5 he,if_pos (by rw[v4,h,h5])]
  obtain⟨w1,w2,w3⟩:=dg5 u3;exact⟨rfl,w1,w2,w3.trans h5⟩
theorem eR9(x:F):0 - (0 - x)=x:=by grobner
theorem dB9{P:A}(oP:On P):(aI1 (aN9 P)).2=true/\aZ9 (aI1 (aN9 P)).1 P:=by
 obtain⟨e1,e2⟩:=eq4 P;obtain⟨f1,f2⟩:=cW0 (b:=Cu.aF6 (aN9 P)) (by rw[e1,bi3])
 have f3:vF (au7 (Cu.aF6 (aN9 P)))=P.2:=by
  unfold vF;rw[<-cY2,f2,cY2,e1,dr5,br8]
 obtain⟨g1,g2⟩:=ew2 f1 f3 oP;obtain⟨r1,r2,r3,r4⟩:=ef9 g1 g2;unfold aI1;rw[aU5 f1,f3,if_pos e1.symm];unfold b46;rw[if_pos r1,e2,aU5 r2,aU5 aW7.1,aW7.2];generalize (aB2 (xSq (au7 (Cu.aF6 (aN9 P))))).1=r at*;have hr:(vF r - P.1)*(vF r+P.1)=0:=by grobner
 by_cases h:P.1.val%2=1
 ·have hx0:P.1≠0:=fun e=>by rw[e] at h;cases h
  have hv:vF r=0 - P.1:=by
   rcases aM3 hr with h1|h1
   ·have:vF r=P.1:=by grobner
    rw[this] at r3;omega
   ·grobner
  rw[decide_eq_true h,if_pos rfl,if_neg fun hh=>hx0 (by have:=de5 hh;rw[hv] at this;grobner)]
  obtain⟨u,v⟩:=aO5 aW7.1 r2;rw[aW7.2,hv] at v;have:=cn2 u f1;rw[v,f3,eR9] at this;exact⟨rfl,this⟩
 ·rw[decide_eq_false h,if_neg (by decide)]
  have hv:vF r=P.1:=by
   rcases aM3 hr with h1|h1
   ·grobner
   ·have h2:vF r=0 - P.1:=by grobner
    by_cases hx0:P.1=0
    ·rw[h2,hx0,de3]
    ·have:=(de0 hx0).2 (by omega)
     rw[h2] at r3;omega
  have:=cn2 r2 f1;rw[hv,f3] at this;exact⟨rfl,this⟩
theorem ek0{P:A}(oP:On P):bo6 (aN9 P)=(aN9 (bD5 P),0):=by
 obtain⟨g1,⟨p1,p2,p3,pz,px,py⟩,_⟩:=dB9 oP;unfold bo6 aQ8;rw[if_pos g1];generalize (aI1 (aN9 P)).1=q at*;obtain⟨u,v⟩:=aO5 aW7.1 p1;rw[aW7.2,px] at v;obtain⟨e1,e2,e3⟩:=eK7 u.1 p2.1 p3.1;have:bE2 (bc4 q) (bD5 P):=by
  unfold bc4 bE2 bD5;rw[e1,e2,e3];exact⟨u,p2,p3,pz,by rw[v];grobner,py⟩
 rw[cw7 this]
def Bp:A:=(vF b84,vF b83)
theorem bm4:On Bp:=by
 unfold On;decide+kernel
theorem cN9:aZ9 be7 Bp:=cn2 ec2.1 ec1.1
theorem cY7{b:List UInt8}(hb:b.length=32):aG9 b=aN9 (nA Bp (leV b)):=cw7 (cN7 (bF8 hb cN9 bm4).1)
theorem ek6{P:A}(oP:On P){a b:List UInt8}(ha:a.length=32)(hb:b.length=32):bw4 a (aN9 P) b=(aN9 (aq1 (nA P (leV a)) (nA Bp (leV b))),0):=by
 obtain⟨g1,g2⟩:=dB9 oP;unfold bw4 aQ8;rw[if_pos g1];have:=dC0 (bF8 ha g2 oP) (bF8 hb cN9 bm4) (bi1 oP _) (bi1 bm4 _);rw[show aA7 (bo7 a b (aI1 (aN9 P)).1)=_ from cw7 (cN7 this.1)]
def an2:Nat:=7237005577332262213973186563042994240857116359379907606001950938285454250989
theorem ek2:nA Bp an2=O:=by
 have h1:=bF8 (b:=leN 32 an2) (bi3 _ _) cN9 bm4;rw[b68,show an2%256^32=an2 by decide] at h1
 have h2:=cf7 (leN 32 an2) rfl;obtain⟨⟨_,_,_,hz,hx,hy⟩,_⟩:=h1;obtain⟨⟨i1,i2,i3⟩,_⟩:=h2;have x0:(aX8 ap8 bxG byG (leN 32 an2)).x=0:=by kernel_rfl
 have y0:(aX8 ap8 bxG byG (leN 32 an2)).y=(aX8 ap8 bxG byG (leN 32 an2)).z:=by kernel_rfl
 have ex:=(bu6 i1).2;have ey:=(bu6 i2).2;have ez:=(bu6 i3).2;rw[x0] at ex;rw[y0,<-ez] at ey;rw[hx] at ex;rw[hy] at ey;have e1:(nA Bp an2).1=0:=(aM3 (x:=(nA Bp an2).1) ex).resolve_right hz;have e2:(nA Bp an2).2=1:=can hz (by rw[ey];grobner)
 exact Prod.ext e1 e2
theorem eO5(n:Nat):nA Bp n=nA Bp (n%an2):=by
 have e:n=an2*(n/an2)+n%an2:=(bJ7 n an2).symm;conv=>lhs;rw[e]
 rw[cq4 bm4,dq7 bm4,ek2,n_O,bZ4,cu8]
end Nu
end
section
namespace Nu
open Go V Fe Sc Cu
theorem bO8{b:List UInt8}(h:b.length=32):ae4 (ai9 b)=leV b:=by
 obtain⟨w0,w1,w2,w3,hw,hv⟩:=cA3 h;unfold ai9;rw[hw,hv];simp only[ae4,by5,ar7]
theorem b41: ∀(l:List W) (j:Nat) (x:W),j < l.length->ae4 (l.set j x)+18446744073709551616^j*(l.getD j 0).toNat=ae4 l+18446744073709551616^j*x.toNat
 |a::l,0,x,_=>by
  show x.toNat+18446744073709551616*ae4 l+18446744073709551616^0*a.toNat=a.toNat+18446744073709551616*ae4 l+18446744073709551616^0*x.toNat
  rw[bf2];omega
 |a::l,j+1,x,h=>by
  have ih:=b41 l j x (by simpa using h)
  show a.toNat+18446744073709551616*ae4 (l.set j x)+18446744073709551616^(j+1)*(l.getD j 0).toNat=a.toNat+18446744073709551616*ae4 l+18446744073709551616^(j+1)*x.toNat
  rw[aM5,aZ1 (18446744073709551616^j) 18446744073709551616,bJ4,bJ4,aP8,<-bf1,ih,bf1,aP8]
theorem bL4: ∀(l:List W) (k:Nat),k < l.length->ae4 (l.take (k+1))=ae4 (l.take k)+18446744073709551616^k*(l.getD k 0).toNat
 |a::l,0,_=>by
  show a.toNat+18446744073709551616*ae4 (l.take 0)=0+18446744073709551616^0*a.toNat
  rw[xq9,bf2];show a.toNat+18446744073709551616*0=_
  omega
 |a::l,k+1,h=>by
  have ih:=bL4 l k (by simpa using h)
  show a.toNat+18446744073709551616*ae4 (l.take (k+1))=a.toNat+18446744073709551616*ae4 (l.take k)+18446744073709551616^(k+1)*(l.getD k 0).toNat
  rw[ih,bf1,aM5,aZ1 (18446744073709551616^k) 18446744073709551616,bJ4,aP8]
theorem bn1{w x:List W}(hw:w.length=4)(hx:x.length=4):ae4 (al1 w x).1+115792089237316195423570985008687907853269984665640564039457584007913129639936*(al1 w x).2=ae4 w+ae4 x:=by
 match w,hw,x,hx with
 |[a,b,c,d],_,[e,f,g,h],_=>
  have hs: ∀(x y:W) (c:Nat),(ag7 x y c).1.toNat+18446744073709551616*(ag7 x y c).2=x.toNat+y.toNat+c:=fun x y c=>by
   unfold ag7;dsimp only;rw[aC2];simp only[Nat.reducePow];omega
  have s1:=hs a e 0;have s2:=hs b f (ag7 a e 0).2;have s3:=hs c g (ag7 b f (ag7 a e 0).2).2;have s4:=hs d h (ag7 c g (ag7 b f (ag7 a e 0).2).2).2;have hm:al1 [a,b,c,d] [e,f,g,h]=([(ag7 a e 0).1,(ag7 b f (ag7 a e 0).2).1,(ag7 c g (ag7 b f (ag7 a e 0).2).2).1,(ag7 d h (ag7 c g (ag7 b f (ag7 a e 0).2).2).2).1],(ag7 d h (ag7 c g (ag7 b f (ag7 a e 0).2).2).2).2):=rfl;rw[hm];dsimp only;simp only[ae4];generalize ag7 d h (ag7 c g (ag7 b f (ag7 a e 0).2).2).2=p4 at*;generalize ag7 c g (ag7 b f (ag7 a e 0).2).2=p3 at*;generalize ag7 b f (ag7 a e 0).2=p2 at*;generalize ag7 a e 0=p1 at*;omega
theorem dC4(x y:W)(j:Nat)(s:List W×W):(bq3 x y j s).1=s.1.set j (ag7 (ag7 (s.1.getD j 0) (x*y) 0).1 s.2 0).1/\(ag7 (ag7 (s.1.getD j 0) (x*y) 0).1 s.2 0).1.toNat+18446744073709551616*(bq3 x y j s).2.toNat=(s.1.getD j 0).toNat+x.toNat*y.toNat+s.2.toNat:=by
 refine⟨rfl,?_⟩;show _+18446744073709551616*(hiW x y+BitVec.ofNat 64 (ag7 (s.1.getD j 0) (x*y) 0).2+BitVec.ofNat 64 (ag7 (ag7 (s.1.getD j 0) (x*y) 0).1 s.2 0).2).toNat=_
 generalize s.1.getD j 0=o;generalize s.2=c;have hp:x.toNat*y.toNat<=18446744073709551615*18446744073709551615:=cH7 (by have:=x.isLt;omega) (by have:=y.isLt;omega)
 have ho:=o.isLt;have hc:=c.isLt;unfold ag7;dsimp only;simp only[bK2,aC2,bC2,cy8,Nat.reducePow,ar7] at*;generalize x.toNat*y.toNat=p at*;omega
theorem q_val(x:W)(b:List W)(i:Nat)(out:List W): ∀k,i+k<=out.length->k<=b.length->ae4 (ag5 x b i out k).1+18446744073709551616^(i+k)*(ag5 x b i out k).2.toNat=ae4 out+18446744073709551616^i*(x.toNat*ae4 (b.take k))
 |0,_,_=>by
  show ae4 out+18446744073709551616^i*0=ae4 out+18446744073709551616^i*(x.toNat*0)
  simp
 |k+1,h1,h2=>by
  have ih:=q_val x b i out k (by omega) (by omega)
  have hl:=Sc.q_len x b i out k;obtain⟨e1,e2⟩:=dC4 x (b.getD k 0) (i+k) (ag5 x b i out k);have hs:=b41 (ag5 x b i out k).1 (i+k) (ag7 (ag7 ((ag5 x b i out k).1.getD (i+k) 0) (x*b.getD k 0) 0).1 (ag5 x b i out k).2 0).1 (by omega)
  rw[<-e1] at hs;rw[ag5,bL4 b k (by omega),<-aP8,aM5,bJ4]
  generalize bq3 x (b.getD k 0) (i+k) (ag5 x b i out k)=r at*;generalize (ag7 (ag7 ((ag5 x b i out k).1.getD (i+k) 0) (x*b.getD k 0) 0).1 (ag5 x b i out k).2 0).1.toNat=u at*;generalize ((ag5 x b i out k).1.getD (i+k) 0).toNat=v at*;generalize (b.getD k 0).toNat=y at*;rw[bf1,bf1];have e3:18446744073709551616^i*(x.toNat*(18446744073709551616^k*y))=18446744073709551616^(i+k)*(x.toNat*y):=by
   rw[bC4];simp only[bJ4,Nat.mul_left_comm]
  rw[e3];generalize 18446744073709551616^(i+k)=q at*;have e4:q*(u+18446744073709551616*r.2.toNat)=q*(v+x.toNat*y+(ag5 x b i out k).2.toNat):=by rw[e2]
  simp only[bf1] at e4;generalize q*u=t1 at*;generalize q*v=t2 at*;generalize q*(x.toNat*y)=t3 at*;generalize q*(18446744073709551616*r.2.toNat)=t4 at*;generalize q*(ag5 x b i out k).2.toNat=t5 at*;generalize 18446744073709551616^i*(x.toNat*ae4 (b.take k))=t6 at*;generalize ae4 r.1=t7 at*;omega
theorem ea4(x:W):0+x=x:=BitVec.zero_add x
theorem bV3(x:W)(b:List W)(i:Nat)(out:List W): ∀k j,i+k<=j->(ag5 x b i out k).1.getD j 0=out.getD j 0
 |0,_,_=>rfl
 |k+1,j,h=>by
  rw[ag5,(dC4 _ _ _ _).1,List.getD,ar4 (by omega)]
  exact bV3 x b i out k j (by omega)
theorem cO4(a b:List W)(hb:b.length=4): ∀i,i<=4->i<=a.length->ae4 (az8 a b i)=ae4 (a.take i)*ae4 b/\ ∀j,i+4<=j->(az8 a b i).getD j 0=0
 |0,_,_=>⟨by rw[xq9];show _=0*_;rw[by6];rfl,fun j _=>by
   show bi0.getD j 0=0
   unfold bi0;match j with
   |0|1|2|3|4|5|6|7=>rfl
   |j+8=>rfl⟩
 |i+1,h,ha=>by
  obtain⟨ih1,ih2⟩:=cO4 a b hb i (by omega) (by omega)
  have hl:=bn0 a b i;have hq:=q_val (a.getD i 0) b i (az8 a b i) 4 (by omega) (by omega)
  have hql:=Sc.q_len (a.getD i 0) b i (az8 a b i) 4;have hk:=bV3 (a.getD i 0) b i (az8 a b i) 4 (i+4) (xq0 _);rw[ih2 _ (xq0 _)] at hk;have hs:=b41 (ag5 (a.getD i 0) b i (az8 a b i) 4).1 (i+4) (ag5 (a.getD i 0) b i (az8 a b i) 4).2 (by omega)
  rw[hk] at hs;have hz:(0:W).toNat=0:=rfl;rw[hz,by5,ar7,hq,al2 (by omega),ih1] at hs
  refine⟨?_,fun j hj=>?_⟩
  ·rw[az8,hs,bL4 a i (by omega),aD3,bJ4]
  ·rw[az8,List.getD,ar4 (by omega)]
   exact(bV3 _ _ _ _ 4 j (by omega)).trans (ih2 j (by omega))
theorem c65{a b:List W}(ha:a.length=4)(hb:b.length=4):ae4 (aC5 a b)=ae4 a*ae4 b:=by
 have:=(cO4 a b hb 4 (xq0 _) (by omega)).1
 rw[al2 (by omega)] at this
 exact this
theorem cW7(h:List W)(hh:h.length=5): ∀i,i<=2->ae4 (av8 h i)=ae4 (tailW.take i)*ae4 h/\ ∀j,i+5<=j->(av8 h i).getD j 0=0
 |0,_=>⟨by rw[xq9];show _=0*_;rw[by6];rfl,fun j _=>by
   show bi0.getD j 0=0
   unfold bi0;match j with
   |0|1|2|3|4|5|6|7=>rfl
   |j+8=>rfl⟩
 |i+1,hi=>by
  obtain⟨ih1,ih2⟩:=cW7 h hh i (by omega)
  have hl:=bA9 h i;have ht:tailW.length=2:=rfl;have hq:=q_val (tailW.getD i 0) h i (av8 h i) 5 (by omega) (by omega)
  have hql:=Sc.q_len (tailW.getD i 0) h i (av8 h i) 5;have hk:=bV3 (tailW.getD i 0) h i (av8 h i) 5 (i+5) (xq0 _);rw[ih2 _ (xq0 _)] at hk;have hs:=b41 (ag5 (tailW.getD i 0) h i (av8 h i) 5).1 (i+5) ((ag5 (tailW.getD i 0) h i (av8 h i) 5).1.getD (i+5) 0+(ag5 (tailW.getD i 0) h i (av8 h i) 5).2) (by omega)
  rw[hk,ea4] at hs;have hz:(0:W).toNat=0:=rfl;rw[hz,by5,ar7,hq,al2 (by omega),ih1] at hs
  refine⟨?_,fun j hj=>?_⟩
  ·rw[av8,hk,ea4,hs,bL4 tailW i (by omega),aD3,bJ4]
  ·rw[av8,List.getD,ar4 (by omega)]
   exact(bV3 _ _ _ _ 5 j (by omega)).trans (ih2 j (by omega))
theorem eb9{α:Type}{l:List α}(h:l.length=8): ∃a b c d e f g i,l=[a,b,c,d,e,f,g,i]:=by
 match l,h with
 |[a,b,c,d,e,f,g,i],_=>exact⟨_,_,_,_,_,_,_,_,rfl⟩
theorem b76{l:List W}(hl:l.length=8):ae4 (aJ2 l)=ae4 l%7237005577332262213973186563042994240829374041602535252466099000494570602496/\ae4 (aY7 l)=27742317777372353535851937790883648493*(ae4 l/7237005577332262213973186563042994240829374041602535252466099000494570602496):=by
 obtain⟨a,b,c,d,e,f,g,i,rfl⟩:=eb9 hl;have h3:(d&&&1152921504606846975#64).toNat=d.toNat%1152921504606846976:=by
  rw[cj3];exact cj1 _ 60
 have q0:=a18 (x:=d) (y:=e) 60 4 (by decide) (by decide) rfl
 have q1:=a18 (x:=e) (y:=f) 60 4 (by decide) (by decide) rfl
 have q2:=a18 (x:=f) (y:=g) 60 4 (by decide) (by decide) rfl
 have q3:=a18 (x:=g) (y:=i) 60 4 (by decide) (by decide) rfl
 have q4:(i>>>60).toNat=i.toNat/1152921504606846976:=by rw[bt7,aK5]
 have l0:=a.isLt;have l1:=b.isLt;have l2:=c.isLt;have l3:=d.isLt;have l4:=e.isLt;have l5:=f.isLt;have l6:=g.isLt;have l7:=i.isLt;have hh:bd4 [a,b,c,d,e,f,g,i] 5=[d>>>60|||e<<<4,e>>>60|||f<<<4,f>>>60|||g<<<4,g>>>60|||i<<<4,i>>>60]:=rfl
 have hf:=(cW7 [d>>>60|||e<<<4,e>>>60|||f<<<4,f>>>60|||g<<<4,g>>>60|||i<<<4,i>>>60] rfl 2 (xq0 _)).1
 have ht:ae4 (tailW.take 2)=27742317777372353535851937790883648493:=by kernel_rfl
 unfold aY7;rw[hh,hf,ht];have hlow:aJ2 [a,b,c,d,e,f,g,i]=[a,b,c,d&&&1152921504606846975#64]:=rfl;rw[hlow];simp only[ae4];simp only[Nat.reducePow] at*;generalize (d>>>60|||e<<<4).toNat=z0 at*
 generalize (e>>>60|||f<<<4).toNat=z1 at*
 generalize (f>>>60|||g<<<4).toNat=z2 at*
 generalize (g>>>60|||i<<<4).toNat=z3 at*
 generalize (i>>>60).toNat=z4 at*;generalize (d&&&1152921504606846975#64).toNat=y3 at*;refine⟨by omega,congrArg (fun n=>27742317777372353535851937790883648493*n) ?_⟩
 omega
theorem dR2{l:List W}(h:l.length=8):ae4 l < 18446744073709551616^8:=by
 obtain⟨a,b,c,d,e,f,g,i,rfl⟩:=eb9 h;have l0:=a.isLt;have l1:=b.isLt;have l2:=c.isLt;have l3:=d.isLt;have l4:=e.isLt;have l5:=f.isLt;have l6:=g.isLt;have l7:=i.isLt;simp only[ae4,Nat.reducePow] at*;omega
theorem cT0: ∀(n:Nat) (s:List W),s.length=4->ae4 s < (n+1)*an2->ae4 (bd2 n s)=ae4 s%an2
 |0,s,_,h=>by
  rw[bd2,ar2 (by omega)]
 |n+1,s,hs,h=>by
  have h1:=aT0 hs (x:=ae8) rfl;have h2:=bs2 (w:=(ai2 s ae8).1) (by rw[ai2,bd1,hs])
  have h3:=bI4 s ae8;rw[bz8] at h1;rw[bd2];by_cases hc:(ai2 s ae8).2=1
  ·rw[if_pos hc,ar2]
   rw[hc] at h1;unfold an2;omega
  ·rw[if_neg hc,cT0 n _ (by rw[ai2,bd1,hs]) (cD1 hs h hc)]
   have h4:(ai2 s ae8).2=0:=by omega
   rw[h4] at h1;have h5:ae4 s=ae4 (ai2 s ae8).1+an2:=by unfold an2;omega
   rw[h5,Nat.add_mod_right]
theorem dt3{w x s k:Nat}(h:s+115792089237316195423570985008687907853269984665640564039457584007913129639936*k=w+x)(hs:w+x < 115792089237316195423570985008687907853269984665640564039457584007913129639936):s=w+x:=by omega
theorem eG4{w x s j:Nat}(h:s+x=w+115792089237316195423570985008687907853269984665640564039457584007913129639936*j)(hs:s < 115792089237316195423570985008687907853269984665640564039457584007913129639936)(hx:x<=w)(hj:j<=1):s+x=w:=by
 rcases(by omega:j=0\/j=1) with rfl|rfl
 ·exact h
 ·exfalso
  rw[Nat.mul_one] at h;omega
theorem eG5{v l2 l3 l4 a4 qv q2 q3 rv r2 r3:Nat}(hv:7237005577332262213973186563042994240829374041602535252466099000494570602496*qv+rv=v)(h2:7237005577332262213973186563042994240829374041602535252466099000494570602496*q2+r2=l2)(h3:7237005577332262213973186563042994240829374041602535252466099000494570602496*q3+r3=l3)(e2:l2=27742317777372353535851937790883648493*qv)(e3:l3=27742317777372353535851937790883648493*q2)(e4:l4=27742317777372353535851937790883648493*q3)(m:a4+l4+r2=rv+7237005577332262213973186563042994240857116359379907606001950938285454250989+r3+7237005577332262213973186563042994240857116359379907606001950938285454250989):a4+7237005577332262213973186563042994240857116359379907606001950938285454250989*(qv+q3)=v+7237005577332262213973186563042994240857116359379907606001950938285454250989*(2+q2):=by
 subst e4;subst hv;rw[bf1,bf1];omega
theorem eG3{a v x y:Nat}(h:a+7237005577332262213973186563042994240857116359379907606001950938285454250989*x=v+7237005577332262213973186563042994240857116359379907606001950938285454250989*y):a%7237005577332262213973186563042994240857116359379907606001950938285454250989=v%7237005577332262213973186563042994240857116359379907606001950938285454250989:=by
 have:=congrArg (fun n=>n%7237005577332262213973186563042994240857116359379907606001950938285454250989) h
 simp only[bK1] at this;exact this
theorem eU8{v l2 l3 l4:Nat}(hv:v < 13407807929942597099574024998205846127479365820592393377723561443721764030073546976801874298166903427690031858186486050853753882811946569946433649006084096)(e2:l2=27742317777372353535851937790883648493*(v/7237005577332262213973186563042994240829374041602535252466099000494570602496))(e3:l3=27742317777372353535851937790883648493*(l2/7237005577332262213973186563042994240829374041602535252466099000494570602496))(e4:l4=27742317777372353535851937790883648493*(l3/7237005577332262213973186563042994240829374041602535252466099000494570602496)):l4 < 7237005577332262213973186563042994240829374041602535252466099000494570602496:=by
 have b1:v/7237005577332262213973186563042994240829374041602535252466099000494570602496 < 1852673427797059126777135760139006525652319754650249024631321344126610074238976:=cG5 (aC3 hv (by decide))
 have b2:l2 < 7237005577332262213973186563042994240829374041602535252466099000494570602496*10889035741470030830827987437816582766592:=by
  rw[e2];exact cH0 (cG7 _ (b36 b1)) (by decide)
 have b3:l3 < 7237005577332262213973186563042994240829374041602535252466099000494570602496*64:=by
  rw[e3];exact cH0 (cG7 _ (b36 (cG5 b2))) (by decide)
 rw[e4];exact cH0 (cG7 _ (b36 (cG5 b3))) (by decide)
theorem mM(n:Nat):n%7237005577332262213973186563042994240829374041602535252466099000494570602496 < 7237005577332262213973186563042994240829374041602535252466099000494570602496:=a96 _ (by decide)
theorem eG6{v l2 l3 l4 a1 a2 a3 a4 q1 q2 k1 k2 k3 k4 j1 j2:Nat}(hv:v < 13407807929942597099574024998205846127479365820592393377723561443721764030073546976801874298166903427690031858186486050853753882811946569946433649006084096)(e2:l2=27742317777372353535851937790883648493*(v/7237005577332262213973186563042994240829374041602535252466099000494570602496))(e3:l3=27742317777372353535851937790883648493*(l2/7237005577332262213973186563042994240829374041602535252466099000494570602496))(e4:l4=27742317777372353535851937790883648493*(l3/7237005577332262213973186563042994240829374041602535252466099000494570602496))(p1:a1+115792089237316195423570985008687907853269984665640564039457584007913129639936*k1=0+v%7237005577332262213973186563042994240829374041602535252466099000494570602496)(p2:q1+115792089237316195423570985008687907853269984665640564039457584007913129639936*k2=a1+7237005577332262213973186563042994240857116359379907606001950938285454250989)(m1:a2+l2%7237005577332262213973186563042994240829374041602535252466099000494570602496=q1+115792089237316195423570985008687907853269984665640564039457584007913129639936*j1)(p3:a3+115792089237316195423570985008687907853269984665640564039457584007913129639936*k3=a2+l3%7237005577332262213973186563042994240829374041602535252466099000494570602496)(p4:q2+115792089237316195423570985008687907853269984665640564039457584007913129639936*k4=a3+7237005577332262213973186563042994240857116359379907606001950938285454250989)(m2:a4+l4%7237005577332262213973186563042994240829374041602535252466099000494570602496=q2+115792089237316195423570985008687907853269984665640564039457584007913129639936*j2)(n1:j1<=1)(n2:j2<=1)(z2:a2 < 115792089237316195423570985008687907853269984665640564039457584007913129639936)(z4:a4 < 115792089237316195423570985008687907853269984665640564039457584007913129639936):a4 < 17*7237005577332262213973186563042994240857116359379907606001950938285454250989/\a4%7237005577332262213973186563042994240857116359379907606001950938285454250989=v%7237005577332262213973186563042994240857116359379907606001950938285454250989:=by
 have b4:=eU8 hv e2 e3 e4;rw[ar2 b4] at m2;have c1:=mM v;have c2:=mM l2;have c3:=mM l3;have d1:=bJ7 v 7237005577332262213973186563042994240829374041602535252466099000494570602496;have d2:=bJ7 l2 7237005577332262213973186563042994240829374041602535252466099000494570602496;have d3:=bJ7 l3 7237005577332262213973186563042994240829374041602535252466099000494570602496;generalize v%7237005577332262213973186563042994240829374041602535252466099000494570602496=rv at*;generalize l2%7237005577332262213973186563042994240829374041602535252466099000494570602496=r2 at*;generalize l3%7237005577332262213973186563042994240829374041602535252466099000494570602496=r3 at*;generalize v/7237005577332262213973186563042994240829374041602535252466099000494570602496=qv at*;generalize l2/7237005577332262213973186563042994240829374041602535252466099000494570602496=s2 at*;generalize l3/7237005577332262213973186563042994240829374041602535252466099000494570602496=s3 at*;have f1:=dt3 p1 (by clear d1 d2 d3 e2 e3 e4;omega)
 rw[Nat.zero_add] at f1;subst f1;have f2:=dt3 p2 (by clear d1 d2 d3 e2 e3 e4;omega)
 subst f2;have f3:=eG4 m1 z2 (by clear d1 d2 d3 e2 e3 e4;omega) n1
 have g3:a2 < 14474011154664524427946373126085988481686490400982442858468049938780024853485+7237005577332262213973186563042994240829374041602535252466099000494570602496:=by clear d1 d2 d3 e2 e3 e4;omega
 have f4:=dt3 p3 (by clear d1 d2 d3 e2 e3 e4;omega)
 subst f4;have f5:=dt3 p4 (by clear d1 d2 d3 e2 e3 e4;omega)
 subst f5;have f6:=eG4 m2 z4 (by clear d1 d2 d3 e2 e3 e4;omega) n2
 refine⟨by clear d1 d2 d3 e2 e3 e4;omega,eG3 (eG5 d1 d2 d3 e2 e3 e4 (by clear d1 d2 d3 e2 e3 e4;omega))⟩
theorem dK1{l s1 s2 s3 s4 r2 r3 r4:List W}(hl:l.length=8)(g2:r2.length=8)(g4:r3.length=8)(g6:r4.length=8)(e2:r2=aY7 l)(e3:r3=aY7 r2)(e4:r4=aY7 r3)(f1:s1=(al1 [0,0,0,0] (aJ2 l)).1)(f2:s2=(ai2 (al1 s1 ae8).1 (aJ2 r2)).1)(f3:s3=(al1 s2 (aJ2 r3)).1)(f4:s4=(ai2 (al1 s3 ae8).1 (aJ2 r4)).1)(g1:s1.length=4)(g3:s2.length=4)(g5:s3.length=4)(g7:s4.length=4):ae4 s4 < 17*an2/\ae4 s4%an2=ae4 l%an2:=by
 obtain⟨c1,c2⟩:=b76 hl;have b0:=dR2 hl;obtain⟨c3,c4⟩:=b76 g2;obtain⟨c5,c6⟩:=b76 g4;obtain⟨c7,c8⟩:=b76 g6;have p1:=bn1 (w:=[0,0,0,0]) (x:=aJ2 l) rfl rfl;have p2:=bn1 (w:=s1) (x:=ae8) g1 rfl;have p3:=bn1 (w:=s2) (x:=aJ2 r3) g3 rfl;have p4:=bn1 (w:=s3) (x:=ae8) g5 rfl;have hp1:(al1 s1 ae8).1.length=4:=by rw[al1,bb7,g1]
 have hp2:(al1 s3 ae8).1.length=4:=by rw[al1,bb7,g5]
 have m1:=Sc.aT0 hp1 (x:=aJ2 r2) rfl;have m2:=Sc.aT0 hp2 (x:=aJ2 r4) rfl;have n1:=bI4 (al1 s1 ae8).1 (aJ2 r2);have n2:=bI4 (al1 s3 ae8).1 (aJ2 r4);have z2:=bs2 g3;have z4:=bs2 g7;have v0:ae4 [(0:W),0,0,0]=0:=by decide
 rw[bz8] at p2 p4;rw[v0,c1,<-f1] at p1;rw[c3,<-f2] at m1;rw[c5,<-f3] at p3;rw[c7,<-f4] at m2;rw[<-e2] at c2;rw[<-e3] at c4;rw[<-e4] at c6;simp only[Nat.reducePow] at b0;exact eG6 b0 c2 c4 c6 p1 p2 m1 p3 p4 m2 n1 n2 z2 z4
theorem cW8(l:List W)(i:Nat):(aj1 l (i+1)).2=aY7 (aj1 l i).2:=rfl
theorem dK4{l:List W}{i:Nat}(h:i%2=0):(aj1 l (i+1)).1=(al1 (aj1 l i).1 (aJ2 (aj1 l i).2)).1:=by
 rw[aj1,bL6,if_pos h]
theorem dK3{l:List W}{i:Nat}(h: ¬i%2=0):(aj1 l (i+1)).1=(ai2 (al1 (aj1 l i).1 ae8).1 (aJ2 (aj1 l i).2)).1:=by
 rw[aj1,bL6,if_neg h]
theorem dK0{l:List W}(hl:l.length=8):ae4 (aj1 l 4).1 < 17*an2/\ae4 (aj1 l 4).1%an2=ae4 l%an2:=by
 have e2:=cW8 l 0;have e3:=cW8 l 1;have e4:=cW8 l 2;have f1:=dK4 (l:=l) (i:=0) (by decide)
 have f2:=dK3 (l:=l) (i:=1) (by decide)
 have f3:=dK4 (l:=l) (i:=2) (by decide)
 have f4:=dK3 (l:=l) (i:=3) (by decide)
 obtain⟨g1,g2⟩:=aT6 hl 1;obtain⟨g3,g4⟩:=aT6 hl 2;obtain⟨g5,g6⟩:=aT6 hl 3;obtain⟨g7,g8⟩:=aT6 hl 4;rw[show aj1 l 0=([0,0,0,0],l) from rfl] at e2 f1
 dsimp only[Nat.reduceAdd] at e2 e3 e4 f1 f2 f3 f4;generalize aj1 l 1=p1 at*;generalize aj1 l 2=p2 at*;generalize aj1 l 3=p3 at*;generalize aj1 l 4=p4 at*;exact dK1 hl g2 g4 g6 e2 e3 e4 f1 f2 f3 f4 g1 g3 g5 g7
theorem b98{l:List W}(hl:l.length=8):ae4 (ap0 l)=ae4 l%an2:=by
 obtain⟨h1,h2⟩:=dK0 hl;unfold ap0;rw[cT0 16 _ (aT6 hl 4).1 h1,h2]
theorem cS7{w:List W}(hw:w.length=4):ae4 (aK1 w)=ae4 w%an2:=by
 unfold aK1;rw[b98 rfl];match w,hw with
 |[a,b,c,d],_=>simp[ae4]
theorem cY3(w:List W): ∀n j,n<=32->j < 32->(aI6 w n).getD j 0=if j < n then b81 w j else 0
 |0,j,_,h=>by
  rw[if_neg (by omega)]
  show (List.replicate 32 (0:UInt8)).getD j 0=0
  rw[List.getD,b33,if_pos h];rfl
 |n+1,j,hn,h=>by
  have hl:=bQ7 w n;rw[aI6,List.getD];by_cases e:n=j
  ·subst e
   rw[ay8 (by omega),if_pos (by omega)]
   rfl
  ·rw[ar4 e,<-List.getD,cY3 w n j (by omega) h]
   by_cases h1:j < n
   ·rw[if_pos h1,if_pos (by omega)]
   ·rw[if_neg h1,if_neg (by omega)]
theorem t8(n:Nat):(UInt8.ofNat n).toNat=n%256:=rfl
theorem cK9(a:W)(l:List W):ae4 (a::l)=a.toNat+18446744073709551616*ae4 l:=rfl
theorem db4: ∀(l:List W) (q:Nat),ae4 l/18446744073709551616^q%18446744073709551616=(l.getD q 0).toNat
 |[],q=>by
  show 0/18446744073709551616^q%18446744073709551616=0
  rw[Nat.zero_div]
 |a::l,0=>by
  rw[cK9,bf2,by7,List.getD_cons_zero,bK1];exact ar2 a.isLt
 |a::l,q+1=>by
  rw[cK9,List.getD_cons_succ,<-db4 l q,aM5,aZ1 (18446744073709551616^q),<-bJ5,Nat.add_mul_div_left _ _ (by decide),bK5 (show a.toNat < 18446744073709551616 from a.isLt),Nat.zero_add]
theorem er7{v k:Nat}(hm:k < 8):UInt8.ofNat (v%18446744073709551616/2^(8*k))=UInt8.ofNat (v/2^(8*k)):=by
 apply aZ0.1
 rw[t8,t8];rcases(by omega:k=0\/k=1\/k=2\/k=3\/k=4\/k=5\/k=6\/k=7) with rfl|rfl|rfl|rfl|rfl|rfl|rfl|rfl<;>simp only[by5,Nat.reduceMul,Nat.reducePow]<;>omega
theorem eN6(j:Nat):(256:Nat)^j=18446744073709551616^(j/8)*2^(8*(j%8)):=by
 rw[show (256:Nat)=2^8 by decide,show 18446744073709551616=2^64 by decide,<-bS8,<-bS8,<-bC4]
 congr 1
 omega
theorem es4(w:List W)(j:Nat):b81 w j=UInt8.ofNat (ae4 w/256^j):=by
 unfold b81;rw[bt7,aK5,<-db4 w (j/8),er7 (a96 _ (by decide)),eN6 j,<-bJ5]
theorem du9(w:List W):aU0 w=leN 32 (ae4 w):=by
 have hl:=be6 w;refine aW4 fun j=>?_
 by_cases hj:j < 32
 ·have e1:=cY3 w 32 j (xq0 _) hj
  have e2:=cS9 32 (ae4 w) j hj;rw[if_pos hj,es4] at e1;have h2:(leN 32 (ae4 w)).length=32:=bi3 _ _;rw[<-e2] at e1;unfold aU0 at hl⊢;generalize aI6 w 32=a at*;generalize leN 32 (ae4 w)=b at*;rw[List.getD,List.getD,xq1 (by omega),xq1 (by omega)] at e1
  rw[xq1 (by omega),xq1 (by omega)]
  exact congrArg some e1
 ·rw[av1 (by omega),av1 (by rw[bi3];omega)]
theorem dq8{a b c:List UInt8}(ha:a.length=32)(hb:b.length=32)(hc:c.length=32):leV (ax1 a b c)=(leV a*leV b+leV c)%an2/\bF5 (ax1 a b c)=true:=by
 have l1:=aA4 a;have l2:=aA4 b;have l3:=aA4 c;have e1:=b98 (l:=aC5 (ai9 a) (ai9 b)) (bn0 _ _ _);rw[c65 l1 l2,bO8 ha,bO8 hb] at e1;have e2:=cS7 l3;rw[bO8 hc] at e2;have g1:=bl3 (l:=aC5 (ai9 a) (ai9 b)) (bn0 _ _ _);have g2:=bw5 (ai9 c);have e3:=bn1 g1 g2;have g3:(al1 (ap0 (aC5 (ai9 a) (ai9 b))) (aK1 (ai9 c))).1.length=4:=by rw[al1,bb7,g1]
 have e4:=cS7 g3;have z:=bs2 g3;have o1:=a96 (leV a*leV b) (show 0 < an2 by decide)
 have o2:=a96 (leV c) (show 0 < an2 by decide)
 rw[e1,e2] at e3;have e5:ae4 (aK1 (al1 (ap0 (aC5 (ai9 a) (ai9 b))) (aK1 (ai9 c))).1)=(leV a*leV b+leV c)%an2:=by
  rw[e4,bK0];refine congrArg (fun n=>n%an2) ?_
  generalize leV a*leV b%an2=u at*;generalize leV c%an2=v at*;unfold an2 at o1 o2;omega
 have g4:=bw5 (al1 (ap0 (aC5 (ai9 a) (ai9 b))) (aK1 (ai9 c))).1;have e6:ax1 a b c=leN 32 ((leV a*leV b+leV c)%an2):=by
  unfold ax1;rw[du9,e5]
 have o3:=a96 (leV a*leV b+leV c) (show 0 < an2 by decide)
 have e7:leV (ax1 a b c)=(leV a*leV b+leV c)%an2:=by
  rw[e6,b68,ar2 (Nat.lt_trans o3 (by decide))]
 refine⟨e7,?_⟩;unfold bF5;have hl:(ax1 a b c).length=32:=by rw[e6,bi3]
 have m:=aT0 (aA4 (ax1 a b c)) (x:=ae8) rfl;have zz:=bs2 (w:=(ai2 (ai9 (ax1 a b c)) ae8).1) (by rw[ai2,bd1,aA4])
 have nn:=bI4 (ai9 (ax1 a b c)) ae8;rw[bO8 hl,e7,bz8] at m;unfold an2 at o3;exact decide_eq_true (by unfold an2 at m;omega)
end Nu
end
section
namespace Nu
open Go V Fe Sc Cu Ed
theorem c36(seed m:List UInt8):aM7 (al9 seed) m (au6 seed m)=true:=by
 have la:=aD6 seed;have lr:(bn3 seed m).length=32:=bb9 _;unfold au6 al9;generalize bn3 seed m=r at*;generalize au3 seed=a at*;have eR:=cY7 lr;have eA:=cY7 la;have lR:(aG9 r).length=32:=by rw[eR,b74]
 have lk:=bb9 (aG9 r++(aG9 a++m));unfold aM7;rw[List.drop_left' lR,ci2 lR];generalize ax0 (aG9 r++(aG9 a++m))=k at*;obtain⟨v1,v2⟩:=dq8 lk la lr;have ls:=bO3 k a r;generalize ax1 k a r=s at*;have oA:=bi1 bm4 (leV a);have hm:=ek6 (bw1 oA) lk ls;rw[v2,eA,ek0 oA,hm,Bool.true_and,eR];have e:aq1 (nA (bD5 (nA Bp (leV a))) (leV k)) (nA Bp (leV s))=nA Bp (leV r):=by
  rw[v1,<-eO5,cq4 bm4,aZ1,dq7 bm4];exact eC9 oA (bi1 bm4 _) _
 rw[e];simp
end Nu
end
section
open Go V
namespace Ev
theorem cy9{a:bytes}: ∀{l:Prs},(∀b∈l.map (·.1),ah6 a b=true)->ad6 a l=none
 |[],_=>rfl
 |p::r,h=>by
  have h1:=h p.1 (by simp)
  rw[ad6,if_neg (fun e=>cS6 h1 e.symm)]
  exact cy9 fun b hb=>h b (by rw[List.map_cons];exact aA0 _ hb)
theorem dd3: ∀{l m:Prs},srt (l.map (·.1))=true->srt (m.map (·.1))=true->(∀s,ad6 s l=ad6 s m)->l=m
 |[],[],_,_,_=>rfl
 |[],q::m,_,_,h=>by
  have:=h q.1;rw[ad6,ad6,if_pos rfl] at this;cases this
 |p::l,[],_,_,h=>by
  have:=h p.1;rw[ad6,ad6,if_pos rfl] at this;cases this
 |p::l,q::m,hl,hm,h=>by
  have hp: ∀b∈l.map (·.1),ah6 p.1 b=true:=aS0 hl;have hq: ∀b∈m.map (·.1),ah6 q.1 b=true:=aS0 hm;have e:p.1=q.1:=by
   refine Classical.byContradiction fun hne=>?_
   have h1:=h p.1;rw[ad6,if_pos rfl,ad6,if_neg (fun e=>hne e.symm)] at h1
   have m1:p.1∈m.map (·.1):=aE4.1 (by rw[<-h1];rfl)
   have h2:=h q.1;rw[ad6,if_neg hne,ad6,if_pos rfl] at h2;have m2:q.1∈l.map (·.1):=aE4.1 (by rw[h2];rfl)
   have:=aP1 (hq _ m1) (hp _ m2);rw[aA5] at this;cases this
  have e2:p.2=q.2:=by
   have h1:=h p.1;rw[ad6,if_pos rfl,ad6,if_pos e.symm] at h1;exact Option.some.inj h1
  have e3:l=m:=dd3 (bg6 hl) (bg6 hm) fun s=>by
   by_cases hs:p.1=s
   ·subst hs
    rw[cy9 hp,cy9 (by rw[e];exact hq)]
   ·have h1:=h s
    rw[ad6,if_neg hs,ad6,if_neg (by rw[<-e];exact hs)] at h1
    exact h1
  rw[e3,Prod.ext e e2]
theorem bA8{s:bytes}: ∀(l a:Prs),(l.map (·.1)).Nodup->ad6 s (ah2 a l)=(match ad6 s l with|some x=>some x|none=>ad6 s a)
 |[],a,_=>rfl
 |p::r,a,hn=>by
  rw[List.map_cons,ch8] at hn;show ad6 s (ah2 (ad3 p.1 p.2 a) r)=_
  rw[bA8 r _ hn.2,ad6];by_cases h:p.1=s
  ·subst h
   rw[if_pos rfl];have:ad6 p.1 r=none:=by
    cases e:ad6 p.1 r with
    |none=>rfl
    |some x=>exact absurd (aE4.1 (by rw[e];rfl)) hn.1
   rw[this];exact aT5 _ _ _
  ·rw[if_neg h]
   cases ad6 s r with
   |none=>exact aw0 (fun e=>h e.symm) _ _
   |some x=>rfl
theorem cV2{n s:bytes}(h:s≠n)(x y:JV)(b:Prs): ∀a:Prs,ad6 s (a++(n,x)::b)=ad6 s (a++(n,y)::b)
 |[]=>by rw[List.nil_append,List.nil_append,ad6,ad6,if_neg (show¬(n,x).1=s from fun e=>h e.symm),if_neg (show¬(n,y).1=s from fun e=>h e.symm)]
 |p::a=>by rw[List.cons_append,List.cons_append,ad6,ad6,cV2 h x y b a]
theorem cw2: ∀(l a:Prs),srt (a.map (·.1))=true->srt ((ah2 a l).map (·.1))=true
 |[],_,h=>h
 |p::r,a,h=>cw2 r (ad3 p.1 p.2 a) (bs3 h)
theorem bA0{n:bytes}{x y:JV}{a b:Prs}(hn:((a++(n,x)::b).map (·.1)).Nodup):((a++(n,y)::b).map (·.1)).Nodup:=by
 rw[b34,List.map_cons] at hn⊢;exact hn
theorem cd8{n:bytes}{x y:JV}{a b:Prs}(hn:((a++(n,x)::b).map (·.1)).Nodup):ah2 [] (a++(n,y)::b)=ad3 n y (ah2 [] (a++(n,x)::b)):=by
 refine dd3 (cw2 _ _ rfl) (bs3 (cw2 _ _ rfl)) fun s=>?_
 by_cases h:s=n
 ·subst h
  rw[aT5];exact bj0 _ _ (bA0 hn) (cH9 _ (au8 ..))
 ·rw[aw0 h,bA8 _ _ hn,bA8 _ _ (bA0 (y:=y) hn),cV2 h x y]
theorem cy0{l:Prs}(h:(aB7 l).2=0){p:bytes×JV}(hp:p∈l):Lib.validD p.1=true/\ab3 11 p.2=true:=by
 obtain⟨_,ok,hn⟩:=make_is h;have g:ad6 p.1 (ah2 [] l)=some p.2:=bj0 _ _ hn hp;exact⟨ok.valid _ (aE4.1 (by rw[g];rfl)),ok.get g⟩
open Classical in
theorem ek7{l:Prs}(h1:(l.map (·.1)).Nodup)(h2: ∀p∈l,Lib.validD p.1=true/\ab3 11 p.2=true):aB7 l=(ofP ad2 (ah2 [] l),0):=by
 have hg:l.all bA6=true:=xq5.2 fun p hp=>by
  rw[bi8,(h2 p hp).1,bh0 (m:=12) (by omega) _ (h2 p hp).2]
  rfl
 have ht: ¬l.any aY0=true:=fun h=>by
  obtain⟨p,hp,hh⟩:=bK3.1 h;have h3:=bQ5 11 13 p.2 (h2 p hp).2;have h4:12<=al6 13 p.2:=of_decide_eq_true hh;omega
 unfold aB7;rw[if_pos hg,cA0,if_pos ⟨h1,fun s _ h=>by cases h⟩]
 dsimp only;rw[if_neg ht]
theorem d04{n:bytes}{x y:JV}{a b:Prs}(h:(aB7 (a++(n,x)::b)).2=0)(hy:ab3 11 y=true):aB7 (a++(n,y)::b)=(ofP ad2 (ad3 n y (ah2 [] (a++(n,x)::b))),0):=by
 have hn:=(make_is h).2.2;rw[<-cd8 (y:=y) hn];refine ek7 (bA0 hn) fun p hp=>?_
 rcases aR3.1 hp with hp|hp
 ·exact cy0 h (cI0 _ hp)
 ·rcases xq8.1 hp with rfl|hp
  ·exact⟨(cy0 h (p:=(n,x)) (cH9 _ (au8 ..))).1,hy⟩
  ·exact cy0 h (cH9 _ (aA0 _ hp))
def dt9(e:T):Prs:=(aB5,ad5 e.typ)::(if e.state=true then[(aQ1,ad5 e.key)] else[])
def d01(e:T):Prs:=[(bc6,bh9 e.time),(bc7,ad5 e.room),(aL5,ad5 e.sender)]
def ez6(e:T):Prs:=[(aY6,aC9 e.auth),(aY4,aC9 e.prev)]
def dT9(e:T):Prs:=[(aY6,aC9 e.auth),(aY4,aC9 e.prev),(ad4,e.content),(aO2,bh9 e.depth)]
def ao5(e:T):Prs:=(aO2,bh9 e.depth)::(ae0,aw2 e.hash)::(d01 e++(Se.ab5,e.sigs)::dt9 e)
def eb0(e:T):Prs:=d01 e++(Se.ab5,e.sigs)::dt9 e
def ez5(e:T):Prs:=dT9 e++(ae0,aw2 e.hash)::d01 e
theorem ec5(e:T)(x:JV):ac3 {e with content:=x}=ez6 e++(ad4,x)::ao5 e:=rfl
theorem ec4(e:T)(t:bytes):ac3 {e with hash:=t}=dT9 e++(ae0,aw2 t)::eb0 e:=rfl
theorem ec3(e:T)(x:JV):ac3 {e with sigs:=x}=ez5 e++(ab5,x)::dt9 e:=rfl
theorem eN3{e:T}(hn:((ac3 e).map (·.1)).Nodup)(t:bytes):ah2 [] (ac3 {e with hash:=t})=ad3 ae0 (aw2 t) (ah2 [] (ac3 e))/\((ac3 {e with hash:=t}).map (·.1)).Nodup:=by
 have k:ac3 e=dT9 e++(ae0,aw2 e.hash)::eb0 e:=ec4 e e.hash;rw[k] at hn⊢;rw[ec4];exact⟨cd8 hn,bA0 hn⟩
theorem eN2{e:T}(hn:((ac3 e).map (·.1)).Nodup)(x:JV):ah2 [] (ac3 {e with sigs:=x})=ad3 ab5 x (ah2 [] (ac3 e)):=by
 have k:ac3 e=ez5 e++(ab5,e.sigs)::dt9 e:=ec3 e e.sigs;rw[k] at hn⊢;rw[ec3];exact cd8 hn
theorem d05{e:T}(h:(ab1 e).2=0){x:JV}(hx:ab3 11 x=true):ab1 {e with content:=x}=(ofP ad2 (ad3 ad4 x (ah2 [] (ac3 e))),0):=by
 have k:ac3 e=ez6 e++(ad4,e.content)::ao5 e:=ec5 e e.content;unfold ab1 at h⊢;rw[k] at h⊢;rw[ec5];exact d04 h hx
theorem dt6(e:T):((ac3 e).map (·.1)).all (hasB ay4)=true:=by
 unfold ac3;cases e.state<;>kernel_rfl
theorem dV1{e:T}(hn:((ac3 e).map (·.1)).Nodup):av3 (ah2 [] (ac3 e))=ah2 [] (ac3 e):=by
 refine cI2.2 fun q hq=>?_
 have h1:(ad6 q.1 (ah2 [] (ac3 e))).isSome=true:=aE4.2 (ch7 hq);rw[bA8 _ _ hn] at h1;refine xq5.1 (dt6 e) _ (aE4.1 ?_);cases h:ad6 q.1 (ac3 e) with
 |none=>rw[h] at h1;exact h1
 |some x=>rfl
def aL1(e:T):T:={e with content:=am4 (as7 e.typ) e.content}
theorem dJ9{e:T}(h:aq8 e=true):e.content.kind=6:=by
 unfold aq8 at h;simp only[xq3,decide_eq_true_eq] at h;exact h.2.2.2.1.1
theorem cn1{e:T}(h:(aa4 e).2=0):ab6 (aa4 e).1=((aa4 (aL1 e)).1,0)/\(aa4 (aL1 e)).2=0:=by
 obtain⟨hs,hf,hm,hl,hv⟩:=aS8 h;obtain⟨e1,ok,hn⟩:=make_is hm;have hk:=dJ9 hf;have gC:ad6 ad4 (ah2 [] (ac3 e))=some e.content:=bj0 _ _ hn (by simp[ac3])
 have gT:ad6 aB5 (ah2 [] (ac3 e))=some (ad5 e.typ):=bj0 _ _ hn (by simp[ac3])
 obtain⟨k1,k2⟩:=bO9 (as7 e.typ) (ok.get gC) hk;have er:aq6 (ah2 [] (ac3 e))=ad3 ad4 (am4 (as7 e.typ) e.content) (ah2 [] (ac3 e)):=by
  unfold aq6;rw[gC];dsimp only;rw[if_pos hk,dV1 hn];unfold aG8;rw[gT];rfl
 have hr:=(bl4 ok).1;rw[er] at hr;have e2:(ab1 e).1=ofP ad2 (ah2 [] (ac3 e)):=by unfold ab1;rw[e1]
 have e3:ab1 (aL1 e)=(ofP ad2 (ad3 ad4 (am4 (as7 e.typ) e.content) (ah2 [] (ac3 e))),0):=d05 hm k1;have hfc:aq8 (aL1 e)=true:=by
  unfold aq8 at hf⊢;simp only[xq3,decide_eq_true_eq] at hf⊢;exact⟨hf.1,hf.2.1,hf.2.2.1,⟨k2,bh0 (by omega) _ k1⟩,hf.2.2.2.2⟩
 have hlen:(af7 (ofP ad2 (ad3 ad4 (am4 (as7 e.typ) e.content) (ah2 [] (ac3 e))))).length<=8192:=by
  refine ay9 (bN2 (cc6 ?_ _ ok.srt gC)) (by rw[e2] at hl;exact hl)
  have:=co0 (as7 e.typ) (ok.get gC) hk;unfold pw;dsimp only;omega
 have hob:aa4 (aL1 e)=((ab1 (aL1 e)).1,0):=by
  unfold aa4;rw[if_pos ⟨hs,hfc⟩,if_pos];rw[e3];refine⟨rfl,?_⟩;unfold aV8 ai7;rw[if_pos (bH2 (ok.ins bU2 k1)),if_neg (Nat.not_lt.2 hlen)];dsimp only;rw[if_neg (by decide)]
  exact Int.ofNat_le.2 hlen
 rw[hob,e3,hv,e2,hr];exact⟨rfl,rfl⟩
theorem eg2{l:Prs}(hs:srt (l.map (·.1))=true)(q:JV):(aq6 (ad3 ab5 q l)).filter (fun p=>!hasB [Se.ab5,Se.aA3] p.1)=(aq6 l).filter fun p=>!hasB [Se.ab5,Se.aA3] p.1:=by
 have ho:av3 (ad3 ab5 q l)=ad3 ab5 q (av3 l):=bB3 (p:=hasB ay4) (show hasB ay4 ab5=true by decide) _ _ hs
 have hs2:srt ((av3 l).map (·.1))=true:=bM1 hs;have hk:aG8 (ad3 ab5 q l)=aG8 l:=by unfold aG8;rw[aw0 (by decide)]
 have hf: ∀l:Prs,(ad3 ab5 q l).filter (fun p=>!hasB [Se.ab5,Se.aA3] p.1)=l.filter fun p=>!hasB [Se.ab5,Se.aA3] p.1:=fun l=>br2 (p:=fun s=>!hasB [Se.ab5,Se.aA3] s) (by decide) q l
 have hg: ∀(x:JV) {l:Prs},srt (l.map (·.1))=true->(ad3 ad4 x l).filter (fun p=>!hasB [Se.ab5,Se.aA3] p.1)=ad3 ad4 x (l.filter fun p=>!hasB [Se.ab5,Se.aA3] p.1):=fun x l h=>bB3 (p:=fun s=>!hasB [Se.ab5,Se.aA3] s) (by decide) x l h
 unfold aq6;rw[aw0 (by decide),hk,ho]
 cases ad6 ad4 l with
 |none=>exact hf _
 |some c=>
  dsimp only;by_cases hc:c.kind=6
  ·rw[if_pos hc,if_pos hc,hg _ (bs3 hs2),hg _ hs2,hf]
  ·rw[if_neg hc,if_neg hc]
   exact hf _
theorem eb8{l:Prs}(ok:OkL l):Se.aj6 (ofP ad2 l)=if(ai7 (ofP ad2 (l.filter fun p=>!hasB [Se.ab5,Se.aA3] p.1))).2=0 then((ai7 (ofP ad2 (l.filter fun p=>!hasB [Se.ab5,Se.aA3] p.1))).1,0) else([],(ai7 (ofP ad2 (l.filter fun p=>!hasB [Se.ab5,Se.aA3] p.1))).2):=by
 unfold Se.aj6 Se.ba5;rw[if_pos (cJ4 ok),cJ6 ok]
theorem ek4{l:Prs}(ok:OkL l){q:JV}(ok2:OkL (ad3 ab5 q l)):Se.aj6 (ab6 (ofP ad2 (ad3 ab5 q l))).1=Se.aj6 (ab6 (ofP ad2 l)).1:=by
 obtain⟨h1,h2⟩:=bl4 ok;obtain⟨h3,h4⟩:=bl4 ok2;rw[h1,h3,eb8 h2,eb8 h4,eg2 ok.srt]
theorem dD7(s:bytes)(x:JV):at6 ad2 s x=.mk 6 0 [] [s] [x]:=aZ6 ad2 [] s x
theorem dS9{v:JV}{server key:bytes}{t:JV}(h:(bl1 v server key t).2=0):(Se.aj6 v).2=0:=by
 unfold bl1 at h;by_cases h1:(Se.aB4 v&&(Id.aU7 server&&Se.cf2 key))=true
 ·rw[if_pos h1] at h
  by_cases h2:(Se.aj6 v).2=0
  ·exact h2
  ·rw[if_neg h2] at h
   exact h
 ·rw[if_neg h1] at h
  cases h
theorem ee3{v:JV}{server key pub sg:bytes}(ho:am2 v=true)(hs:ae1 v ab5=some (at6 ad2 server (at6 ad2 key (ad5 (ac5 aa6 sg)))))(hm:(Se.aj6 v).2=0)(hl:sg.length=64)(hv:Ed.aM7 pub (Se.aj6 v).1 sg=true):Se.aO4 v server key pub=0:=by
 have hle:=el7 sg;generalize ac5 aa6 sg=tx at*;have e2:Se.ac0 v=at6 ad2 server (at6 ad2 key (ad5 tx)):=by
  unfold Se.ac0;rw[show ae1 v Se.ab5=some _ from hs]
  rfl
 have hop:Se.aB4 v=true:=by
  unfold Se.aB4;rw[e2,ho,dD7,dD7];rfl
 unfold Se.aO4;rw[if_pos hop,if_pos hm,e2];unfold Se.ai0;rw[dd7,if_pos rfl];dsimp only[Option.getD_some];rw[dd7,if_pos rfl];dsimp only;unfold Se.bI1;rw[show (ad5 tx).text=tx from rfl,hle,if_pos ⟨rfl,hl⟩,if_pos hv]
theorem ee2{v:JV}{server key seed:bytes}(ho:am2 v=true)(hs:ae1 v ab5=some (at6 ad2 server (at6 ad2 key (ad5 (ac5 aa6 (Ed.au6 seed (Se.aj6 v).1))))))(hm:(Se.aj6 v).2=0):Se.aO4 v server key (Ed.al9 seed)=0:=by
 have h1:=Ed.bM4 seed (Se.aj6 v).1;have h2:=Nu.c36 seed (Se.aj6 v).1;generalize Ed.au6 seed (Se.aj6 v).1=sg at*;generalize Ed.al9 seed=pb at*;exact ee3 ho hs hm h1 h2
theorem cL7{v:JV}(h:(ab4 v).2=0):aH1 (ab4 v).1=ac5 aa6 (ad1 v).1:=by
 unfold aH1 ak9;rw[cr6 h,Option.getD_some,b48];rfl
theorem eG1{e:T}{q:JV}(h2:(ab1 (ab8 e)).2=0)(h3:(ab4 (ab1 (ab8 e)).1).2=0):ah2 [] (ac3 (ak6 e q))=ad3 ab5 q (prs (ab4 (ab1 (ab8 e)).1).1)/\(ab4 (ab1 (ab8 e)).1).1=ofP ad2 (prs (ab4 (ab1 (ab8 e)).1).1)/\prs (ab1 (ab8 e)).1=ah2 [] (ac3 (ab8 e))/\prs (ab4 (ab1 (ab8 e)).1).1=ad3 ae0 (aw2 (ac5 aa6 (ad1 (ab1 (ab8 e)).1).1)) (ah2 [] (ac3 (ab8 e))):=by
 obtain⟨e1,ok,hn⟩:=make_is h2;have e2:(ab1 (ab8 e)).1=ofP ad2 (ah2 [] (ac3 (ab8 e))):=by unfold ab1;rw[e1]
 have e3:prs (ab1 (ab8 e)).1=ah2 [] (ac3 (ab8 e)):=by rw[e2,cx0]
 have e4:=bw6 (aT3 h3);have e5:=cL7 h3;unfold ak6;rw[e5,e4,e3,cx0];generalize ac5 aa6 (ad1 (ab1 (ab8 e)).1).1=t at*;refine⟨?_,rfl,rfl,rfl⟩;obtain⟨p1,hn2⟩:=eN3 hn t;have p2:=eN2 hn2 q;rw[p1] at p2;exact p2
open Classical in
theorem dH1{e:T}{server key seed:bytes}(h:(ao8 e server key seed).2=0):(aa4 (ao8 e server key seed).1).2=0/\bq0 (aa4 (ao8 e server key seed).1).1=((ao8 e server key seed).1,0)/\aO1 (ao8 e server key seed).1=true/\aU4 (ao8 e server key seed).1 server key (Ed.al9 seed)=0/\(ab6 (aa4 (ao8 e server key seed).1).1).2=0/\bq0 (ab6 (aa4 (ao8 e server key seed).1).1).1=(aL1 (ao8 e server key seed).1,0)/\(aU4 (aL1 (ao8 e server key seed).1) server key (Ed.al9 seed)=0\/aU4 (aL1 (ao8 e server key seed).1) server key (Ed.al9 seed)=17):=by
 obtain⟨q,h1,h2,h3,h4,h5,h6⟩:=cY4 h;have hq:=cD8 h3 h2 h4;rw[h6];obtain⟨l1,l2,l3,l4⟩:=eG1 (q:=q) h2 h3;have hR:=bE0 h5 rfl;obtain⟨r1,r2⟩:=cn1 h5;obtain⟨_,_,hm,_,hv⟩:=aS8 h5;obtain⟨m1,ok,hn⟩:=make_is hm;obtain⟨_,ok0⟩:=aV3 (cr5 h3);have e2:(aa4 (ak6 e q)).1=ofP ad2 (ad3 ab5 q (prs (ab4 (ab1 (ab8 e)).1).1)):=by
  rw[hv,<-l1];unfold ab1;rw[m1]
 rw[l1] at ok;have hmsg:Se.aj6 (ab6 (aa4 (ak6 e q)).1).1=Se.aj6 (ab6 (ab4 (ab1 (ab8 e)).1).1).1:=by
  rw[e2,ek4 ok0 ok,<-l2]
 have hm0:(Se.aj6 (ab6 (ab4 (ab1 (ab8 e)).1).1).1).2=0:=by
  unfold ah8 at h4;rw[if_pos (bP3 h3).1] at h4;have h7:=((Prod.mk.injEq ..).mp h4).2;rw[cl9] at h7;exact dS9 h7
 have hob:=cq0 h5;obtain⟨a1,a2,a3⟩:=dB7 hob;have hgs:ae1 (ab6 (aa4 (ak6 e q)).1).1 ab5=some (at6 ad2 server (at6 ad2 key (ad5 (ac5 aa6 (Ed.au6 seed (Se.aj6 (ab6 (aa4 (ak6 e q)).1).1).1))))):=by
  rw[cN5 hob,hmsg,<-hq,hv];exact bn6 hm (cR8 (ak6 e q))
 have hver:Se.aO4 (ab6 (aa4 (ak6 e q)).1).1 server key (Ed.al9 seed)=0:=ee2 (dc8 (by rw[a2];exact a1)) hgs (by rw[hmsg];exact hm0)
 have hfit:bB0 (aa4 (ak6 e q)).1=true:=by
  have hcon:ad1 (aa4 (ak6 e q)).1=ad1 (ab1 (ab8 e)).1:=by
   have c0:=aT3 h3;obtain⟨f1,f2⟩:=aV3 (aX5 c0);rw[e2,bB6 ok,br2 (p:=fun s=>!hasB [ae0,ab5,aA3] s) (by decide),<-bB6 ok0,<-l2,c81 h3]
  have hgh:ae1 (aa4 (ak6 e q)).1 ae0=some (aw2 (ac5 aa6 (ad1 (ab1 (ab8 e)).1).1)):=by
   rw[hv,<-cL7 h3];exact bn6 hm (by simp[ac3,ak6])
  unfold bB0;rw[hcon,hgh,Option.getD_some,b48,decide_eq_true (aT3 h3)];dsimp only;rw[bL7 (bn8 _) 12];simp
 have hrt: ∀s,aa4 (aL1 {ak6 e q with id:=s})=aa4 (aL1 (ak6 e q)):=fun s=>rfl
 have hnm:aq2 (aa4 (aL1 (ak6 e q))).1=aq2 (aa4 (ak6 e q)).1:=by rw[<-a3,r1]
 have hb:=bV2 r2;rw[hnm] at hb;refine⟨h5,?_,hR,?_,a1,?_,?_⟩
 ·exact bV2 h5
 ·unfold aU4
  rw[if_pos hR,br4];unfold bs0;rw[if_pos ⟨a1,hver⟩,if_pos hfit]
 ·rw[br4,r1]
  exact hb
 ·have hR2:aO1 (aL1 {ak6 e q with id:=(aq2 (aa4 (ak6 e q)).1).1})=true:=bE0 (e:=aL1 (ak6 e q)) r2 (by rw[hnm])
  unfold aU4;rw[if_pos hR2,hrt];unfold bs0;have e4:(aa4 (aL1 (ak6 e q))).1=(ab6 (aa4 (ak6 e q)).1).1:=by rw[r1]
  rw[e4,a2,if_pos ⟨a1,hver⟩];split
  ·exact .inl rfl
  ·exact .inr rfl
theorem dz7(e:T):aa2 (aL1 e).content<=aa2 e.content:=bz2 _ _
end Ev
end
section
open Go V
namespace Ev
theorem dP8(e:T)(H:List AObj)(hb:Bd e)(hr:aO1 e=true)(ho:(aa4 e).2=0)(hd:(ab6 (aa4 e).1).2=0)(hbb:Bd (ofJ (ab6 (aa4 e).1).1)):o8 Tryz.prog 9 [av e] H (fun y H'=>y=bl2 (bq0 (ab6 (aa4 e).1).1)/\H'=H):=by
 have c1:=fun H=>aF1 e H hb
 have c2:=fun H=>a00 e H hb
 have s1:=aI9 hb;have c3:=fun H=>bR6 (aa4 e).1 H (by omega)
 have s2:=a06 (aa4 e).1;have c4:=fun H=>cZ9 (ab6 (aa4 e).1).1 H (by omega) hbb
 rw[hr] at c1;unfold af9 at c2 c3;unfold bl2 at c4⊢;clear hbb s1 s2;generalize bq0 (ab6 (aa4 e).1).1=q at*;generalize ab6 (aa4 e).1=rd at*;generalize aa4 e=ob at*;have hoc:=eq_true ho;have hdc:=eq_true hd;unfold av cells at*;refine y8 [] [.cell 2 27,.tmp 3] 32 Tryz.func9 ?_;repeat' first|refine o6 ?_|simp -dsimp -implicitDefEqProofs (disch:=(simp only[ll];omega)) only[go_sem,hoc,hdc]|refine o5 (c1 _) ?_|refine⟨_,_,c1 _,?_⟩|refine o5 (c2 _) ?_|refine⟨_,_,c2 _,?_⟩|refine o5 (c3 _) ?_|refine⟨_,_,c3 _,?_⟩|refine o5 (c4 _) ?_|refine⟨_,_,c4 _,?_⟩|fail
 exact b75 (e:=q.1) rfl
theorem ef4{a b:bytes}{l:List AV}(h:l.length=32):((AV.str a::AV.str b::l).drop 2).take 32=l:=by
 show l.take 32=l
 exact al2 (by omega)
theorem d81{e:T}{server key seed:bytes}(hb:Bd e)(h1:server.length<=1000)(h2:key.length<=1000)(h:(ao8 e server key seed).2=0):Bd (ao8 e server key seed).1:=by
 obtain⟨q,_,k2,k3,k4,k5,k6⟩:=cY4 h;have b:=cz5 hb h1 h2 k2 k3 k4;rw[k6];exact⟨b.room,b.sender,b.typ,b.key,b.content,b.sigs,b.hash⟩
theorem dN7{e:T}(b:Bd e):Bd (aL1 e):=⟨b.room,b.sender,b.typ,b.key,ay9 (dz7 e) b.content,b.sigs,b.hash⟩
theorem dh4{e:T}(b:Bd e)(s:bytes):Bd {e with id:=s}:=⟨b.room,b.sender,b.typ,b.key,b.content,b.sigs,b.hash⟩
theorem c08(e:T)(server key seed:bytes)(H:List AObj)(hd:seed.length=32):o8 Tryz.prog 3 [av e,aS2 server key seed] H (fun y H'=>y=.bool true/\H'=H):=by
 have c0:=fun H=>eu0 H
 have c1:=fun H=>ev2 e H
 cases hg:bw7 e with
 |true=>
  rw[hg] at c1;unfold av cells aS2 at*;refine y8 [1000011,1000011022026,1000011023026,1000013,1000013000004,1000013001004] [.tmp 4] 105 Tryz.func3 ?_;repeat' first|refine o6 ?_|simp -dsimp -implicitDefEqProofs only[go_sem,ac1,hd,aj3,ak3,List.drop_zero,xq9]|refine o5 (c0 _) ?_|refine⟨_,_,c0 _,?_⟩|refine o5 (c1 _) ?_|refine⟨_,_,c1 _,?_⟩|fail
  exact o9 ⟨rfl,rfl⟩
 |false=>
  rw[hg] at c1;have hsm:=dJ0 hg;have hb:=eM7 hsm;by_cases h1:server.length<=1000
  ·have h1c:((1000:Int) < (server.length:Int))=False:=eq_false (by omega)
   by_cases h2:key.length<=1000
   ·have h2c:((1000:Int) < (key.length:Int))=False:=eq_false (by omega)
    have c2:=fun H=>di1 e server key seed H hb h1 h2 hd
    by_cases hf:(ao8 e server key seed).2=0
    ·have ba:=d81 hb h1 h2 hf
     obtain⟨a1,a2,a3,a4,a5,a6,a7⟩:=dH1 hf;have c3:=fun H=>Ed.c04 seed H hd
     have hpl:(Ed.al9 seed).length=32:=Cu.bo2 _;unfold bl2 at c2;rw[hf] at c2;clear hf;generalize (ao8 e server key seed).1=a at*;have ff:=bw9 (aS8 a1).2.1;have c4:=fun H=>aZ8 a server key seed (Ed.al9 seed) H ba h2 hd hpl
     have c5:=fun H=>aZ8 (aL1 a) server key seed (Ed.al9 seed) H (dN7 ba) h2 hd hpl
     have c6:=fun H=>a00 a H ba
     have c7:=fun H=>aF1 a H ba
     have s5:=aI9 ba;have c8:=fun H=>cZ9 (aa4 a).1 H s5 (by rw[bl5 a1];exact dh4 ba [])
     obtain⟨r1,r2⟩:=cn1 a1;have c9:=fun H=>dP8 a H ba a3 a1 a5 (by rw[r1,bl5 r2];exact dh4 (dN7 ba) [])
     have c10:=fun H=>bZ7 a H ba (by have:=ff.prev.1;omega) (by have:=ff.auth.1;omega)
     rw[a4] at c4;rw[a3] at c7;rw[a2] at c8;rw[a6] at c9;unfold af9 at c6;unfold bl2 at c8 c9;clear r1 r2 s5 ff a2 a3 a4 a5 a6 ba hsm hb;generalize aa4 a=ob at*;have hoc:=eq_true a1;have hid:(aL1 a).id=a.id:=rfl;generalize aL1 a=c at*;have tk:=ef4 (a:=server) (b:=key) (l:=seed.map o7) (by rw[List.length_map,hd])
     generalize Ed.al9 seed=pb at*;unfold av cells aS2 at*;simp only[hid] at c5 c9;rcases a7 with a7|a7
     ·rw[a7] at c5
      clear a7;refine y8 [1000011,1000011022026,1000011023026,1000013,1000013000004,1000013001004] [.tmp 4] 105 Tryz.func3 ?_;repeat' first|refine o6 ?_|simp -dsimp -implicitDefEqProofs (disch:=omega) only[go_sem,h1c,h2c,hoc,hid,tk,ac1,hd,hpl,aj3,ak3,List.drop_zero,xq9]|refine o5 (c0 _) ?_|refine⟨_,_,c0 _,?_⟩|refine o5 (c1 _) ?_|refine⟨_,_,c1 _,?_⟩|refine o5 (c2 _) ?_|refine⟨_,_,c2 _,?_⟩|refine o5 (c3 _) ?_|refine⟨_,_,c3 _,?_⟩|refine o5 (c4 _) ?_|refine⟨_,_,c4 _,?_⟩|refine o5 (c5 _) ?_|refine⟨_,_,c5 _,?_⟩|refine o5 (c6 _) ?_|refine⟨_,_,c6 _,?_⟩|refine o5 (c7 _) ?_|refine⟨_,_,c7 _,?_⟩|refine o5 (c8 _) ?_|refine⟨_,_,c8 _,?_⟩|refine o5 (c9 _) ?_|refine⟨_,_,c9 _,?_⟩|refine o5 (c10 _) ?_|refine⟨_,_,c10 _,?_⟩|refine vcA ?_ ?_
      exact aE5 ⟨rfl,rfl⟩
     ·rw[a7] at c5
      clear a7;refine y8 [1000011,1000011022026,1000011023026,1000013,1000013000004,1000013001004] [.tmp 4] 105 Tryz.func3 ?_;repeat' first|refine o6 ?_|simp -dsimp -implicitDefEqProofs (disch:=omega) only[go_sem,h1c,h2c,hoc,hid,tk,ac1,hd,hpl,aj3,ak3,List.drop_zero,xq9]|refine o5 (c0 _) ?_|refine⟨_,_,c0 _,?_⟩|refine o5 (c1 _) ?_|refine⟨_,_,c1 _,?_⟩|refine o5 (c2 _) ?_|refine⟨_,_,c2 _,?_⟩|refine o5 (c3 _) ?_|refine⟨_,_,c3 _,?_⟩|refine o5 (c4 _) ?_|refine⟨_,_,c4 _,?_⟩|refine o5 (c5 _) ?_|refine⟨_,_,c5 _,?_⟩|refine o5 (c6 _) ?_|refine⟨_,_,c6 _,?_⟩|refine o5 (c7 _) ?_|refine⟨_,_,c7 _,?_⟩|refine o5 (c8 _) ?_|refine⟨_,_,c8 _,?_⟩|refine o5 (c9 _) ?_|refine⟨_,_,c9 _,?_⟩|refine o5 (c10 _) ?_|refine⟨_,_,c10 _,?_⟩|refine vcA ?_ ?_
      exact aE5 ⟨rfl,rfl⟩
    ·have hfc:=eq_false hf
     have hz:=dN5 hf;unfold bl2 at c2;rw[hz] at c2;generalize (ao8 e server key seed).2=f at*;unfold av cells aS2 at*;have hzi:zero.id=[]:=rfl;refine y8 [1000011,1000011022026,1000011023026,1000013,1000013000004,1000013001004] [.tmp 4] 105 Tryz.func3 ?_;repeat' first|refine o6 ?_|simp -dsimp -implicitDefEqProofs (disch:=omega) only[go_sem,h1c,h2c,hfc,hzi,ac1,hd,aj3,ak3,List.drop_zero,xq9]|refine o5 (c0 _) ?_|refine⟨_,_,c0 _,?_⟩|refine o5 (c1 _) ?_|refine⟨_,_,c1 _,?_⟩|refine o5 (c2 _) ?_|refine⟨_,_,c2 _,?_⟩|fail
     exact aE5 ⟨rfl,rfl⟩
   ·have h2c:((1000:Int) < (key.length:Int))=True:=eq_true (by omega)
    unfold av cells aS2 at*;refine y8 [1000011,1000011022026,1000011023026,1000013,1000013000004,1000013001004] [.tmp 4] 105 Tryz.func3 ?_;repeat' first|refine o6 ?_|simp -dsimp -implicitDefEqProofs (disch:=omega) only[go_sem,h1c,h2c,ac1,hd,aj3,ak3,List.drop_zero,xq9]|refine o5 (c0 _) ?_|refine⟨_,_,c0 _,?_⟩|refine o5 (c1 _) ?_|refine⟨_,_,c1 _,?_⟩|fail
    exact o9 ⟨rfl,rfl⟩
  ·have h1c:((1000:Int) < (server.length:Int))=True:=eq_true (by omega)
   unfold av cells aS2 at*;refine y8 [1000011,1000011022026,1000011023026,1000013,1000013000004,1000013001004] [.tmp 4] 105 Tryz.func3 ?_;repeat' first|refine o6 ?_|simp -dsimp -implicitDefEqProofs (disch:=omega) only[go_sem,h1c,ac1,hd,aj3,ak3,List.drop_zero,xq9]|refine o5 (c0 _) ?_|refine⟨_,_,c0 _,?_⟩|refine o5 (c1 _) ?_|refine⟨_,_,c1 _,?_⟩|fail
   exact o9 ⟨rfl,rfl⟩
end Ev
end
section
open Go V Go.ChangeShapes Go.WideShapes Go.ChangeAt Go.RowKit
theorem own:ownKnob Tryz.prog.godebug=none:=by kernel_rfl
theorem kids:Kids Tryz.prog (· < Tryz.prog.types.size):=kids_rows (by kernel_rfl) (by kernel_rfl)
theorem dz6:((List.range Tryz.prog.types.size).all fun t=>match Tryz.prog.underlying t with|some (.slice e)=>decide (0 < Tryz.prog.cellsOf e)|_=>true)=true:=by kernel_rfl
theorem hsz{t e:TypeId}(ht:t < Tryz.prog.types.size)(h:Tryz.prog.underlying t=some (.slice e)):0 < Tryz.prog.cellsOf e:=by
 have:=xq5.1 dz6 t (ba0.2 ht);rw[h] at this;simpa using this
theorem du8:Tryz.prog.cellsOf 5=1:=by kernel_rfl
theorem bQ6:Tryz.prog.cellsOf 95=1:=by kernel_rfl
theorem eP0:Tryz.prog.globalNamed "internal/strconv.uint64pow10" =some 11:=by kernel_rfl
theorem eM2:(Tryz.prog.globals[11]?).map (·.type)=some 288:=by kernel_rfl
theorem eQ0:Tryz.prog.cellsOf 288=20:=by kernel_rfl
theorem dU0:(Rows.laid_internal_strconv_uint64pow10:DataW Unit)=Lib.tabData .u64 ((List.range 20).map fun i=>((10^i:Nat):Int)):=by kernel_rfl
theorem d39:Tryz.prog.globalNamed "unicode/utf8.acceptRanges" =some 3:=by kernel_rfl
theorem dQ8:(Tryz.prog.globals[3]?).map (·.type)=some 157:=by kernel_rfl
theorem eJ6:Tryz.prog.cellsOf 156=2:=by kernel_rfl
theorem da3:(Rows.laid_unicode_utf8_acceptRanges:DataW Unit)=Lib.acceptData:=by kernel_rfl
theorem eP1:Tryz.prog.globalNamed "vouchsafe/field.One" =some 6:=by kernel_rfl
theorem eM3:(Tryz.prog.globals[6]?).map (·.type)=some 97:=by kernel_rfl
theorem eQ1:Tryz.prog.cellsOf 97=5:=by kernel_rfl
theorem dW6:(Rows.laid_vouchsafe_field_One:DataW Unit)=Lib.tabData .u64 (cQ0.map fun n:Nat=>(n:Int)):=by kernel_rfl
theorem eG0:Tryz.prog.globalNamed "vouchsafe/curve.once" =some 8:=by kernel_rfl
theorem ew1:(Tryz.prog.globals[8]?).map (·.type)=some 97:=by kernel_rfl
theorem eJ0:Tryz.prog.cellsOf 97=5:=by kernel_rfl
theorem dD8:(Rows.laid_vouchsafe_curve_once:DataW Unit)=Lib.tabData .u64 (b58.map fun n:Nat=>(n:Int)):=by kernel_rfl
theorem eo9:Tryz.prog.globalNamed "vouchsafe/scalar.order" =some 5:=by kernel_rfl
theorem ed7:(Tryz.prog.globals[5]?).map (·.type)=some 183:=by kernel_rfl
theorem er4:Tryz.prog.cellsOf 183=4:=by kernel_rfl
theorem dp1:(Rows.laid_vouchsafe_scalar_order:DataW Unit)=Lib.tabData .u64 (bv9.map fun n:Nat=>(n:Int)):=by kernel_rfl
theorem eF9:Tryz.prog.globalNamed "vouchsafe/scalar.tail" =some 10:=by kernel_rfl
theorem ew0:(Tryz.prog.globals[10]?).map (·.type)=some 276:=by kernel_rfl
theorem eI8:Tryz.prog.cellsOf 276=2:=by kernel_rfl
theorem dy2:(Rows.laid_vouchsafe_scalar_tail:DataW Unit)=Lib.tabData .u64 (b44.map fun n:Nat=>(n:Int)):=by kernel_rfl
theorem eo7:Tryz.prog.globalNamed "strings.asciiSpace" =some 4:=by kernel_rfl
theorem ed5:(Tryz.prog.globals[4]?).map (·.type)=some 154:=by kernel_rfl
theorem er2:Tryz.prog.cellsOf 154=256:=by kernel_rfl
theorem dm4:(Rows.laid_strings_asciiSpace:DataW Unit)=Lib.tabData .u8 ((List.range 256).map fun c=>((bU5 c:Nat):Int)):=by kernel_rfl
theorem eo8:Tryz.prog.globalNamed "vouchsafe/sha.roots" =some 1:=by kernel_rfl
theorem ed6:(Tryz.prog.globals[1]?).map (·.type)=some 140:=by kernel_rfl
theorem er3:Tryz.prog.cellsOf 140=80:=by kernel_rfl
theorem dn6:(Rows.laid_vouchsafe_sha_roots:DataW Unit)=Lib.tabData .u64 (bm8.map fun n:Nat=>(n:Int)):=by kernel_rfl
theorem d38:Tryz.prog.globalNamed "vouchsafe/sha.begins" =some 0:=by kernel_rfl
theorem dQ7:(Tryz.prog.globals[0]?).map (·.type)=some 139:=by kernel_rfl
theorem d71:Tryz.prog.cellsOf 139=8:=by kernel_rfl
theorem c96:(Rows.laid_vouchsafe_sha_begins:DataW Unit)=Lib.tabData .u64 (bj7.map fun n:Nat=>(n:Int)):=by kernel_rfl
theorem ep0:Tryz.prog.globalNamed "unicode/utf8.first" =some 2:=by kernel_rfl
theorem ed8:(Tryz.prog.globals[2]?).map (·.type)=some 154:=by kernel_rfl
theorem er5:Tryz.prog.cellsOf 154=256:=by kernel_rfl
theorem dt5:(Rows.laid_unicode_utf8_first:DataW Unit)=Lib.tabData .u8 ((List.range 256).map fun c=>(Lib.firstT c:Int)):=by kernel_rfl
noncomputable def bl9:List (String×DataW Unit):=[("math/bits.deBruijn32tab",Rows.laid_math_bits_deBruijn32tab),("math/bits.deBruijn64tab",Rows.laid_math_bits_deBruijn64tab),("internal/strconv.uint64pow10",Rows.laid_internal_strconv_uint64pow10),("unicode/utf8.acceptRanges",Rows.laid_unicode_utf8_acceptRanges),("vouchsafe/field.One",Rows.laid_vouchsafe_field_One),("vouchsafe/curve.once",Rows.laid_vouchsafe_curve_once),("vouchsafe/scalar.order",Rows.laid_vouchsafe_scalar_order),("vouchsafe/scalar.tail",Rows.laid_vouchsafe_scalar_tail),("unicode.White_Space",Rows.laid_unicode_White_Space),("strings.asciiSpace",Rows.laid_strings_asciiSpace),("vouchsafe/sha.roots",Rows.laid_vouchsafe_sha_roots),("vouchsafe/sha.begins",Rows.laid_vouchsafe_sha_begins),("unicode/utf8.first",Rows.laid_unicode_utf8_first)]
theorem tabs{W:World}(h:laidMet Tryz.prog bl9 W)(ho:W.ShapedOpen Tryz.prog):cJ8 W:=by
 unfold bl9 at h;refine⟨fun g j v e=>?_,fun g t e=>?_,fun g e=>?_⟩
 ·unfold aW5 at e
  split at e
  ·obtain⟨g,t,cs,fuel,p,hg,hty,hvar,hd⟩:=Lib.laidMet.reads h (n:= "vouchsafe/sha.begins") (d:=Rows.laid_vouchsafe_sha_begins) (by simp)
   obtain rfl:=Option.some.inj (d38.symm.trans hg);obtain rfl:=Option.some.inj (dQ7.symm.trans hty);rw[c96] at hd;have hcs:=Lib.cells_of_tab Tryz.underlying139 Tryz.underlying95 bQ6 d71 hd;rw[World.var?_cell hg hvar j,<-aW2,hcs,aW3];exact e
  ·obtain⟨g,t,cs,fuel,p,hg,hty,hvar,hd⟩:=Lib.laidMet.reads h (n:= "vouchsafe/sha.roots") (d:=Rows.laid_vouchsafe_sha_roots) (by simp)
   obtain rfl:=Option.some.inj (eo8.symm.trans hg);obtain rfl:=Option.some.inj (ed6.symm.trans hty);rw[dn6] at hd;have hcs:=Lib.cells_of_tab Tryz.underlying140 Tryz.underlying95 bQ6 er3 hd;rw[World.var?_cell hg hvar j,<-aW2,hcs,aW3];exact e
  ·obtain⟨g,t,cs,fuel,p,hg,hty,hvar,hd⟩:=Lib.laidMet.reads h (n:= "unicode/utf8.first") (d:=Rows.laid_unicode_utf8_first) (by simp)
   obtain rfl:=Option.some.inj (ep0.symm.trans hg);obtain rfl:=Option.some.inj (ed8.symm.trans hty);rw[dt5] at hd;have hcs:=Lib.cells_of_tab Tryz.underlying154 Tryz.underlying5 du8 er5 hd;rw[World.var?_cell hg hvar j,<-aW2,hcs,aW3];exact e
  ·obtain⟨g,t,cs,fuel,p,hg,hty,hvar,hd⟩:=Lib.laidMet.reads h (n:= "unicode/utf8.acceptRanges") (d:=Rows.laid_unicode_utf8_acceptRanges) (by simp)
   obtain rfl:=Option.some.inj (d39.symm.trans hg);obtain rfl:=Option.some.inj (dQ8.symm.trans hty);rw[da3] at hd;rw[World.var?_cell hg hvar j,<-aW2];have hj:j < 32:=(show aR9.length=32 from rfl)▸(aa0 e:j < aR9.length)
   obtain⟨fuel',d,q,hdi,he⟩:=Lib.array_elem Tryz.underlying157 hd (j/2) (by omega)
   simp only[ak8,aI7 (show j/2 < 16 by omega),Option.map_some,Option.some.injEq] at hdi
   subst hdi;rw[eJ6] at he;have hcs:=Lib.ints_of_struct Tryz.underlying156 (fun j f hj=>by
    match j,hj with
    |0,hj=>simp at hj;subst hj;exact⟨Tryz.underlying5,rfl,du8⟩
    |1,hj=>simp at hj;subst hj;exact⟨Tryz.underlying5,rfl,du8⟩
    |j+2,hj=>simp at hj) (by rw[eJ6];rfl) he
   have e0:=congrArg (·[j%2]?) hcs;simp only[aK6,aP9,show j%2 < 2 by omega,if_true,show j/2*2+j%2=j by omega] at e0
   rw[e0,<-e];have key: ∀k,k < 32->(List.map (fun z=>Value.int .u8 z) [((Lib.accLo (k/2):Nat):Int),((Lib.accHi (k/2):Nat):Int)])[k%2]?=aR9[k]?:=by
    intro k hk;match k,hk with
    |0,_|1,_|2,_|3,_|4,_|5,_|6,_|7,_|8,_|9,_|10,_|11,_|12,_|13,_|14,_|15,_|16,_|17,_|18,_|19,_|20,_|21,_|22,_|23,_|24,_|25,_|26,_|27,_|28,_|29,_|30,_|31,_=>rfl
    |_+32,h=>omega
   exact key j hj
  ·obtain⟨g,t,cs,fuel,p,hg,hty,hvar,hd⟩:=Lib.laidMet.reads h (n:= "strings.asciiSpace") (d:=Rows.laid_strings_asciiSpace) (by simp)
   obtain rfl:=Option.some.inj (eo7.symm.trans hg);obtain rfl:=Option.some.inj (ed5.symm.trans hty);rw[dm4] at hd;have hcs:=Lib.cells_of_tab Tryz.underlying154 Tryz.underlying5 du8 er2 hd;rw[World.var?_cell hg hvar j,<-aW2,hcs,aW3];exact e
  ·obtain⟨g,t,cs,fuel,p,hg,hty,hvar,hd⟩:=Lib.laidMet.reads h (n:= "vouchsafe/scalar.order") (d:=Rows.laid_vouchsafe_scalar_order) (by simp)
   obtain rfl:=Option.some.inj (eo9.symm.trans hg);obtain rfl:=Option.some.inj (ed7.symm.trans hty);rw[dp1] at hd;have hcs:=Lib.cells_of_tab Tryz.underlying183 Tryz.underlying95 bQ6 er4 hd;rw[World.var?_cell hg hvar j,<-aW2,hcs,aW3];exact e
  ·obtain⟨g,t,cs,fuel,p,hg,hty,hvar,hd⟩:=Lib.laidMet.reads h (n:= "vouchsafe/field.One") (d:=Rows.laid_vouchsafe_field_One) (by simp)
   obtain rfl:=Option.some.inj (eP1.symm.trans hg);obtain rfl:=Option.some.inj (eM3.symm.trans hty);rw[dW6] at hd;have hcs:=Lib.cells_of_tab Tryz.underlying97 Tryz.underlying95 bQ6 eQ1 hd;rw[World.var?_cell hg hvar j,<-aW2,hcs,aW3];exact e
  ·obtain⟨g,t,cs,fuel,p,hg,hty,hvar,hd⟩:=Lib.laidMet.reads h (n:= "vouchsafe/curve.once") (d:=Rows.laid_vouchsafe_curve_once) (by simp)
   obtain rfl:=Option.some.inj (eG0.symm.trans hg);obtain rfl:=Option.some.inj (ew1.symm.trans hty);rw[dD8] at hd;have hcs:=Lib.cells_of_tab Tryz.underlying97 Tryz.underlying95 bQ6 eJ0 hd;rw[World.var?_cell hg hvar j,<-aW2,hcs,aW3];exact e
  ·obtain⟨g,t,cs,fuel,p,hg,hty,hvar,hd⟩:=Lib.laidMet.reads h (n:= "vouchsafe/scalar.tail") (d:=Rows.laid_vouchsafe_scalar_tail) (by simp)
   obtain rfl:=Option.some.inj (eF9.symm.trans hg);obtain rfl:=Option.some.inj (ew0.symm.trans hty);rw[dy2] at hd;have hcs:=Lib.cells_of_tab Tryz.underlying276 Tryz.underlying95 bQ6 eI8 hd;rw[World.var?_cell hg hvar j,<-aW2,hcs,aW3];exact e
  ·obtain⟨g,t,cs,fuel,p,hg,hty,hvar,hd⟩:=Lib.laidMet.reads h (n:= "internal/strconv.uint64pow10") (d:=Rows.laid_internal_strconv_uint64pow10) (by simp)
   obtain rfl:=Option.some.inj (eP0.symm.trans hg);obtain rfl:=Option.some.inj (eM2.symm.trans hty);rw[dU0] at hd;have hcs:=Lib.cells_of_tab Tryz.underlying288 Tryz.underlying95 bQ6 eQ0 hd;rw[World.var?_cell hg hvar j,<-aW2,hcs,aW3];exact e
  ·simp at e
 ·unfold bd7 at e
  cases e
 ·unfold d33 at e
  split at e
  ·exact cell_of_shapedOpen_int (t:=3) (zero:= #[.int .i64 0]) ho (of_decide_eq_true (by kernel_rfl)) (by kernel_rfl) rfl (by kernel_rfl) (by kernel_rfl) Tryz.underlying3
  ·cases e
noncomputable def aE9(cs:List Value):Obj->Obj
 |.cells _ t frozen=>.cells cs.toArray t frozen
 |o=>o
def cS4:DataW Unit->List Value
 |.agg l=>l.filterMap fun|.lit (.int k n)=>some (.int k n)|_=>none
 |_=>[]
noncomputable def bx7(os:Os):Array Obj:=(World.holding Tryz.prog os ⟨#[],#[],[]⟩).heap
noncomputable def laidWorld(os:Os):World:=
 {World.holding Tryz.prog os ⟨#[],#[],[]⟩ with heap:=(((((((((((((((bx7 os).modify 12 (aE9 (cS4 Rows.laid_math_bits_deBruijn32tab))).modify 13 (aE9 (cS4 Rows.laid_math_bits_deBruijn64tab))).modify 11 (aE9 bu9)).modify 3 (aE9 aR9)).modify 6 (aE9 cL6)).modify 8 (aE9 cv8)).modify 5 (aE9 cd0)).modify 10 (aE9 cv7)).modify 7 (aE9 [.pointer (some ⟨(bx7 os).size+0,0,none⟩)])).modify 4 (aE9 bg2)).modify 1 (aE9 bg3)).modify 0 (aE9 a03)).modify 2 (aE9 bv0)).push (.cells #[.slice (some ⟨(bx7 os).size+1,0,none⟩) 7 7,.slice none 0 0,.int .i64 2] 256 (0,0))).push (.cells #[.int .u16 9,.int .u16 13,.int .u16 1,.int .u16 32,.int .u16 133,.int .u16 101,.int .u16 160,.int .u16 5760,.int .u16 5600,.int .u16 8192,.int .u16 8202,.int .u16 1,.int .u16 8232,.int .u16 8233,.int .u16 1,.int .u16 8239,.int .u16 8287,.int .u16 48,.int .u16 12288,.int .u16 12288,.int .u16 1] 259 (0,0))}
noncomputable def dH3(os:Os):List Nat:=[12,13,11,3,6,8,5,10,7,(bx7 os).size+0,(bx7 os).size+1,4,1,0,2]
end
section
open Go V Go.ChangeShapes Go.WideShapes Go.ChangeAt Go.RowKit
theorem dP0{P:Program}{W:World}{base:Nat}{t:TypeId}{fs:Array Field}{v:Value}(hd:P.underlying t=some (.struct fs))(k:Value.okWide P W .any base t v): ∃cs,v=.agg cs:=by
 unfold Value.okWide at k;rw[hd] at k;obtain⟨cs,h,_⟩:=k;exact⟨cs,h⟩
theorem aq5{W:World}{x:AV}{c:Value}(hx:x.flat=[x])(h:bR5 W x [c]):Rel (G₀ W) [] W x c:=h.2.2 0 x c (by rw[hx];rfl) rfl
theorem ec7:Tryz.prog.cellsOf 3=1:=by kernel_rfl
theorem b79:Tryz.prog.cellsOf 9=1:=by kernel_rfl
theorem dM8:Tryz.prog.cellsOf 22=1:=by kernel_rfl
theorem eQ2:Tryz.prog.cellsOf 23=1:=by kernel_rfl
theorem d70:Tryz.prog.cellsOf 25=5:=by kernel_rfl
section
variable {H:Type}{enc:TypeId×Value->H}{W:World}
theorem five{α:Type}{l:List α}(h:l.length=5): ∃a b c d e,l=[a,b,c,d,e]:=by
 match l,h with
 |[a,b,c,d,e],_=>exact⟨a,b,c,d,e,rfl⟩
theorem ce4: ∀n,aE2 enc Tryz.prog W n 25 jAV (fun _=>True)
 |0=>aE2.zero
 |n+1=>fun m cs x hm hx=>by
  obtain⟨xs,n',rfl,rfl,hl,hxl,hf⟩:=DataW.trod_struct Tryz.underlying25 hx;rw[d70] at hl;have h0:DataW.trod enc Tryz.prog W 0 (fun _=>true) true n' 3 ((cs.drop 0).take (Tryz.prog.cellsOf 3))=xs[0]?:=hf 0 _ rfl
  have h1:DataW.trod enc Tryz.prog W 0 (fun _=>true) true n' 3 ((cs.drop 1).take (Tryz.prog.cellsOf 3))=xs[1]?:=hf 1 _ rfl
  have h2:DataW.trod enc Tryz.prog W 0 (fun _=>true) true n' 9 ((cs.drop 2).take (Tryz.prog.cellsOf 9))=xs[2]?:=hf 2 _ rfl
  have h3:DataW.trod enc Tryz.prog W 0 (fun _=>true) true n' 22 ((cs.drop 3).take (Tryz.prog.cellsOf 22))=xs[3]?:=hf 3 _ rfl
  have h4:DataW.trod enc Tryz.prog W 0 (fun _=>true) true n' 23 ((cs.drop 4).take (Tryz.prog.cellsOf 23))=xs[4]?:=hf 4 _ rfl
  rw[ec7] at h0 h1;rw[b79] at h2;rw[dM8] at h3;rw[eQ2] at h4;obtain⟨k0,k1,k2,k3,k4,rfl⟩:=five hl;obtain⟨x0,x1,x2,x3,x4,rfl⟩:=five (hxl.trans (by rfl))
  obtain⟨a,_,r0⟩:=bn2 (enc:=enc) (w:=W) (n'+1) Tryz.underlying3 n' _ _ (aK3 _) h0;obtain⟨b,_,r1⟩:=bn2 (enc:=enc) (w:=W) (n'+1) Tryz.underlying3 n' _ _ (aK3 _) h1;obtain⟨c,_,r2⟩:=ap9 (enc:=enc) (w:=W) (n'+1) Tryz.underlying9 n' _ _ (aK3 _) h2;obtain⟨d,_,r3⟩:=bl6 Tryz.underlying22 b79 (by decide) (ap9 (enc:=enc) (w:=W) n' Tryz.underlying9) n' _ _ (aK3 _) h3
  obtain⟨f,_,r4⟩:=bl6 Tryz.underlying23 d70 (by decide) (ce4 n) n' _ _ (by omega) h4
  refine⟨.mk a b c d f,trivial,b60,by rw[av5];rfl,fun j y u ey eu=>?_⟩
  rw[av5] at ey;match j,ey,eu with
  |0,ey,eu=>cases ey;cases eu;exact aq5 rfl r0
  |1,ey,eu=>cases ey;cases eu;exact aq5 rfl r1
  |2,ey,eu=>cases ey;cases eu;exact aq5 rfl r2
  |3,ey,eu=>cases ey;cases eu;exact aq5 rfl r3
  |4,ey,eu=>cases ey;cases eu;exact aq5 rfl r4
end
theorem cq7{W:World}:laidMetH Tryz.prog bl9 W=laidMet Tryz.prog bl9 W:=MakeChecks.laidMetH_plain _ _ _ (by kernel_rfl)
theorem eM5{W:World}(h:laidMetH Tryz.prog bl9 W)(ho:W.ShapedOpen Tryz.prog):cJ8 W:=tabs (cq7▸h) ho
end
section
open Go V Go.ChangeShapes Go.WideShapes Go.ChangeAt Go.RowKit
theorem eV2:Tryz.prog.cellsOf 5=1:=by kernel_rfl
theorem eJ5:Tryz.prog.cellsOf 4=1:=by kernel_rfl
theorem dM9:Tryz.prog.cellsOf 28=32:=by kernel_rfl
theorem eV0:Tryz.prog.cellsOf 30=34:=by kernel_rfl
theorem eV1:Tryz.prog.cellsOf 27=21:=by kernel_rfl
theorem three{α:Type}{l:List α}(h:l.length=3): ∃a b c,l=[a,b,c]:=by
 match l,h with
 |[a,b,c],_=>exact⟨a,b,c,rfl⟩
theorem eE3{α:Type}{l:List α}(h:l.length=13): ∃a b c d e f g h i j k m n,l=[a,b,c,d,e,f,g,h,i,j,k,m,n]:=by
 match l,h with
 |[a,b,c,d,e,f,g,h,i,j,k,m,n],_=>exact⟨a,b,c,d,e,f,g,h,i,j,k,m,n,rfl⟩
theorem eE2{α:Type}{l:List α}(h:l.length=21): ∃a b c d e f g h i j k m n o p q r s t u v,l=[a,b,c,d,e,f,g,h,i,j,k,m,n,o,p,q,r,s,t,u,v]:=by
 match l,h with
 |[a,b,c,d,e,f,g,h,i,j,k,m,n,o,p,q,r,s,t,u,v],_=>exact⟨a,b,c,d,e,f,g,h,i,j,k,m,n,o,p,q,r,s,t,u,v,rfl⟩
section
variable {H:Type}{enc:TypeId×Value->H}{W:World}
theorem dp2(n:Nat):aE2 enc Tryz.prog W n 28 (fun l:bytes=>.agg (l.map o7)) (fun l=>l.length=32):=fun m cs x hm hx=>by
 obtain⟨xs,n',rfl,rfl,hl,hxl,hf⟩:=DataW.trod_array Tryz.underlying28 hx;have hl:=hl.trans dM9;have each: ∀i,i < 32-> ∃b:UInt8,∀c,cs[i]?=some c->Rel (G₀ W) [] W (o7 b) c:=fun i hi=>by
  have h0:=hf i hi;rw[eV2,Nat.mul_one,xq1 (by omega)] at h0
  obtain⟨b,_,r⟩:=dV4 (enc:=enc) (w:=W) (n'+1) Tryz.underlying5 n' _ _ (aK3 _) h0;refine⟨b,fun c hc=>r.2.2 0 _ c rfl ?_⟩
  rw[aK6,if_pos (by omega),aP9,ar7]
  exact hc
 refine⟨(List.range 32).map fun i=>if h:i < 32 then Classical.choose (each i h) else 0,by simp,?_,?_,fun j y u ey eu=>?_⟩
 ·exact ac1
 ·show (((List.range 32).map fun i=>if h:i < 32 then Classical.choose (each i h) else 0).map o7).length=_
  rw[hl];simp
 ·have ey:(((List.range 32).map fun i=>if h:i < 32 then Classical.choose (each i h) else 0).map o7)[j]?=some y:=ey
  have hj:j < 32:=by have:=aa0 eu;omega
  rw[ak8,ak8,aI7 hj] at ey;simp only[Option.map_some,dif_pos hj,Option.some.injEq] at ey;subst ey;exact Classical.choose_spec (each j hj) u eu
theorem dV5(n:Nat):aE2 enc Tryz.prog W n 30 (fun p:bytes×bytes×bytes=>Ev.aS2 p.1 p.2.1 p.2.2) (fun p=>p.2.2.length=32):=fun m cs x hm hx=>by
 obtain⟨xs,n',rfl,rfl,hl,hxl,hf⟩:=DataW.trod_struct Tryz.underlying30 hx;rw[eV0] at hl;have h0:DataW.trod enc Tryz.prog W 0 (fun _=>true) true n' 9 ((cs.drop 0).take (Tryz.prog.cellsOf 9))=xs[0]?:=hf 0 _ rfl
 have h1:DataW.trod enc Tryz.prog W 0 (fun _=>true) true n' 9 ((cs.drop 1).take (Tryz.prog.cellsOf 9))=xs[1]?:=hf 1 _ rfl
 have h2:DataW.trod enc Tryz.prog W 0 (fun _=>true) true n' 28 ((cs.drop 2).take (Tryz.prog.cellsOf 28))=xs[2]?:=hf 2 _ rfl
 rw[b79] at h0 h1;rw[dM9] at h2;obtain⟨x0,x1,x2,rfl⟩:=three (hxl.trans (by rfl))
 obtain⟨a,_,r0⟩:=ap9 (enc:=enc) (w:=W) (n'+1) Tryz.underlying9 n' _ _ (aK3 _) h0;obtain⟨b,_,r1⟩:=ap9 (enc:=enc) (w:=W) (n'+1) Tryz.underlying9 n' _ _ (aK3 _) h1;obtain⟨s,hs,r2⟩:=dp2 (enc:=enc) (W:=W) n' n' _ _ (xq0 _) h2;obtain⟨k0,k1,cs,rfl⟩: ∃c d l,cs=c::d::l:=by
  match cs,hl with
  |c::d::l,_=>exact⟨c,d,l,rfl⟩
 refine⟨(a,b,s),hs,?_,?_,fun j y u ey eu=>?_⟩
 ·show (AV.str a::AV.str b::s.map o7).all AV.scalar=true
  exact(show (true&&(true&&(s.map o7).all AV.scalar))=true by rw[ac1];rfl)
 ·show (AV.str a::AV.str b::s.map o7).length=_
  rw[hl];simp[hs]
 ·match j,ey,eu with
  |0,ey,eu=>cases ey;cases eu;exact aq5 rfl r0
  |1,ey,eu=>cases ey;cases eu;exact aq5 rfl r1
  |j+2,ey,eu=>
   have hj:j < 32:=by
    have:=aa0 eu;simp only[List.length_cons] at this hl;omega
   refine r2.2.2 j y u ey ?_;rw[aj3,aj3,List.drop_zero,aK6,if_pos hj];exact eu
theorem dV6(n:Nat):aE2 enc Tryz.prog W n 27 Ev.av (fun _=>True):=fun m cs x hm hx=>by
 obtain⟨xs,n',rfl,rfl,hl,hxl,hf⟩:=DataW.trod_struct Tryz.underlying27 hx;rw[eV1] at hl;have h0:DataW.trod enc Tryz.prog W 0 (fun _=>true) true n' 9 ((cs.drop 0).take (Tryz.prog.cellsOf 9))=xs[0]?:=hf 0 _ rfl
 have h1:DataW.trod enc Tryz.prog W 0 (fun _=>true) true n' 9 ((cs.drop 1).take (Tryz.prog.cellsOf 9))=xs[1]?:=hf 1 _ rfl
 have h2:DataW.trod enc Tryz.prog W 0 (fun _=>true) true n' 9 ((cs.drop 2).take (Tryz.prog.cellsOf 9))=xs[2]?:=hf 2 _ rfl
 have h3:DataW.trod enc Tryz.prog W 0 (fun _=>true) true n' 9 ((cs.drop 3).take (Tryz.prog.cellsOf 9))=xs[3]?:=hf 3 _ rfl
 have h4:DataW.trod enc Tryz.prog W 0 (fun _=>true) true n' 4 ((cs.drop 4).take (Tryz.prog.cellsOf 4))=xs[4]?:=hf 4 _ rfl
 have h5:DataW.trod enc Tryz.prog W 0 (fun _=>true) true n' 9 ((cs.drop 5).take (Tryz.prog.cellsOf 9))=xs[5]?:=hf 5 _ rfl
 have h6:DataW.trod enc Tryz.prog W 0 (fun _=>true) true n' 25 ((cs.drop 6).take (Tryz.prog.cellsOf 25))=xs[6]?:=hf 6 _ rfl
 have h7:DataW.trod enc Tryz.prog W 0 (fun _=>true) true n' 22 ((cs.drop 11).take (Tryz.prog.cellsOf 22))=xs[7]?:=hf 7 _ rfl
 have h8:DataW.trod enc Tryz.prog W 0 (fun _=>true) true n' 22 ((cs.drop 12).take (Tryz.prog.cellsOf 22))=xs[8]?:=hf 8 _ rfl
 have h9:DataW.trod enc Tryz.prog W 0 (fun _=>true) true n' 3 ((cs.drop 13).take (Tryz.prog.cellsOf 3))=xs[9]?:=hf 9 _ rfl
 have h10:DataW.trod enc Tryz.prog W 0 (fun _=>true) true n' 3 ((cs.drop 14).take (Tryz.prog.cellsOf 3))=xs[10]?:=hf 10 _ rfl
 have h11:DataW.trod enc Tryz.prog W 0 (fun _=>true) true n' 9 ((cs.drop 15).take (Tryz.prog.cellsOf 9))=xs[11]?:=hf 11 _ rfl
 have h12:DataW.trod enc Tryz.prog W 0 (fun _=>true) true n' 25 ((cs.drop 16).take (Tryz.prog.cellsOf 25))=xs[12]?:=hf 12 _ rfl
 clear hf hx;rw[b79] at h0 h1 h2 h3 h5 h11;rw[d70] at h6 h12;rw[ec7] at h9 h10;rw[eJ5] at h4;rw[dM8] at h7 h8;obtain⟨x0,x1,x2,x3,x4,x5,x6,x7,x8,x9,x10,x11,x12,rfl⟩:=eE3 (hxl.trans (by rfl))
 obtain⟨k0,k1,k2,k3,k4,k5,k6,k7,k8,k9,k10,k11,k12,k13,k14,k15,k16,k17,k18,k19,k20,rfl⟩:=eE2 hl;obtain⟨v0,_,r0⟩:=ap9 (enc:=enc) (w:=W) (n'+1) Tryz.underlying9 n' _ _ (aK3 _) h0;obtain⟨v1,_,r1⟩:=ap9 (enc:=enc) (w:=W) (n'+1) Tryz.underlying9 n' _ _ (aK3 _) h1;obtain⟨v2,_,r2⟩:=ap9 (enc:=enc) (w:=W) (n'+1) Tryz.underlying9 n' _ _ (aK3 _) h2;obtain⟨v3,_,r3⟩:=ap9 (enc:=enc) (w:=W) (n'+1) Tryz.underlying9 n' _ _ (aK3 _) h3;obtain⟨v4,_,r4⟩:=dp3 (enc:=enc) (w:=W) (n'+1) Tryz.underlying4 n' _ _ (aK3 _) h4;obtain⟨v5,_,r5⟩:=ap9 (enc:=enc) (w:=W) (n'+1) Tryz.underlying9 n' _ _ (aK3 _) h5;obtain⟨v6,_,r6⟩:=ce4 (enc:=enc) (W:=W) n' n' _ _ (xq0 _) h6;obtain⟨v7,_,r7⟩:=bl6 Tryz.underlying22 b79 (by decide) (ap9 (enc:=enc) (w:=W) n' Tryz.underlying9) n' _ _ (aK3 _) h7
 obtain⟨v8,_,r8⟩:=bl6 Tryz.underlying22 b79 (by decide) (ap9 (enc:=enc) (w:=W) n' Tryz.underlying9) n' _ _ (aK3 _) h8
 obtain⟨v9,_,r9⟩:=bn2 (enc:=enc) (w:=W) (n'+1) Tryz.underlying3 n' _ _ (aK3 _) h9;obtain⟨v10,_,r10⟩:=bn2 (enc:=enc) (w:=W) (n'+1) Tryz.underlying3 n' _ _ (aK3 _) h10;obtain⟨v11,_,r11⟩:=ap9 (enc:=enc) (w:=W) (n'+1) Tryz.underlying9 n' _ _ (aK3 _) h11;obtain⟨v12,_,r12⟩:=ce4 (enc:=enc) (W:=W) n' n' _ _ (xq0 _) h12;refine⟨⟨v0,v1,v2,v3,v4,v5,v6,v7,v8,v9,v10,v11,v12⟩,trivial,rfl,rfl,fun j y u ey eu=>?_⟩
 match j,ey,eu with
 |0,ey,eu=>cases ey;cases eu;exact aq5 rfl r0
 |1,ey,eu=>cases ey;cases eu;exact aq5 rfl r1
 |2,ey,eu=>cases ey;cases eu;exact aq5 rfl r2
 |3,ey,eu=>cases ey;cases eu;exact aq5 rfl r3
 |4,ey,eu=>cases ey;cases eu;exact aq5 rfl r4
 |5,ey,eu=>cases ey;cases eu;exact aq5 rfl r5
 |6,ey,eu=>cases ey;cases eu;exact r6.2.2 0 _ _ (by rw[av5];rfl) rfl
 |7,ey,eu=>cases ey;cases eu;exact r6.2.2 1 _ _ (by rw[av5];rfl) rfl
 |8,ey,eu=>cases ey;cases eu;exact r6.2.2 2 _ _ (by rw[av5];rfl) rfl
 |9,ey,eu=>cases ey;cases eu;exact r6.2.2 3 _ _ (by rw[av5];rfl) rfl
 |10,ey,eu=>cases ey;cases eu;exact r6.2.2 4 _ _ (by rw[av5];rfl) rfl
 |11,ey,eu=>cases ey;cases eu;exact aq5 rfl r7
 |12,ey,eu=>cases ey;cases eu;exact aq5 rfl r8
 |13,ey,eu=>cases ey;cases eu;exact aq5 rfl r9
 |14,ey,eu=>cases ey;cases eu;exact aq5 rfl r10
 |15,ey,eu=>cases ey;cases eu;exact aq5 rfl r11
 |16,ey,eu=>cases ey;cases eu;exact r12.2.2 0 _ _ (by rw[av5];rfl) rfl
 |17,ey,eu=>cases ey;cases eu;exact r12.2.2 1 _ _ (by rw[av5];rfl) rfl
 |18,ey,eu=>cases ey;cases eu;exact r12.2.2 2 _ _ (by rw[av5];rfl) rfl
 |19,ey,eu=>cases ey;cases eu;exact r12.2.2 3 _ _ (by rw[av5];rfl) rfl
 |20,ey,eu=>cases ey;cases eu;exact r12.2.2 4 _ _ (by rw[av5];rfl) rfl
 |j+21,ey,eu=>simp at eu
end
noncomputable def zSg:Value:=.agg ⟨.string ⟨#[]⟩::.string ⟨#[]⟩::List.replicate 32 (.int .u8 0)⟩
noncomputable def dSg{H:Type}:DataW H:=.agg [.lit (.string []),.lit (.string []),.agg (List.replicate 32 (.lit (.int .u8 0)))]
theorem dB6{W:World}{v:Ev.T}{cs:Array Value}(h:bR5 W (Ev.av v) (Value.agg cs).cells.toList):Rel (G₀ W) [] W (Ev.av v) (.agg cs):=cm8 h
theorem dB5{W:World}{a b s:bytes}{cs:Array Value}(h:bR5 W (Ev.aS2 a b s) (Value.agg cs).cells.toList):Rel (G₀ W) [] W (Ev.aS2 a b s) (.agg cs):=cm8 h
end
section
open Go Go.ChangeShapes Go.WideShapes Go.ChangeAt Go.RowKit
theorem do8:laidOutB Tryz.prog=true:=by kernel_rfl
theorem eg8:mapsRowed Tryz.prog=true:=by kernel_rfl
theorem dU4:(Tryz.prog.stops==[])=true:=by kernel_rfl
theorem dU6:(Tryz.prog.stopKnobs==[])=true:=by kernel_rfl
theorem eg9:(true==Tryz.prog.plainKeys)=true:=by kernel_rfl
theorem dU7:Tryz.prog.stopsHeard=true:=by kernel_rfl
theorem dU8:Tryz.prog.mayEnter=true:=by kernel_rfl
theorem dU5:(false==Tryz.prog.liftsFinal)=true:=by kernel_rfl
theorem dH6{P:Program}{f:FuncId}{fn:Func}{s:ChangeSpec}{c:OpenClaim}(h1:c.wf (OpenSpec.ofChange s)=true)(h2:laidOutB P=true)(h3:mapsRowed P=true)(h4:fn.params.all (P.readableRec ·)=true)(h5:namedTie P c.named s.vars=true)
  (h6:(c.stops==[])=true) (h7:(P.stops==[])=true) (h8:(c.knobs==[])=true) (h9:(P.stopKnobs==[])=true) (h10:(c.inPlace==P.inPlace f)=true) (h11:(c.unfollowed==P.unfollowed f)=true) (h12:(c.recurses==P.recurses f)=true) (h13:(c.named==P.varsNamed f)=true)
  (h14:((c.maps==(fn.params.toList++s.plain.varTypes P).any (P.mapsRec ·))&&(c.ifaces==(fn.params.toList++s.plain.varTypes P).any (P.ifacesRec ·))&&(c.mapsOut==P.mapsAmong fn.resultTypes.toList))=true)
  (h15:((c.loops==(fn.params.toList++s.plain.varTypes P).any (P.loopsFrom ·))&&(c.wideKeys==(fn.params.toList++s.plain.varTypes P++fn.resultTypes.toList).any (P.wideKeysFrom ·)))=true)
  (h16:(s.vars.all (P.varReadable ·)&&fn.resultTypes.all (fun t=>P.readableRec t&&decide (t < P.types.size))&&(c.ifacesOut==fn.resultTypes.toList.any (P.ifacesRec ·))&&(c.loopsOut==fn.resultTypes.toList.any (P.loopsFrom ·)))=true)
  (h17:(c.plainKeys==P.plainKeys)=true) (h18:c.shortTexts.isNone=true) (h19:P.stopsHeard=true) (h20:P.mayEnter=true) (h21:(c.lifted==P.liftsFinal)=true) (h22:(P.make==some c.make)=true)
  (h23:(c.kinds==(if c.domain.isEmpty then[] else fn.params.toList.map fun t=>match P.underlying t with|some (.int k)=>some k|_=>none))=true) (h24:(c.pinned==c.pinnedBy)=true)
  (h25:(c.veiled==(fn.params.toList++s.plain.varTypes P++fn.resultTypes.toList).any (P.veiledRec ·))=true) (h26:c.veiledFits P fn.params.toList (fn.params.toList++s.plain.varTypes P++fn.resultTypes.toList)=true):joinedFacts P f fn s c=true:=by
 simp only[Bool.and_eq_true] at h14 h15 h16;obtain⟨⟨a1,a2⟩,a3⟩:=h14;obtain⟨b1,b2⟩:=h15;obtain⟨⟨⟨c1,c2⟩,c3⟩,c4⟩:=h16;simp only[joinedFacts,Bool.and_eq_true];exact⟨⟨⟨⟨⟨⟨⟨⟨⟨⟨⟨⟨⟨⟨⟨⟨⟨⟨⟨⟨⟨⟨⟨⟨⟨⟨⟨⟨⟨⟨⟨h1,h2⟩,h3⟩,h4⟩,h5⟩,h6⟩,h7⟩,h8⟩,h9⟩,h10⟩,h11⟩,h12⟩,h13⟩,a1⟩,a2⟩,a3⟩,b1⟩,b2⟩,c1⟩,c2⟩,c3⟩,c4⟩,h17⟩,h18⟩,h19⟩,h20⟩,h21⟩,h22⟩,h23⟩,h24⟩,h25⟩,h26⟩
def b71:List Nat->Bool
 |a::b::r=>Nat.blt a b&&b71 (b::r)
 |_=>true
theorem df7: ∀{l:List Nat},b71 l=true->l.Pairwise (· < ·)
 |[],_=>.nil
 |[a],_=>List.pairwise_singleton _ _
 |a::b::r,h=>by
  simp only[b71,Bool.and_eq_true,Nat.blt_eq] at h;have ih:=df7 h.2;refine List.pairwise_cons.2 ⟨fun c hc=>?_,ih⟩
  rcases List.mem_cons.1 hc with rfl|hc
  ·exact h.1
  ·exact Nat.lt_trans h.1 ((List.pairwise_cons.1 ih).1 c hc)
theorem dq4{α:Type}(key:α->Nat){l:List α}(h:b71 (l.map key)=true):l.Nodup:=by
 have:=df7 h;rw[List.pairwise_map] at this;exact this.imp fun hlt e=>by rw[e] at hlt;exact Nat.lt_irrefl _ hlt
def eb1(bs:List Nat):MemPlace->Nat
 |.cell b off=>(bs.findIdx fun x=>Nat.beq x b)*65536+off
 |.map b=>(bs.findIdx fun x=>Nat.beq x b)*65536
theorem cT3{P:Program}{w:World}{l:List (String×DataW Unit)}(fuel:Nat)(key:MemPlace->Nat)(h:(DataW.laidRun P w fuel (l.map (·.1))).map (·.1)=some l)
  (hk:(DataW.laidRun P w fuel (l.map (·.1))).map (fun x=>b71 (x.2.map key))=some true) (hr:(DataW.laidRun P w fuel (l.map (·.1))).map (fun x=>laidRowsB P w x.2)=some true):laidMet P l w:=by
 cases hx:DataW.laidRun P w fuel (l.map (·.1)) with
 |none=>simp[hx] at h
 |some x=>
  obtain⟨l',ps⟩:=x;simp only[hx,Option.map_some,Option.some.injEq] at h hr hk;subst h;exact laidMet_of_run fuel hx (decide_eq_true (dq4 key hk)) hr
end
end Go.Proofs.YtpplfhfoljjipaaGreatDoor
