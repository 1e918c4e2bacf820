/- Regions whose order is drawn, and whose operations write: those that look at the objects stand in a chain. -/
import Derived.Test.YtdkpdjfimckdgaaGreatDoorW2
import Derived.IntWalk
import Derived.Test.YtdkpdjfimckdgaaGreatDoorChecked
import Derived.Deep.DeepHandedRow
import Derived.Lib.LaidTab
import Derived.Lib.LaidU8
import Derived.ChangeSame
import Derived.ChangeStays
import Derived.ChangeMaps5
import Derived.OpenShut
import Derived.Laws.Externs
import Derived.Lib.Overlaps
import Derived.Lib.ValidLaws
import Derived.Lib.MapLaws
set_option linter.unusedVariables false
set_option linter.unusedSimpArgs false
set_option maxRecDepth 20000
set_option maxHeartbeats 4000000
namespace Go.Proofs.YtdkpdjfimckdgaaGreatDoor
section
namespace V
open Go
variable {ds:List Deferred}{ro:Option Nat}{N:Nat}
def aq1(mu:List Nat)(o:Oper):Bool:=
 match o.op with
 |.move _|.assign _|.pick _ _ _|.unOp .. |.extract .. |.index .. |.indexAddr .. |.fieldAddr .. |.field .. |.build .. |.slice .. |.nilCheck .. |.makeFunc .. |.sliceToArrayPointer .. |.makeInterface .. =>true
 |.binOp _ _ _ y _=>!ax1 y
 |.box _ _=>!mu.contains (o.dst.getD 0)
 |.call c=>match c.callee with
  |.builtin .len|.builtin .cap|.builtin .min|.builtin .max=>true
  |_=>false
 |_=>false
theorem ba4{q:Option (Prop×AV)}{z:AV}{H H':List AObj}(h:lift q (fun x H''=>x=z/\H''=H) H):lift q (fun x H''=>x=z/\H''=H') H':=by
 unfold lift at h⊢;split at h
 ·exact⟨h.1,h.2.1,rfl⟩
 ·exact h.elim
theorem aY6{P:Program}{L:Tab}{mu:List Nat}{o:Oper}{env:Env}{H H':List AObj}{z:AV}(hp:aq1 mu o=true)(h:ab9 P L mu o env H fun x H''=>x=z/\H''=H):ab9 P L mu o env H' fun x H''=>x=z/\H''=H':=by
 obtain⟨dst,op,ty,pos,after,guard⟩:=o;cases op<;>simp only[aq1,ab9,Bool.false_eq_true] at hp h⊢ <;>first|exact ba4 h|skip
 case box e x=>
  rw[Bool.not_eq_true'] at hp;simp only[hp,Bool.false_eq_true,if_false] at h⊢;exact ba4 h
 case binOp op t x y t'=>
  rw[Bool.not_eq_true'] at hp;simp only[hp,Bool.false_eq_true,if_false] at h⊢;exact ba4 h
 case call c=>
  obtain⟨callee,args,ats⟩:=c;cases callee with
  |builtin b=>
   cases b<;>simp only[Bool.false_eq_true] at hp
   all_goals
    simp only at h⊢;unfold ah7 at h⊢;split at h<;>first|exact ba4 h|(rename_i e _ _;cases e;done)|exact h.elim
  |value f=>simp at hp
  |invoke r m=>simp at hp
def ah2(mu:List Nat)(o:Oper):Bool:=
 match o.op with
 |.store .. |.alloc .. |.makeSlice .. =>true
 |.box .. |.buildSlice .. |.convert .. =>mu.contains (o.dst.getD 0)
 |.call c=>match c.callee with
  |.value _=>!mu.contains (2000000+o.dst.getD 0)
  |.builtin .append|.builtin .copy|.invoke .. =>true
  |_=>false
 |_=>false
def aq5(rid i j:Nat):Nat:=1000000000000+(rid*1000+i)*1000+j
theorem cH9{rid i j:Nat}:aq5 rid i j=1000000000000+(rid*1000+i)*1000+j:=rfl
attribute [irreducible] aq5
def a01(rid:Nat)(bs:List (List Nat))(mu:List Nat)(j:Nat)(q:Oper):Nat->List Oper->Bool
 |_,[]=>true
 |i,o::r=>(if i=j then true
   else if ah2 mu o then
    (if ah2 mu q then decide (j < i)||(bs.getD j []).contains i
     else aq1 mu q||(bs.getD j []).contains i||(bs.getD i []).contains j||mu.contains (aq5 rid j i))
   else true)&&a01 rid bs mu j q (i+1) r
def bj5(rid:Nat)(bs:List (List Nat))(mu:List Nat)(ops:List Oper):Nat->List Oper->Bool
 |_,[]=>true
 |j,o::r=>a01 rid bs mu j o 0 ops&&bj5 rid bs mu ops (j+1) r
def bf5(rid:Nat)(mu:List Nat)(ops:List Oper):Bool:=bj5 rid (ak7 ops []) mu ops 0 ops
theorem bc9{rid:Nat}{bs:List (List Nat)}{mu:List Nat}{j:Nat}{q:Oper}: ∀(r:List Oper) (s:Nat),a01 rid bs mu j q s r=true-> ∀(i:Nat) o,r[i]?=some o->s+i≠j->ah2 mu o=true->
  (ah2 mu q=true->s+i < j->s+i∈bs.getD j [])/\(ah2 mu q=false->aq1 mu q=false->s+i∈bs.getD j []\/j∈bs.getD (s+i) []\/mu.contains (aq5 rid j (s+i))=true)
 |[],_,_,i,o,e,_,_=>by simp at e
 |p::r,s,h,0,o,e,hi,hp=>by
  simp only[List.getElem?_cons_zero,Option.some.injEq] at e;subst e;simp only[aD8] at hi⊢;simp only[a01,xq3] at h;have:=h.1;rw[if_neg hi,if_pos hp] at this;refine⟨fun hq hlt=>?_,fun hq hpu=>?_⟩
  ·rw[if_pos hq] at this
   simp only[bz9,decide_eq_true_eq] at this;rcases this with h1|h1
   ·omega
   ·simpa using h1
  ·rw[hq,hpu] at this
   simp only[Bool.false_eq_true,if_false,Bool.false_or,bz9] at this;rcases this with(h1|h1)|h1
   ·exact .inl (by simpa using h1)
   ·exact .inr (.inl (by simpa using h1))
   ·exact .inr (.inr h1)
 |p::r,s,h,i+1,o,e,hi,hp=>by
  simp only[a01,xq3] at h;have:=bc9 r (s+1) h.2 i o (by simpa using e) (by omega) hp
  rwa [show s+1+i=s+(i+1) by omega] at this
theorem bd0{rid:Nat}{bs:List (List Nat)}{mu:List Nat}{ops:List Oper}: ∀(r:List Oper) (s:Nat),bj5 rid bs mu ops s r=true-> ∀(j:Nat) o,r[j]?=some o->a01 rid bs mu (s+j) o 0 ops=true
 |[],_,_,j,o,e=>by simp at e
 |q::r,s,h,0,o,e=>by
  simp only[List.getElem?_cons_zero,Option.some.injEq] at e;subst e;simp only[bj5,xq3] at h;exact h.1
 |q::r,s,h,j+1,o,e=>by
  simp only[bj5,xq3] at h;have:=bd0 r (s+1) h.2 j o (by simpa using e)
  rwa [show s+1+j=s+(j+1) by omega] at this
theorem bE4{rid:Nat}{mu:List Nat}{ops:List Oper}(h:bf5 rid mu ops=true){i j:Nat}{o q:Oper}(hj:ops[j]?=some q)(hi:ops[i]?=some o)(hij:i < j)(hq:ah2 mu q=true)(ho:ah2 mu o=true):i∈(ak7 ops []).getD j []:=by
 have:=bd0 ops 0 h j q hj;rw[Nat.zero_add] at this;have:=(bc9 ops 0 this i o hi (by omega) ho).1 hq (by omega)
 rwa [Nat.zero_add] at this
theorem bE5{rid:Nat}{mu:List Nat}{ops:List Oper}(h:bf5 rid mu ops=true){i j:Nat}{o q:Oper}(hj:ops[j]?=some q)(hi:ops[i]?=some o)(hij:i≠j)(hq:ah2 mu q=false)(hpq:aq1 mu q=false)(ho:ah2 mu o=true):
  i∈(ak7 ops []).getD j []\/j∈(ak7 ops []).getD i []\/mu.contains (aq5 rid j i)=true:=by
 have:=bd0 ops 0 h j q hj;rw[Nat.zero_add] at this;have:=(bc9 ops 0 this i o hi (by omega) ho).2 hq hpq
 rwa [Nat.zero_add] at this
def DoesE(P:Program)(L:Tab)(mu:List Nat)(all:List Oper)(o:Oper)(env:Env)(H:List AObj)(z:AV)(H':List AObj):Prop:=
 match o.guard with
 |none=>ab9 P L mu o env H fun x H''=>x=z/\H''=H'
 |some (j,want)=>(∃b,aq6 all env j=.lit (.bool b)/\((b=want/\ab9 P L mu o env H fun x H''=>x=z/\H''=H')\/(b≠want/\z=.lit undef/\H'=H)))\/(∃ar,aq6 all env j=.lit (.tuple ar)/\z=.lit undef/\H'=H)
theorem a90{P:Program}{L:Tab}{mu:List Nat}{all:List Oper}{o:Oper}{env env':Env}{H H':List AObj}{z:AV}(h: ∀t∈touches all o,get env t=get env' t):DoesE P L mu all o env H z H'->DoesE P L mu all o env' H z H':=by
 have hq:ab9 P L mu o env H (fun x H''=>x=z/\H''=H')=ab9 P L mu o env' H (fun x H''=>x=z/\H''=H'):=
  aT7 fun x hx t ht=>h t (by
   unfold touches;refine aT2.2 (.inl (aT2.2 (.inl (List.mem_filterMap.2 ⟨x,hx,by rw[ht]⟩)))))
 unfold DoesE;cases hg:o.guard with
 |none=>simp only;rw[hq];exact id
 |some jw=>
  obtain⟨j,want⟩:=jw;simp only;have hgv:aq6 all env j=aq6 all env' j:=by
   unfold aq6;cases hj:(all[j]?).bind (·.dst) with
   |none=>rfl
   |some d=>exact h d (by unfold touches;rw[hg];simp[hj])
  rw[hq,hgv];exact id
theorem cX3{P:Program}{L:Tab}{mu:List Nat}{all:List Oper}{o:Oper}{env:Env}{H H':List AObj}{z:AV}(hp:aq1 mu o=true)(h:DoesE P L mu all o env H z H):DoesE P L mu all o env H' z H':=by
 unfold DoesE at h⊢;cases hg:o.guard with
 |none=>
  rw[hg] at h;exact aY6 hp h
 |some jw=>
  obtain⟨j,want⟩:=jw;rw[hg] at h;rcases h with⟨b,hb,⟨e,hd⟩|⟨e,hz,_⟩⟩|⟨ar,hb,hz,_⟩
  ·exact .inl ⟨b,hb,.inl ⟨e,aY6 hp hd⟩⟩
  ·exact .inl ⟨b,hb,.inr ⟨e,hz,rfl⟩⟩
  ·exact .inr ⟨ar,hb,hz,rfl⟩
theorem bx9{P:Program}{L:Tab}(hL:ac7 P L){mu:List Nat}{n:Nat}{all:Array Oper}(hops:ay3 n all.toList=true){i:Nat}{o:Oper}(ho:all[i]?=some o){env:Env}{H H':List AObj}{z:AV}(hd:DoesE P L mu all.toList o env H z H')
  {G:Gh} {a:Act} {w:World} (s:Sat n ds G env H a w) {K:Act->World->Prop} {Q:Exit->Act->World->Prop} (hK: ∀G' a' w',Sat n ds G' (put o.dst z env) H' a' w'->Step G H w G' H' w'->K a' w'):wpOpIn (fw ro) N P all Q i K a w:=by
 have hdst: ∀t,o.dst=some t->t < n:=fun t e=>by
  have:=xq6.1 hops o (by rw[aT5];exact ce5 ho)
  rw[e] at this;simpa using this
 have hq:(ab9 P L mu o env H fun x H''=>x=z/\H''=H')->o.wpIn (fw ro) N P a w K Q:=fun hq=>by
  refine Oper.wpIn_mono (fun a' w' hx=>?_) (bu5 hL hq ro N Q n ds G a w s)
  obtain⟨v,x,G',H'',rfl,hi,hs,hx,rfl,rfl⟩:=hx;exact hK G' _ w' (s.put hs hi hx hdst) hs
 unfold wpOpIn;rw[ho];simp only;unfold DoesE at hd;cases hg:o.guard with
 |none=>
  rw[hg] at hd;rw[if_pos (by simp[Region.wanted,hg])]
  exact hq hd
 |some jw=>
  obtain⟨j,want⟩:=jw;rw[hg] at hd;rcases hd with⟨b,hb,hd⟩|⟨ar,hb,rfl,rfl⟩
  ·rw[bA1 s hg hb hops]
   rcases hd with⟨e,hd⟩|⟨e,rfl,rfl⟩
   ·rw[if_pos (by simpa using e)]
    exact hq hd
   ·rw[if_neg (by simpa using e)]
    exact⟨fun _ _=>trivial,hK G _ w (s.put (.refl _ _ _) s.inv (.lit _) hdst) (.refl _ _ _)⟩
  ·rw[bg4 s hg hb hops]
   rw[if_neg (by simp)]
   exact⟨fun _ _=>trivial,hK G _ w (s.put (.refl _ _ _) s.inv (.lit _) hdst) (.refl _ _ _)⟩
theorem bP4{P:Program}{L:Tab}(hL:ac7 P L)(hm:P.follows .mixedOrders=true)(mu:List Nat){n:Nat}{rid:Nat}{ops:List Oper}(hops:ay3 n ops=true)(hdr:aI2 ops=true)(hch:bf5 rid mu ops=true){Q:Exit->Env->List AObj->Prop}{env:Env}{H:List AObj}(zs:Nat->AV)(oh:Nat->List AObj)(oh0:oh 0=H)(hpure: ∀(i:Nat) o,ops[i]?=some o->ah2 mu o=false->oh (i+1)=oh i)
  (hstay: ∀(i:Nat) o,ops[i]?=some o->ah2 mu o=false-> ∀m,m<=ops.length->(∀j q,ops[j]?=some q->ah2 mu q=true->m<=j->j < i->j∉(ak7 ops []).getD i [])->(∀j q,ops[j]?=some q->ah2 mu q=true->i < j->j < m->i∉(ak7 ops []).getD j [])->DoesE P L mu ops o (ab8 (fun j=>decide (j < i)) zs 0 ops env) (oh m) (zs i) (oh m))
  (hdoes: ∀(i:Nat) o,ops[i]?=some o->DoesE P L mu ops o (ab8 (fun j=>decide (j < i)) zs 0 ops env) (oh i) (zs i) (oh (i+1))) (env':Env) (henv: ∀t,get (ab8 (fun _=>true) zs 0 ops env) t=get env' t) (hQ:Q .normal env' (oh ops.length)):AW P n (.region rid ops.toArray true) Q env H:=fun ro N ds G a w s=>by
 refine wpIn_region_draw fun t=>?_
 simp only[Region.schedule,hm,Bool.true_or,if_true];have hord: ∀(i:Nat) o,ops[i]?=some o->ordered (ak7 ops []) ops i o 0 ops=true/\ ∀e∈o.after.toList,Region.binds .any e=true->e.on < i:=fun i o e=>by
  have:=ay9 ops 0 hdr i o e;rwa [Nat.zero_add] at this
 have ohc: ∀d a,a+d<=ops.length->(∀j o,a<=j->j < a+d->ops[j]?=some o->ah2 mu o=false)->oh (a+d)=oh a:=by
  intro d;induction d with
  |zero=>intro a _ _;rfl
  |succ d ih=>
   intro a hl h;have hlt:a+d < ops.length:=by omega
   rw[show a+(d+1)=a+d+1 by omega,hpure (a+d) ops[a+d] (xq1 hlt) (h (a+d) _ (by omega) (by omega) (xq1 hlt))]
   exact ih a (by omega) fun j o h1 h2 e=>h j o h1 (by omega) e
 have key: ∀(fuel:Nat) (listed:Array Bool) (a:Act) (w':World) (G':Gh) (m:Nat),m<=ops.length->(∀j o,j < m->ops[j]?=some o->ah2 mu o=true->listed.getD j false=true)->(∀j o,m<=j->ops[j]?=some o->ah2 mu o=true->listed.getD j false=false)->listed.size=ops.length->Past ops (fun j=>listed.getD j false)->Step G H w G' (oh m) w'->Sat n ds G' (ab8 (fun j=>listed.getD j false) zs 0 ops env) (oh m) a w'->
   (∀i,i < ops.length->listed.getD i false=false->0 < fuel)->(fuel+(listed.toList.filter id).length=ops.length)->wpAnyIn (fw ro) N P .any ops.toArray (Post n ds G H w Q) fuel listed a w':=by
  intro fuel;induction fuel with
  |zero=>
   intro listed a w' G' m hm1 hlo hhi hsz hpast hst hs hf _;have hall: ∀i,i < ops.length->listed.getD i false=true:=fun i hi=>by
    cases hl:listed.getD i false with
    |true=>rfl
    |false=>exact absurd (hf i hi hl) (bc6 _)
   have hend:oh ops.length=oh m:=by
    have:=ohc (ops.length - m) m (by omega) fun j o h1 h2 e=>by
     cases hp:ah2 mu o with
     |false=>rfl
     |true=>
      have h3:=hhi j o h1 e hp;rw[hall j (aa0 e)] at h3;cases h3
    rwa [show m+(ops.length - m)=ops.length by omega] at this
   rw[hend] at hQ;refine⟨?_,G',_,oh m,hs.of_get fun t=>(au3 ops 0 env env rfl fun j o e _=>by rw[Nat.zero_add];exact hall j (aa0 e)).trans (henv t),hst,hQ⟩
   unfold Region.ready;rw[cN3];intro i hi;have hi':i < ops.length:=by simpa using hi
   have:=hall i hi';have h2:listed.getD i true=true:=by
    rw[ap3,xq2 (by omega)] at this⊢
    exact this
   simp[h2]
  |succ fuel ih=>
   intro listed a w' G' m hm1 hlo hhi hsz hpast hst hs hf hcount;refine⟨fun hnil=>?_,fun i hi=>?_⟩
   ·
    have hall: ∀i,i < ops.length->listed.getD i false=true:=by
     intro i;induction i using Nat.strongRecOn with
     |_ i ihi=>
      intro hi;cases hl:listed.getD i false with
      |true=>rfl
      |false=>
       exfalso
       have hmem:i∈Region.ready .any ops.toArray listed:=by
        unfold Region.ready;rw[bz8];refine⟨by simpa using hi,?_⟩
        have h2:listed.getD i true=false:=by
         rw[ap3,xq2 (by omega)] at hl⊢
         exact hl
        have ho:ops.toArray[i]?=some ops[i]:=by simp[hi]
        rw[h2,ho];simp only[Bool.not_false,Bool.true_and,Option.map_some,Option.getD_some];rw[b24];intro e he;have:=(hord i ops[i] (xq1 hi)).2 e (aT5.2 he);cases hb:Region.binds .any e with
        |false=>rfl
        |true=>
         have h3:=this hb;rw[ihi e.on h3 (by omega)]
         rfl
       rw[hnil] at hmem;cases hmem
    have hend:oh ops.length=oh m:=by
     have:=ohc (ops.length - m) m (by omega) fun j o h1 h2 e=>by
      cases hp:ah2 mu o with
      |false=>rfl
      |true=>
       have h3:=hhi j o h1 e hp;rw[hall j (aa0 e)] at h3;cases h3
     rwa [show m+(ops.length - m)=ops.length by omega] at this
    rw[hend] at hQ;exact⟨G',_,oh m,hs.of_get fun t=>(au3 ops 0 env env rfl fun j o e _=>by rw[Nat.zero_add];exact hall j (aa0 e)).trans (henv t),hst,hQ⟩
   ·unfold Region.ready at hi
    rw[bz8] at hi;obtain⟨hi1,hi2⟩:=hi;have hi':i < ops.length:=by simpa using hi1
    have ho:ops.toArray[i]?=some ops[i]:=by simp[hi']
    rw[ho] at hi2;simp only[Option.map_some,Option.getD_some,xq3,Bool.not_eq_true'] at hi2;obtain⟨hl0,hready⟩:=hi2;have hl:listed.getD i false=false:=by
     rw[ap3,xq2 (by omega)] at hl0⊢
     exact hl0
    have hpre: ∀e∈(ops[i]).after.toList,Region.binds .any e=true->listed.getD e.on false=true:=fun e he hb=>by
     rw[b24] at hready;have:=hready e (aT5.1 he);rw[hb] at this;simpa using this
    have hoi:ops[i]?=some ops[i]:=xq1 hi';obtain⟨hor,hback⟩:=hord i ops[i] hoi;have hbi: ∀j,j∈(ak7 ops []).getD i []->listed.getD j false=true:=fun j hj=>
     ay4 hpast ops [] [] rfl rfl (fun i j o hi=>by simp at hi) i j ops[i] hj hoi hpre
    have hlater: ∀(j:Nat) q,ops[j]?=some q->i∈(ak7 ops []).getD j []->listed.getD j false=false:=fun j q hq hij=>by
     cases hlj:listed.getD j false with
     |false=>rfl
     |true=>
      have:=ay4 hpast ops [] [] rfl rfl (fun i j o hi=>by simp at hi) j i q hij hq (hpast j q hq hlj)
      rw[hl] at this;cases this
    have hsame: ∀t∈touches ops ops[i],get (ab8 (fun j=>decide (j < i)) zs 0 ops env) t=get (ab8 (fun j=>listed.getD j false) zs 0 ops env) t:=fun t ht=>by
     refine au3 ops 0 env env rfl fun j q hq hd=>?_
     rw[Nat.zero_add];by_cases hji:j=i
     ·subst hji
      rw[hl];simp
     ·have hsp:=aB6 ops 0 hor j q t hq hd (by omega) ht
      rw[Nat.zero_add] at hsp;rcases xq8 j i with h1|h1
      ·rw[hbi j (hsp.1 h1)]
       simpa using h1
      ·rw[hlater j q hq (hsp.2 (by omega))]
       simpa using h1
    have hdo0:=a90 (fun t ht=>hsame t ht) (hdoes i ops[i] hoi)
    obtain⟨m',hm2,hlo',hhi',hdo⟩: ∃m',m'<=ops.length/\(∀j o,j < m'->ops[j]?=some o->ah2 mu o=true->(if j=i then true else listed.getD j false)=true)/\(∀j o,m'<=j->ops[j]?=some o->ah2 mu o=true->(if j=i then true else listed.getD j false)=false)/\DoesE P L mu ops ops[i] (ab8 (fun j=>listed.getD j false) zs 0 ops env) (oh m) (zs i) (oh m'):=by
     cases hp:ah2 mu ops[i] with
     |false=>
      refine⟨m,hm1,fun j o hj e hp'=>?_,fun j o hj e hp'=>?_,?_⟩
      ·split
       ·rfl
       ·exact hlo j o hj e hp'
      ·have:j≠i:=fun e'=>by subst e';rw[hoi] at e;cases e;rw[hp] at hp';cases hp'
       rw[if_neg this];exact hhi j o hj e hp'
      ·refine a90 (fun t ht=>hsame t ht) (hstay i ops[i] hoi hp m hm1 (fun j q e hq hmj _ hb=>?_) (fun j q e hq _ hjm hb=>?_))
       ·have h1:=hhi j q hmj e hq
        rw[hbi j hb] at h1;cases h1
       ·have h1:=hlo j q hjm e hq
        rw[hlater j q e hb] at h1;cases h1
     |true=>
      have hbef: ∀j o,j < i->ops[j]?=some o->ah2 mu o=true->listed.getD j false=true:=fun j o hj e hp'=>
       hbi j (bE4 hch hoi e hj hp hp')
      have haft: ∀j o,i < j->ops[j]?=some o->ah2 mu o=true->listed.getD j false=false:=fun j o hj e hp'=>
       hlater j o e (bE4 hch e hoi hj hp' hp)
      have hmi:m<=i:=by
       rcases xq8 i m with h1|h1
       ·have:=hlo i _ h1 hoi hp
        rw[hl] at this;cases this
       ·exact h1
      have hom:oh i=oh m:=by
       have:=ohc (i - m) m (by omega) fun j o h1 h2 e=>by
        cases hp':ah2 mu o with
        |false=>rfl
        |true=>
         have h3:=hhi j o h1 e hp';rw[hbef j o (by omega) e hp'] at h3
         cases h3
       rwa [show m+(i - m)=i by omega] at this
      refine⟨i+1,by omega,fun j o hj e hp'=>?_,fun j o hj e hp'=>?_,?_⟩
      ·split
       ·rfl
       ·exact hbef j o (by omega) e hp'
      ·rw[if_neg (by omega)]
       exact haft j o (by omega) e hp'
      ·rw[<-hom]
       exact hdo0
    refine bx9 hL (all:=ops.toArray) (by simpa using hops) ho hdo hs fun G'' a'' w'' hs'' hst''=>?_
    have hget: ∀t,get (put (ops[i]).dst (zs i) (ab8 (fun j=>listed.getD j false) zs 0 ops env)) t=get (ab8 (fun j=>(listed.setIfInBounds i true).getD j false) zs 0 ops env) t:=fun t=>by
     have h1:=bm6 (zs:=zs) (l:=fun j=>listed.getD j false) (t:=t) ops 0 env i ops[i] hoi (by rw[Nat.zero_add];exact hl) (fun j q hj hq hlj hd=>by
      intro hqd;rw[Nat.zero_add] at hlj;have hsp:=aB6 ops 0 hor j q t hq hqd (by omega) (by unfold touches;rw[hd];simp)
      rw[Nat.zero_add] at hsp;have hlj':listed.getD j false=true:=hlj;rw[hlater j q hq (hsp.2 hj)] at hlj';cases hlj')
     rw[Nat.zero_add] at h1;rw[<-h1];refine au3 ops 0 env env rfl fun j q hq _=>?_
     rw[Nat.zero_add];simp only[ap3,b31];by_cases hji:j=i
     ·subst hji
      simp[show j < listed.size by omega]
     ·simp[hji,show¬(i=j) from fun h=>hji h.symm]
    have hgd: ∀j,(listed.setIfInBounds i true).getD j false=if j=i then true else listed.getD j false:=fun j=>by
     simp only[ap3,b31];by_cases hji:j=i
     ·subst hji
      simp[show j < listed.size by omega]
     ·simp[hji,show¬(i=j) from fun h=>hji h.symm]
    have hcnt:fuel+((listed.setIfInBounds i true).toList.filter id).length=ops.length:=by
     have:((listed.setIfInBounds i true).toList.filter id).length=(listed.toList.filter id).length+1:=by
      rw[ce3];have hli:i < listed.toList.length:=by simp;omega
      have hlf:listed.toList[i]=false:=by
       rw[ap3,xq2 (by omega)] at hl
       simpa using hl
      have key2: ∀(l:List Bool) (i:Nat) (hi:i < l.length),l[i]=false->((l.set i true).filter id).length=(l.filter id).length+1:=by
       intro l;induction l with
       |nil=>intro i hi;simp at hi
       |cons b r ih=>
        intro i hi he;cases i with
        |zero=>simp at he;subst he;simp
        |succ i=>
         simp only[List.set_cons_succ,List.filter_cons];have:=ih i (by simpa using hi) (by simpa using he)
         cases b<;>simp[this]
      exact key2 _ i hli hlf
     omega
    refine ih _ _ _ G'' m' hm2 (fun j o hj e hp'=>by rw[hgd];exact hlo' j o hj e hp') (fun j o hj e hp'=>by rw[hgd];exact hhi' j o hj e hp') (by simp[hsz]) (fun j q hq hlj e he hb=>?_) (hst.trans hst'') (hs''.of_get hget) (fun j hj hlj=>?_) hcnt
    ·simp only[hgd] at hlj⊢
     by_cases hji:j=i
     ·subst hji
      have hqe:q=ops[j]:=by rw[hoi] at hq;exact(Option.some.inj hq).symm
      subst hqe;split
      ·rfl
      ·exact hpre e he hb
     ·rw[if_neg hji] at hlj
      split
      ·rfl
      ·exact hpast j q hq hlj e he hb
    ·
     rcases bb9 fuel with h0|h0
     ·exfalso
      rw[h0,Nat.zero_add] at hcnt;have hfull: ∀(l:List Bool),(l.filter id).length=l.length-> ∀b∈l,b=true:=fun l hl b hb=>by
       have:=cN2.1 (List.Sublist.eq_of_length (ce2 (l:=l) (p:=id)) hl) b hb;simpa using this
      have hlen:((listed.setIfInBounds i true).toList.filter id).length=(listed.setIfInBounds i true).toList.length:=by rw[hcnt];simp[hsz]
      have hjs:j < (listed.setIfInBounds i true).size:=by simp;omega
      have:=hfull _ hlen ((listed.setIfInBounds i true)[j]) (by rw[aT5];exact Array.getElem_mem hjs)
      rw[ap3,xq2 hjs] at hlj;simp only[Option.getD_some] at hlj;rw[this] at hlj;cases hlj
     ·exact h0
 have hcap:Sat n ds G (ab8 (fun j=>(Array.replicate ops.toArray.size false).getD j false) zs 0 ops env) H a {w with drawn:=w.drawn+1}:=by
  have h0: ∀t,get env t=get (ab8 (fun j=>(Array.replicate ops.toArray.size false).getD j false) zs 0 ops env) t:=fun t=>by
   have: ∀(r:List Oper) (i:Nat) (env:Env),get env t=get (ab8 (fun j=>(Array.replicate ops.toArray.size false).getD j false) zs i r env) t:=by
    intro r;induction r with
    |nil=>intro _ _;rfl
    |cons o r ih=>
     intro i env;simp only[ab8];have:(Array.replicate ops.toArray.size false).getD i false=false:=by
      rw[ap3,bL5];split<;>rfl
     simp only[this,Bool.false_eq_true,if_false];exact ih (i+1) env
   exact this ops 0 env
  exact Sat.of_get (env:=env) (s.step aG0 (bO0 s.inv)) h0
 refine wpAnyIn_sound ops.toArray.size t _ a _ (key ops.toArray.size _ a _ G 0 (by omega) (fun j o hj=>absurd hj (by omega)) (fun j o _ e _=>by
  rw[ap3,bL5];split<;>rfl) (by simp) (fun i o ho hl=>?_) (oh0▸aG0) (oh0▸hcap) (fun i hi _=>by simp;omega) (by simp))
 simp only[ap3,bL5] at hl;split at hl<;>cases hl
def cq1:List AV->Prop
 |.msl _ _ _ _::_=>False
 |_::.lit _::_=>False
 |_=>True
def al1(P:Program)(L:Tab)(mu:List Nat)(o:Oper)(env:Env)(H:List AObj)(K:AV->List AObj->Prop):Prop:=
 match o.op with
 |.call c=>match c.callee with
  |.value _=> ∃z H',ab9 P L mu o env H (fun x H''=>x=z/\H''=H')/\K z H'
  |.builtin b=>match b with
   |.len|.cap|.min|.max|.copy|.unsafeSliceData|.unsafeString=>ab9 P L mu o env H K
   |.append=>cq1 (c.args.toList.map (ev env))/\ab9 P L mu o env H K
   |_=>False
  |_=>False
 |.move _|.assign _|.pick _ _ _|.unOp .. |.extract .. |.index .. |.indexAddr .. |.fieldAddr .. |.field .. |.build .. |.slice .. |.load .. |.buildSlice .. |.alloc .. |.store .. |.convert .. |.nilCheck .. |.makeFunc .. |.sliceToArrayPointer .. |.makeInterface .. |.makeSlice .. =>ab9 P L mu o env H K
 |.binOp _ _ _ y _=>if ax1 y then False else ab9 P L mu o env H K
 |.box .. =>ab9 P L mu o env H K
 |_=>False
theorem aL6{q:Option (Prop×AV)}{K:AV->List AObj->Prop}{H:List AObj}(h:lift q K H): ∃z H',lift q (fun x H''=>x=z/\H''=H') H/\K z H':=by
 unfold lift at h;split at h
 ·exact⟨_,_,⟨h.1,rfl,rfl⟩,h.2⟩
 ·exact h.elim
theorem bJ5{P:Program}{L:Tab}{mu:List Nat}{o:Oper}{env:Env}{H:List AObj}{K:AV->List AObj->Prop}(h:al1 P L mu o env H K): ∃z H',ab9 P L mu o env H (fun x H''=>x=z/\H''=H')/\K z H':=by
 obtain⟨dst,op,ty,pos,after,guard⟩:=o;cases op<;>simp only[al1] at h<;>first|exact h.elim|(simp only[ab9] at h⊢;exact aL6 h)|skip
 case alloc e=>
  simp only[ab9] at h⊢;obtain⟨h1,h2⟩:=h;split at h2
  ·rename_i hb
   exact⟨_,_,⟨h1,⟨rfl,rfl⟩⟩,h2⟩
  ·rename_i u hb
   exact⟨_,_,⟨h1,⟨rfl,rfl⟩⟩,h2⟩
 case box e x=>
  simp only[ab9] at h⊢;split at h
  ·rename_i hm
   exact⟨_,_,by rw[if_pos hm];exact⟨h.1,rfl,rfl⟩,h.2⟩
  ·rename_i hm
   obtain⟨z,H',h1,h2⟩:=aL6 h;exact⟨z,H',by rw[if_neg hm];exact h1,h2⟩
 case buildSlice t len parts=>
  simp only[ab9] at h⊢;split at h
  ·rename_i hm
   simp only[if_pos hm];unfold aX2 at h⊢;split at h
   ·exact⟨_,_,⟨h.1,rfl,rfl⟩,h.2⟩
   ·exact h.elim
  ·rename_i hm
   simp only[if_neg hm];split at h
   ·exact h.elim
   ·rename_i hm
    obtain⟨z,H',h1,h2⟩:=aL6 h;exact⟨z,H',by rw[if_neg hm];exact h1,h2⟩
 case binOp op t x y t'=>
  split at h
  ·exact h.elim
  ·rename_i hm
   simp only[ab9] at h⊢;rw[if_neg hm] at h;obtain⟨z,H',h1,h2⟩:=aL6 h;exact⟨z,H',by rw[if_neg hm];exact h1,h2⟩
 case convert s d x=>
  simp only[ab9] at h⊢;split at h
  ·rename_i hm
   simp only[if_pos hm];unfold bg5 at h⊢;split at h
   ·unfold bq3 at h⊢
    split at h
    ·split at h
     ·exact⟨_,_,⟨h.1,rfl,rfl⟩,h.2⟩
     ·exact h.elim
    ·exact h.elim
   ·unfold be7 at h⊢
    split at h
    ·exact⟨_,_,⟨h.1,rfl,rfl⟩,h.2⟩
    ·exact h.elim
  ·rename_i hm
   obtain⟨z,H',h1,h2⟩:=aL6 h;exact⟨z,H',by rw[if_neg hm];exact h1,h2⟩
 case store t a x=>
  simp only[ab9,be6] at h⊢;split at h
  ·split at h
   ·exact⟨_,_,⟨h.1,rfl,rfl⟩,h.2⟩
   ·exact h.elim
  ·exact h.elim
 case makeSlice t x y=>
  simp only[ab9,bq4] at h⊢;split at h
  ·exact⟨_,_,⟨h.1,rfl,rfl⟩,h.2⟩
  ·exact h.elim
 case call c=>
  obtain⟨callee,args,ats⟩:=c;cases callee with
  |value f=>exact h
  |invoke r m=>exact h.elim
  |builtin b=>
   cases b<;>simp only at h<;>first|exact h.elim|skip
   case append=>
    obtain⟨hn,h⟩:=h;simp only[ab9,ah7] at h⊢;split at h
    ·rename_i e _ _;cases e
    ·rename_i x y t t2 _ hx _
     rw[hx] at hn;unfold a07 at h⊢;split at h
     ·unfold aR7 at h⊢
      split at h
      ·split at h
       ·exact⟨_,_,⟨h.1,rfl,rfl⟩,h.2⟩
       ·exact h.elim
      ·exact h.elim
     ·exact hn.elim
     ·cases y
      case lit=>exact(by cases x<;>exact hn:False).elim
      all_goals
       try dsimp only at h⊢
       split at h
       ·rename_i hm
        simp only[if_pos hm];unfold aL4 at h⊢;split at h
        ·exact⟨_,_,⟨h.1,rfl,rfl⟩,h.2⟩
        ·exact h.elim
       ·rename_i hm
        simp only[if_neg hm];unfold aX3 at h⊢;split at h
        ·exact⟨_,_,⟨h.1,rfl,rfl⟩,h.2⟩
        ·exact h.elim
    all_goals first|(rename_i e _ _;cases e;done)|exact h.elim
   case copy=>
    simp only[ab9,ah7] at h⊢;split at h
    all_goals first|(rename_i e _ _;cases e;done)|exact h.elim|skip
    unfold bq5 at h⊢;split at h
    ·split at h
     ·exact⟨_,_,⟨h.1,rfl,rfl⟩,h.2⟩
     ·exact h.elim
    ·exact h.elim
   case unsafeString=>
    simp only[ab9,ah7] at h⊢;split at h
    all_goals first|(rename_i e _ _;cases e;done)|exact h.elim|skip
    split at h
    ·unfold aX0 at h⊢
     split at h
     ·exact⟨_,_,⟨h.1,rfl,rfl⟩,h.2⟩
     ·exact h.elim
    ·exact aL6 h
   all_goals
    simp only[ab9,ah7] at h⊢;split at h
    all_goals first|exact aL6 h|(rename_i e _ _;cases e;done)|exact h.elim
def ao9(P:Program)(L:Tab)(mu:List Nat)(rid j:Nat)(H':List AObj):List (Nat×Oper×Env×AV)->Prop
 |[]=>True
 |(i,o,env,z)::r=>if mu.contains (aq5 rid i j) then ab9 P L mu o env H' (fun x H''=>x=z/\H''=H')/\ao9 P L mu rid j H' r else ao9 P L mu rid j H' r
def aB3(P:Program)(L:Tab)(mu:List Nat)(rid i:Nat)(o:Oper)(env:Env)(z:AV):List (Nat×List AObj)->Prop
 |[]=>True
 |(j,H)::r=>if mu.contains (aq5 rid i j) then ab9 P L mu o env H (fun x H''=>x=z/\H''=H)/\aB3 P L mu rid i o env z r else aB3 P L mu rid i o env z r
def ah4(P:Program)(L:Tab)(mu:List Nat)(rid i:Nat)(o:Oper)(env:Env)(H:List AObj)(z:AV)(H':List AObj)(hist:List (Nat×List AObj))(rs:List (Nat×Oper×Env×AV))(k:List (Nat×List AObj)->List (Nat×Oper×Env×AV)->Prop)[Tag k]:Prop:=
 if ah2 mu o then ao9 P L mu rid i H' rs/\k ((i,H)::hist) rs
 else if aq1 mu o then k hist rs
 else H'=H/\aB3 P L mu rid i o env z hist/\k hist ((i,o,env,z)::rs)
def ap4(P:Program)(L:Tab)(mu:List Nat)(rid:Nat)(all:List Oper):Nat->List Oper->Env->List AObj->List (Nat×List AObj)->List (Nat×Oper×Env×AV)->(Env->List AObj->Prop)->Prop
 |_,[],env,H,_,_,K=>K env H
 |i,o::rest,env,H,hist,rs,K=>
  match o.guard with
  |none=>al1 P L mu o env H fun z H'=>ah4 P L mu rid i o env H z H' hist rs fun hist' rs'=>ap4 P L mu rid all (i+1) rest (put o.dst z env) H' hist' rs' K
  |some (j,want)=>ay5 (aq6 all env j) want (al1 P L mu o (known1 all j want env) H fun z H'=>ah4 P L mu rid i o (known1 all j want env) H z H' hist rs fun hist' rs'=>ap4 P L mu rid all (i+1) rest (put o.dst z (known1 all j want env)) H' hist' rs' K) (ap4 P L mu rid all (i+1) rest (put o.dst (.lit undef) (known1 all j (!want) env)) H hist rs K) (ap4 P L mu rid all (i+1) rest (put o.dst (.lit undef) env) H hist rs K)
theorem bl9{q:Option (Prop×AV)}{z:AV}{H H':List AObj}(h:lift q (fun x H''=>x=z/\H''=H') H):H'=H:=by
 unfold lift at h;split at h
 ·exact h.2.2.symm
 ·exact h.elim
theorem c84{P:Program}{L:Tab}{mu:List Nat}{o:Oper}{env:Env}{H H':List AObj}{z:AV}(hp:aq1 mu o=true)(h:ab9 P L mu o env H fun x H''=>x=z/\H''=H'):H'=H:=by
 obtain⟨dst,op,ty,pos,after,guard⟩:=o;cases op<;>simp only[aq1,ab9,Bool.false_eq_true] at hp h<;>first|exact bl9 h|skip
 case binOp op t x y t'=>
  rw[Bool.not_eq_true'] at hp;simp only[hp,Bool.false_eq_true,if_false] at h;exact bl9 h
 case box e x=>
  rw[Bool.not_eq_true'] at hp;simp only[hp,Bool.false_eq_true,if_false] at h;exact bl9 h
 case call c=>
  obtain⟨callee,args,ats⟩:=c;cases callee with
  |builtin b=>
   cases b<;>simp only[Bool.false_eq_true] at hp
   all_goals
    simp only at h;unfold ah7 at h;split at h<;>first|exact bl9 h|(rename_i e _ _;cases e;done)|exact h.elim
  |value f=>simp at hp
  |invoke r m=>simp at hp
theorem bg8{P:Program}{L:Tab}{mu:List Nat}{rid j:Nat}{H':List AObj}: ∀{rs:List (Nat×Oper×Env×AV)},ao9 P L mu rid j H' rs-> ∀i o env z,(i,o,env,z)∈rs->mu.contains (aq5 rid i j)=true->ab9 P L mu o env H' (fun x H''=>x=z/\H''=H')
 |[],_,i,o,env,z,hm,_=>by cases hm
 |(i',o',env',z')::r,h,i,o,env,z,hm,hc=>by
  unfold ao9 at h;rcases an8.1 hm with e|hm
  ·cases e
   rw[if_pos hc] at h;exact h.1
  ·split at h
   ·exact bg8 h.2 i o env z hm hc
   ·exact bg8 h i o env z hm hc
theorem bu4{P:Program}{L:Tab}{mu:List Nat}{rid i:Nat}{o:Oper}{env:Env}{z:AV}: ∀{hist:List (Nat×List AObj)},aB3 P L mu rid i o env z hist-> ∀j H,(j,H)∈hist->mu.contains (aq5 rid i j)=true->ab9 P L mu o env H (fun x H''=>x=z/\H''=H)
 |[],_,j,H,hm,_=>by cases hm
 |(j',H')::r,h,j,H,hm,hc=>by
  unfold aB3 at h;rcases an8.1 hm with e|hm
  ·cases e
   rw[if_pos hc] at h;exact h.1
  ·split at h
   ·exact bu4 h.2 j H hm hc
   ·exact bu4 h j H hm hc
def bk7(P:Program)(L:Tab)(mu:List Nat)(rid:Nat)(all:List Oper)(K:Env->List AObj->Prop)(r:List Oper)(i:Nat)(env₀:Env)(H:List AObj)(hist:List (Nat×List AObj))(rs:List (Nat×Oper×Env×AV)):Prop:=
 ∃(zs:Nat->AV) (oh:Nat->List AObj) (env':Env),oh i=H/\(∀(k:Nat) o,r[k]?=some o->ah2 mu o=false->oh (i+k+1)=oh (i+k))/\
  (∀(k:Nat) o,r[k]?=some o->DoesE P L mu all o (ab8 (fun j=>decide (j < i+k)) zs i r env₀) (oh (i+k)) (zs (i+k)) (oh (i+k+1)))/\(∀t,get (ab8 (fun _=>true) zs i r env₀) t=get env' t)/\K env' (oh (i+r.length))/\
  (∀q o e z,(q,o,e,z)∈rs->ab9 P L mu o e H (fun x H''=>x=z/\H''=H)-> ∀p,p<=r.length->(∀j o',j < p->r[j]?=some o'->ah2 mu o'=true->mu.contains (aq5 rid q (i+j))=true)->ab9 P L mu o e (oh (i+p)) (fun x H''=>x=z/\H''=oh (i+p)))/\
  (∀j₀ Hj,(j₀,Hj)∈hist-> ∀(k:Nat) o,r[k]?=some o->ah2 mu o=false->aq1 mu o=false->mu.contains (aq5 rid (i+k) j₀)=true->DoesE P L mu all o (ab8 (fun j=>decide (j < i+k)) zs i r env₀) Hj (zs (i+k)) Hj)/\
  (∀(k:Nat) o,r[k]?=some o->ah2 mu o=false->aq1 mu o=false-> ∀p,p<=k->(∀j o',p<=j->j < k->r[j]?=some o'->ah2 mu o'=true->mu.contains (aq5 rid (i+k) (i+j))=true)->DoesE P L mu all o (ab8 (fun j=>decide (j < i+k)) zs i r env₀) (oh (i+p)) (zs (i+k)) (oh (i+p)))/\
  (∀(k:Nat) o,r[k]?=some o->ah2 mu o=false->aq1 mu o=false-> ∀p,k<=p->p<=r.length->(∀j o',k < j->j < p->r[j]?=some o'->ah2 mu o'=true->mu.contains (aq5 rid (i+k) (i+j))=true)->DoesE P L mu all o (ab8 (fun j=>decide (j < i+k)) zs i r env₀) (oh (i+p)) (zs (i+k)) (oh (i+p)))
set_option maxRecDepth 20000 in
theorem aQ4{P:Program}{L:Tab}{mu:List Nat}{rid:Nat}{all:List Oper}{K:Env->List AObj->Prop}{o:Oper}{r:List Oper}{i:Nat}{env₀:Env}{H H':List AObj}{hist hist':List (Nat×List AObj)}{rs rs':List (Nat×Oper×Env×AV)}{z:AV}
  (hp:ah2 mu o=false->H'=H) (hz:DoesE P L mu all o env₀ H z H') (hr:bk7 P L mu rid all K r (i+1) (put o.dst z env₀) H' hist' rs')
  (hhist: ∀x,x∈hist->x∈hist') (hrs: ∀x,x∈rs->x∈rs') (heff:ah2 mu o=true->H'=H\/(i,H)∈hist')
  (hst:ah2 mu o=true-> ∀q p e y,(q,p,e,y)∈rs->mu.contains (aq5 rid q i)=true->ab9 P L mu p e H (fun x H''=>x=y/\H''=H)->ab9 P L mu p e H' (fun x H''=>x=y/\H''=H'))
  (hrd:ah2 mu o=false->aq1 mu o=false->(∀j₀ Hj,(j₀,Hj)∈hist->mu.contains (aq5 rid i j₀)=true->DoesE P L mu all o env₀ Hj z Hj)/\
   ((∀Hx,DoesE P L mu all o env₀ Hx z Hx)\/ ∃e,(i,o,e,z)∈rs'/\ab9 P L mu o e H (fun x H''=>x=z/\H''=H)/\ ∀Hx,ab9 P L mu o e Hx (fun x H''=>x=z/\H''=Hx)->DoesE P L mu all o env₀ Hx z Hx)):
  bk7 P L mu rid all K (o::r) i env₀ H hist rs:=by
 obtain⟨zs,oh,env',h0,hpu,h1,h2,h3,h4,h5,h6,h7⟩:=hr;have hoh: ∀j,i < j->(fun j=>if j=i then H else oh j) j=oh j:=fun j hj=>by simp only;rw[if_neg (by omega)]
 have hohs: ∀j,(fun j=>if j=i then H else oh j) (i+(j+1))=oh (i+1+j):=fun j=>by rw[hoh _ (by omega),show i+(j+1)=i+1+j by omega]
 have hoh0:(fun j=>if j=i then H else oh j) (i+0)=H:=by simp
 have hzss: ∀j,(fun j=>if j=i then z else zs j) (i+(j+1))=zs (i+1+j):=fun j=>by simp only;rw[if_neg (by omega),show i+(j+1)=i+1+j by omega]
 have hzs0:(fun j=>if j=i then z else zs j) (i+0)=z:=by simp
 have henv0:ab8 (fun j=>decide (j < i+0)) (fun j=>if j=i then z else zs j) i (o::r) env₀=env₀:=aD4 _ _ _ fun j _=>by simp
 have henvs: ∀k,ab8 (fun j=>decide (j < i+(k+1))) (fun j=>if j=i then z else zs j) i (o::r) env₀=ab8 (fun j=>decide (j < i+1+k)) zs (i+1) r (put o.dst z env₀):=fun k=>by
  simp only[ab8,show i < i+(k+1) by omega,decide_true,if_true]
  exact aM5 r (i+1) _ fun j _=>⟨by rw[if_neg (by omega)],by rw[show i+(k+1)=i+1+k by omega]⟩
 refine⟨fun j=>if j=i then z else zs j,fun j=>if j=i then H else oh j,env',by simp,fun k q e hq=>?_,fun k q e=>?_,fun t=>?_,?_,fun q p e y hm hv m hml hmu=>?_,fun j₀ Hj hm k q e hq hq2 hc=>?_,fun k q e hq hq2 p hpk hmu=>?_,fun k q e hq hq2 p hpk hpl hmu=>?_⟩
 ·cases k with
  |zero=>
   simp only[List.getElem?_cons_zero,Option.some.injEq] at e;subst e;rw[hoh0,show i+0+1=i+1 from rfl,hoh (i+1) (by omega),h0]
   exact hp hq
  |succ k=>
   rw[show i+(k+1)+1=i+((k+1)+1) by omega,hohs,hohs]
   have:=hpu k q (by simpa using e) hq
   rwa [show i+1+(k+1)=i+1+k+1 by omega]
 ·cases k with
  |zero=>
   simp only[List.getElem?_cons_zero,Option.some.injEq] at e;subst e;rw[henv0,hoh0,hzs0];rw[show i+0+1=i+1 from rfl,hoh (i+1) (by omega),h0]
   exact hz
  |succ k=>
   rw[henvs,hohs,hzss,show i+(k+1)+1=i+((k+1)+1) by omega,hohs]
   have:=h1 k q (by simpa using e)
   rwa [show i+1+(k+1)=i+1+k+1 by omega]
 ·have e1:ab8 (fun _=>true) (fun j=>if j=i then z else zs j) i (o::r) env₀=ab8 (fun _=>true) zs (i+1) r (put o.dst z env₀):=by
   simp only[ab8,if_true];exact aM5 r (i+1) _ fun j _=>⟨by rw[if_neg (by omega)],rfl⟩
  rw[e1];exact h2 t
 ·rw[List.length_cons,hohs]
  exact h3
 ·cases m with
  |zero=>rw[hoh0];exact hv
  |succ m=>
   rw[hohs];refine h4 q p e y (hrs _ hm) ?_ m (by simpa using hml) fun j o' hj e' ho'=>?_
   ·cases ho:ah2 mu o with
    |false=>rw[hp ho];exact hv
    |true=>exact hst ho q p e y hm (by have:=hmu 0 o (by omega) rfl ho;simpa using this) hv
   ·have:=hmu (j+1) o' (by omega) (by simpa using e') ho'
    rwa [show i+(j+1)=i+1+j by omega] at this
 ·cases k with
  |zero=>
   simp only[List.getElem?_cons_zero,Option.some.injEq] at e;subst e;rw[henv0,hzs0];exact(hrd hq hq2).1 j₀ Hj hm hc
  |succ k=>
   rw[henvs,hzss];exact h5 j₀ Hj (hhist _ hm) k q (by simpa using e) hq hq2 (by rwa [show i+1+k=i+(k+1) by omega])
 ·cases k with
  |zero=>
   simp only[List.getElem?_cons_zero,Option.some.injEq] at e;subst e;obtain rfl:p=0:=by omega
   rw[henv0,hzs0,hoh0];rw[hp hq] at hz;exact hz
  |succ k=>
   rw[henvs,hzss];have sub: ∀p',p<=p'+1-> ∀j o',p'<=j->j < k->r[j]?=some o'->ah2 mu o'=true->mu.contains (aq5 rid (i+1+k) (i+1+j))=true:=fun p' hp' j o' h8 h9 e' ho'=>by
    have:=hmu (j+1) o' (by omega) (by omega) (by simpa using e') ho'
    rwa [show i+1+k=i+(k+1) by omega,show i+1+j=i+(j+1) by omega]
   cases p with
   |succ p=>
    rw[hohs];exact h6 k q (by simpa using e) hq hq2 p (by omega) (sub p (by omega))
   |zero=>
    rw[hoh0];have same:H'=H->DoesE P L mu all q (ab8 (fun j=>decide (j < i+1+k)) zs (i+1) r (put o.dst z env₀)) H (zs (i+1+k)) H:=fun hH=>by
     have:=h6 k q (by simpa using e) hq hq2 0 (by omega) (sub 0 (by omega))
     rw[aD8,h0,hH] at this;exact this
    cases ho:ah2 mu o with
    |false=>exact same (hp ho)
    |true=>
     rcases heff ho with hH|hH
     ·exact same hH
     ·have hc:=hmu 0 o (by omega) (by omega) rfl ho
      rw[aD8] at hc;exact h5 i H hH k q (by simpa using e) hq hq2 (by rwa [show i+1+k=i+(k+1) by omega])
 ·cases k with
  |zero=>
   simp only[List.getElem?_cons_zero,Option.some.injEq] at e;subst e;rw[henv0,hzs0];cases p with
   |zero=>
    rw[hoh0];rw[hp hq] at hz;exact hz
   |succ p=>
    rw[hohs];rcases(hrd hq hq2).2 with hall|⟨e1,hm,hv,hk⟩
    ·exact hall _
    ·refine hk _ (h4 i o e1 z hm ?_ p (by simpa using hpl) fun j o' hj e' ho'=>?_)
     ·rw[hp hq];exact hv
     ·have:=hmu (j+1) o' (by omega) (by omega) (by simpa using e') ho'
      rw[aD8] at this;rwa [show i+(j+1)=i+1+j by omega] at this
  |succ k=>
   rw[henvs,hzss];cases p with
   |zero=>omega
   |succ p=>
    rw[hohs];refine h7 k q (by simpa using e) hq hq2 p (by omega) (by simpa using hpl) fun j o' h8 h9 e' ho'=>?_
    have:=hmu (j+1) o' (by omega) (by omega) (by simpa using e') ho'
    rwa [show i+1+k=i+(k+1) by omega,show i+1+j=i+(j+1) by omega]
theorem cb8{P:Program}{L:Tab}{mu:List Nat}{rid:Nat}{all:List Oper}{K:Env->List AObj->Prop}(r:List Oper): ∀(i:Nat) (env env₀:Env) (H:List AObj) (hist:List (Nat×List AObj)) (rs:List (Nat×Oper×Env×AV)),(∀t,get env t=get env₀ t)->ap4 P L mu rid all i r env H hist rs K->bk7 P L mu rid all K r i env₀ H hist rs:=by
 induction r with
 |nil=>
  intro i env env₀ H hist rs he h;exact⟨fun _=>.any,fun _=>H,env,rfl,fun k o e=>by simp at e,fun k o e=>by simp at e,fun t=>(he t).symm,h,fun q o e z _ hv p _ _=>hv,fun j₀ Hj _ k o e=>by simp at e,fun k o e=>by simp at e,fun k o e=>by simp at e⟩
 |cons o r ih=>
  intro i env env₀ H hist rs he h;have hq: ∀env₁ z H H',(∀t,get env₁ t=get env₀ t)->ab9 P L mu o env₁ H (fun x H''=>x=z/\H''=H')->ab9 P L mu o env₀ H (fun x H''=>x=z/\H''=H'):=fun env₁ z H H' he₁ hz=>by
   rwa [<-aT7 (env:=env₁) fun x _ t _=>he₁ t]
  have run: ∀env₁,(∀t,get env₁ t=get env₀ t)->(∀Hx Hy z,ab9 P L mu o env₀ Hx (fun x H''=>x=z/\H''=Hy)->DoesE P L mu all o env₀ Hx z Hy)->
    (al1 P L mu o env₁ H fun z H'=>ah4 P L mu rid i o env₁ H z H' hist rs fun hist' rs'=>ap4 P L mu rid all (i+1) r (put o.dst z env₁) H' hist' rs' K)->bk7 P L mu rid all K (o::r) i env₀ H hist rs:=fun env₁ he₁ hdo h=>by
   obtain⟨z,H',hz,hk⟩:=bJ5 h;unfold ah4 at hk;cases ho:ah2 mu o with
   |true=>
    rw[if_pos ho] at hk;exact aQ4 (fun e=>by rw[ho] at e;cases e) (hdo _ _ _ (hq env₁ z H H' he₁ hz)) (ih (i+1) _ _ H' _ _ (fun t=>by rw[get_put,get_put,he₁ t]) hk.2) (fun x hx=>aJ4 _ hx) (fun x hx=>hx) (fun _=>.inr (aD9 ..)) (fun _ q p e y hm hc _=>bg8 hk.1 q p e y hm hc) (fun e=>by rw[ho] at e;cases e)
   |false=>
    rw[if_neg (by rw[ho];simp)] at hk
    cases hpu:aq1 mu o with
    |true=>
     rw[if_pos hpu] at hk;exact aQ4 (fun _=>c84 hpu hz) (hdo _ _ _ (hq env₁ z H H' he₁ hz)) (ih (i+1) _ _ H' _ _ (fun t=>by rw[get_put,get_put,he₁ t]) hk) (fun x hx=>hx) (fun x hx=>hx) (fun e=>by rw[ho] at e;cases e) (fun e=>by rw[ho] at e;cases e) (fun _ e=>by rw[hpu] at e;cases e)
    |false=>
     rw[if_neg (by rw[hpu];simp)] at hk
     obtain⟨rfl,hw,hk⟩:=hk;refine aQ4 (fun _=>rfl) (hdo _ _ _ (hq env₁ z H' H' he₁ hz)) (ih (i+1) _ _ H' _ _ (fun t=>by rw[get_put,get_put,he₁ t]) hk) (fun x hx=>hx) (fun x hx=>aJ4 _ hx) (fun e=>by rw[ho] at e;cases e) (fun e=>by rw[ho] at e;cases e) (fun _ _=>⟨fun j₀ Hj hm hc=>hdo _ _ _ (hq env₁ z Hj Hj he₁ (bu4 hw j₀ Hj hm hc)),.inr ⟨env₁,aD9 ..,hz,fun Hx hx=>hdo _ _ _ (hq env₁ z Hx Hx he₁ hx)⟩⟩)
  have skip: ∀env₁,(∀t,get env₁ t=get env₀ t)->(∀Hx,DoesE P L mu all o env₀ Hx (.lit undef) Hx)->ap4 P L mu rid all (i+1) r (put o.dst (.lit undef) env₁) H hist rs K->bk7 P L mu rid all K (o::r) i env₀ H hist rs:=fun env₁ he₁ hdo h=>
   aQ4 (z:=.lit undef) (hist':=hist) (rs':=rs) (fun _=>rfl) (hdo H) (ih (i+1) _ _ H hist rs (fun t=>by rw[get_put,get_put,he₁ t]) h) (fun x hx=>hx) (fun x hx=>hx) (fun _=>.inl rfl) (fun _ q p e y _ _ hv=>hv) (fun _ _=>⟨fun _ Hj _ _=>hdo Hj,.inl hdo⟩)
  unfold ap4 at h;cases hg:o.guard with
  |none=>
   rw[hg] at h;exact run env he (fun Hx Hy z hz=>by unfold DoesE;rw[hg];exact hz) h
  |some jw=>
   obtain⟨j,want⟩:=jw;rw[hg] at h;simp only[ay5] at h;split at h
   ·rename_i b hb
    have hb0:aq6 all env₀ j=.lit (.bool b):=by rw[<-be1 he];exact hb
    by_cases e:b=want
    ·subst e
     have he₁: ∀t,get (known1 all j b env) t=get env₀ t:=fun t=>(bm4 hb t).trans (he t)
     exact run _ he₁ (fun Hx Hy z hz=>by unfold DoesE;rw[hg];exact .inl ⟨b,hb0,.inl ⟨rfl,hz⟩⟩) (h.1 rfl)
    ·have hbn:b=!want:=by cases b<;>cases want<;>simp_all
     have he₁: ∀t,get (known1 all j (!want) env) t=get env₀ t:=fun t=>(bm4 (hbn▸hb) t).trans (he t)
     exact skip _ he₁ (fun Hx=>by unfold DoesE;rw[hg];exact .inl ⟨b,hb0,.inr ⟨e,rfl,rfl⟩⟩) (h.2 e)
   ·rename_i ar hb
    exact skip env he (fun Hx=>by unfold DoesE;rw[hg];exact .inr ⟨ar,by rw[<-be1 he];exact hb,rfl,rfl⟩) h
   ·exact h.elim
theorem bZ8{ops:List Oper}(hdr:aI2 ops=true){i j:Nat}{o:Oper}(e:ops[i]?=some o)(h:j∈(ak7 ops []).getD i []):j < i:=by
 have hord: ∀(i:Nat) o,ops[i]?=some o-> ∀e∈o.after.toList,Region.binds .any e=true->e.on < i:=fun i o e=>by
  have:=(ay9 ops 0 hdr i o e).2;rwa [Nat.zero_add] at this
 have hp:Past ops (fun k=>decide (k < i)):=fun k o' ek hk e' he' hb=>by
  have h1:k < i:=by simpa using hk
  have:=hord k o' ek e' he' hb;simp only[decide_eq_true_eq];omega
 have:=ay4 hp ops [] [] rfl rfl (fun i j o hi=>by simp at hi) i j o h e (fun e' he' hb=>by have:=hord i o e e' he' hb;simpa using this)
 simpa using this
theorem b03{P:Program}{L:Tab}(hL:ac7 P L)(hm:P.follows .mixedOrders=true)(mu:List Nat){n:Nat}{rid:Nat}{ops:List Oper}(hops:ay3 n ops=true)(hdr:aI2 ops=true)(hch:bf5 rid mu ops=true){Q:Exit->Env->List AObj->Prop}{env:Env}{H:List AObj}
  (h:ap4 P L mu rid ops 0 ops env H [] [] (Q .normal)):AW P n (.region rid ops.toArray true) Q env H:=by
 obtain⟨zs,oh,env',h0,hpu,h1,h2,h3,_,_,h6,h7⟩:=cb8 ops 0 env env H [] [] (fun _=>rfl) h
 simp only[Nat.zero_add] at hpu h1 h3 h6 h7;refine bP4 hL hm mu hops hdr hch zs oh h0 hpu (fun i o e ho m hml hA hB=>?_) h1 env' h2 h3
 cases hp:aq1 mu o with
 |true=>
  have:=h1 i o e;rw[hpu i o e ho] at this;exact cX3 hp this
 |false=>
  rcases xq8 i m with him|him
  ·refine h7 i o e ho hp m (by omega) hml fun j o' hij hjm e' ho'=>?_
   rcases bE5 hch e e' (by omega) ho hp ho' with h8|h8|h8
   ·exfalso
    have:=bZ8 hdr e h8;omega
   ·exact absurd h8 (hB j o' e' ho' hij hjm)
   ·exact h8
  ·refine h6 i o e ho hp m him fun j o' hmj hji e' ho'=>?_
   rcases bE5 hch e e' (by omega) ho hp ho' with h8|h8|h8
   ·exact absurd h8 (hA j o' e' ho' hmj hji)
   ·exfalso
    have:=bZ8 hdr e' h8;omega
   ·exact h8
end V
end
section
namespace V
open Go
def cO4(c:AV)(a b:Prop)[Tag a][Tag b]:Prop:=
 match c with
 |.lit (.bool t)=>(t=true->a)/\(t=false->b)
 |_=>False
theorem c08{t:Bool}{a b:Prop}:cO4 (.lit (.bool t)) a b=((t=true->aW6 a)/\(t=false->aW6 b)):=by rw[aZ1,aZ1];rfl
def vcC(P:Program)(L:Tab)(mu:List Nat)(n:Nat):Code->(Exit->Env->List AObj->Prop)->Env->List AObj->Prop
 |.skip,Q,env,H=>Q .normal env H
 |.seq x y,Q,env,H=>vcC P L mu n x (Ex (fun env H=>vcC P L mu n y Q env H) Q) env H
 |.cond c x y,Q,env,H=>cO4 (ev env c) (vcC P L mu n x Q env H) (vcC P L mu n y Q env H)
 |.block id c,Q,env,H=>vcC P L mu n c (InB id Q) env H
 |.exit id,Q,env,H=>Q (.exit id) env H
 |.ret,Q,env,H=>Q .ret env H
 |.region _ ops false,Q,env,H=>aB8 P L mu ops.toList ops.toList env H (Q .normal)
 |.region id ops true,Q,env,H=>if mu.contains (1000000+id) then ap4 P L mu id ops.toList 0 ops.toList env H [] [] (Q .normal) else aw8 P L ops.toList ops.toList env H (Q .normal)
 |c,Q,env,H=>AW P n c Q env H
def okC(mu:List Nat)(n:Nat):Code->Bool
 |.seq x y=>okC mu n x&&okC mu n y
 |.cond _ x y=>okC mu n x&&okC mu n y
 |.block _ c=>okC mu n c
 |.region id ops d=>ay3 n ops.toList&&(!d||(aI2 ops.toList&&(!mu.contains (1000000+id)||bf5 id mu ops.toList)))
 |_=>true
theorem ad2{P:Program}{L:Tab}(hL:ac7 P L)(hm:P.follows .mixedOrders=true){mu:List Nat}{n:Nat}: ∀(c:Code) {Q:Exit->Env->List AObj->Prop} {env:Env} {H:List AObj},okC mu n c=true->vcC P L mu n c Q env H->AW P n c Q env H
 |.skip,_,_,_,_,h=>dY6 h
 |.seq x y,Q,env,H,ho,h=>by
  simp only[okC,xq3] at ho;exact bJ1 ((ad2 hL hm x ho.1 h).mono fun e env' H' q=>by
   cases e with
   |normal=>exact ad2 hL hm y ho.2 q
   |_=>exact q)
 |.cond c x y,Q,env,H,ho,h=>by
  simp only[okC,xq3] at ho;simp only[vcC,cO4] at h;split at h
  ·rename_i t ht
   exact dZ0 ht (fun e=>ad2 hL hm x ho.1 (h.1 e)) (fun e=>ad2 hL hm y ho.2 (h.2 e))
  ·exact h.elim
 |.block id c,Q,env,H,ho,h=>dE5 (ad2 hL hm c ho h)
 |.exit id,_,_,_,_,h=>dY9 h
 |.ret,_,_,_,_,h=>ee1 h
 |.region id ops false,Q,env,H,ho,h=>by
  simp only[okC,xq3] at ho;have:=dj8 hL mu (id:=id) (ops:=ops.toList) ho.1 h;simpa using this
 |.region id ops true,Q,env,H,ho,h=>by
  simp only[okC,xq3] at ho;have ho2:aI2 ops.toList=true/\(mu.contains (1000000+id)=true->bf5 id mu ops.toList=true):=by
   have:=ho.2;simp only[Bool.not_true,Bool.false_or,xq3,bz9,Bool.not_eq_true'] at this;refine⟨this.1,fun e=>?_⟩
   rcases this.2 with h'|h'
   ·rw[e] at h';cases h'
   ·exact h'
  unfold vcC at h;split at h
  ·rename_i hm'
   have:=b03 hL hm mu (rid:=id) (ops:=ops.toList) ho.1 ho2.1 (ho2.2 hm') h;simpa using this
  ·have:=b67 hL hm (rid:=id) (ops:=ops.toList) ho.1 ho2.1 h
   simpa using this
 |.loop c,_,_,_,_,h=>h
 |.rangeFunc _ _ _ _,_,_,_,_,h=>h
 |.scope _,_,_,_,_,h=>h
 |.label _,_,_,_,_,h=>h
 |.goto _,_,_,_,_,h=>h
 |.refuse _,_,_,_,_,h=>h
theorem dl2{P:Program}{L:Tab}(hL:ac7 P L)(hm:P.follows .mixedOrders=true)(mu:List Nat){f:FuncId}{fn:Func}{c:Code}{n:Nat}{rs:List ResultVar}{args:List AV}{H:List AObj}{R:AV->List AObj->Prop}(hf:P.funcs[f]?=some fn)(hb:fn.body=some c)(hname:(fn.name== "runtime.NumGoroutine")=false)(hn:fn.ntmps=n)
  (hrs:fn.results.toList=rs) (hargs:args.length<=n) (ho:okC mu n c=true) (h:vcC P L mu n c (by5 L rs H R) (aF6 0 args) H):o7 P f args H R:=
 bF3 hL hf hb hname hn hrs hargs (ad2 hL hm c ho h)
end V
end
section
namespace V
open Go
variable {ds:List Deferred}
section
variable {P:Program}{L:Tab}{mu:List Nat}{n:Nat}{Q:Exit->Env->List AObj->Prop}{env:Env}{H:List AObj}{all rest:List Oper}{K:Env->List AObj->Prop}{J:AV->List AObj->Prop}{D:AV->Prop}
def ce7(b:Option Nat)(t:TypeId)(zs:List AV)(H:List AObj)(K:AV->List AObj->Prop)[Tag K]:Prop:=
 match b with
 |none=>K (.mp H.length 0) (H++[.cells (.one t) zs])
 |some u=>K (.mp H.length 0) (H++[.cells (.one t) (av8 (H.length+1) zs),.grow 1 0 (some u)])
theorem du9{t:TypeId}{zs:List AV}:ce7 none t zs H J=J (.mp H.length 0) (H++[.cells (.one t) zs]):=rfl
theorem du8{u t:Nat}{zs:List AV}:ce7 (some u) t zs H J=J (.mp H.length 0) (H++[.cells (.one t) (av8 (H.length+1) zs),.grow 1 0 (some u)]):=rfl
theorem ec8:vcC P L mu n .skip Q env H=Q .normal env H:=rfl
theorem ek4{x y:Code}:vcC P L mu n (.seq x y) Q env H=vcC P L mu n x (Ex (fun env H=>vcC P L mu n y Q env H) Q) env H:=rfl
theorem ed3{c:Operand}{x y:Code}:vcC P L mu n (.cond c x y) Q env H=cO4 (ev env c) (vcC P L mu n x Q env H) (vcC P L mu n y Q env H):=rfl
theorem dY1{id:Nat}{c:Code}:vcC P L mu n (.block id c) Q env H=vcC P L mu n c (InB id Q) env H:=rfl
theorem ed1{id:Nat}:vcC P L mu n (.exit id) Q env H=Q (.exit id) env H:=rfl
theorem ek5:vcC P L mu n .ret Q env H=Q .ret env H:=rfl
theorem dC8{id:Nat}{ops:List Oper}:vcC P L mu n (.region id ops.toArray false) Q env H=aB8 P L mu ops ops env H (Q .normal):=by show aB8 P L mu ops.toArray.toList ops.toArray.toList env H (Q .normal)=_;simp
theorem ed2{id:Nat}{ops:List Oper}:vcC P L mu n (.region id ops.toArray true) Q env H=if mu.contains (1000000+id) then ap4 P L mu id ops 0 ops env H [] [] (Q .normal) else aw8 P L ops ops env H (Q .normal):=by show (if mu.contains (1000000+id) then ap4 P L mu id ops.toArray.toList 0 ops.toArray.toList env H [] [] (Q .normal) else aw8 P L ops.toArray.toList ops.toArray.toList env H (Q .normal))=_;simp
theorem ed0{c:Code}:vcC P L mu n (.loop c) Q env H=AW P n (.loop c) Q env H:=rfl
theorem bb5:Ex K Q .normal env H=K env H:=rfl
theorem dW2{id:Nat}:Ex K Q (.exit id) env H=Q (.exit id) env H:=rfl
theorem eb3:Ex K Q .ret env H=Q .ret env H:=rfl
theorem ba7{id:Nat}:InB id Q .normal env H=Q .normal env H:=rfl
theorem dU4{id id':Nat}:InB id Q (.exit id') env H=if id'=id then Q .normal env H else Q (.exit id') env H:=rfl
theorem d99{id:Nat}:InB id Q .ret env H=Q .ret env H:=rfl
theorem el0{rs:List ResultVar}{H₀:List AObj}{R:AV->List AObj->Prop}:by5 L rs H₀ R .ret env H=Fin L rs H₀ R env H:=rfl
theorem dE2{rs:List ResultVar}{H₀:List AObj}{R:AV->List AObj->Prop}:by5 L rs H₀ R .normal env H=Fin L rs H₀ R env H:=rfl
theorem ei6:aB8 P L mu all [] env H K=K env H:=rfl
theorem d74{d:Option Tmp}{op:Op}{ty:TypeId}{pos:String}{af:Array Edge}:aB8 P L mu all (⟨d,op,ty,pos,af,none⟩::rest) env H K=ab9 P L mu ⟨d,op,ty,pos,af,none⟩ env H fun v H'=>aB8 P L mu all rest (put d v env) H' K:=rfl
theorem dQ9{d:Option Tmp}{op:Op}{ty:TypeId}{pos:String}{af:Array Edge}{j:Nat}{b:Bool}:aB8 P L mu all (⟨d,op,ty,pos,af,some (j,b)⟩::rest) env H K=
  ay5 (aq6 all env j) b (ab9 P L mu ⟨d,op,ty,pos,af,some (j,b)⟩ (known1 all j b env) H fun v H'=>aB8 P L mu all rest (put d v (known1 all j b env)) H' K) (aB8 P L mu all rest (put d (.lit undef) (known1 all j (!b) env)) H K) (aB8 P L mu all rest (put d (.lit undef) env) H K):=rfl
theorem ek2:aw8 P L all [] env H K=K env H:=rfl
theorem ec0{d:Option Tmp}{op:Op}{ty:TypeId}{pos:String}{af:Array Edge}:aw8 P L all (⟨d,op,ty,pos,af,none⟩::rest) env H K=an2 P L ⟨d,op,ty,pos,af,none⟩ env H fun v=>aw8 P L all rest (put d v env) H K:=rfl
theorem dX1{d:Option Tmp}{op:Op}{ty:TypeId}{pos:String}{af:Array Edge}{j:Nat}{b:Bool}:aw8 P L all (⟨d,op,ty,pos,af,some (j,b)⟩::rest) env H K=
  ay5 (aq6 all env j) b (an2 P L ⟨d,op,ty,pos,af,some (j,b)⟩ (known1 all j b env) H fun v=>aw8 P L all rest (put d v (known1 all j b env)) H K) (aw8 P L all rest (put d (.lit undef) (known1 all j (!b) env)) H K) (aw8 P L all rest (put d (.lit undef) env) H K):=rfl
theorem dU8{d:Tmp}{op:Op}{ty:TypeId}{pos:String}{af:Array Edge}{g:Option (Nat×Bool)}:aq6 (⟨some d,op,ty,pos,af,g⟩::rest) env 0=get env d:=rfl
theorem dU9{o:Oper}{j:Nat}:aq6 (o::rest) env (j+1)=aq6 rest env j:=rfl
section
variable {d:Option Tmp}{ty:TypeId}{pos:String}{af:Array Edge}{g:Option (Nat×Bool)}
theorem dO7{x:Operand}:ab9 P L mu ⟨d,.move x,ty,pos,af,g⟩ env H J=lift (a13 (ev env x)) J H:=rfl
theorem da4{x:Operand}:ab9 P L mu ⟨d,.assign x,ty,pos,af,g⟩ env H J=lift (a13 (ev env x)) J H:=rfl
theorem dO6{a b c:Operand}:ab9 P L mu ⟨d,.pick a b c,ty,pos,af,g⟩ env H J=lift (bH0 (ev env a) (ev env b) (ev env c)) J H:=rfl
theorem d62{op:BinOp}{t t':TypeId}{x y:Operand}:ab9 P L mu ⟨d,.binOp op t x y t',ty,pos,af,g⟩ env H J=if ax1 y then bS3 L op t (ev env x) H J else lift (bB6 P L op t (isConst y) (ev env x) (ev env y)) J H:=rfl
theorem ei4{op:UnOp}{t:TypeId}{x:Operand}:ab9 P L mu ⟨d,.unOp op t x,ty,pos,af,g⟩ env H J=lift (cm4 op (ev env x)) J H:=rfl
theorem dO9{s t:TypeId}{x:Operand}:ab9 P L mu ⟨d,.convert s t x,ty,pos,af,g⟩ env H J=if mu.contains (d.getD 0) then bg5 L s t (ev env x) H J else lift (br8 P L H s t (ev env x)) J H:=rfl
theorem ec1{s t:TypeId}{l:List UInt8}:bg5 L s t (.str l) H J=be7 L s t (.str l) H J:=rfl
theorem ec2{s t:TypeId}{k off n c:Nat}:bg5 L s t (.msl k off n c) H J=bq3 L s t (.msl k off n c) H J:=rfl
theorem cS9{x:Operand}{i:Nat}:ab9 P L mu ⟨d,.extract x i,ty,pos,af,g⟩ env H J=lift (aY5 (ev env x) i) J H:=rfl
theorem cn6{t:TypeId}{x i:Operand}:ab9 P L mu ⟨d,.indexAddr t x i,ty,pos,af,g⟩ env H J=lift (aG8 L t (ev env x) (ev env i)) J H:=rfl
theorem dr2{t:TypeId}{x i:Operand}:ab9 P L mu ⟨d,.index t x i,ty,pos,af,g⟩ env H J=lift (br5 L t (ev env x) (ev env i)) J H:=rfl
theorem dO8{t:TypeId}{x:Operand}:ab9 P L mu ⟨d,.load t x,ty,pos,af,g⟩ env H J=lift (aE7 L H t (ev env x)) J H:=rfl
theorem dr1{t:TypeId}{x:Operand}{lo hi mx:Option Operand}:ab9 P L mu ⟨d,.slice t x lo hi mx,ty,pos,af,g⟩ env H J=lift (bi0 L t (ev env x) (evO env lo) (evO env hi) (evO env mx)) J H:=rfl
theorem cn7{t:TypeId}{x:Operand}{f:Nat}:ab9 P L mu ⟨d,.fieldAddr t x f,ty,pos,af,g⟩ env H J=lift (aG9 L t (ev env x) f) J H:=rfl
theorem dr3{t:TypeId}{x:Operand}{f:Nat}:ab9 P L mu ⟨d,.field t x f,ty,pos,af,g⟩ env H J=lift (br7 L t (ev env x) f) J H:=rfl
theorem dr6{t:TypeId}{ps:Array (Nat×Operand)}:ab9 P L mu ⟨d,.build t ps,ty,pos,af,g⟩ env H J=lift (bi1 L t (ai3 env ps)) J H:=rfl
theorem cc2{t:TypeId}{len:Nat}{ps:Array (Nat×Operand)}:ab9 P L mu ⟨d,.buildSlice t len ps,ty,pos,af,g⟩ env H J=if mu.contains (d.getD 0) then aX2 L t len (ai3 env ps) H J else if len=0/\ps.size≠0 then False else lift (aE2 L t len (ai3 env ps)) J H:=rfl
theorem d61{t:TypeId}{x:Operand}:ab9 P L mu ⟨d,.box t x,ty,pos,af,g⟩ env H J=if mu.contains (d.getD 0) then cO3 t (ev env x) H J else lift (cR5 (ev env x)) J H:=rfl
theorem cn9{t:TypeId}:ab9 P L mu ⟨d,.alloc t,ty,pos,af,g⟩ env H J=(known (L t)=true/\ce7 (cg9 mu (d.getD 0)) t (L t).zero H J):=by unfold ab9 ce7;rfl
theorem dr0{t:TypeId}{a x:Operand}:ab9 P L mu ⟨d,.store t a x,ty,pos,af,g⟩ env H J=be6 L t (ev env a) (ev env x) H J:=rfl
theorem dr4{f:Operand}{az:Array Operand}{ts:Array TypeId}:ab9 P L mu ⟨d,.call ⟨.value f,az,ts⟩,ty,pos,af,g⟩ env H J=aT8 P (ev env f) (az.toList.map (ev env)) H J:=rfl
theorem dr5{b:Builtin}{az:Array Operand}{ts:Array TypeId}:ab9 P L mu ⟨d,.call ⟨.builtin b,az,ts⟩,ty,pos,af,g⟩ env H J=ah7 (mu.contains (d.getD 0)) L b (az.toList.map (ev env)) ts.toList H J:=rfl
theorem cB8{x:Operand}:ab9 P L mu ⟨d,.nilCheck x,ty,pos,af,g⟩ env H J=lift (b43 (ev env x)) J H:=rfl
theorem cB9{f:Fn}{fs cs:Array Operand}:ab9 P L mu ⟨d,.makeFunc f fs cs,ty,pos,af,g⟩ env H J=lift (a13 (.fn f (fs.toList.map (ev env)) (cs.toList.map (ev env)))) J H:=rfl
theorem cn5{t:TypeId}{x y:Operand}:ab9 P L mu ⟨d,.makeSlice t x y,ty,pos,af,g⟩ env H J=bq4 L t (ev env x) (ev env y) H J:=rfl
theorem bN3{t:TypeId}{x:Operand}:ab9 P L mu ⟨d,.makeInterface t x,ty,pos,af,g⟩ env H J=lift (br6 L t (ev env x)) J H:=rfl
theorem dq9{t:TypeId}{x:Operand}:ab9 P L mu ⟨d,.sliceToArrayPointer t x,ty,pos,af,g⟩ env H J=lift (br3 L t (ev env x)) J H:=rfl
theorem cS8{t:TypeId}{r:Option Operand}:ab9 P L mu ⟨d,.makeMap t r,ty,pos,af,g⟩ env H J=(r=none/\J (.mapp H.length) (H++[.mo (.map [] 0)])):=rfl
theorem da2{t:TypeId}{x k:Operand}{b:Bool}:ab9 P L mu ⟨d,.lookup t x k b,ty,pos,af,g⟩ env H J=lift (br4 L H t (ev env x) (ev env k) b) J H:=rfl
theorem da3{t:TypeId}{x k v:Operand}:ab9 P L mu ⟨d,.insert t x k v,ty,pos,af,g⟩ env H J=aX1 L H t (ev env x) (ev env k) (ev env v) J:=rfl
theorem dQ6{x:Operand}:an2 P L ⟨d,.move x,ty,pos,af,g⟩ env H D=aq8 (a13 (ev env x)) D:=rfl
theorem db8{x:Operand}:an2 P L ⟨d,.assign x,ty,pos,af,g⟩ env H D=aq8 (a13 (ev env x)) D:=rfl
theorem dQ5{a b c:Operand}:an2 P L ⟨d,.pick a b c,ty,pos,af,g⟩ env H D=aq8 (bH0 (ev env a) (ev env b) (ev env c)) D:=rfl
theorem d73{op:BinOp}{t t':TypeId}{x y:Operand}:an2 P L ⟨d,.binOp op t x y t',ty,pos,af,g⟩ env H D=aq8 (if ax1 y then none else bB6 P L op t (isConst y) (ev env x) (ev env y)) D:=rfl
theorem cT6{x:Operand}{i:Nat}:an2 P L ⟨d,.extract x i,ty,pos,af,g⟩ env H D=aq8 (aY5 (ev env x) i) D:=rfl
theorem co5{t:TypeId}{x i:Operand}:an2 P L ⟨d,.indexAddr t x i,ty,pos,af,g⟩ env H D=aq8 (aG8 L t (ev env x) (ev env i)) D:=rfl
theorem dQ7{t:TypeId}{x:Operand}:an2 P L ⟨d,.load t x,ty,pos,af,g⟩ env H D=aq8 (aE7 L H t (ev env x)) D:=rfl
theorem dt3{t:TypeId}{x:Operand}{lo hi mx:Option Operand}:an2 P L ⟨d,.slice t x lo hi mx,ty,pos,af,g⟩ env H D=aq8 (bi0 L t (ev env x) (evO env lo) (evO env hi) (evO env mx)) D:=rfl
theorem co6{t:TypeId}{x:Operand}{f:Nat}:an2 P L ⟨d,.fieldAddr t x f,ty,pos,af,g⟩ env H D=aq8 (aG9 L t (ev env x) f) D:=rfl
theorem dt6{t:TypeId}{ps:Array (Nat×Operand)}:an2 P L ⟨d,.build t ps,ty,pos,af,g⟩ env H D=aq8 (bi1 L t (ai3 env ps)) D:=rfl
theorem cc4{t:TypeId}{len:Nat}{ps:Array (Nat×Operand)}:an2 P L ⟨d,.buildSlice t len ps,ty,pos,af,g⟩ env H D=if len=0/\ps.size≠0 then False else aq8 (aE2 L t len (ai3 env ps)) D:=rfl
theorem dt4{f:Operand}{az:Array Operand}{ts:Array TypeId}:an2 P L ⟨d,.call ⟨.value f,az,ts⟩,ty,pos,af,g⟩ env H D=bG4 P (ev env f) (az.toList.map (ev env)) H D:=rfl
theorem dt5{b:Builtin}{az:Array Operand}{ts:Array TypeId}:an2 P L ⟨d,.call ⟨.builtin b,az,ts⟩,ty,pos,af,g⟩ env H D=aT9 L H b (az.toList.map (ev env)) ts.toList D:=rfl
end
theorem dX7{f:FuncId}{fs cs args:List AV}:aT8 P (.fn (.func f) fs cs) args H J=o7 P f (fs++args++cs) H J:=rfl
theorem dC6{k:Nat}{args:List AV}:aT8 P (.yld k) args H J=aF9 P k args H J:=rfl
theorem cw8{f:FuncId}{args:List AV}:aT8 P (.fn (.func f) [] []) args H J=o7 P f args H J:=by show o7 P f ([]++args++[]) H J=_;simp
theorem dj4{f:FuncId}{args:List AV}:bG4 P (.fn (.func f) [] []) args H D= ∃z,o7 P f args H (fun x H'=>x=z/\H'=H)/\aW6 (D z):=by show (∃z,o7 P f ([]++args++[]) H (fun x H'=>x=z/\H'=H)/\D z)=_;simp[aZ1]
section
variable {d:Option Tmp}{ty:TypeId}{pos:String}{af:Array Edge}{g:Option (Nat×Bool)}
theorem dQ2{x:Operand}:al1 P L mu ⟨d,.move x,ty,pos,af,g⟩ env H J=ab9 P L mu ⟨d,.move x,ty,pos,af,g⟩ env H J:=rfl
theorem db6{x:Operand}:al1 P L mu ⟨d,.assign x,ty,pos,af,g⟩ env H J=ab9 P L mu ⟨d,.assign x,ty,pos,af,g⟩ env H J:=rfl
theorem dQ1{a b c:Operand}:al1 P L mu ⟨d,.pick a b c,ty,pos,af,g⟩ env H J=ab9 P L mu ⟨d,.pick a b c,ty,pos,af,g⟩ env H J:=rfl
theorem dQ0{op:UnOp}{t:TypeId}{x:Operand}:al1 P L mu ⟨d,.unOp op t x,ty,pos,af,g⟩ env H J=ab9 P L mu ⟨d,.unOp op t x,ty,pos,af,g⟩ env H J:=rfl
theorem cT5{s t:TypeId}{x:Operand}:al1 P L mu ⟨d,.convert s t x,ty,pos,af,g⟩ env H J=ab9 P L mu ⟨d,.convert s t x,ty,pos,af,g⟩ env H J:=rfl
theorem cT4{x:Operand}{i:Nat}:al1 P L mu ⟨d,.extract x i,ty,pos,af,g⟩ env H J=ab9 P L mu ⟨d,.extract x i,ty,pos,af,g⟩ env H J:=rfl
theorem co2{t:TypeId}{x i:Operand}:al1 P L mu ⟨d,.indexAddr t x i,ty,pos,af,g⟩ env H J=ab9 P L mu ⟨d,.indexAddr t x i,ty,pos,af,g⟩ env H J:=rfl
theorem ds8{t:TypeId}{x i:Operand}:al1 P L mu ⟨d,.index t x i,ty,pos,af,g⟩ env H J=ab9 P L mu ⟨d,.index t x i,ty,pos,af,g⟩ env H J:=rfl
theorem dQ3{t:TypeId}{x:Operand}:al1 P L mu ⟨d,.load t x,ty,pos,af,g⟩ env H J=ab9 P L mu ⟨d,.load t x,ty,pos,af,g⟩ env H J:=rfl
theorem ds7{t:TypeId}{x:Operand}{lo hi mx:Option Operand}:al1 P L mu ⟨d,.slice t x lo hi mx,ty,pos,af,g⟩ env H J=ab9 P L mu ⟨d,.slice t x lo hi mx,ty,pos,af,g⟩ env H J:=rfl
theorem co4{t:TypeId}{x:Operand}{f:Nat}:al1 P L mu ⟨d,.fieldAddr t x f,ty,pos,af,g⟩ env H J=ab9 P L mu ⟨d,.fieldAddr t x f,ty,pos,af,g⟩ env H J:=rfl
theorem dt0{t:TypeId}{ps:Array (Nat×Operand)}:al1 P L mu ⟨d,.build t ps,ty,pos,af,g⟩ env H J=ab9 P L mu ⟨d,.build t ps,ty,pos,af,g⟩ env H J:=rfl
theorem cc3{t:TypeId}{len:Nat}{ps:Array (Nat×Operand)}:al1 P L mu ⟨d,.buildSlice t len ps,ty,pos,af,g⟩ env H J=ab9 P L mu ⟨d,.buildSlice t len ps,ty,pos,af,g⟩ env H J:=rfl
theorem d72{t:TypeId}{x:Operand}:al1 P L mu ⟨d,.box t x,ty,pos,af,g⟩ env H J=ab9 P L mu ⟨d,.box t x,ty,pos,af,g⟩ env H J:=rfl
theorem dt2{t:TypeId}:al1 P L mu ⟨d,.alloc t,ty,pos,af,g⟩ env H J=ab9 P L mu ⟨d,.alloc t,ty,pos,af,g⟩ env H J:=rfl
theorem ds6{t:TypeId}{a x:Operand}:al1 P L mu ⟨d,.store t a x,ty,pos,af,g⟩ env H J=ab9 P L mu ⟨d,.store t a x,ty,pos,af,g⟩ env H J:=rfl
theorem cC0{x:Operand}:al1 P L mu ⟨d,.nilCheck x,ty,pos,af,g⟩ env H J=ab9 P L mu ⟨d,.nilCheck x,ty,pos,af,g⟩ env H J:=rfl
theorem dt1{op:BinOp}{t t':TypeId}{x y:Operand}:al1 P L mu ⟨d,.binOp op t x y t',ty,pos,af,g⟩ env H J=if ax1 y then False else lift (bB6 P L op t (isConst y) (ev env x) (ev env y)) J H:=by unfold al1;simp only[ab9];split<;>simp_all
theorem ds9{f:FuncId}{az:Array Operand}{ts:Array TypeId}:al1 P L mu ⟨d,.call ⟨.value (.func f),az,ts⟩,ty,pos,af,g⟩ env H J= ∃z H',o7 P f (az.toList.map (ev env)) H (fun x H''=>x=z/\H''=H')/\aW6 (J z H'):=by simp only[al1,ab9,aZ1];congr;funext z;congr;funext H';rw[show ev env (.func f)=.fn (.func f) [] [] from rfl,cw8]
theorem d71{az:Array Operand}{ts:Array TypeId}:al1 P L mu ⟨d,.call ⟨.builtin .len,az,ts⟩,ty,pos,af,g⟩ env H J=ah7 (mu.contains (d.getD 0)) L .len (az.toList.map (ev env)) ts.toList H J:=rfl
theorem d70{az:Array Operand}{ts:Array TypeId}:al1 P L mu ⟨d,.call ⟨.builtin .min,az,ts⟩,ty,pos,af,g⟩ env H J=ah7 (mu.contains (d.getD 0)) L .min (az.toList.map (ev env)) ts.toList H J:=rfl
theorem dQ4{az:Array Operand}{ts:Array TypeId}:al1 P L mu ⟨d,.call ⟨.builtin .copy,az,ts⟩,ty,pos,af,g⟩ env H J=ah7 (mu.contains (d.getD 0)) L .copy (az.toList.map (ev env)) ts.toList H J:=rfl
theorem co1{az:Array Operand}{ts:Array TypeId}:al1 P L mu ⟨d,.call ⟨.builtin .unsafeSliceData,az,ts⟩,ty,pos,af,g⟩ env H J=ah7 (mu.contains (d.getD 0)) L .unsafeSliceData (az.toList.map (ev env)) ts.toList H J:=rfl
theorem db5{az:Array Operand}{ts:Array TypeId}:al1 P L mu ⟨d,.call ⟨.builtin .unsafeString,az,ts⟩,ty,pos,af,g⟩ env H J=ah7 (mu.contains (d.getD 0)) L .unsafeString (az.toList.map (ev env)) ts.toList H J:=rfl
theorem db7{x y:Operand}{t t':TypeId}:al1 P L mu ⟨d,.call ⟨.builtin .append,#[x,y],#[t,t']⟩,ty,pos,af,g⟩ env H J=(cq1 [ev env x,ev env y]/\a07 (mu.contains (d.getD 0)) L t t' (ev env x) (ev env y) H J):=rfl
section
variable {rid i:Nat}{z:AV}{H':List AObj}{hist:List (Nat×List AObj)}{rs:List (Nat×Oper×Env×AV)}{k:List (Nat×List AObj)->List (Nat×Oper×Env×AV)->Prop}
theorem dR2{x:Operand}:ah4 P L mu rid i ⟨d,.move x,ty,pos,af,g⟩ env H z H' hist rs k=k hist rs:=rfl
theorem dc0{x:Operand}:ah4 P L mu rid i ⟨d,.assign x,ty,pos,af,g⟩ env H z H' hist rs k=k hist rs:=rfl
theorem dR1{a b c:Operand}:ah4 P L mu rid i ⟨d,.pick a b c,ty,pos,af,g⟩ env H z H' hist rs k=k hist rs:=rfl
theorem dR0{op:UnOp}{t:TypeId}{x:Operand}:ah4 P L mu rid i ⟨d,.unOp op t x,ty,pos,af,g⟩ env H z H' hist rs k=k hist rs:=rfl
theorem cT7{x:Operand}{j:Nat}:ah4 P L mu rid i ⟨d,.extract x j,ty,pos,af,g⟩ env H z H' hist rs k=k hist rs:=rfl
theorem co9{t:TypeId}{x y:Operand}:ah4 P L mu rid i ⟨d,.indexAddr t x y,ty,pos,af,g⟩ env H z H' hist rs k=k hist rs:=rfl
theorem du0{t:TypeId}{x y:Operand}:ah4 P L mu rid i ⟨d,.index t x y,ty,pos,af,g⟩ env H z H' hist rs k=k hist rs:=rfl
theorem dt9{t:TypeId}{x:Operand}{lo hi mx:Option Operand}:ah4 P L mu rid i ⟨d,.slice t x lo hi mx,ty,pos,af,g⟩ env H z H' hist rs k=k hist rs:=rfl
theorem cp1{t:TypeId}{x:Operand}{f:Nat}:ah4 P L mu rid i ⟨d,.fieldAddr t x f,ty,pos,af,g⟩ env H z H' hist rs k=k hist rs:=rfl
theorem du2{t:TypeId}{ps:Array (Nat×Operand)}:ah4 P L mu rid i ⟨d,.build t ps,ty,pos,af,g⟩ env H z H' hist rs k=k hist rs:=rfl
theorem cC1{x:Operand}:ah4 P L mu rid i ⟨d,.nilCheck x,ty,pos,af,g⟩ env H z H' hist rs k=k hist rs:=rfl
theorem cp7{op:BinOp}{t t':TypeId}{x y:Operand}(h:ax1 y=false):ah4 P L mu rid i ⟨d,.binOp op t x y t',ty,pos,af,g⟩ env H z H' hist rs k=k hist rs:=by unfold ah4 ah2 aq1;simp[h]
theorem d77{az:Array Operand}{ts:Array TypeId}:ah4 P L mu rid i ⟨d,.call ⟨.builtin .len,az,ts⟩,ty,pos,af,g⟩ env H z H' hist rs k=k hist rs:=rfl
theorem d76{az:Array Operand}{ts:Array TypeId}:ah4 P L mu rid i ⟨d,.call ⟨.builtin .min,az,ts⟩,ty,pos,af,g⟩ env H z H' hist rs k=k hist rs:=rfl
theorem dt8{t:TypeId}{a x:Operand}:ah4 P L mu rid i ⟨d,.store t a x,ty,pos,af,g⟩ env H z H' hist rs k=(ao9 P L mu rid i H' rs/\k ((i,H)::hist) rs):=rfl
theorem du3{t:TypeId}:ah4 P L mu rid i ⟨d,.alloc t,ty,pos,af,g⟩ env H z H' hist rs k=(ao9 P L mu rid i H' rs/\k ((i,H)::hist) rs):=rfl
theorem dc1{az:Array Operand}{ts:Array TypeId}:ah4 P L mu rid i ⟨d,.call ⟨.builtin .append,az,ts⟩,ty,pos,af,g⟩ env H z H' hist rs k=(ao9 P L mu rid i H' rs/\k ((i,H)::hist) rs):=rfl
theorem dR4{az:Array Operand}{ts:Array TypeId}:ah4 P L mu rid i ⟨d,.call ⟨.builtin .copy,az,ts⟩,ty,pos,af,g⟩ env H z H' hist rs k=(ao9 P L mu rid i H' rs/\k ((i,H)::hist) rs):=rfl
theorem dR3{t:TypeId}{x:Operand}:ah4 P L mu rid i ⟨d,.load t x,ty,pos,af,g⟩ env H z H' hist rs k=(H'=H/\aB3 P L mu rid i ⟨d,.load t x,ty,pos,af,g⟩ env z hist/\k hist ((i,⟨d,.load t x,ty,pos,af,g⟩,env,z)::rs)):=rfl
theorem d78{t:TypeId}{x:Operand}:ah4 P L mu rid i ⟨d,.box t x,ty,pos,af,g⟩ env H z H' hist rs k=if mu.contains (d.getD 0) then(ao9 P L mu rid i H' rs/\k ((i,H)::hist) rs) else k hist rs:=by unfold ah4 ah2 aq1;cases h:mu.contains (d.getD 0)<;>simp[h]
theorem cc5{t:TypeId}{len:Nat}{ps:Array (Nat×Operand)}:ah4 P L mu rid i ⟨d,.buildSlice t len ps,ty,pos,af,g⟩ env H z H' hist rs k=if mu.contains (d.getD 0) then(ao9 P L mu rid i H' rs/\k ((i,H)::hist) rs) else(H'=H/\aB3 P L mu rid i ⟨d,.buildSlice t len ps,ty,pos,af,g⟩ env z hist/\k hist ((i,⟨d,.buildSlice t len ps,ty,pos,af,g⟩,env,z)::rs)):=by unfold ah4 ah2 aq1;cases h:mu.contains (d.getD 0)<;>simp[h]
theorem cT8{s t:TypeId}{x:Operand}:ah4 P L mu rid i ⟨d,.convert s t x,ty,pos,af,g⟩ env H z H' hist rs k=if mu.contains (d.getD 0) then(ao9 P L mu rid i H' rs/\k ((i,H)::hist) rs) else(H'=H/\aB3 P L mu rid i ⟨d,.convert s t x,ty,pos,af,g⟩ env z hist/\k hist ((i,⟨d,.convert s t x,ty,pos,af,g⟩,env,z)::rs)):=by unfold ah4 ah2 aq1;cases h:mu.contains (d.getD 0)<;>simp[h]
theorem du1{f:Operand}{az:Array Operand}{ts:Array TypeId}:ah4 P L mu rid i ⟨d,.call ⟨.value f,az,ts⟩,ty,pos,af,g⟩ env H z H' hist rs k=if mu.contains (2000000+d.getD 0) then(H'=H/\aB3 P L mu rid i ⟨d,.call ⟨.value f,az,ts⟩,ty,pos,af,g⟩ env z hist/\k hist ((i,⟨d,.call ⟨.value f,az,ts⟩,ty,pos,af,g⟩,env,z)::rs)) else(ao9 P L mu rid i H' rs/\k ((i,H)::hist) rs):=by unfold ah4 ah2 aq1;cases h:mu.contains (2000000+d.getD 0)<;>simp[h]
theorem co8{az:Array Operand}{ts:Array TypeId}:ah4 P L mu rid i ⟨d,.call ⟨.builtin .unsafeSliceData,az,ts⟩,ty,pos,af,g⟩ env H z H' hist rs k=(H'=H/\aB3 P L mu rid i ⟨d,.call ⟨.builtin .unsafeSliceData,az,ts⟩,ty,pos,af,g⟩ env z hist/\k hist ((i,⟨d,.call ⟨.builtin .unsafeSliceData,az,ts⟩,ty,pos,af,g⟩,env,z)::rs)):=rfl
theorem db9{az:Array Operand}{ts:Array TypeId}:ah4 P L mu rid i ⟨d,.call ⟨.builtin .unsafeString,az,ts⟩,ty,pos,af,g⟩ env H z H' hist rs k=(H'=H/\aB3 P L mu rid i ⟨d,.call ⟨.builtin .unsafeString,az,ts⟩,ty,pos,af,g⟩ env z hist/\k hist ((i,⟨d,.call ⟨.builtin .unsafeString,az,ts⟩,ty,pos,af,g⟩,env,z)::rs)):=rfl
theorem d42{j:Nat}:ao9 P L mu rid j H' []=True:=rfl
theorem dM6{j:Nat}{o:Oper}{r:List (Nat×Oper×Env×AV)}:ao9 P L mu rid j H' ((i,o,env,z)::r)=if mu.contains (1000000000000+(rid*1000+i)*1000+j) then ab9 P L mu o env H' (fun x H''=>x=z/\H''=H')/\ao9 P L mu rid j H' r else ao9 P L mu rid j H' r:=by rw[<-cH9];rfl
theorem d29{o:Oper}:aB3 P L mu rid i o env z []=True:=rfl
theorem dK8{j:Nat}{o:Oper}{r:List (Nat×List AObj)}:aB3 P L mu rid i o env z ((j,H)::r)=if mu.contains (1000000000000+(rid*1000+i)*1000+j) then ab9 P L mu o env H (fun x H''=>x=z/\H''=H)/\aB3 P L mu rid i o env z r else aB3 P L mu rid i o env z r:=by rw[<-cH9];rfl
theorem ec6:ap4 P L mu rid all i [] env H hist rs K=K env H:=rfl
theorem dX6{op:Op}:ap4 P L mu rid all i (⟨d,op,ty,pos,af,none⟩::rest) env H hist rs K=al1 P L mu ⟨d,op,ty,pos,af,none⟩ env H fun v H'=>ah4 P L mu rid i ⟨d,op,ty,pos,af,none⟩ env H v H' hist rs fun hist' rs'=>ap4 P L mu rid all (i+1) rest (put d v env) H' hist' rs' K:=rfl
theorem dC5{op:Op}{j:Nat}{b:Bool}:ap4 P L mu rid all i (⟨d,op,ty,pos,af,some (j,b)⟩::rest) env H hist rs K=
  ay5 (aq6 all env j) b (al1 P L mu ⟨d,op,ty,pos,af,some (j,b)⟩ (known1 all j b env) H fun v H'=>ah4 P L mu rid i ⟨d,op,ty,pos,af,some (j,b)⟩ (known1 all j b env) H v H' hist rs fun hist' rs'=>ap4 P L mu rid all (i+1) rest (put d v (known1 all j b env)) H' hist' rs' K) (ap4 P L mu rid all (i+1) rest (put d (.lit undef) (known1 all j (!b) env)) H hist rs K) (ap4 P L mu rid all (i+1) rest (put d (.lit undef) env) H hist rs K):=rfl
end
end
theorem el3{m:Bool}{x:AV}{t:TypeId}:ah7 m L .len [x] [t] H J=lift (bH1 L t x) J H:=rfl
theorem el4{m:Bool}{x:AV}{t:TypeId}:ah7 m L .cap [x] [t] H J=lift (b44 L t x) J H:=rfl
theorem el1{m:Bool}{x y:AV}{t t':TypeId}:ah7 m L .min [x,y] [t,t'] H J=lift (aH8 false x y) J H:=rfl
theorem el2{m:Bool}{x y:AV}{t t':TypeId}:ah7 m L .max [x,y] [t,t'] H J=lift (aH8 true x y) J H:=rfl
theorem ed9{m:Bool}{x y:AV}{t t':TypeId}:ah7 m L .copy [x,y] [t,t'] H J=bq5 L t x y H J:=rfl
theorem cE7{m:Bool}{x:AV}{t:TypeId}:ah7 m L .unsafeSliceData [x] [t] H J=lift (aN2 H x) J H:=rfl
theorem dE1{m:Bool}{x y:AV}{t t':TypeId}:ah7 m L .unsafeString [.data x,y] [t,t'] H J=lift (aY4 L H t (.data x) y) J H:=rfl
theorem dE0{m:Bool}{k off:Nat}{y:AV}{t t':TypeId}:ah7 m L .unsafeString [.mp k off,y] [t,t'] H J=aX0 L t k off y H J:=rfl
theorem dE3{m:Bool}{x y:AV}{t t':TypeId}:ah7 m L .append [x,y] [t,t'] H J=a07 m L t t' x y H J:=rfl
theorem el5{m:Bool}{o o':Own}{s s':Nat}{xs ys:List AV}{t t':TypeId}:a07 m L t t' (.sl o s xs) (.sl o' s' ys) H J=if m then aL4 L t t' (.sl o s xs) (.sl o' s' ys) H J else aX3 L t t' (.sl o s xs) (.sl o' s' ys) H J:=rfl
theorem ee4{m:Bool}{o:Own}{s:Nat}{xs:List AV}{l:List UInt8}{t t':TypeId}:a07 m L t t' (.sl o s xs) (.str l) H J=if m then aL4 L t t' (.sl o s xs) (.str l) H J else aX3 L t t' (.sl o s xs) (.str l) H J:=rfl
theorem ee6{m:Bool}{o:Own}{s:Nat}{xs:List AV}{v:Value}{t t':TypeId}:a07 m L t t' (.sl o s xs) (.lit v) H J=ba0 L t t' (.sl o s xs) (.lit v) H J:=rfl
theorem dZ1{m:Bool}{k n:Nat}{y:AV}{t t':TypeId}:a07 m L t t' (.mrow k n) y H J=aR7 L t t' (.mrow k n) y H J:=rfl
theorem ee5{m:Bool}{k off n c:Nat}{y:AV}{t t':TypeId}:a07 m L t t' (.msl k off n c) y H J=a99 L t t' (.msl k off n c) y H J:=rfl
theorem d82{t:Tmp}:ax1 (.tmp t)=false:=rfl
theorem d86{k:IntKind}{i:Int}:ax1 (.const (.int k i))=false:=rfl
theorem d83{s:ByteArray}:ax1 (.const (.string s))=false:=rfl
theorem d84{a:Option Addr}:ax1 (.const (.pointer a))=false:=rfl
theorem dv0:ax1 (.const .nilIface)=false:=rfl
theorem d85:ax1 (.const (.slice none 0 0))=true:=rfl
theorem ed7{x:AV}{t:TypeId}:aT9 L H .len [x] [t] D=aq8 (bH1 L t x) D:=rfl
theorem ed6{x y:AV}{t t':TypeId}:aT9 L H .min [x,y] [t,t'] D=aq8 (aH8 false x y) D:=rfl
theorem dT8{d:Tmp}{op:Op}{ty:TypeId}{pos:String}{af:Array Edge}{g:Option (Nat×Bool)}{b:Bool}:known1 (⟨some d,op,ty,pos,af,g⟩::rest) 0 b env=(d,.lit (.bool b))::env:=rfl
theorem dT9{o:Oper}{j:Nat}{b:Bool}:known1 (o::rest) (j+1) b env=known1 rest j b env:=rfl
theorem dp2{d:Tmp}{v:AV}:put (some d) v env=(d,v)::env:=rfl
theorem dp3{v:AV}:put none v env=env:=rfl
theorem eb4{t:Tmp}:ev env (.tmp t)=get env t:=rfl
theorem dB0{v:Value}:ev env (.const v)=aF3 v:=rfl
theorem dh4{g:Nat}:ev env (.global g)=aq3 g:=rfl
theorem dW3{f:FuncId}:ev env (.func f)=.fn (.func f) [] []:=rfl
theorem aZ3{k t:Nat}{v:AV}:get ((k,v)::env) t=if k=t then v else get env t:=rfl
theorem df9{k t:Nat}{v:AV}:get ((k,v)::env) t=if k=t then v else get env t:=rfl
theorem cK1{t:Nat}:get [] t=.any:=rfl
theorem of_int{k:IntKind}{i:Int}:aF3 (.int k i)=.lit (.int k i):=rfl
theorem of_bool{b:Bool}:aF3 (.bool b)=.lit (.bool b):=rfl
theorem d68{a:List UInt8}:aF3 (.string ⟨a.toArray⟩)=.str a:=rfl
theorem of_nil:aF3 (.slice none 0 0)=.sl .full 0 []:=rfl
theorem d69{a:Option Addr}:aF3 (.pointer a)=.lit (.pointer a):=rfl
theorem db4:aF3 .nilIface=.lit .nilIface:=rfl
theorem ds5:aF3 .nilFunc=.lit .nilFunc:=rfl
theorem bi3{α:Type}{f:α->AV}{l:List α}(h: ∀x,(f x).scalar=true):ones (l.map f):=fun y hy=>by
 obtain⟨x,_,rfl⟩:=xq9.1 hy;exact h x
theorem cT0{l:List UInt8}:ones (l.map o6)=True:=eq_true (bi3 fun _=>rfl)
theorem cV5{α:Type}{k:IntKind}{f:α->Int}{l:List α}:bs5 k (l.map fun x=>.lit (.int k (f x)))=True:=eq_true (by unfold bs5;simp[intOf])
theorem ct7{l:List UInt8}:bs5 .u8 (l.map o6)=True:=cV5
theorem cV7{l:List UInt8}:(l.map o6).map intOf=l.map fun b=>(b.toNat:Int):=by simp[intOf,o6]
theorem dy2{l m:List UInt8}:(l.map (fun b=>(b.toNat:Int))=m.map fun b=>(b.toNat:Int))=(l=m):=by
 refine propext ⟨fun h=>?_,fun h=>by rw[h]⟩
 have h2:=congrArg (List.map fun z:Int=>UInt8.ofNat z.toNat) h
 have e:((fun z:Int=>UInt8.ofNat z.toNat)∘fun b:UInt8=>(b.toNat:Int))=id:=by
  funext b
  simp
 rwa [aT4,aT4,e,List.map_id,List.map_id] at h2
theorem ch9{zs:List AV}{n:Nat}:ag7 zs n=(List.range n).map fun i=>zs.getD (i%zs.length) .any:=rfl
theorem bz2{z:AV}{n:Nat}:ag7 [z] n=List.replicate n z:=by
 unfold ag7;refine aW9 fun i=>?_
 rw[xq7,b29];by_cases h:i < n
 ·rw[aO4 h,if_pos h]
  simp[Nat.mod_one]
 ·rw[aw1 (by simpa using h),if_neg h]
  rfl
theorem flat_agg{cs:List AV}:(AV.agg cs).flat=cs:=rfl
theorem flat_lit{v:Value}:(AV.lit v).flat=[.lit v]:=rfl
theorem dA0{l:List UInt8}:(AV.str l).flat=[.str l]:=rfl
theorem dV8{o:Own}{s:Nat}{xs:List AV}:(AV.sl o s xs).flat=[.sl o s xs]:=rfl
theorem dV9{k off:Nat}:(AV.mp k off).flat=[.mp k off]:=rfl
theorem dA2{k off n c:Nat}:(AV.msl k off n c).flat=[.msl k off n c]:=rfl
theorem dh0{k n:Nat}:(AV.mrow k n).flat=[.mrow k n]:=rfl
theorem dW0{f:Fn}{fs cs:List AV}:(AV.fn f fs cs).flat=[.fn f fs cs]:=rfl
theorem dA4:AV.err.flat=[.err]:=rfl
theorem dP9{cs:List AV}:(AV.agg cs).okv=cs.all AV.scalar:=rfl
theorem dP4{v:Value}:(AV.lit v).okv=v.oneCell':=rfl
theorem dP1{l:List UInt8}:(AV.str l).okv=true:=rfl
theorem d65{o:Own}{s:Nat}{xs:List AV}:(AV.sl o s xs).okv=true:=rfl
theorem d66{k off:Nat}:(AV.mp k off).okv=true:=rfl
theorem dP3{k off n c:Nat}:(AV.msl k off n c).okv=true:=rfl
theorem dr9{k n:Nat}:(AV.mrow k n).okv=true:=rfl
theorem d67{f:Fn}{fs cs:List AV}:(AV.fn f fs cs).okv=true:=rfl
theorem dP6:AV.err.okv=true:=rfl
def Done(H₀:List AObj)(R:AV->List AObj->Prop)(x:AV)(H:List AObj)[Tag R][Tag H₀]:Prop:=
 ∃y H',Ends H₀ x H y H'/\R y H'
def eb2(q:Option (Prop×List AV))(H₀:List AObj)(R:AV->List AObj->Prop)(H:List AObj)[Tag R][Tag H₀]:Prop:=
 match q with
 |some (p,xs)=>p/\Done H₀ R (aO7 xs) H
 |none=>False
theorem eb1{rs:List ResultVar}{H₀:List AObj}{R:AV->List AObj->Prop}:Fin L rs H₀ R env H=eb2 (aF2 L env H rs) H₀ R H:=rfl
theorem dh3{p:Prop}{xs:List AV}{H₀:List AObj}{R:AV->List AObj->Prop}:eb2 (some (p,xs)) H₀ R H=(p/\Done H₀ R (aO7 xs) H):=rfl
theorem d53:aF2 L env H []=some (True,[]):=rfl
def cl4(q:Option (Prop×AV))(r:Option (Prop×List AV)):Option (Prop×List AV):=
 match q,r with
 |some (p,x),some (q,xs)=>some (p/\q,x::xs)
 |_,_=>none
theorem dN5{r:ResultVar}{rs:List ResultVar}:aF2 L env H (r::rs)=cl4 (br2 L env H r) (aF2 L env H rs):=by
 unfold cl4;rw[aF2]<;>cases br2 L env H r<;>cases aF2 L env H rs<;>rfl
theorem cA3{p q:Prop}{x:AV}{xs:List AV}:cl4 (some (p,x)) (some (q,xs))=some (p/\q,x::xs):=rfl
theorem ei2{t:Tmp}:br2 L env H (.tmp t)=some (True,get env t):=rfl
theorem d55{a:Tmp}{t:TypeId}:br2 L env H (.cell a t)=aE7 L H t (get env a):=rfl
theorem d50{x:AV}:aO7 [x]=x:=rfl
theorem d49{x y:AV}{r:List AV}:aO7 (x::y::r)=.tup (x::y::r):=rfl
theorem d51:aO7 []=.tup []:=rfl
theorem aa5{H₀:List AObj}{R:AV->List AObj->Prop}{x:AV}(y:AV)(hx:Le x y)(hl:H₀.length<=H.length)(hr:R y H):Done H₀ R x H:=⟨y,H,dW7 hx,hr⟩
theorem o5{H₀:List AObj}{R:AV->List AObj->Prop}{x:AV}(hr:R x H₀):Done H₀ R x H₀:=aa5 x (Le.refl x) (xq0 _) hr
theorem aa1{H₀ M:List AObj}{R:AV->List AObj->Prop}{x:AV}(y:AV)(hx:Le x y)(hl:Low H₀.length y)(hr:R y H₀):Done H₀ R x (H₀++M):=by
 refine⟨y,(H₀++M).take H₀.length,aZ8 hx (xq0 _) hl fun k o hk e=>.inl ?_,by rw[aQ6];exact hr⟩
 rwa [xq4 hk] at e
theorem cw1{H₀ M:List AObj}{R:AV->List AObj->Prop}{x:AV}(y:AV)(f:Frz H₀.length (H₀++M) x y)(hr:R y H₀):Done H₀ R x (H₀++M):=by
 refine⟨y,(H₀++M).take H₀.length,dB4 (Le.refl x) (xq0 _) f fun k o hk e=>.inl ?_,by rw[aQ6];exact hr⟩
 rwa [xq4 hk] at e
theorem am7{H₀:List AObj}{o:AObj}{R:AV->List AObj->Prop}{x:AV}(hl:Low H₀.length x)(hr:R x H₀):Done H₀ R x (H₀++[o]):=aa1 x (Le.refl x) hl hr
attribute [irreducible] Done
end
def aK8(env env':Env):Prop:= ∀t,Le (get env t) (get env' t)
theorem di0{env:Env}:aK8 env []:=fun t=>Le.any _
theorem cW9{env r:Env}{k:Nat}{v:AV}(h:Le (get env k) v)(hr:aK8 env r):aK8 env ((k,v)::r):=fun t=>by
 rw[aZ3];split
 ·rename_i e;subst e;exact h
 ·exact hr t
theorem ej2{x y:AV}(h:x=y):Le x y:=h▸Le.refl x
theorem bY7{l:List UInt8}{i:Nat}(h:i < l.length):(l.map o6).getD i .any=.lit (.int .u8 (l.getD i 0).toNat):=by
 simp[List.getD,xq1 h,o6]
theorem dD5(b:UInt8):IntKind.i64.wrap (b.toNat:Int)=(b.toNat:Int):=IntWalk.i64_in _ (by have:=b.toNat_lt;omega)
theorem dD3(b:UInt8):IntKind.u32.wrap (b.toNat:Int)=(b.toNat:Int):=IntWalk.u32_in _ (by have:=b.toNat_lt;omega)
theorem dD2(b:UInt8):IntKind.u64.wrap (b.toNat:Int)=(b.toNat:Int):=IntWalk.u64_in _ (by have:=b.toNat_lt;omega)
theorem bj7{P:Program}{k:Nat}{args:List AV}{H H₁:List AObj}{z:AV}{K:AV->List AObj->Prop}(h:aF9 P k args H (fun x H'=>x=z/\H'=H₁))(kk:K z H₁):aF9 P k args H K:=fun ro N G w vs l hi ha hl=>by
 obtain⟨fn,tmps,assign,body,h1,h2⟩:=h ro N G w vs l hi ha hl;refine⟨fn,tmps,assign,body,h1,h2.mono ?_⟩;rintro e w' ⟨v,x,G',H',h3,h4,h5,h6,rfl,rfl⟩
 exact⟨v,x,G',H',h3,h4,h5,h6,kk⟩
theorem l7{P:Program}{f:FuncId}{args:List AV}{H H₁:List AObj}{z:AV}{K:AV->List AObj->Prop}(h:o7 P f args H (fun x H'=>x=z/\H'=H₁))(k:K z H₁):o7 P f args H K:=
 h.mono fun _ _ ⟨e,e'⟩=>by subst e;subst e';exact k
theorem dv5{a b:Nat}(h:a<=b):min a b=a:=bL6 h
theorem bj2{n:Nat}{k:Int}(h:0<=k):(n:Int).fdiv k=((n/k.toNat:Nat):Int):=by
 rw[cN1 _ h,Int.natCast_ediv,Int.toNat_of_nonneg h]
theorem dA9{a k:Int}(h:0<=k):a.fdiv k=a/k:=cN1 _ h
theorem dn6{a k:Int}(h:0<=a):a.tdiv k=a/k:=Int.tdiv_eq_ediv_of_nonneg h
theorem dn4{a k:Int}(h:0<=a):a.tmod k=a%k:=Int.tmod_eq_emod_of_nonneg h
theorem cb4{k:Nat}{m:Nat}{a:Int}(h:0<=a)(h2:a < 2^k)(hm:m<=k):((BitVec.ofInt k a&&&BitVec.ofInt k (2^m - 1)).toNat:Int)=a%2^m:=by
 obtain⟨n,rfl⟩:=bR8 h;have hn:n < 2^k:=by exact_mod_cast h2
 have hp:(2:Int)^m - 1=((2^m - 1:Nat):Int):=by
  have h0:0 < 2^m:=Nat.two_pow_pos m;have h1:((2^m:Nat):Int)=(2:Int)^m:=by simp
  rw[<-h1];omega
 have hle:2^m<=2^k:=bo0 (by decide) hm
 have h0:0 < 2^m:=Nat.two_pow_pos m;rw[hp,BitVec.toNat_and,bR7,bR7,bz7,bz7,bu0 hn,bu0 (by omega),Nat.and_two_pow_sub_one_eq_mod]
 exact_mod_cast rfl
theorem u8_and(m:Nat){a:Int}(h:0<=a/\a < 256)(hm:m<=8):((BitVec.ofInt 8 a&&&BitVec.ofInt 8 (2^m - 1)).toNat:Int)=a%2^m:=cb4 h.1 h.2 hm
theorem u8_and63{a:Int}(h:0<=a/\a < 256):((BitVec.ofInt IntKind.u8.bits a&&&BitVec.ofInt IntKind.u8.bits 63).toNat:Int)=a%64:=u8_and 6 h (by decide)
theorem u8_and15{a:Int}(h:0<=a/\a < 256):((BitVec.ofInt IntKind.u8.bits a&&&BitVec.ofInt IntKind.u8.bits 15).toNat:Int)=a%16:=u8_and 4 h (by decide)
theorem u8_and7{a:Int}(h:0<=a/\a < 256):((BitVec.ofInt IntKind.u8.bits a&&&BitVec.ofInt IntKind.u8.bits 7).toNat:Int)=a%8:=u8_and 3 h (by decide)
theorem c96{k:Nat}{m:Nat}{c a:Int}(h:0<=a)(h2:a < 2^m)(hm:m<=k)(hc:0<=c)(hc2:c < 2^k)(hd:c%2^m=0):((BitVec.ofInt k c|||BitVec.ofInt k a).toNat:Int)=c+a:=by
 obtain⟨n,rfl⟩:=bR8 h;obtain⟨q,rfl⟩:=bR8 hc;have hn:n < 2^m:=by exact_mod_cast h2
 have hq:q < 2^k:=by exact_mod_cast hc2
 have hq2:q%2^m=0:=by exact_mod_cast hd
 have hle:2^m<=2^k:=bo0 (by decide) hm
 rw[ce1,bR7,bR7,bz7,bz7,bu0 hq,bu0 (by omega)]
 have e:q=2^m*(q/2^m):=by have:=Nat.div_add_mod q (2^m);omega
 rw[e,<-Nat.two_pow_add_eq_or_of_lt hn];exact_mod_cast rfl
theorem u8_or(m:Nat){c a:Int}(h:0<=a/\a < 2^m)(hm:m<=8)(hc:0<=c/\c < 256/\c%2^m=0):((BitVec.ofInt 8 c|||BitVec.ofInt 8 a).toNat:Int)=c+a:=c96 h.1 h.2 hm hc.1 hc.2.1 hc.2.2
theorem u8_or128{a:Int}(h:0<=a/\a < 64):((BitVec.ofInt IntKind.u8.bits 128|||BitVec.ofInt IntKind.u8.bits a).toNat:Int)=128+a:=u8_or 6 h (by decide) (by decide)
theorem u8_or192{a:Int}(h:0<=a/\a < 32):((BitVec.ofInt IntKind.u8.bits 192|||BitVec.ofInt IntKind.u8.bits a).toNat:Int)=192+a:=u8_or 5 h (by decide) (by decide)
theorem u8_or224{a:Int}(h:0<=a/\a < 16):((BitVec.ofInt IntKind.u8.bits 224|||BitVec.ofInt IntKind.u8.bits a).toNat:Int)=224+a:=u8_or 4 h (by decide) (by decide)
theorem u8_or240{a:Int}(h:0<=a/\a < 8):((BitVec.ofInt IntKind.u8.bits 240|||BitVec.ofInt IntKind.u8.bits a).toNat:Int)=240+a:=u8_or 3 h (by decide) (by decide)
theorem bq7(a:Int):IntKind.u8.wrap a=a%256:=by
 simp[IntKind.wrap,IntKind.signed,IntKind.bits]
theorem dY2(b:UInt8):((b.toNat:Int) < 256)=True:=eq_true (by have:=b.toNat_lt;omega)
theorem dD4(b:UInt8):(b.toNat < 256)=True:=eq_true (by have:=b.toNat_lt;omega)
theorem dY3(n:Nat):(0<=(n:Int))=True:=eq_true (by omega)
def aZ6:List AV:=bg7.map ap0
def aM8:List AV:=aL8.map ap0
theorem bZ1:aZ6=(List.range 256).map fun c=>.lit (.int .u8 (Lib.firstT c)):=by
 unfold aZ6 bg7;rw[aT4];rfl
theorem cD9:aZ6.length=256:=by rw[bZ1];simp
theorem dA7(b:UInt8):aZ6.getD b.toNat .any=.lit (.int .u8 (Lib.firstT b.toNat)):=by
 have:=b.toNat_lt;rw[bZ1,List.getD,xq7,aO4 (by omega)]
 rfl
theorem cx7:aM8.length=32:=by unfold aM8;rw[List.length_map];decide
theorem cb7{i:Nat}(h:i < 16):(aM8.drop (i*2)).take 2=[.lit (.int .u8 (Lib.accLo i)),.lit (.int .u8 (Lib.accHi i))]:=by
 unfold aM8;match i,h with
 |0,_=>rfl
 |1,_=>rfl
 |2,_=>rfl
 |3,_=>rfl
 |4,_=>rfl
 |5,_=>rfl
 |6,_=>rfl
 |7,_=>rfl
 |8,_=>rfl
 |9,_=>rfl
 |10,_=>rfl
 |11,_=>rfl
 |12,_=>rfl
 |13,_=>rfl
 |14,_=>rfl
 |15,_=>rfl
 |_+16,h=>omega
theorem cW4{g:Nat}(h:bi8 g=bg7)(hi:bp3 g=none):aq3 g=.ip (.agg aZ6):=by
 unfold aq3;rw[hi];simp only;rw[h,if_neg (by decide)]
 rfl
theorem cD6{g:Nat}(h:bi8 g=aL8)(hi:bp3 g=none):aq3 g=.ip (.agg aM8):=by
 unfold aq3;rw[hi];simp only;rw[h,if_neg (by decide)]
 rfl
def aY7:List AV:=bg6.map ap0
theorem cW0{g:Nat}(h:bi8 g=bg6)(hi:bp3 g=none):aq3 g=.ip (.agg aY7):=by
 unfold aq3;rw[hi];simp only;rw[h,if_neg (by decide)]
 rfl
theorem bJ9:aY7.length=20:=by unfold aY7;rw[List.length_map];decide
theorem cm6{i:Nat}(h:i < 20):aY7.getD i .any=.lit (.int .u64 ((10^i:Nat):Int)):=by
 unfold aY7 bg6;rw[aT4,List.getD,xq7,aO4 (by omega)]
 rfl
theorem dy5{g:Nat}{t:TypeId}(hi:bp3 g=some t):aq3 g=.ip .err:=by
 unfold aq3;rw[hi]
def aY1:List AV:=aX6.map ap0
def aR5:List AV:=aR8.map ap0
theorem cV9{g:Nat}(h:bi8 g=aX6)(hi:bp3 g=none):aq3 g=.ip (.agg aY1):=by
 unfold aq3;rw[hi];simp only;rw[h,if_neg (by decide)]
 rfl
theorem cD5{g:Nat}(h:bi8 g=aR8)(hi:bp3 g=none):aq3 g=.ip (.agg aR5):=by
 unfold aq3;rw[hi];simp only;rw[h,if_neg (by decide)]
 rfl
theorem cA2:aY1.length=80:=by unfold aY1 aX6;rw[List.length_map,List.length_map];decide
theorem cx0:aR5.length=8:=by unfold aR5 aR8;rw[List.length_map,List.length_map];decide
theorem do8{i:Nat}(h:i < 80):aY1.getD i .any=.lit (.int .u64 ((bh3.getD i 0:Nat):Int)):=by
 have:i < bh3.length:=h;unfold aY1 aX6;simp[List.getD,xq1 this,ap0]
theorem dj6{i:Nat}(h:i < 8):aR5.getD i .any=.lit (.int .u64 ((a02.getD i 0:Nat):Int)):=by
 have:i < a02.length:=h;unfold aR5 aR8;simp[List.getD,xq1 this,ap0]
attribute [irreducible] aZ6 aM8 aY7 aY1 aR5
theorem cX1{l:List UInt8}{n:Nat}:(l.map o6).drop n=(l.drop n).map o6:=List.map_drop.symm
theorem cP1{l:List UInt8}{n:Nat}:(l.map o6).take n=(l.take n).map o6:=List.map_take.symm
theorem take_len{α:Type}{l:List α}{n:Nat}(h:l.length<=n):l.take n=l:=aF0 h
theorem dk5{l m:List UInt8}:l.map o6++m.map o6=(l++m).map o6:=aJ3.symm
theorem cV6{l:List UInt8}:isBytes (l.map o6)=True:=eq_true (bK5 l)
theorem b96{l m:List AV}{i:Nat}(h:i < l.length):(l++m).getD i .any=l.getD i .any:=by
 simp[List.getD,xq4 h]
theorem aH4{H M:List AObj}:(H++M)[H.length]?=M[0]?:=by rw[xq5 (xq0 _),ao4]
theorem ao7{H M:List AObj}{k:Nat}:(H++M)[H.length+k]?=M[k]?:=by rw[xq5 (by omega),au2]
theorem aP0{H M:List AObj}{o:AObj}:(H++M).set H.length o=H++M.set 0 o:=by rw[az0 _ _ (xq0 _),ao4]
theorem an1{H M:List AObj}{o:AObj}{k:Nat}:(H++M).set (H.length+k) o=H++M.set k o:=by rw[az0 _ _ (by omega),au2]
theorem af7{H M:List AObj}{k:Nat}(h:k < H.length):(H++M)[k]?=H[k]?:=xq4 h
theorem aq2{H M:List AObj}{k:Nat}{o:AObj}(h:k < H.length):(H++M).set k o=H.set k o++M:=bf8 _ _ h
theorem as4{o:Own}{s:Nat}{xs:List AV}:Le (.sl o s xs) (.sl .sh s xs):=fun _ _ _ _ h=>by
 cases h with
 |sl _ _ _ a len cap val hl hcap hs hc hr hf ha ho=>exact .sl .sh s xs a len cap val hl hcap hs hc hr (fun e=>by cases e) ha (fun k e=>by cases e)
theorem ad5{a b:Bool}(h:a=b):AV.lit (.bool a)=AV.lit (.bool b):=by rw[h]
theorem int_eq{k:IntKind}{a b:Int}(h:a=b):AV.lit (.int k a)=AV.lit (.int k b):=by rw[h]
def bk6(m:Nat)(env:Env):Prop:= ∀t,Low m (get env t)
theorem ae1{m:Nat}:bk6 m []:=fun t=>.any
theorem ad3{m:Nat}{r:Env}{k:Nat}{v:AV}(h:Low m v)(hr:bk6 m r):bk6 m ((k,v)::r):=fun t=>by
 rw[aZ3];split
 ·exact h
 ·exact hr t
theorem a18{m:Nat}{xs:List AV}{o:Own}{s:Nat}(h: ∀x∈xs,∃v,x=.lit v)(ho: ∀k,o=.tok k->k < m):Low m (.sl o s xs):=by
 refine .sl _ _ _ ho fun x hx=>?_
 unfold aa2 at hx;obtain⟨y,hy,hxy⟩:=bb8.1 hx;obtain⟨v,rfl⟩:=h y hy;simp only[AV.flat,aT1] at hxy;subst hxy;exact .lit _
theorem ac8{m s:Nat}{l:List UInt8}:Low m (.sl .sh s (l.map o6)):=a18 (fun x hx=>by
 obtain⟨b,_,rfl⟩:=xq9.1 hx;exact⟨_,rfl⟩) (fun k e=>by cases e)
theorem ad1{m s:Nat}{l:List Int}:Low m (.sl .sh s (l.map d48)):=a18 (fun x hx=>by
 obtain⟨b,_,rfl⟩:=xq9.1 hx;exact⟨_,rfl⟩) (fun k e=>by cases e)
def Shift(H₀:List AObj)(env:Env)(H:List AObj)(env':Env)(H':List AObj):Prop:=
 ∀G₀ w₀ G w (vs:Nat->Value),HInv G₀ H₀ w₀->HInv G H w->Step G₀ H₀ w₀ G H w->(∀t,Rel G H w (get env t) (vs t))-> ∃G',HInv G' H' w/\Step G₀ H₀ w₀ G' H' w/\ ∀t,Rel G' H' w (get env' t) (vs t)
theorem do3{H₀ H:List AObj}{env env':Env}(h:aK8 env env'):Shift H₀ env H env' H:=fun _ _ G w vs _ hi hs r=>⟨G,hi,hs,fun t=>h t _ _ _ _ (r t)⟩
theorem c69{H₀ M:List AObj}{env env':Env}(h:aK8 env env')(hl:bk6 H₀.length env'):Shift H₀ env (H₀++M) env' H₀:=fun G₀ w₀ G w vs h0 hi hs r=>by
 have htk:(H₀++M).take H₀.length=H₀:=aQ6;have hc:=hi.cut H₀.length fun k o hk e=>h0.low (by rw[xq4 hk] at e;exact e)
 have hs':=hs.cut (m:=H₀.length) (xq0 _);rw[htk] at hc hs';refine⟨G,hc,hs',fun t=>?_⟩
 have:=(h t _ _ _ _ (r t)).cut H₀.length (hl t);rwa [htk] at this
def bn7{α:Type}(I:α->Prop)(E:α->Env)(Hf:α->List AObj)(m:α->Nat)(x:α)(env:Env)(H:List AObj)[Tag I][Tag E][Tag Hf][Tag m]:Prop:= ∃y,m y < m x/\I y/\Shift (Hf x) env H (E y) (Hf y)
theorem again{α:Type}{I:α->Prop}{E:α->Env}{Hf:α->List AObj}{m:α->Nat}{x:α}{env:Env}{H:List AObj}(y:α)(hm:m y < m x)(hI:I y)(hH:H=Hf y)(hE:aK8 env (E y)):bn7 I E Hf m x env H:=⟨y,hm,hI,hH▸do3 hE⟩
theorem aw0{α:Type}{I:α->Prop}{E:α->Env}{H₀:List AObj}{m:α->Nat}{x:α}{env:Env}{M:List AObj}(y:α)(hm:m y < m x)(hI:I y)(hL:bk6 H₀.length (E y))(hE:aK8 env (E y)):bn7 I E (fun _=>H₀) m x env (H₀++M):=
 ⟨y,hm,hI,c69 hE hL⟩
theorem cF4{α:Type}{I:α->Prop}{E:α->Env}{Hf:α->List AObj}{m:α->Nat}{x:α}{env:Env}{H:List AObj}(y:α)(hm:m y < m x)(hI:I y)(hS:Shift (Hf x) env H (E y) (Hf y)):bn7 I E Hf m x env H:=⟨y,hm,hI,hS⟩
attribute [irreducible] bn7
theorem Sat.le{n:Nat}{G:Gh}{env env':Env}{H:List AObj}{a:Act}{w:World}(s:Sat n ds G env H a w)(h:aK8 env env'):Sat n ds G env' H a w:=
 ⟨s.size,s.defers,fun t=>h t G H w _ (s.env t),s.inv⟩
theorem bG2{P:Program}{L:Tab}(hL:ac7 P L)(hmx:P.follows .mixedOrders=true)(mu:List Nat){n:Nat}{c:Code}{Q:Exit->Env->List AObj->Prop}{env:Env}{H:List AObj}{α:Type}(I:α->Prop)(E:α->Env)(Hf:α->List AObj)(m:α->Nat)(hok:okC mu n c=true)
  (round: ∀x,I x->vcC P L mu n c (Ex (fun env H=>bn7 I E Hf m x env H) Q) (E x) (Hf x)) (x:α) (hx:I x) (hE:aK8 env (E x)) (hH:H=Hf x):AW P n (.loop c) Q env H:=by
 intro ro N ds G a w s;subst hH;refine cO2 (fun k a' w'=> ∃y G',m y=k/\I y/\Sat n ds G' (E y) (Hf y) a' w'/\Step G (Hf x) w G' (Hf y) w') (fun k a' w' ⟨y,G',hk,hy,s',stp⟩=>?_) (m x) a w ⟨x,G,rfl,hx,s.le hE,.refl _ _ _⟩
 refine wpIn_mono (ad2 hL hmx c hok (round y hy) ro N ds G' a' w' s') fun e a'' w'' ⟨G'',env'',H'',s'',stp',q⟩=>?_
 cases e with
 |normal=>
  unfold Ex bn7 at q;obtain⟨z,h1,h2,h3⟩:=q;obtain⟨G3,hi3,st3,hr3⟩:=h3 G' w' G'' w'' (fun t=>a''.tmps.getD t undef) s'.inv s''.inv stp' s''.env
  exact⟨m z,hk▸h1,z,G3,rfl,h2,⟨s''.size,s''.defers,hr3,hi3⟩,stp.trans st3⟩
 |_=>exact⟨G'',env'',H'',s'',stp.trans stp',q⟩
def kept(env:Env):List Nat->Env
 |[]=>[]
 |t::r=>(t,get env t)::kept env r
theorem dx8{env:Env}:kept env []=[]:=rfl
theorem de6{env:Env}{t:Nat}{r:List Nat}:kept env (t::r)=(t,get env t)::kept env r:=rfl
theorem aa7{P:Program}{L:Tab}(hL:ac7 P L)(hmx:P.follows .mixedOrders=true)(mu ks:List Nat){n:Nat}{c:Code}{Q:Exit->Env->List AObj->Prop}{env:Env}{H:List AObj}{α:Type}(I:α->Prop)(E:α->Env)(Hf:α->List AObj)(m:α->Nat)(hok:okC mu n c=true)
  (round: ∀x,I x->vcC P L mu n c (Ex (fun env' H=>bn7 I (fun y=>E y++kept env ks) Hf m x env' H) Q) (E x++kept env ks) (Hf x)) (x:α) (hx:I x) (hE:aK8 env (E x++kept env ks)) (hH:H=Hf x):AW P n (.loop c) Q env H:=
 bG2 hL hmx mu I (fun y=>E y++kept env ks) Hf m hok round x hx hE hH
theorem bt1{P:Program}{n:Nat}{c:Code}{Q:Exit->Env->List AObj->Prop}{env:Env}{H:List AObj}(t s:Nat){z:Nat}{xs:List AV}(ht:get env t=.sl .full z xs)(hs:0 < s)(hz:xs≠[]->z=s)
  (h:AW P n c Q ((t,.sl (.tok H.length) s xs)::env) (H++[.grow s xs.length none])):AW P n c Q env H:=by
 intro ro N ds G a w sat;have r:=sat.env t;rw[ht] at r;generalize hv:a.tmps.getD t undef=v at r;have r0:=r;cases r with
 |sl _ _ _ ad len cap val hl hcap hs' hc hr hf ha ho=>
  obtain⟨hi,st,hr'⟩:=b52 none sat.inv r0 hs hz (fun h=>absurd rfl h)
  refine wpIn_mono (h ro N ds _ a w ⟨sat.size,sat.defers,fun u=>?_,hi⟩) fun _ _ _ p=>p.trans st
  rw[aZ3];split
  ·rename_i e
   subst e;rw[hv];exact hr'
  ·exact(sat.env u).mono st
theorem ab7{o:Own}{s t:Nat}:Le (.sl o s []) (.sl .sh t []):=fun _ _ _ _ h=>by
 cases h with
 |sl _ _ _ a len cap val hl hcap hs hc hr hf ha ho=>exact .sl .sh t [] a len cap val hl hcap (fun x hx=>by cases hx) hc hr (fun e=>by cases e) ha (fun k e=>by cases e)
theorem ad6{x y x' y':AV}(h:Le x x')(k:Le y y'):Le (.tup [x,y]) (.tup [x',y']):=fun _ _ _ _ r=>by
 cases r with
 |tup _ arr hl hr=>
  refine .tup _ _ hl fun j z v e e'=>?_
  match j,e with
  |0,e=>cases e;exact h _ _ _ _ (hr 0 x v rfl e')
  |1,e=>cases e;exact k _ _ _ _ (hr 1 y v rfl e')
theorem aq9{H₀ M:List AObj}{R:AV->List AObj->Prop}{x:AV}(hr:R x (H₀++M)):Done H₀ R x (H₀++M):=aa5 x (Le.refl x) (by simp) hr
def aM9(m:Nat)(xs:List AV):Prop:= ∀x∈xs,Low m x
theorem aa4{m:Nat}:aM9 m []:=fun x hx=>by cases hx
theorem o9{m:Nat}{x:AV}{xs:List AV}(h:Low m x)(k:aM9 m xs):aM9 m (x::xs):=fun y hy=>by
 rcases an8.1 hy with rfl|hy
 ·exact h
 ·exact k y hy
theorem ae2{m:Nat}{xs:List AV}(h:aM9 m xs):Low m (.tup xs):=.tup _ h
theorem am9{m:Nat}{xs:List AV}(h:aM9 m xs):Low m (.agg xs):=.agg _ h
theorem ac1{m s:Nat}{o:Own}(ho: ∀k,o=.tok k->k < m):Low m (.sl o s []):=.sl _ _ _ ho fun x hx=>by simp[aa2] at hx
inductive LeAll:List AV->List AV->Prop
 |nil:LeAll [] []
 |cons {x y:AV} {xs ys:List AV} (h:Le x y) (k:LeAll xs ys):LeAll (x::xs) (y::ys)
theorem LeAll.get{xs ys:List AV}(h:LeAll xs ys):xs.length=ys.length/\ ∀(j:Nat) y,ys[j]?=some y-> ∃x,xs[j]?=some x/\Le x y:=by
 induction h with
 |nil=>exact⟨rfl,fun j y e=>by simp at e⟩
 |cons h _ ih=>
  refine⟨by simp[ih.1],fun j y e=>?_⟩
  cases j with
  |zero=>simp at e;subst e;exact⟨_,rfl,h⟩
  |succ j=>simpa using ih.2 j y (by simpa using e)
theorem ba6{xs ys:List AV}(h:LeAll xs ys):Le (.tup xs) (.tup ys):=fun _ _ _ _ r=>by
 obtain⟨hl,hg⟩:=h.get;cases r with
 |tup _ arr hs hr=>
  refine .tup _ _ (hs.trans hl) fun j z v e e'=>?_
  obtain⟨x,hx,hle⟩:=hg j z e;exact hle _ _ _ _ (hr j x v hx e')
theorem ak3{xs ys:List AV}(h:LeAll xs ys):Le (.agg xs) (.agg ys):=fun _ _ _ _ r=>by
 obtain⟨hl,hg⟩:=h.get;cases r with
 |agg _ arr hs hr=>
  refine .agg _ _ (hs.trans hl) fun j z v e e'=>?_
  obtain⟨x,hx,hle⟩:=hg j z e;exact hle _ _ _ _ (hr j x v hx e')
theorem dB7{H₀ M:List AObj}{R:AV->List AObj->Prop}{v:Value}(hr:R (.lit v) H₀):Done H₀ R (.lit v) (H₀++M):=aa1 _ (Le.refl _) (.lit _) hr
theorem bI5{H₀:List AObj}{R:AV->List AObj->Prop}{x:AV}(y:AV)(h:Le x y)(hr:R y H₀):Done H₀ R x H₀:=aa5 y h (xq0 _) hr
end V
end
section
namespace V
open Go
attribute [go_sem ↓] ec8
attribute [go_sem ↓] ek4
attribute [go_sem ↓] ed3
attribute [go_sem ↓] dY1
attribute [go_sem ↓] ed1
attribute [go_sem ↓] ek5
attribute [go_sem ↓] dC8
attribute [go_sem ↓] ed2
attribute [go_sem ↓] ed0
attribute [go_sem ↓] bb5
attribute [go_sem ↓] dW2
attribute [go_sem ↓] eb3
attribute [go_sem ↓] ba7
attribute [go_sem ↓] dU4
attribute [go_sem ↓] d99
attribute [go_sem ↓] el0
attribute [go_sem ↓] dE2
attribute [go_sem ↓] ei6
attribute [go_sem ↓] d74
attribute [go_sem ↓] dQ9
attribute [go_sem ↓] ek2
attribute [go_sem ↓] ec0
attribute [go_sem ↓] dX1
attribute [go_sem ↓] dU8
attribute [go_sem ↓] dU9
attribute [go_sem ↓] dT8
attribute [go_sem ↓] dT9
attribute [go_sem ↓] dO7
attribute [go_sem ↓] da4
attribute [go_sem ↓] dO6
attribute [go_sem ↓] d62
attribute [go_sem ↓] ei4
attribute [go_sem ↓] dO9
attribute [go_sem ↓] cS9
attribute [go_sem ↓] cn6
attribute [go_sem ↓] dr2
attribute [go_sem ↓] dO8
attribute [go_sem ↓] dr1
attribute [go_sem ↓] cn7
attribute [go_sem ↓] dr3
attribute [go_sem ↓] dr6
attribute [go_sem ↓] cc2
attribute [go_sem ↓] d61
attribute [go_sem ↓] cn9
attribute [go_sem ↓] dr0
attribute [go_sem ↓] dr4
attribute [go_sem ↓] dr5
attribute [go_sem ↓] dQ6
attribute [go_sem ↓] db8
attribute [go_sem ↓] dQ5
attribute [go_sem ↓] d73
attribute [go_sem ↓] cT6
attribute [go_sem ↓] co5
attribute [go_sem ↓] dQ7
attribute [go_sem ↓] dt3
attribute [go_sem ↓] co6
attribute [go_sem ↓] dt6
attribute [go_sem ↓] cc4
attribute [go_sem ↓] dt4
attribute [go_sem ↓] dt5
attribute [go_sem ↓] dC6 cw8
attribute [go_sem ↓] dX7
attribute [go_sem ↓] dj4
attribute [go_sem ↓] el3
attribute [go_sem ↓] dE3
attribute [go_sem ↓] ed7
attribute [go_sem ↓] dp2
attribute [go_sem ↓] dp3
attribute [go_sem ↓] eb4
attribute [go_sem ↓] dB0
attribute [go_sem ↓] dW3
attribute [go_sem ↓] aZ3
attribute [go_sem ↓] dd6
attribute [go_sem ↓] dd7
attribute [go_sem ↓] cU8
attribute [go_sem ↓] dh4
attribute [go_sem ↓] dQ2
attribute [go_sem ↓] db6
attribute [go_sem ↓] dQ1
attribute [go_sem ↓] dQ0
attribute [go_sem ↓] cT5
attribute [go_sem ↓] cT4
attribute [go_sem ↓] co2
attribute [go_sem ↓] ds8
attribute [go_sem ↓] dQ3
attribute [go_sem ↓] ds7
attribute [go_sem ↓] co4
attribute [go_sem ↓] dt0
attribute [go_sem ↓] cc3
attribute [go_sem ↓] d72
attribute [go_sem ↓] dt2
attribute [go_sem ↓] ds6
attribute [go_sem ↓] cC0
attribute [go_sem ↓] dt1
attribute [go_sem ↓] ds9
attribute [go_sem ↓] d71
attribute [go_sem ↓] d70
attribute [go_sem ↓] dQ4
attribute [go_sem ↓] db7
attribute [go_sem ↓] dR2
attribute [go_sem ↓] dc0
attribute [go_sem ↓] dR1
attribute [go_sem ↓] dR0
attribute [go_sem ↓] cT7
attribute [go_sem ↓] co9
attribute [go_sem ↓] du0
attribute [go_sem ↓] dt9
attribute [go_sem ↓] cp1
attribute [go_sem ↓] du2
attribute [go_sem ↓] cC1
attribute [go_sem ↓] cp7
attribute [go_sem ↓] d77
attribute [go_sem ↓] d76
attribute [go_sem ↓] dt8
attribute [go_sem ↓] du3
attribute [go_sem ↓] dc1
attribute [go_sem ↓] dR4
attribute [go_sem ↓] dR3
attribute [go_sem ↓] d78
attribute [go_sem ↓] cc5
attribute [go_sem ↓] cT8
attribute [go_sem ↓] du1
attribute [go_sem ↓] co1 db5 co8 db9 cE7 dE1
attribute [go_sem ↓] dE0 cn5
attribute [go_sem] aN2 aY4 bq4 aX0
attribute [go_sem ↓] d42 dM6 d29 dK8
attribute [go_sem ↓] cS8 da2 da3 cB8 cB9 bN3 dq9 du9 du8 el4 el1 el2 ed9 ed6 ec1 ec2 el5 ee4 ee6 dZ1 ee5
attribute [go_sem] d82 d86 d83 d84 dv0 d85 d69 db4 ds5
attribute [go_sem] br3 bF1 cT0 ct7 cV7 dy2 aL4 aR7 a99 ba0 bq5 bI7 aX2 bS3 b43 aH8 b44 br6 av8 cg9 cq1 cP0 db2 db1 AObj.cells.injEq Shape.one.injEq
attribute [go_sem ↓] ec6
attribute [go_sem ↓] dX6
attribute [go_sem ↓] dC5
attribute [go_sem ↓] de6
attribute [go_sem 100] dA9
attribute [go_sem] dn6 dn4 u8_and63 u8_and15 u8_and7 u8_or128 u8_or192 u8_or224 u8_or240
attribute [go_sem] aI6 isConst
attribute [go_sem] aH4 ao7 aP0 an1 af7 aq2 dx8 eb1 dh3 d53 dN5 cA3 ei2 d55 d50 d49 d51 df9 cK1 of_int of_bool d68 of_nil c09 undef c22 cO5
attribute [go_sem] c08 decide_eq_true_eq decide_eq_false_iff_not Bool.not_eq_true' Bool.not_eq_false' Decidable.not_not Int.not_lt Int.not_le aF6 a13 bH0 cm4 qUn bH1 cm5 aY5 cR5 bB6 bp5 cW8 cJ7 bY2 bw6 bT2 bI9 aG8
attribute [go_sem] br4 aX1 bd8 bC2 eqB cg1 bD2 bz3 br5 aE7 db3 aV3 aA8 bi0 aB9 evO aG9 br7 cf6 bi1 aE2 ai3 aw6 af4 aY3 flat_agg flat_lit dA0 dV8 dV9 dA2 dh0 dW0 dA4 dP9 dP4 dP1 d65 d66 dP3 dr9 d67 dP6 AV.scalar Value.oneCell' TK.agg known aI4
attribute [go_sem] dk5 bE6 Array.size_empty Option.some.injEq AObj.grow.injEq cX1 cP1 take_len List.drop_drop List.length_drop List.length_take dv5 bj2 List.getD_cons_zero List.getD_cons_succ
attribute [go_sem 100] ch9
attribute [go_sem] bJ9 cm6 cA2 cx0 do8 dj6
attribute [go_sem] List.set_cons_zero List.set_cons_succ Int.cast_ofNat_Int List.nil_append List.append_nil List.cons_append dY2 dD4 dY3 cD9 dA7 cx7 cb7 cV6 bo6 bY7 dD5 dD3 dD2 b96
attribute [go_sem] List.length_map List.length_append List.length_replicate List.append_assoc IntWalk.i64_in IntWalk.i32_in IntWalk.u8_in IntWalk.u32_in IntWalk.u64_in aX3 be6 cO3 be7 bq3 br8 List.contains_nil List.contains_cons Option.getD_some Option.getD_none Bool.or_false Bool.false_or Bool.or_true Bool.true_or beq_self_eq_true a09 bF0
attribute [go_sem] Option.map_some Option.map_none Option.isSome_some Option.isSome_none List.map_cons List.map_nil List.toList_toArray List.getElem?_cons_zero List.getElem?_cons_succ List.all_cons List.all_nil Bool.and_self Bool.and_true Bool.true_and Bool.not_true Bool.not_false true_and and_true false_and and_false ne_eq not_true_eq_false not_false_eq_true if_true if_false
attribute [go_sem] Bool.false_eq_true forall_const eq_self decide_true decide_false true_implies implies_true false_implies ite_self Nat.zero_add Nat.mul_one List.drop_zero Int.toNat_natCast Int.toNat_zero Int.toNat_one List.length_cons List.length_nil List.range_succ List.range_zero
theorem vcI{p q a b:Prop}[Tag a][Tag b](h:p->a)(k:q->b):(p->aW6 a)/\(q->aW6 b):=⟨fun x=>l9 (h x),fun x=>l9 (k x)⟩
theorem ll1{α β:Type}{f:α->β}{l:List α}:(l.map f).length=l.length:=List.length_map f
theorem ll2{α:Type}{l m:List α}:(l++m).length=l.length+m.length:=List.length_append
theorem ll3{α:Type}{a:α}{l:List α}:(a::l).length=l.length+1:=rfl
theorem ll4{α:Type}:([]:List α).length=0:=rfl
theorem ll5{α:Type}{n:Nat}{a:α}:(List.replicate n a).length=n:=List.length_replicate
theorem ll6{α:Type}{n:Nat}{l:List α}:(l.drop n).length=l.length - n:=List.length_drop
theorem ll7{α:Type}{n:Nat}{l:List α}:(l.take n).length=min n l.length:=List.length_take
theorem ll8{α:Type}{n:Nat}{l:List α}{a:α}:(l.set n a).length=l.length:=List.length_set
theorem ll:(∀{α β:Type} {f:α->β} {l:List α},(l.map f).length=l.length)/\(∀{α:Type} {l m:List α},(l++m).length=l.length+m.length)/\(∀{α:Type} {a:α} {l:List α},(a::l).length=l.length+1)/\(∀{α:Type},([]:List α).length=0)/\(∀{α:Type} {n:Nat} {a:α},(List.replicate n a).length=n)/\(∀{α:Type} {n:Nat} {l:List α},(l.drop n).length=l.length - n)/\(∀{α:Type} {n:Nat} {l:List α},(l.take n).length=min n l.length)/\(∀{α:Type} {n:Nat} {l:List α} {a:α},(l.set n a).length=l.length):=⟨ll1,ll2,ll3,ll4,ll5,ll6,ll7,ll8⟩
theorem vcA{p q:Prop}(h:p)(k:q):p/\q:=⟨h,k⟩
theorem aa3{a b:Env}(h:aK8 a b:=by repeat(first|exact di0|(refine cW9 ?_ ?_;focus(first|exact Le.refl _|exact Le.any _|exact as4|exact ab7|(refine ba6 ?_;repeat(first|exact LeAll.nil|(refine LeAll.cons ?_ ?_;focus(first|exact Le.refl _|exact Le.any _|exact as4|exact ab7))))|(refine ak3 ?_;repeat(first|exact LeAll.nil|(refine LeAll.cons ?_ ?_;focus(first|exact Le.refl _|exact Le.any _|exact as4|exact ab7))))|(refine ej2 ?_;simp -implicitDefEqProofs (disch:=omega) only[aZ3,cK1,if_true,if_false,↓reduceIte,Nat.reduceEqDiff,eq_self,IntWalk.i64_in,IntWalk.i32_in,IntWalk.u8_in,IntWalk.u32_in,IntWalk.u64_in,reduceCtorEq];try (first|rfl|(refine int_eq ?_;omega))))))):aK8 a b:=h
attribute [go_sem] Nat.reducePow Int.reducePow Nat.reduceDiv Nat.reduceBEq Nat.reduceEqDiff Nat.reduceLT Nat.reduceLeDiff Nat.reduceAdd Nat.reduceSub Nat.reduceMul Nat.reduceMod Int.reduceToNat Int.reduceNeg Int.reduceAdd Int.reduceSub Int.reduceMul Int.reduceDiv Int.reduceMod Int.reduceLT Int.reduceLE Int.reduceEq reduceCtorEq
attribute [go_sem ↓] reduceIte
end V
end
section
namespace V
open Go
def tbl:List LT:=[
 ac9,
 ⟨.one,1,8,[.lit .nilFunc]⟩,
 ⟨.int .i64,1,8,[.lit (.int .i64 0)]⟩,
 ⟨.int .i64,1,8,[.lit (.int .i64 0)]⟩,
 ⟨.bool,1,1,[.lit (.bool false)]⟩,
 ⟨.int .u8,1,1,[.lit (.int .u8 0)]⟩,
 ⟨.int .u8,1,1,[.lit (.int .u8 0)]⟩,
 ⟨.struct [(0,2),(1,3),(2,4),(3,6)],4,24,[.lit (.int .i64 0),.lit (.int .i64 0),.lit (.bool false),.lit (.int .u8 0)]⟩,
 ⟨.struct [(0,2),(1,3),(2,4),(3,6)],4,24,[.lit (.int .i64 0),.lit (.int .i64 0),.lit (.bool false),.lit (.int .u8 0)]⟩,
 ⟨.str,1,16,[.str []]⟩,
 ⟨.str,1,16,[.str []]⟩,
 ⟨.str,1,16,[.str []]⟩,
 ⟨.int .u64,1,8,[.lit (.int .u64 0)]⟩,
 ⟨.struct [(0,9),(1,12)],2,24,[.str [],.lit (.int .u64 0)]⟩,
 ⟨.struct [(0,9),(1,12)],2,24,[.str [],.lit (.int .u64 0)]⟩,
 ⟨.ptr 544,1,8,[.lit (.pointer none)]⟩,
 ⟨.ptr 547,1,8,[.lit (.pointer none)]⟩,
 ⟨.ptr 554,1,8,[.lit (.pointer none)]⟩,
 ⟨.struct [(0,17)],1,8,[.lit (.pointer none)]⟩,
 ⟨.struct [(0,17)],1,8,[.lit (.pointer none)]⟩,
 ⟨.iface,1,16,[.lit .nilIface]⟩,
 ⟨.int .i32,1,4,[.lit (.int .i32 0)]⟩,
 ⟨.slice 109,1,24,[.sl .full 0 []]⟩,
 ⟨.slice 70,1,24,[.sl .full 0 []]⟩,
 ⟨.slice 123,1,24,[.sl .full 0 []]⟩,
 ⟨.slice 127,1,24,[.sl .full 0 []]⟩,
 ⟨.struct [(0,3),(1,9),(2,22),(3,23),(4,24),(5,25)],6,120,[.lit (.int .i64 0),.str [],.sl .full 0 [],.sl .full 0 [],.sl .full 0 [],.sl .full 0 []]⟩,
 ⟨.struct [(0,3),(1,9),(2,22),(3,23),(4,24),(5,25)],6,120,[.lit (.int .i64 0),.str [],.sl .full 0 [],.sl .full 0 [],.sl .full 0 [],.sl .full 0 []]⟩,
 ⟨.arr 2 3,2,16,[.lit (.int .i64 0),.lit (.int .i64 0)]⟩,
 ⟨.one,1,8,[.lit .nilFunc]⟩,
 ⟨.one,1,8,[.lit .nilFunc]⟩,
 ⟨.int .i64,1,8,[.lit (.int .i64 0)]⟩,
 ⟨.slice 9,1,24,[.sl .full 0 []]⟩,
 ⟨.slice 35,1,24,[.sl .full 0 []]⟩,
 ⟨.struct [(0,3),(1,3),(2,9),(3,32),(4,33)],5,80,[.lit (.int .i64 0),.lit (.int .i64 0),.str [],.sl .full 0 [],.sl .full 0 []]⟩,
 ⟨.struct [(0,3),(1,3),(2,9),(3,32),(4,33)],5,80,[.lit (.int .i64 0),.lit (.int .i64 0),.str [],.sl .full 0 [],.sl .full 0 []]⟩,
 ⟨.struct [(0,9),(1,9)],2,32,[.str [],.str []]⟩,
 ⟨.struct [(0,9),(1,9)],2,32,[.str [],.str []]⟩,
 ⟨.struct [(0,37),(2,3),(3,9)],4,56,[.str [],.str [],.lit (.int .i64 0),.str []]⟩,
 ⟨.struct [(0,37),(2,3),(3,9)],4,56,[.str [],.str [],.lit (.int .i64 0),.str []]⟩,
 ⟨.struct [(0,31),(1,9),(2,35),(7,39),(11,33)],12,184,[.lit (.int .i64 0),.str [],.lit (.int .i64 0),.lit (.int .i64 0),.str [],.sl .full 0 [],.sl .full 0 [],.str [],.str [],.lit (.int .i64 0),.str [],.sl .full 0 []]⟩,
 ⟨.struct [(0,31),(1,9),(2,35),(7,39),(11,33)],12,184,[.lit (.int .i64 0),.str [],.lit (.int .i64 0),.lit (.int .i64 0),.str [],.sl .full 0 [],.sl .full 0 [],.str [],.str [],.lit (.int .i64 0),.str [],.sl .full 0 []]⟩,
 ac9,
 ⟨.one,1,8,[.lit .nilFunc]⟩,
 ⟨.arr 32 5,32,32,List.replicate 32 (.lit (.int .u8 0))⟩,
 ⟨.struct [(0,9),(1,9),(2,44)],34,64,[.str [],.str [],.lit (.int .u8 0),.lit (.int .u8 0),.lit (.int .u8 0),.lit (.int .u8 0),.lit (.int .u8 0),.lit (.int .u8 0),.lit (.int .u8 0),.lit (.int .u8 0),.lit (.int .u8 0),.lit (.int .u8 0),.lit (.int .u8 0),.lit (.int .u8 0),.lit (.int .u8 0),.lit (.int .u8 0),.lit (.int .u8 0),.lit (.int .u8 0),.lit (.int .u8 0),.lit (.int .u8 0),.lit (.int .u8 0),.lit (.int .u8 0),.lit (.int .u8 0),.lit (.int .u8 0),.lit (.int .u8 0),.lit (.int .u8 0),.lit (.int .u8 0),.lit (.int .u8 0),.lit (.int .u8 0),.lit (.int .u8 0),.lit (.int .u8 0),.lit (.int .u8 0),.lit (.int .u8 0),.lit (.int .u8 0)]⟩,
 ⟨.struct [(0,9),(1,9),(2,44)],34,64,[.str [],.str [],.lit (.int .u8 0),.lit (.int .u8 0),.lit (.int .u8 0),.lit (.int .u8 0),.lit (.int .u8 0),.lit (.int .u8 0),.lit (.int .u8 0),.lit (.int .u8 0),.lit (.int .u8 0),.lit (.int .u8 0),.lit (.int .u8 0),.lit (.int .u8 0),.lit (.int .u8 0),.lit (.int .u8 0),.lit (.int .u8 0),.lit (.int .u8 0),.lit (.int .u8 0),.lit (.int .u8 0),.lit (.int .u8 0),.lit (.int .u8 0),.lit (.int .u8 0),.lit (.int .u8 0),.lit (.int .u8 0),.lit (.int .u8 0),.lit (.int .u8 0),.lit (.int .u8 0),.lit (.int .u8 0),.lit (.int .u8 0),.lit (.int .u8 0),.lit (.int .u8 0),.lit (.int .u8 0),.lit (.int .u8 0)]⟩,
 ⟨.struct [(0,46),(34,32)],35,88,[.str [],.str [],.lit (.int .u8 0),.lit (.int .u8 0),.lit (.int .u8 0),.lit (.int .u8 0),.lit (.int .u8 0),.lit (.int .u8 0),.lit (.int .u8 0),.lit (.int .u8 0),.lit (.int .u8 0),.lit (.int .u8 0),.lit (.int .u8 0),.lit (.int .u8 0),.lit (.int .u8 0),.lit (.int .u8 0),.lit (.int .u8 0),.lit (.int .u8 0),.lit (.int .u8 0),.lit (.int .u8 0),.lit (.int .u8 0),.lit (.int .u8 0),.lit (.int .u8 0),.lit (.int .u8 0),.lit (.int .u8 0),.lit (.int .u8 0),.lit (.int .u8 0),.lit (.int .u8 0),.lit (.int .u8 0),.lit (.int .u8 0),.lit (.int .u8 0),.lit (.int .u8 0),.lit (.int .u8 0),.lit (.int .u8 0),.sl .full 0 []]⟩,
 ⟨.struct [(0,46),(34,32)],35,88,[.str [],.str [],.lit (.int .u8 0),.lit (.int .u8 0),.lit (.int .u8 0),.lit (.int .u8 0),.lit (.int .u8 0),.lit (.int .u8 0),.lit (.int .u8 0),.lit (.int .u8 0),.lit (.int .u8 0),.lit (.int .u8 0),.lit (.int .u8 0),.lit (.int .u8 0),.lit (.int .u8 0),.lit (.int .u8 0),.lit (.int .u8 0),.lit (.int .u8 0),.lit (.int .u8 0),.lit (.int .u8 0),.lit (.int .u8 0),.lit (.int .u8 0),.lit (.int .u8 0),.lit (.int .u8 0),.lit (.int .u8 0),.lit (.int .u8 0),.lit (.int .u8 0),.lit (.int .u8 0),.lit (.int .u8 0),.lit (.int .u8 0),.lit (.int .u8 0),.lit (.int .u8 0),.lit (.int .u8 0),.lit (.int .u8 0),.sl .full 0 []]⟩,
 ⟨.one,1,8,[.lit .nilFunc]⟩,
 ⟨.struct [(0,9),(1,9),(2,32)],3,56,[.str [],.str [],.sl .full 0 []]⟩,
 ⟨.struct [(0,9),(1,9),(2,32)],3,56,[.str [],.str [],.sl .full 0 []]⟩,
 ⟨.struct [(0,3),(1,9),(2,9),(3,9),(4,9),(5,9),(6,9),(7,9),(8,3),(9,3),(10,9),(11,3),(12,32),(13,32),(14,51)],17,264,[.lit (.int .i64 0),.str [],.str [],.str [],.str [],.str [],.str [],.str [],.lit (.int .i64 0),.lit (.int .i64 0),.str [],.lit (.int .i64 0),.sl .full 0 [],.sl .full 0 [],.str [],.str [],.sl .full 0 []]⟩,
 ⟨.struct [(0,3),(1,9),(2,9),(3,9),(4,9),(5,9),(6,9),(7,9),(8,3),(9,3),(10,9),(11,3),(12,32),(13,32),(14,51)],17,264,[.lit (.int .i64 0),.str [],.str [],.str [],.str [],.str [],.str [],.str [],.lit (.int .i64 0),.lit (.int .i64 0),.str [],.lit (.int .i64 0),.sl .full 0 [],.sl .full 0 [],.str [],.str [],.sl .full 0 []]⟩,
 ⟨.one,1,8,[.lit .nilFunc]⟩,
 ⟨.one,1,8,[.lit .nilFunc]⟩,
 ⟨.slice 167,1,24,[.sl .full 0 []]⟩,
 ⟨.slice 169,1,24,[.sl .full 0 []]⟩,
 ⟨.struct [(0,56),(1,57),(2,3),(3,4)],4,64,[.sl .full 0 [],.sl .full 0 [],.lit (.int .i64 0),.lit (.bool false)]⟩,
 ⟨.struct [(0,56),(1,57),(2,3),(3,4)],4,64,[.sl .full 0 [],.sl .full 0 [],.lit (.int .i64 0),.lit (.bool false)]⟩,
 ⟨.struct [(0,3),(1,3),(2,3)],3,24,[.lit (.int .i64 0),.lit (.int .i64 0),.lit (.int .i64 0)]⟩,
 ⟨.struct [(0,3),(1,3),(2,3)],3,24,[.lit (.int .i64 0),.lit (.int .i64 0),.lit (.int .i64 0)]⟩,
 ⟨.struct [(0,27),(6,59),(10,61),(13,4)],14,216,[.lit (.int .i64 0),.str [],.sl .full 0 [],.sl .full 0 [],.sl .full 0 [],.sl .full 0 [],.sl .full 0 [],.sl .full 0 [],.lit (.int .i64 0),.lit (.bool false),.lit (.int .i64 0),.lit (.int .i64 0),.lit (.int .i64 0),.lit (.bool false)]⟩,
 ⟨.struct [(0,27),(6,59),(10,61),(13,4)],14,216,[.lit (.int .i64 0),.str [],.sl .full 0 [],.sl .full 0 [],.sl .full 0 [],.sl .full 0 [],.sl .full 0 [],.sl .full 0 [],.lit (.int .i64 0),.lit (.bool false),.lit (.int .i64 0),.lit (.int .i64 0),.lit (.int .i64 0),.lit (.bool false)]⟩,
 ac9,
 ⟨.one,1,8,[.lit .nilFunc]⟩,
 ac9,
 ⟨.one,1,8,[.lit .nilFunc]⟩,
 ⟨.one,1,8,[.lit .nilFunc]⟩,
 ⟨.struct [(0,9),(1,9),(2,32)],3,56,[.str [],.str [],.sl .full 0 []]⟩,
 ⟨.struct [(0,9),(1,9),(2,32)],3,56,[.str [],.str [],.sl .full 0 []]⟩,
 ⟨.one,1,8,[.lit .nilFunc]⟩,
 ⟨.ptr 76,1,8,[.lit (.pointer none)]⟩,
 ⟨.arr 16 71,16,128,List.replicate 16 (.lit .nilFunc)⟩,
 ⟨.one,1,8,[.lit .nilFunc]⟩,
 ⟨.struct [(0,27),(6,48),(41,53),(58,41)],70,656,[.lit (.int .i64 0),.str [],.sl .full 0 [],.sl .full 0 [],.sl .full 0 [],.sl .full 0 [],.str [],.str [],.lit (.int .u8 0),.lit (.int .u8 0),.lit (.int .u8 0),.lit (.int .u8 0),.lit (.int .u8 0),.lit (.int .u8 0),.lit (.int .u8 0),.lit (.int .u8 0),.lit (.int .u8 0),.lit (.int .u8 0),.lit (.int .u8 0),.lit (.int .u8 0),.lit (.int .u8 0),.lit (.int .u8 0),.lit (.int .u8 0),.lit (.int .u8 0),.lit (.int .u8 0),.lit (.int .u8 0),.lit (.int .u8 0),.lit (.int .u8 0),.lit (.int .u8 0),.lit (.int .u8 0),.lit (.int .u8 0),.lit (.int .u8 0),.lit (.int .u8 0),.lit (.int .u8 0),.lit (.int .u8 0),.lit (.int .u8 0),.lit (.int .u8 0),.lit (.int .u8 0),.lit (.int .u8 0),.lit (.int .u8 0),.sl .full 0 [],.lit (.int .i64 0),.str [],.str [],.str [],.str [],.str [],.str [],.str [],.lit (.int .i64 0),.lit (.int .i64 0),.str [],.lit (.int .i64 0),.sl .full 0 [],.sl .full 0 [],.str [],.str [],.sl .full 0 [],.lit (.int .i64 0),.str [],.lit (.int .i64 0),.lit (.int .i64 0),.str [],.sl .full 0 [],.sl .full 0 [],.str [],.str [],.lit (.int .i64 0),.str [],.sl .full 0 []]⟩,
 ⟨.struct [(0,27),(6,48),(41,53),(58,41)],70,656,[.lit (.int .i64 0),.str [],.sl .full 0 [],.sl .full 0 [],.sl .full 0 [],.sl .full 0 [],.str [],.str [],.lit (.int .u8 0),.lit (.int .u8 0),.lit (.int .u8 0),.lit (.int .u8 0),.lit (.int .u8 0),.lit (.int .u8 0),.lit (.int .u8 0),.lit (.int .u8 0),.lit (.int .u8 0),.lit (.int .u8 0),.lit (.int .u8 0),.lit (.int .u8 0),.lit (.int .u8 0),.lit (.int .u8 0),.lit (.int .u8 0),.lit (.int .u8 0),.lit (.int .u8 0),.lit (.int .u8 0),.lit (.int .u8 0),.lit (.int .u8 0),.lit (.int .u8 0),.lit (.int .u8 0),.lit (.int .u8 0),.lit (.int .u8 0),.lit (.int .u8 0),.lit (.int .u8 0),.lit (.int .u8 0),.lit (.int .u8 0),.lit (.int .u8 0),.lit (.int .u8 0),.lit (.int .u8 0),.lit (.int .u8 0),.sl .full 0 [],.lit (.int .i64 0),.str [],.str [],.str [],.str [],.str [],.str [],.str [],.lit (.int .i64 0),.lit (.int .i64 0),.str [],.lit (.int .i64 0),.sl .full 0 [],.sl .full 0 [],.str [],.str [],.sl .full 0 [],.lit (.int .i64 0),.str [],.lit (.int .i64 0),.lit (.int .i64 0),.str [],.sl .full 0 [],.sl .full 0 [],.str [],.str [],.lit (.int .i64 0),.str [],.sl .full 0 []]⟩,
 ⟨.one,1,8,[.lit .nilFunc]⟩,
 ⟨.one,1,8,[.lit .nilFunc]⟩,
 ⟨.one,1,8,[.lit .nilFunc]⟩,
 ⟨.one,1,8,[.lit .nilFunc]⟩,
 ac9,
 ⟨.one,1,8,[.lit .nilFunc]⟩,
 ac9,
 ⟨.one,1,8,[.lit .nilFunc]⟩,
 ⟨.one,1,8,[.lit .nilFunc]⟩,
 ⟨.ptr 63,1,8,[.lit (.pointer none)]⟩,
 ⟨.slice 5,1,24,[.sl .full 0 []]⟩,
 ac9,
 ⟨.one,1,8,[.lit .nilFunc]⟩,
 ⟨.one,1,8,[.lit .nilFunc]⟩,
 ⟨.slice 172,1,24,[.sl .full 0 []]⟩,
 ⟨.one,1,8,[.lit .nilFunc]⟩,
 ⟨.slice 87,1,24,[.sl .full 0 []]⟩,
 ac9,
 ⟨.one,1,8,[.lit .nilFunc]⟩,
 ac9,
 ⟨.one,1,8,[.lit .nilFunc]⟩,
 ac9,
 ⟨.one,1,8,[.lit .nilFunc]⟩,
 ⟨.one,1,8,[.lit .nilFunc]⟩,
 ⟨.one,1,8,[.lit .nilFunc]⟩,
 ⟨.one,1,8,[.lit .nilFunc]⟩,
 ⟨.one,1,8,[.lit .nilFunc]⟩,
 ac9,
 ⟨.one,1,8,[.lit .nilFunc]⟩,
 ac9,
 ⟨.one,1,8,[.lit .nilFunc]⟩,
 ⟨.struct [(0,3),(1,9),(2,37),(4,9),(5,3),(6,3),(7,3),(8,4),(9,3)],10,112,[.lit (.int .i64 0),.str [],.str [],.str [],.str [],.lit (.int .i64 0),.lit (.int .i64 0),.lit (.int .i64 0),.lit (.bool false),.lit (.int .i64 0)]⟩,
 ⟨.struct [(0,3),(1,9),(2,37),(4,9),(5,3),(6,3),(7,3),(8,4),(9,3)],10,112,[.lit (.int .i64 0),.str [],.str [],.str [],.str [],.lit (.int .i64 0),.lit (.int .i64 0),.lit (.int .i64 0),.lit (.bool false),.lit (.int .i64 0)]⟩,
 ac9,
 ⟨.one,1,8,[.lit .nilFunc]⟩,
 ac9,
 ⟨.one,1,8,[.lit .nilFunc]⟩,
 ac9,
 ⟨.one,1,8,[.lit .nilFunc]⟩,
 ⟨.one,1,8,[.lit .nilFunc]⟩,
 ac9,
 ⟨.one,1,8,[.lit .nilFunc]⟩,
 ⟨.one,1,8,[.lit .nilFunc]⟩,
 ac9,
 ⟨.one,1,8,[.lit .nilFunc]⟩,
 ⟨.struct [(0,37),(2,9),(3,3)],4,56,[.str [],.str [],.str [],.lit (.int .i64 0)]⟩,
 ⟨.struct [(0,37),(2,9),(3,3)],4,56,[.str [],.str [],.str [],.lit (.int .i64 0)]⟩,
 ac9,
 ⟨.one,1,8,[.lit .nilFunc]⟩,
 ⟨.struct [(0,9),(1,37),(3,9),(4,9),(5,9),(6,9)],7,112,[.str [],.str [],.str [],.str [],.str [],.str [],.str []]⟩,
 ⟨.struct [(0,9),(1,37),(3,9),(4,9),(5,9),(6,9)],7,112,[.str [],.str [],.str [],.str [],.str [],.str [],.str []]⟩,
 ac9,
 ⟨.one,1,8,[.lit .nilFunc]⟩,
 ⟨.one,1,8,[.lit .nilFunc]⟩,
 ⟨.one,1,8,[.lit .nilFunc]⟩,
 ac9,
 ⟨.one,1,8,[.lit .nilFunc]⟩,
 ac9,
 ⟨.one,1,8,[.lit .nilFunc]⟩,
 ⟨.one,1,8,[.lit .nilFunc]⟩,
 ⟨.one,1,8,[.lit .nilFunc]⟩,
 ⟨.one,1,8,[.lit .nilFunc]⟩,
 ⟨.struct [(0,9),(1,35)],6,96,[.str [],.lit (.int .i64 0),.lit (.int .i64 0),.str [],.sl .full 0 [],.sl .full 0 []]⟩,
 ⟨.struct [(0,9),(1,35)],6,96,[.str [],.lit (.int .i64 0),.lit (.int .i64 0),.str [],.sl .full 0 [],.sl .full 0 []]⟩,
 ⟨.one,1,8,[.lit .nilFunc]⟩,
 ⟨.one,1,8,[.lit .nilFunc]⟩,
 ⟨.one,1,8,[.lit .nilFunc]⟩,
 ⟨.one,1,8,[.lit .nilFunc]⟩,
 ac9,
 ⟨.one,1,8,[.lit .nilFunc]⟩,
 ⟨.one,1,8,[.lit .nilFunc]⟩,
 ⟨.one,1,8,[.lit .nilFunc]⟩,
 ⟨.one,1,8,[.lit .nilFunc]⟩,
 ⟨.one,1,8,[.lit .nilFunc]⟩,
 ⟨.one,1,8,[.lit .nilFunc]⟩,
 ⟨.one,1,8,[.lit .nilFunc]⟩,
 ⟨.one,1,8,[.lit .nilFunc]⟩,
 ac9,
 ⟨.one,1,8,[.lit .nilFunc]⟩,
 ⟨.one,1,8,[.lit .nilFunc]⟩,
 ⟨.one,1,8,[.lit .nilFunc]⟩,
 ⟨.one,1,8,[.lit .nilFunc]⟩,
 ⟨.one,1,8,[.lit .nilFunc]⟩,
 ⟨.one,1,8,[.lit .nilFunc]⟩,
 ⟨.one,1,8,[.lit .nilFunc]⟩,
 ⟨.one,1,8,[.lit .nilFunc]⟩,
 ⟨.one,1,8,[.lit .nilFunc]⟩,
 ⟨.one,1,8,[.lit .nilFunc]⟩,
 ⟨.one,1,8,[.lit .nilFunc]⟩,
 ⟨.arr 128 5,128,128,List.replicate 128 (.lit (.int .u8 0))⟩,
 ⟨.arr 128 5,128,128,List.replicate 128 (.lit (.int .u8 0))⟩,
 ⟨.struct [(0,3),(1,167)],129,136,(.lit (.int .i64 0)::List.replicate 128 (.lit (.int .u8 0)))⟩,
 ⟨.struct [(0,3),(1,167)],129,136,(.lit (.int .i64 0)::List.replicate 128 (.lit (.int .u8 0)))⟩,
 ⟨.one,1,8,[.lit .nilFunc]⟩,
 ⟨.struct [(0,5),(1,5)],2,2,[.lit (.int .u8 0),.lit (.int .u8 0)]⟩,
 ⟨.struct [(0,5),(1,5)],2,2,[.lit (.int .u8 0),.lit (.int .u8 0)]⟩,
 ⟨.one,1,8,[.lit .nilFunc]⟩,
 ⟨.struct [(0,93),(1,3)],2,32,[.sl .full 0 [],.lit (.int .i64 0)]⟩,
 ⟨.struct [(0,93),(1,3)],2,32,[.sl .full 0 [],.lit (.int .i64 0)]⟩,
 ⟨.ptr 178,1,8,[.lit (.pointer none)]⟩,
 ⟨.struct [(0,59),(4,3)],5,72,[.sl .full 0 [],.sl .full 0 [],.lit (.int .i64 0),.lit (.bool false),.lit (.int .i64 0)]⟩,
 ⟨.struct [(0,59),(4,3)],5,72,[.sl .full 0 [],.sl .full 0 [],.lit (.int .i64 0),.lit (.bool false),.lit (.int .i64 0)]⟩,
 ac9,
 ⟨.one,1,8,[.lit .nilFunc]⟩,
 ⟨.one,1,8,[.lit .nilFunc]⟩,
 ⟨.ptr 27,1,8,[.lit (.pointer none)]⟩,
 ⟨.one,1,8,[.lit .nilFunc]⟩,
 ⟨.one,1,8,[.lit .nilFunc]⟩,
 ac9,
 ⟨.one,1,8,[.lit .nilFunc]⟩,
 ac9,
 ⟨.one,1,8,[.lit .nilFunc]⟩,
 ⟨.one,1,8,[.lit .nilFunc]⟩,
 ⟨.one,1,8,[.lit .nilFunc]⟩,
 ac9,
 ⟨.one,1,8,[.lit .nilFunc]⟩,
 ⟨.one,1,8,[.lit .nilFunc]⟩,
 ⟨.one,1,8,[.lit .nilFunc]⟩,
 ⟨.one,1,8,[.lit .nilFunc]⟩,
 ⟨.one,1,8,[.lit .nilFunc]⟩,
 ⟨.one,1,8,[.lit .nilFunc]⟩,
 ⟨.one,1,8,[.lit .nilFunc]⟩,
 ⟨.one,1,8,[.lit .nilFunc]⟩,
 ⟨.one,1,8,[.lit .nilFunc]⟩,
 ⟨.one,1,8,[.lit .nilFunc]⟩,
 ⟨.one,1,8,[.lit .nilFunc]⟩,
 ⟨.one,1,8,[.lit .nilFunc]⟩,
 ⟨.one,1,8,[.lit .nilFunc]⟩,
 ⟨.one,1,8,[.lit .nilFunc]⟩,
 ⟨.one,1,8,[.lit .nilFunc]⟩,
 ⟨.one,1,8,[.lit .nilFunc]⟩,
 ⟨.ptr 109,1,8,[.lit (.pointer none)]⟩,
 ac9,
 ⟨.one,1,8,[.lit .nilFunc]⟩,
 ⟨.one,1,8,[.lit .nilFunc]⟩,
 ⟨.one,1,8,[.lit .nilFunc]⟩,
 ⟨.one,1,8,[.lit .nilFunc]⟩,
 ⟨.one,1,8,[.lit .nilFunc]⟩,
 ⟨.one,1,8,[.lit .nilFunc]⟩,
 ⟨.ptr 127,1,8,[.lit (.pointer none)]⟩,
 ⟨.one,1,8,[.lit .nilFunc]⟩,
 ⟨.one,1,8,[.lit .nilFunc]⟩,
 ⟨.one,1,8,[.lit .nilFunc]⟩,
 ⟨.one,1,8,[.lit .nilFunc]⟩,
 ⟨.map 9 119,1,8,[.lit (.map none)]⟩,
 ac9,
 ⟨.map 9 9,1,8,[.lit (.map none)]⟩,
 ⟨.one,1,8,[.lit .nilFunc]⟩,
 ⟨.one,1,8,[.lit .nilFunc]⟩,
 ⟨.one,1,8,[.lit .nilFunc]⟩,
 ⟨.one,1,8,[.lit .nilFunc]⟩,
 ⟨.slice 140,1,24,[.sl .full 0 []]⟩,
 ⟨.one,1,8,[.lit .nilFunc]⟩,
 ⟨.one,1,8,[.lit .nilFunc]⟩,
 ac9,
 ⟨.one,1,8,[.lit .nilFunc]⟩,
 ⟨.one,1,8,[.lit .nilFunc]⟩,
 ⟨.one,1,8,[.lit .nilFunc]⟩,
 ⟨.one,1,8,[.lit .nilFunc]⟩,
 ⟨.one,1,8,[.lit .nilFunc]⟩,
 ⟨.one,1,8,[.lit .nilFunc]⟩,
 ⟨.one,1,8,[.lit .nilFunc]⟩,
 ⟨.one,1,8,[.lit .nilFunc]⟩,
 ac9,
 ⟨.one,1,8,[.lit .nilFunc]⟩,
 ⟨.struct [(0,9),(1,3)],2,24,[.str [],.lit (.int .i64 0)]⟩,
 ⟨.struct [(0,9),(1,3)],2,24,[.str [],.lit (.int .i64 0)]⟩,
 ⟨.one,1,8,[.lit .nilFunc]⟩,
 ⟨.one,1,8,[.lit .nilFunc]⟩,
 ⟨.one,1,8,[.lit .nilFunc]⟩,
 ⟨.one,1,8,[.lit .nilFunc]⟩,
 ⟨.one,1,8,[.lit .nilFunc]⟩,
 ⟨.one,1,8,[.lit .nilFunc]⟩,
 ⟨.one,1,8,[.lit .nilFunc]⟩,
 ⟨.slice 256,1,24,[.sl .full 0 []]⟩,
 ⟨.one,1,8,[.lit .nilFunc]⟩,
 ⟨.one,1,8,[.lit .nilFunc]⟩,
 ⟨.one,1,8,[.lit .nilFunc]⟩,
 ⟨.struct [(0,3),(1,3),(2,5),(3,87)],4,48,[.lit (.int .i64 0),.lit (.int .i64 0),.lit (.int .u8 0),.sl .full 0 []]⟩,
 ⟨.struct [(0,3),(1,3),(2,5),(3,87)],4,48,[.lit (.int .i64 0),.lit (.int .i64 0),.lit (.int .u8 0),.sl .full 0 []]⟩,
 ⟨.ptr 259,1,8,[.lit (.pointer none)]⟩,
 ⟨.struct [(0,93),(1,31)],2,32,[.sl .full 0 [],.lit (.int .i64 0)]⟩,
 ⟨.struct [(0,93),(1,31)],2,32,[.sl .full 0 [],.lit (.int .i64 0)]⟩,
 ⟨.one,1,8,[.lit .nilFunc]⟩,
 ⟨.one,1,8,[.lit .nilFunc]⟩,
 ⟨.one,1,8,[.lit .nilFunc]⟩,
 ⟨.one,1,8,[.lit .nilFunc]⟩,
 ⟨.one,1,8,[.lit .nilFunc]⟩,
 ⟨.one,1,8,[.lit .nilFunc]⟩,
 ⟨.one,1,8,[.lit .nilFunc]⟩,
 ⟨.one,1,8,[.lit .nilFunc]⟩,
 ⟨.one,1,8,[.lit .nilFunc]⟩,
 ac9,
 ⟨.one,1,8,[.lit .nilFunc]⟩,
 ac9,
 ⟨.one,1,8,[.lit .nilFunc]⟩,
 ⟨.one,1,8,[.lit .nilFunc]⟩,
 ⟨.ptr 276,1,8,[.lit (.pointer none)]⟩,
 ⟨.struct [(0,176),(1,3),(2,3)],3,24,[.lit (.pointer none),.lit (.int .i64 0),.lit (.int .i64 0)]⟩,
 ⟨.struct [(0,176),(1,3),(2,3)],3,24,[.lit (.pointer none),.lit (.int .i64 0),.lit (.int .i64 0)]⟩,
 ⟨.one,1,8,[.lit .nilFunc]⟩,
 ⟨.ptr 352,1,8,[.lit (.pointer none)]⟩,
 ac9,
 ⟨.one,1,8,[.lit .nilFunc]⟩,
 ⟨.one,1,8,[.lit .nilFunc]⟩,
 ⟨.one,1,8,[.lit .nilFunc]⟩,
 ⟨.one,1,8,[.lit .nilFunc]⟩,
 ⟨.one,1,8,[.lit .nilFunc]⟩,
 ⟨.one,1,8,[.lit .nilFunc]⟩,
 ⟨.one,1,8,[.lit .nilFunc]⟩,
 ⟨.one,1,8,[.lit .nilFunc]⟩,
 ⟨.slice 32,1,24,[.sl .full 0 []]⟩,
 ⟨.one,1,8,[.lit .nilFunc]⟩,
 ⟨.one,1,8,[.lit .nilFunc]⟩,
 ⟨.one,1,8,[.lit .nilFunc]⟩,
 ⟨.int .u64,1,8,[.lit (.int .u64 0)]⟩,
 ⟨.one,1,8,[.lit .nilFunc]⟩,
 ⟨.one,1,8,[.lit .nilFunc]⟩,
 ⟨.one,1,8,[.lit .nilFunc]⟩,
 ⟨.one,1,8,[.lit .nilFunc]⟩,
 ⟨.one,1,8,[.lit .nilFunc]⟩,
 ⟨.one,1,8,[.lit .nilFunc]⟩,
 ⟨.one,1,8,[.lit .nilFunc]⟩,
 ⟨.one,1,8,[.lit .nilFunc]⟩,
 ⟨.one,1,8,[.lit .nilFunc]⟩,
 ⟨.one,1,8,[.lit .nilFunc]⟩,
 ⟨.one,1,8,[.lit .nilFunc]⟩,
 ⟨.one,1,8,[.lit .nilFunc]⟩,
 ⟨.one,1,8,[.lit .nilFunc]⟩,
 ⟨.ptr 308,1,8,[.lit (.pointer none)]⟩,
 ⟨.struct [(0,35),(5,35),(10,87)],11,184,[.lit (.int .i64 0),.lit (.int .i64 0),.str [],.sl .full 0 [],.sl .full 0 [],.lit (.int .i64 0),.lit (.int .i64 0),.str [],.sl .full 0 [],.sl .full 0 [],.sl .full 0 []]⟩,
 ⟨.struct [(0,35),(5,35),(10,87)],11,184,[.lit (.int .i64 0),.lit (.int .i64 0),.str [],.sl .full 0 [],.sl .full 0 [],.lit (.int .i64 0),.lit (.int .i64 0),.str [],.sl .full 0 [],.sl .full 0 [],.sl .full 0 []]⟩,
 ⟨.one,1,8,[.lit .nilFunc]⟩,
 ⟨.one,1,8,[.lit .nilFunc]⟩,
 ⟨.arr 64 5,64,64,List.replicate 64 (.lit (.int .u8 0))⟩,
 ⟨.one,1,8,[.lit .nilFunc]⟩,
 ⟨.one,1,8,[.lit .nilFunc]⟩,
 ⟨.one,1,8,[.lit .nilFunc]⟩,
 ⟨.one,1,8,[.lit .nilFunc]⟩,
 ⟨.one,1,8,[.lit .nilFunc]⟩,
 ⟨.one,1,8,[.lit .nilFunc]⟩,
 ⟨.one,1,8,[.lit .nilFunc]⟩,
 ⟨.one,1,8,[.lit .nilFunc]⟩,
 ⟨.one,1,8,[.lit .nilFunc]⟩,
 ⟨.one,1,8,[.lit .nilFunc]⟩,
 ⟨.one,1,8,[.lit .nilFunc]⟩,
 ⟨.one,1,8,[.lit .nilFunc]⟩,
 ⟨.struct [(0,44),(32,87)],33,56,[.lit (.int .u8 0),.lit (.int .u8 0),.lit (.int .u8 0),.lit (.int .u8 0),.lit (.int .u8 0),.lit (.int .u8 0),.lit (.int .u8 0),.lit (.int .u8 0),.lit (.int .u8 0),.lit (.int .u8 0),.lit (.int .u8 0),.lit (.int .u8 0),.lit (.int .u8 0),.lit (.int .u8 0),.lit (.int .u8 0),.lit (.int .u8 0),.lit (.int .u8 0),.lit (.int .u8 0),.lit (.int .u8 0),.lit (.int .u8 0),.lit (.int .u8 0),.lit (.int .u8 0),.lit (.int .u8 0),.lit (.int .u8 0),.lit (.int .u8 0),.lit (.int .u8 0),.lit (.int .u8 0),.lit (.int .u8 0),.lit (.int .u8 0),.lit (.int .u8 0),.lit (.int .u8 0),.lit (.int .u8 0),.sl .full 0 []]⟩,
 ⟨.struct [(0,44),(32,87)],33,56,[.lit (.int .u8 0),.lit (.int .u8 0),.lit (.int .u8 0),.lit (.int .u8 0),.lit (.int .u8 0),.lit (.int .u8 0),.lit (.int .u8 0),.lit (.int .u8 0),.lit (.int .u8 0),.lit (.int .u8 0),.lit (.int .u8 0),.lit (.int .u8 0),.lit (.int .u8 0),.lit (.int .u8 0),.lit (.int .u8 0),.lit (.int .u8 0),.lit (.int .u8 0),.lit (.int .u8 0),.lit (.int .u8 0),.lit (.int .u8 0),.lit (.int .u8 0),.lit (.int .u8 0),.lit (.int .u8 0),.lit (.int .u8 0),.lit (.int .u8 0),.lit (.int .u8 0),.lit (.int .u8 0),.lit (.int .u8 0),.lit (.int .u8 0),.lit (.int .u8 0),.lit (.int .u8 0),.lit (.int .u8 0),.sl .full 0 []]⟩,
 ⟨.one,1,8,[.lit .nilFunc]⟩,
 ⟨.str,1,16,[.str []]⟩,
 ⟨.one,1,8,[.lit .nilFunc]⟩,
 ⟨.one,1,8,[.lit .nilFunc]⟩,
 ⟨.one,1,8,[.lit .nilFunc]⟩,
 ac9,
 ⟨.one,1,8,[.lit .nilFunc]⟩,
 ⟨.one,1,8,[.lit .nilFunc]⟩,
 ⟨.one,1,8,[.lit .nilFunc]⟩,
 ⟨.one,1,8,[.lit .nilFunc]⟩,
 ⟨.one,1,8,[.lit .nilFunc]⟩,
 ⟨.one,1,8,[.lit .nilFunc]⟩,
 ⟨.one,1,8,[.lit .nilFunc]⟩,
 ⟨.one,1,8,[.lit .nilFunc]⟩,
 ⟨.one,1,8,[.lit .nilFunc]⟩,
 ⟨.ptr 343,1,8,[.lit (.pointer none)]⟩,
 ⟨.struct [(0,341),(1,87)],2,32,[.lit (.pointer none),.sl .full 0 []]⟩,
 ⟨.struct [(0,341),(1,87)],2,32,[.lit (.pointer none),.sl .full 0 []]⟩,
 ⟨.struct [(0,343)],2,32,[.lit (.pointer none),.sl .full 0 []]⟩,
 ⟨.struct [(0,343)],2,32,[.lit (.pointer none),.sl .full 0 []]⟩,
 ⟨.one,1,8,[.lit .nilFunc]⟩,
 ⟨.one,1,8,[.lit .nilFunc]⟩,
 ⟨.one,1,8,[.lit .nilFunc]⟩,
 ⟨.one,1,8,[.lit .nilFunc]⟩,
 ⟨.one,1,8,[.lit .nilFunc]⟩,
 ⟨.struct [(0,33)],1,24,[.sl .full 0 []]⟩,
 ⟨.struct [(0,33)],1,24,[.sl .full 0 []]⟩,
 ⟨.one,1,8,[.lit .nilFunc]⟩,
 ⟨.one,1,8,[.lit .nilFunc]⟩,
 ⟨.int .i64,1,8,[.lit (.int .i64 0)]⟩,
 ac9,
 ⟨.one,1,8,[.lit .nilFunc]⟩,
 ⟨.one,1,8,[.lit .nilFunc]⟩,
 ⟨.one,1,8,[.lit .nilFunc]⟩,
 ⟨.one,1,8,[.lit .nilFunc]⟩,
 ⟨.one,1,8,[.lit .nilFunc]⟩,
 ⟨.int .u32,1,4,[.lit (.int .u32 0)]⟩,
 ⟨.one,1,8,[.lit .nilFunc]⟩,
 ⟨.int .u64,1,8,[.lit (.int .u64 0)]⟩,
 ⟨.one,1,8,[.lit .nilFunc]⟩,
 ⟨.one,1,8,[.lit .nilFunc]⟩,
 ⟨.struct [(0,9),(1,9)],2,32,[.str [],.str []]⟩,
 ⟨.struct [(0,9),(1,9)],2,32,[.str [],.str []]⟩,
 ac9,
 ⟨.one,1,8,[.lit .nilFunc]⟩,
 ac9,
 ⟨.one,1,8,[.lit .nilFunc]⟩,
 ⟨.one,1,8,[.lit .nilFunc]⟩,
 ⟨.arr 24 5,24,24,List.replicate 24 (.lit (.int .u8 0))⟩,
 ⟨.one,1,8,[.lit .nilFunc]⟩,
 ac9,
 ⟨.one,1,8,[.lit .nilFunc]⟩,
 ⟨.one,1,8,[.lit .nilFunc]⟩,
 ⟨.one,1,8,[.lit .nilFunc]⟩,
 ⟨.one,1,8,[.lit .nilFunc]⟩,
 ⟨.ptr 388,1,8,[.lit (.pointer none)]⟩,
 ⟨.arr 80 364,80,640,List.replicate 80 (.lit (.int .u64 0))⟩,
 ⟨.one,1,8,[.lit .nilFunc]⟩,
 ⟨.one,1,8,[.lit .nilFunc]⟩,
 ⟨.one,1,8,[.lit .nilFunc]⟩,
 ⟨.arr 8 362,8,32,[.lit (.int .u32 0),.lit (.int .u32 0),.lit (.int .u32 0),.lit (.int .u32 0),.lit (.int .u32 0),.lit (.int .u32 0),.lit (.int .u32 0),.lit (.int .u32 0)]⟩,
 ⟨.struct [(0,386),(8,3),(9,383),(10,385),(11,385),(12,385),(13,385)],14,80,[.lit (.int .u32 0),.lit (.int .u32 0),.lit (.int .u32 0),.lit (.int .u32 0),.lit (.int .u32 0),.lit (.int .u32 0),.lit (.int .u32 0),.lit (.int .u32 0),.lit (.int .i64 0),.lit .nilFunc,.lit .nilFunc,.lit .nilFunc,.lit .nilFunc,.lit .nilFunc]⟩,
 ⟨.struct [(0,386),(8,3),(9,383),(10,385),(11,385),(12,385),(13,385)],14,80,[.lit (.int .u32 0),.lit (.int .u32 0),.lit (.int .u32 0),.lit (.int .u32 0),.lit (.int .u32 0),.lit (.int .u32 0),.lit (.int .u32 0),.lit (.int .u32 0),.lit (.int .i64 0),.lit .nilFunc,.lit .nilFunc,.lit .nilFunc,.lit .nilFunc,.lit .nilFunc]⟩,
 ⟨.arr 8 364,8,64,[.lit (.int .u64 0),.lit (.int .u64 0),.lit (.int .u64 0),.lit (.int .u64 0),.lit (.int .u64 0),.lit (.int .u64 0),.lit (.int .u64 0),.lit (.int .u64 0)]⟩,
 ⟨.one,1,8,[.lit .nilFunc]⟩,
 ⟨.one,1,8,[.lit .nilFunc]⟩,
 ⟨.one,1,8,[.lit .nilFunc]⟩,
 ⟨.one,1,8,[.lit .nilFunc]⟩,
 ⟨.arr 256 5,256,256,List.replicate 256 (.lit (.int .u8 0))⟩,
 ⟨.struct [(0,5),(1,5)],2,2,[.lit (.int .u8 0),.lit (.int .u8 0)]⟩,
 ⟨.struct [(0,5),(1,5)],2,2,[.lit (.int .u8 0),.lit (.int .u8 0)]⟩,
 ⟨.arr 16 396,32,32,List.replicate 32 (.lit (.int .u8 0))⟩,
 ⟨.one,1,8,[.lit .nilFunc]⟩,
 ⟨.one,1,8,[.lit .nilFunc]⟩,
 ⟨.one,1,8,[.lit .nilFunc]⟩,
 ⟨.arr 5 364,5,40,[.lit (.int .u64 0),.lit (.int .u64 0),.lit (.int .u64 0),.lit (.int .u64 0),.lit (.int .u64 0)]⟩,
 ⟨.arr 5 364,5,40,[.lit (.int .u64 0),.lit (.int .u64 0),.lit (.int .u64 0),.lit (.int .u64 0),.lit (.int .u64 0)]⟩,
 ⟨.struct [(0,402),(5,402),(10,402)],15,120,List.replicate 15 (.lit (.int .u64 0))⟩,
 ⟨.struct [(0,402),(5,402),(10,402)],15,120,List.replicate 15 (.lit (.int .u64 0))⟩,
 ⟨.struct [(0,404),(15,402)],20,160,List.replicate 20 (.lit (.int .u64 0))⟩,
 ⟨.struct [(0,404),(15,402)],20,160,List.replicate 20 (.lit (.int .u64 0))⟩,
 ⟨.one,1,8,[.lit .nilFunc]⟩,
 ⟨.one,1,8,[.lit .nilFunc]⟩,
 ⟨.one,1,8,[.lit .nilFunc]⟩,
 ⟨.one,1,8,[.lit .nilFunc]⟩,
 ⟨.arr 3 5,3,3,[.lit (.int .u8 0),.lit (.int .u8 0),.lit (.int .u8 0)]⟩,
 ⟨.iface,1,16,[.lit .nilIface]⟩,
 ⟨.iface,1,16,[.lit .nilIface]⟩,
 ⟨.one,1,8,[.lit .nilFunc]⟩,
 ⟨.one,1,8,[.lit .nilFunc]⟩,
 ⟨.arr 256 4,256,256,List.replicate 256 (.lit (.bool false))⟩,
 ⟨.arr 256 4,256,256,List.replicate 256 (.lit (.bool false))⟩,
 ac9,
 ⟨.one,1,8,[.lit .nilFunc]⟩,
 ⟨.one,1,8,[.lit .nilFunc]⟩,
 ⟨.ptr 417,1,8,[.lit (.pointer none)]⟩,
 ⟨.one,1,8,[.lit .nilFunc]⟩,
 ⟨.one,1,8,[.lit .nilFunc]⟩,
 ⟨.one,1,8,[.lit .nilFunc]⟩,
 ⟨.one,1,8,[.lit .nilFunc]⟩,
 ⟨.one,1,8,[.lit .nilFunc]⟩,
 ⟨.ptr 345,1,8,[.lit (.pointer none)]⟩,
 ac9,
 ⟨.one,1,8,[.lit .nilFunc]⟩,
 ⟨.one,1,8,[.lit .nilFunc]⟩,
 ⟨.one,1,8,[.lit .nilFunc]⟩,
 ⟨.ptr 5,1,8,[.lit (.pointer none)]⟩,
 ⟨.one,1,8,[.lit .nilFunc]⟩,
 ⟨.ptr 438,1,8,[.lit (.pointer none)]⟩,
 ⟨.struct [(0,9),(1,3)],2,24,[.str [],.lit (.int .i64 0)]⟩,
 ⟨.struct [(0,9),(1,3)],2,24,[.str [],.lit (.int .i64 0)]⟩,
 ⟨.struct [(0,436),(2,31)],3,32,[.str [],.lit (.int .i64 0),.lit (.int .i64 0)]⟩,
 ⟨.struct [(0,436),(2,31)],3,32,[.str [],.lit (.int .i64 0),.lit (.int .i64 0)]⟩,
 ⟨.one,1,8,[.lit .nilFunc]⟩,
 ⟨.one,1,8,[.lit .nilFunc]⟩,
 ⟨.int .u64,1,8,[.lit (.int .u64 0)]⟩,
 ⟨.one,1,8,[.lit .nilFunc]⟩,
 ⟨.one,1,8,[.lit .nilFunc]⟩,
 ⟨.one,1,8,[.lit .nilFunc]⟩,
 ⟨.ptr 3,1,8,[.lit (.pointer none)]⟩,
 ⟨.one,1,8,[.lit .nilFunc]⟩,
 ⟨.one,1,8,[.lit .nilFunc]⟩,
 ⟨.map 9 368,1,8,[.lit (.map none)]⟩,
 ⟨.one,1,8,[.lit .nilFunc]⟩,
 ⟨.one,1,8,[.lit .nilFunc]⟩,
 ⟨.arr 20 364,20,160,List.replicate 20 (.lit (.int .u64 0))⟩,
 ⟨.arr 65 5,65,65,List.replicate 65 (.lit (.int .u8 0))⟩,
 ⟨.one,1,8,[.lit .nilFunc]⟩,
 ⟨.one,1,8,[.lit .nilFunc]⟩,
 ⟨.one,1,8,[.lit .nilFunc]⟩,
 ⟨.arr 4 364,4,32,[.lit (.int .u64 0),.lit (.int .u64 0),.lit (.int .u64 0),.lit (.int .u64 0)]⟩,
 ⟨.arr 4 364,4,32,[.lit (.int .u64 0),.lit (.int .u64 0),.lit (.int .u64 0),.lit (.int .u64 0)]⟩,
 ⟨.arr 8 364,8,64,[.lit (.int .u64 0),.lit (.int .u64 0),.lit (.int .u64 0),.lit (.int .u64 0),.lit (.int .u64 0),.lit (.int .u64 0),.lit (.int .u64 0),.lit (.int .u64 0)]⟩,
 ⟨.one,1,8,[.lit .nilFunc]⟩,
 ⟨.one,1,8,[.lit .nilFunc]⟩,
 ⟨.one,1,8,[.lit .nilFunc]⟩,
 ac9,
 ⟨.one,1,8,[.lit .nilFunc]⟩,
 ⟨.slice 3,1,24,[.sl .full 0 []]⟩,
 ⟨.one,1,8,[.lit .nilFunc]⟩,
 ⟨.arr 16 362,16,64,List.replicate 16 (.lit (.int .u32 0))⟩,
 ⟨.one,1,8,[.lit .nilFunc]⟩,
 ⟨.one,1,8,[.lit .nilFunc]⟩,
 ⟨.one,1,8,[.lit .nilFunc]⟩,
 ⟨.one,1,8,[.lit .nilFunc]⟩,
 ⟨.one,1,8,[.lit .nilFunc]⟩,
 ⟨.one,1,8,[.lit .nilFunc]⟩,
 ⟨.one,1,8,[.lit .nilFunc]⟩,
 ⟨.one,1,8,[.lit .nilFunc]⟩,
 ⟨.ptr 480,1,8,[.lit (.pointer none)]⟩,
 ⟨.one,1,8,[.lit .nilFunc]⟩,
 ⟨.one,1,8,[.lit .nilFunc]⟩,
 ⟨.one,1,8,[.lit .nilFunc]⟩,
 ⟨.struct [(0,389),(8,3),(9,476),(10,478),(11,478),(12,478),(13,478)],14,112,[.lit (.int .u64 0),.lit (.int .u64 0),.lit (.int .u64 0),.lit (.int .u64 0),.lit (.int .u64 0),.lit (.int .u64 0),.lit (.int .u64 0),.lit (.int .u64 0),.lit (.int .i64 0),.lit .nilFunc,.lit .nilFunc,.lit .nilFunc,.lit .nilFunc,.lit .nilFunc]⟩,
 ⟨.struct [(0,389),(8,3),(9,476),(10,478),(11,478),(12,478),(13,478)],14,112,[.lit (.int .u64 0),.lit (.int .u64 0),.lit (.int .u64 0),.lit (.int .u64 0),.lit (.int .u64 0),.lit (.int .u64 0),.lit (.int .u64 0),.lit (.int .u64 0),.lit (.int .i64 0),.lit .nilFunc,.lit .nilFunc,.lit .nilFunc,.lit .nilFunc,.lit .nilFunc]⟩,
 ⟨.one,1,8,[.lit .nilFunc]⟩,
 ac9,
 ⟨.one,1,8,[.lit .nilFunc]⟩,
 ⟨.one,1,8,[.lit .nilFunc]⟩,
 ⟨.one,1,8,[.lit .nilFunc]⟩,
 ⟨.one,1,8,[.lit .nilFunc]⟩,
 ⟨.ptr 436,1,8,[.lit (.pointer none)]⟩,
 ⟨.ptr 441,1,8,[.lit (.pointer none)]⟩,
 ac9,
 ⟨.one,1,8,[.lit .nilFunc]⟩,
 ⟨.one,1,8,[.lit .nilFunc]⟩,
 ac9,
 ⟨.one,1,8,[.lit .nilFunc]⟩,
 ⟨.one,1,8,[.lit .nilFunc]⟩,
 ac9,
 ⟨.one,1,8,[.lit .nilFunc]⟩,
 ac9,
 ⟨.one,1,8,[.lit .nilFunc]⟩,
 ⟨.slice 362,1,24,[.sl .full 0 []]⟩,
 ⟨.one,1,8,[.lit .nilFunc]⟩,
 ⟨.one,1,8,[.lit .nilFunc]⟩,
 ⟨.one,1,8,[.lit .nilFunc]⟩,
 ⟨.one,1,8,[.lit .nilFunc]⟩,
 ⟨.struct [(0,364),(1,364)],2,16,[.lit (.int .u64 0),.lit (.int .u64 0)]⟩,
 ⟨.struct [(0,364),(1,364)],2,16,[.lit (.int .u64 0),.lit (.int .u64 0)]⟩,
 ⟨.arr 5 505,10,80,List.replicate 10 (.lit (.int .u64 0))⟩,
 ⟨.one,1,8,[.lit .nilFunc]⟩,
 ⟨.one,1,8,[.lit .nilFunc]⟩,
 ⟨.arr 16 364,16,128,List.replicate 16 (.lit (.int .u64 0))⟩,
 ⟨.one,1,8,[.lit .nilFunc]⟩,
 ⟨.uptr,1,8,[.lit (.pointer none)]⟩,
 ⟨.one,1,8,[.lit .nilFunc]⟩,
 ac9,
 ⟨.one,1,8,[.lit .nilFunc]⟩,
 ⟨.one,1,8,[.lit .nilFunc]⟩,
 ac9,
 ⟨.one,1,8,[.lit .nilFunc]⟩,
 ⟨.one,1,8,[.lit .nilFunc]⟩,
 ⟨.arr 2 364,2,16,[.lit (.int .u64 0),.lit (.int .u64 0)]⟩,
 ⟨.ptr 505,1,8,[.lit (.pointer none)]⟩,
 ⟨.slice 364,1,24,[.sl .full 0 []]⟩,
 ⟨.one,1,8,[.lit .nilFunc]⟩,
 ac9,
 ⟨.one,1,8,[.lit .nilFunc]⟩,
 ⟨.one,1,8,[.lit .nilFunc]⟩,
 ⟨.one,1,8,[.lit .nilFunc]⟩,
 ⟨.one,1,8,[.lit .nilFunc]⟩,
 ac9,
 ⟨.one,1,8,[.lit .nilFunc]⟩,
 ⟨.one,1,8,[.lit .nilFunc]⟩,
 ⟨.one,1,8,[.lit .nilFunc]⟩,
 ⟨.int .i64,1,8,[.lit (.int .i64 0)]⟩,
 ⟨.ptr 538,1,8,[.lit (.pointer none)]⟩,
 ⟨.one,1,8,[.lit .nilFunc]⟩,
 ⟨.one,1,8,[.lit .nilFunc]⟩,
 ⟨.one,1,8,[.lit .nilFunc]⟩,
 ⟨.struct [(0,9),(1,9),(2,413)],3,48,[.str [],.str [],.lit .nilIface]⟩,
 ⟨.struct [(0,9),(1,9),(2,413)],3,48,[.str [],.str [],.lit .nilIface]⟩,
 ⟨.one,1,8,[.lit .nilFunc]⟩,
 ⟨.ptr 542,1,8,[.lit (.pointer none)]⟩,
 ⟨.struct [(0,9)],1,16,[.str []]⟩,
 ⟨.struct [(0,9)],1,16,[.str []]⟩,
 ⟨.struct [(0,17),(1,17),(2,17),(3,9)],4,40,[.lit (.pointer none),.lit (.pointer none),.lit (.pointer none),.str []]⟩,
 ⟨.struct [(0,17),(1,17),(2,17),(3,9)],4,40,[.lit (.pointer none),.lit (.pointer none),.lit (.pointer none),.str []]⟩,
 ⟨.arr 0 16,0,0,[]⟩,
 ⟨.struct [(0,545)],0,0,[]⟩,
 ⟨.struct [(0,545)],0,0,[]⟩,
 ⟨.int .u8,1,1,[.lit (.int .u8 0)]⟩,
 ⟨.int .u8,1,1,[.lit (.int .u8 0)]⟩,
 ⟨.one,1,8,[.lit .nilFunc]⟩,
 ⟨.int .i32,1,4,[.lit (.int .i32 0)]⟩,
 ⟨.int .i32,1,4,[.lit (.int .i32 0)]⟩,
 ⟨.struct [(0,12),(1,12),(2,362),(3,548),(4,5),(5,5),(6,549),(7,550),(8,432),(9,551),(10,552)],11,48,[.lit (.int .u64 0),.lit (.int .u64 0),.lit (.int .u32 0),.lit (.int .u8 0),.lit (.int .u8 0),.lit (.int .u8 0),.lit (.int .u8 0),.lit .nilFunc,.lit (.pointer none),.lit (.int .i32 0),.lit (.int .i32 0)]⟩,
 ⟨.struct [(0,12),(1,12),(2,362),(3,548),(4,5),(5,5),(6,549),(7,550),(8,432),(9,551),(10,552)],11,48,[.lit (.int .u64 0),.lit (.int .u64 0),.lit (.int .u32 0),.lit (.int .u8 0),.lit (.int .u8 0),.lit (.int .u8 0),.lit (.int .u8 0),.lit .nilFunc,.lit (.pointer none),.lit (.int .i32 0),.lit (.int .i32 0)]⟩]
def L:Tab:=cP3 tbl
set_option maxRecDepth 100000 in
theorem ab6:ac7 Tryz.prog L:=dn9 (by kernel_rfl)
theorem mixed:Tryz.prog.follows .mixedOrders=true:=by kernel_rfl
@[go_sem] theorem eo5:aq3 0=.ip (.agg aY1):=cV9 rfl rfl
@[go_sem] theorem eo4:aq3 1=.ip (.agg aR5):=cD5 rfl rfl
@[go_sem] theorem eo3:aq3 2=.ip (.agg aZ6):=cW4 rfl rfl
@[go_sem] theorem eo2:aq3 3=.ip (.agg aM8):=cD6 rfl rfl
@[go_sem] theorem em6:aq3 13=.ip .err:=dy5 rfl
@[go_sem] theorem L_2:L 2=⟨.int .i64,1,8,[.lit (.int .i64 0)]⟩:=rfl
@[go_sem] theorem L_3:L 3=⟨.int .i64,1,8,[.lit (.int .i64 0)]⟩:=rfl
@[go_sem] theorem L_4:L 4=⟨.bool,1,1,[.lit (.bool false)]⟩:=rfl
@[go_sem] theorem L_5:L 5=⟨.int .u8,1,1,[.lit (.int .u8 0)]⟩:=rfl
@[go_sem] theorem L_9:L 9=⟨.str,1,16,[.str []]⟩:=rfl
@[go_sem] theorem ey0:L 21=⟨.int .i32,1,4,[.lit (.int .i32 0)]⟩:=rfl
@[go_sem] theorem ex9:L 22=⟨.slice 109,1,24,[.sl .full 0 []]⟩:=rfl
@[go_sem] theorem ex8:L 23=⟨.slice 70,1,24,[.sl .full 0 []]⟩:=rfl
@[go_sem] theorem ex7:L 24=⟨.slice 123,1,24,[.sl .full 0 []]⟩:=rfl
@[go_sem] theorem ex6:L 25=⟨.slice 127,1,24,[.sl .full 0 []]⟩:=rfl
@[go_sem] theorem ex5:L 27=⟨.struct [(0,3),(1,9),(2,22),(3,23),(4,24),(5,25)],6,120,[.lit (.int .i64 0),.str [],.sl .full 0 [],.sl .full 0 [],.sl .full 0 [],.sl .full 0 []]⟩:=rfl
@[go_sem] theorem ex4:L 28=⟨.arr 2 3,2,16,[.lit (.int .i64 0),.lit (.int .i64 0)]⟩:=rfl
@[go_sem] theorem ex3:L 31=⟨.int .i64,1,8,[.lit (.int .i64 0)]⟩:=rfl
@[go_sem] theorem ex2:L 32=⟨.slice 9,1,24,[.sl .full 0 []]⟩:=rfl
@[go_sem] theorem ex1:L 33=⟨.slice 35,1,24,[.sl .full 0 []]⟩:=rfl
@[go_sem] theorem ex0:L 35=⟨.struct [(0,3),(1,3),(2,9),(3,32),(4,33)],5,80,[.lit (.int .i64 0),.lit (.int .i64 0),.str [],.sl .full 0 [],.sl .full 0 []]⟩:=rfl
@[go_sem] theorem ew9:L 37=⟨.struct [(0,9),(1,9)],2,32,[.str [],.str []]⟩:=rfl
@[go_sem] theorem ew8:L 39=⟨.struct [(0,37),(2,3),(3,9)],4,56,[.str [],.str [],.lit (.int .i64 0),.str []]⟩:=rfl
@[go_sem] theorem ew7:L 41=⟨.struct [(0,31),(1,9),(2,35),(7,39),(11,33)],12,184,[.lit (.int .i64 0),.str [],.lit (.int .i64 0),.lit (.int .i64 0),.str [],.sl .full 0 [],.sl .full 0 [],.str [],.str [],.lit (.int .i64 0),.str [],.sl .full 0 []]⟩:=rfl
@[go_sem] theorem ew6:L 44=⟨.arr 32 5,32,32,List.replicate 32 (.lit (.int .u8 0))⟩:=rfl
@[go_sem] theorem ew5:L 46=⟨.struct [(0,9),(1,9),(2,44)],34,64,[.str [],.str [],.lit (.int .u8 0),.lit (.int .u8 0),.lit (.int .u8 0),.lit (.int .u8 0),.lit (.int .u8 0),.lit (.int .u8 0),.lit (.int .u8 0),.lit (.int .u8 0),.lit (.int .u8 0),.lit (.int .u8 0),.lit (.int .u8 0),.lit (.int .u8 0),.lit (.int .u8 0),.lit (.int .u8 0),.lit (.int .u8 0),.lit (.int .u8 0),.lit (.int .u8 0),.lit (.int .u8 0),.lit (.int .u8 0),.lit (.int .u8 0),.lit (.int .u8 0),.lit (.int .u8 0),.lit (.int .u8 0),.lit (.int .u8 0),.lit (.int .u8 0),.lit (.int .u8 0),.lit (.int .u8 0),.lit (.int .u8 0),.lit (.int .u8 0),.lit (.int .u8 0),.lit (.int .u8 0),.lit (.int .u8 0)]⟩:=rfl
@[go_sem] theorem ew4:L 48=⟨.struct [(0,46),(34,32)],35,88,[.str [],.str [],.lit (.int .u8 0),.lit (.int .u8 0),.lit (.int .u8 0),.lit (.int .u8 0),.lit (.int .u8 0),.lit (.int .u8 0),.lit (.int .u8 0),.lit (.int .u8 0),.lit (.int .u8 0),.lit (.int .u8 0),.lit (.int .u8 0),.lit (.int .u8 0),.lit (.int .u8 0),.lit (.int .u8 0),.lit (.int .u8 0),.lit (.int .u8 0),.lit (.int .u8 0),.lit (.int .u8 0),.lit (.int .u8 0),.lit (.int .u8 0),.lit (.int .u8 0),.lit (.int .u8 0),.lit (.int .u8 0),.lit (.int .u8 0),.lit (.int .u8 0),.lit (.int .u8 0),.lit (.int .u8 0),.lit (.int .u8 0),.lit (.int .u8 0),.lit (.int .u8 0),.lit (.int .u8 0),.lit (.int .u8 0),.sl .full 0 []]⟩:=rfl
@[go_sem] theorem ew3:L 51=⟨.struct [(0,9),(1,9),(2,32)],3,56,[.str [],.str [],.sl .full 0 []]⟩:=rfl
@[go_sem] theorem ew2:L 53=⟨.struct [(0,3),(1,9),(2,9),(3,9),(4,9),(5,9),(6,9),(7,9),(8,3),(9,3),(10,9),(11,3),(12,32),(13,32),(14,51)],17,264,[.lit (.int .i64 0),.str [],.str [],.str [],.str [],.str [],.str [],.str [],.lit (.int .i64 0),.lit (.int .i64 0),.str [],.lit (.int .i64 0),.sl .full 0 [],.sl .full 0 [],.str [],.str [],.sl .full 0 []]⟩:=rfl
@[go_sem] theorem ew1:L 56=⟨.slice 167,1,24,[.sl .full 0 []]⟩:=rfl
@[go_sem] theorem ew0:L 57=⟨.slice 169,1,24,[.sl .full 0 []]⟩:=rfl
@[go_sem] theorem ev9:L 59=⟨.struct [(0,56),(1,57),(2,3),(3,4)],4,64,[.sl .full 0 [],.sl .full 0 [],.lit (.int .i64 0),.lit (.bool false)]⟩:=rfl
@[go_sem] theorem ev7:L 61=⟨.struct [(0,3),(1,3),(2,3)],3,24,[.lit (.int .i64 0),.lit (.int .i64 0),.lit (.int .i64 0)]⟩:=rfl
@[go_sem] theorem ev6:L 63=⟨.struct [(0,27),(6,59),(10,61),(13,4)],14,216,[.lit (.int .i64 0),.str [],.sl .full 0 [],.sl .full 0 [],.sl .full 0 [],.sl .full 0 [],.sl .full 0 [],.sl .full 0 [],.lit (.int .i64 0),.lit (.bool false),.lit (.int .i64 0),.lit (.int .i64 0),.lit (.int .i64 0),.lit (.bool false)]⟩:=rfl
@[go_sem] theorem ev5:L 70=⟨.struct [(0,9),(1,9),(2,32)],3,56,[.str [],.str [],.sl .full 0 []]⟩:=rfl
@[go_sem] theorem ev4:L 71=⟨.one,1,8,[.lit .nilFunc]⟩:=rfl
@[go_sem] theorem ev3:L 73=⟨.arr 16 71,16,128,List.replicate 16 (.lit .nilFunc)⟩:=rfl
@[go_sem] theorem ev2:L 76=⟨.struct [(0,27),(6,48),(41,53),(58,41)],70,656,[.lit (.int .i64 0),.str [],.sl .full 0 [],.sl .full 0 [],.sl .full 0 [],.sl .full 0 [],.str [],.str [],.lit (.int .u8 0),.lit (.int .u8 0),.lit (.int .u8 0),.lit (.int .u8 0),.lit (.int .u8 0),.lit (.int .u8 0),.lit (.int .u8 0),.lit (.int .u8 0),.lit (.int .u8 0),.lit (.int .u8 0),.lit (.int .u8 0),.lit (.int .u8 0),.lit (.int .u8 0),.lit (.int .u8 0),.lit (.int .u8 0),.lit (.int .u8 0),.lit (.int .u8 0),.lit (.int .u8 0),.lit (.int .u8 0),.lit (.int .u8 0),.lit (.int .u8 0),.lit (.int .u8 0),.lit (.int .u8 0),.lit (.int .u8 0),.lit (.int .u8 0),.lit (.int .u8 0),.lit (.int .u8 0),.lit (.int .u8 0),.lit (.int .u8 0),.lit (.int .u8 0),.lit (.int .u8 0),.lit (.int .u8 0),.sl .full 0 [],.lit (.int .i64 0),.str [],.str [],.str [],.str [],.str [],.str [],.str [],.lit (.int .i64 0),.lit (.int .i64 0),.str [],.lit (.int .i64 0),.sl .full 0 [],.sl .full 0 [],.str [],.str [],.sl .full 0 [],.lit (.int .i64 0),.str [],.lit (.int .i64 0),.lit (.int .i64 0),.str [],.sl .full 0 [],.sl .full 0 [],.str [],.str [],.lit (.int .i64 0),.str [],.sl .full 0 []]⟩:=rfl
@[go_sem] theorem eu9:L 87=⟨.slice 5,1,24,[.sl .full 0 []]⟩:=rfl
@[go_sem] theorem eu8:L 93=⟨.slice 87,1,24,[.sl .full 0 []]⟩:=rfl
@[go_sem] theorem eu7:L 109=⟨.struct [(0,3),(1,9),(2,37),(4,9),(5,3),(6,3),(7,3),(8,4),(9,3)],10,112,[.lit (.int .i64 0),.str [],.str [],.str [],.str [],.lit (.int .i64 0),.lit (.int .i64 0),.lit (.int .i64 0),.lit (.bool false),.lit (.int .i64 0)]⟩:=rfl
@[go_sem] theorem eu6:L 123=⟨.struct [(0,37),(2,9),(3,3)],4,56,[.str [],.str [],.str [],.lit (.int .i64 0)]⟩:=rfl
@[go_sem] theorem eu5:L 127=⟨.struct [(0,9),(1,37),(3,9),(4,9),(5,9),(6,9)],7,112,[.str [],.str [],.str [],.str [],.str [],.str [],.str []]⟩:=rfl
@[go_sem] theorem eu4:L 140=⟨.struct [(0,9),(1,35)],6,96,[.str [],.lit (.int .i64 0),.lit (.int .i64 0),.str [],.sl .full 0 [],.sl .full 0 []]⟩:=rfl
@[go_sem] theorem eu3:L 167=⟨.arr 128 5,128,128,List.replicate 128 (.lit (.int .u8 0))⟩:=rfl
@[go_sem] theorem eu2:L 169=⟨.struct [(0,3),(1,167)],129,136,(.lit (.int .i64 0)::List.replicate 128 (.lit (.int .u8 0)))⟩:=rfl
@[go_sem] theorem eu1:L 175=⟨.struct [(0,93),(1,3)],2,32,[.sl .full 0 [],.lit (.int .i64 0)]⟩:=rfl
@[go_sem] theorem eu0:L 176=⟨.ptr 178,1,8,[.lit (.pointer none)]⟩:=rfl
@[go_sem] theorem et9:L 178=⟨.struct [(0,59),(4,3)],5,72,[.sl .full 0 [],.sl .full 0 [],.lit (.int .i64 0),.lit (.bool false),.lit (.int .i64 0)]⟩:=rfl
@[go_sem] theorem et8:L 228=⟨.slice 140,1,24,[.sl .full 0 []]⟩:=rfl
@[go_sem] theorem et7:L 243=⟨.struct [(0,9),(1,3)],2,24,[.str [],.lit (.int .i64 0)]⟩:=rfl
@[go_sem] theorem et6:L 251=⟨.slice 256,1,24,[.sl .full 0 []]⟩:=rfl
@[go_sem] theorem et5:L 256=⟨.struct [(0,3),(1,3),(2,5),(3,87)],4,48,[.lit (.int .i64 0),.lit (.int .i64 0),.lit (.int .u8 0),.sl .full 0 []]⟩:=rfl
@[go_sem] theorem et4:L 259=⟨.struct [(0,93),(1,31)],2,32,[.sl .full 0 [],.lit (.int .i64 0)]⟩:=rfl
@[go_sem] theorem et3:L 276=⟨.struct [(0,176),(1,3),(2,3)],3,24,[.lit (.pointer none),.lit (.int .i64 0),.lit (.int .i64 0)]⟩:=rfl
@[go_sem] theorem et2:L 288=⟨.slice 32,1,24,[.sl .full 0 []]⟩:=rfl
@[go_sem] theorem et1:L 292=⟨.int .u64,1,8,[.lit (.int .u64 0)]⟩:=rfl
@[go_sem] theorem et0:L 341=⟨.ptr 343,1,8,[.lit (.pointer none)]⟩:=rfl
@[go_sem] theorem es9:L 343=⟨.struct [(0,341),(1,87)],2,32,[.lit (.pointer none),.sl .full 0 []]⟩:=rfl
@[go_sem] theorem es8:L 345=⟨.struct [(0,343)],2,32,[.lit (.pointer none),.sl .full 0 []]⟩:=rfl
@[go_sem] theorem es6:L 352=⟨.struct [(0,33)],1,24,[.sl .full 0 []]⟩:=rfl
@[go_sem] theorem es4:L 362=⟨.int .u32,1,4,[.lit (.int .u32 0)]⟩:=rfl
@[go_sem] theorem er9:L 364=⟨.int .u64,1,8,[.lit (.int .u64 0)]⟩:=rfl
@[go_sem] theorem er7:L 368=⟨.struct [(0,9),(1,9)],2,32,[.str [],.str []]⟩:=rfl
@[go_sem] theorem er6:L 374=⟨.arr 24 5,24,24,List.replicate 24 (.lit (.int .u8 0))⟩:=rfl
@[go_sem] theorem er5:L 381=⟨.ptr 388,1,8,[.lit (.pointer none)]⟩:=rfl
@[go_sem] theorem er4:L 382=⟨.arr 80 364,80,640,List.replicate 80 (.lit (.int .u64 0))⟩:=rfl
@[go_sem] theorem er3:L 383=⟨.one,1,8,[.lit .nilFunc]⟩:=rfl
@[go_sem] theorem er2:L 385=⟨.one,1,8,[.lit .nilFunc]⟩:=rfl
@[go_sem] theorem er1:L 386=⟨.arr 8 362,8,32,[.lit (.int .u32 0),.lit (.int .u32 0),.lit (.int .u32 0),.lit (.int .u32 0),.lit (.int .u32 0),.lit (.int .u32 0),.lit (.int .u32 0),.lit (.int .u32 0)]⟩:=rfl
@[go_sem] theorem er0:L 388=⟨.struct [(0,386),(8,3),(9,383),(10,385),(11,385),(12,385),(13,385)],14,80,[.lit (.int .u32 0),.lit (.int .u32 0),.lit (.int .u32 0),.lit (.int .u32 0),.lit (.int .u32 0),.lit (.int .u32 0),.lit (.int .u32 0),.lit (.int .u32 0),.lit (.int .i64 0),.lit .nilFunc,.lit .nilFunc,.lit .nilFunc,.lit .nilFunc,.lit .nilFunc]⟩:=rfl
@[go_sem] theorem eq9:L 389=⟨.arr 8 364,8,64,[.lit (.int .u64 0),.lit (.int .u64 0),.lit (.int .u64 0),.lit (.int .u64 0),.lit (.int .u64 0),.lit (.int .u64 0),.lit (.int .u64 0),.lit (.int .u64 0)]⟩:=rfl
@[go_sem] theorem eq8:L 394=⟨.arr 256 5,256,256,List.replicate 256 (.lit (.int .u8 0))⟩:=rfl
@[go_sem] theorem eq7:L 396=⟨.struct [(0,5),(1,5)],2,2,[.lit (.int .u8 0),.lit (.int .u8 0)]⟩:=rfl
@[go_sem] theorem eq6:L 397=⟨.arr 16 396,32,32,List.replicate 32 (.lit (.int .u8 0))⟩:=rfl
@[go_sem] theorem eq5:L 413=⟨.iface,1,16,[.lit .nilIface]⟩:=rfl
@[go_sem] theorem eq4:L 417=⟨.arr 256 4,256,256,List.replicate 256 (.lit (.bool false))⟩:=rfl
@[go_sem] theorem eq3:L 432=⟨.ptr 5,1,8,[.lit (.pointer none)]⟩:=rfl
@[go_sem] theorem eq2:L 436=⟨.struct [(0,9),(1,3)],2,24,[.str [],.lit (.int .i64 0)]⟩:=rfl
@[go_sem] theorem eq1:L 438=⟨.struct [(0,436),(2,31)],3,32,[.str [],.lit (.int .i64 0),.lit (.int .i64 0)]⟩:=rfl
@[go_sem] theorem eq0:L 448=⟨.map 9 368,1,8,[.lit (.map none)]⟩:=rfl
@[go_sem] theorem ep9:L 451=⟨.arr 20 364,20,160,List.replicate 20 (.lit (.int .u64 0))⟩:=rfl
@[go_sem] theorem ep8:L 464=⟨.slice 3,1,24,[.sl .full 0 []]⟩:=rfl
@[go_sem] theorem ep7:L 466=⟨.arr 16 362,16,64,List.replicate 16 (.lit (.int .u32 0))⟩:=rfl
@[go_sem] theorem ep6:L 499=⟨.slice 362,1,24,[.sl .full 0 []]⟩:=rfl
@[go_sem] theorem ep5:L 511=⟨.uptr,1,8,[.lit (.pointer none)]⟩:=rfl
@[go_sem] theorem ep4:L 532=⟨.int .i64,1,8,[.lit (.int .i64 0)]⟩:=rfl
@[go_sem] theorem ep3:L 533=⟨.ptr 538,1,8,[.lit (.pointer none)]⟩:=rfl
@[go_sem] theorem ep2:L 538=⟨.struct [(0,9),(1,9),(2,413)],3,48,[.str [],.str [],.lit .nilIface]⟩:=rfl
theorem o8(mu:List Nat)(rs:List ResultVar)(n:Nat){f:FuncId}{fn:Func}{c:Code}{args:List AV}{H:List AObj}{R:AV->List AObj->Prop}(hf:Tryz.prog.funcs[f]?=some fn)(h:vcC Tryz.prog L mu n c (by5 L rs H R) (aF6 0 args) H)(hb:fn.body=some c:=by exact rfl)(hname:(fn.name== "runtime.NumGoroutine")=false:=by exact rfl)(hn:fn.ntmps=n:=by exact rfl)(hrs:fn.results.toList=rs:=by exact rfl)(hargs:args.length<=n:=by exact nlb rfl)(ho:okC mu n c=true:=by kernel_rfl):o7 Tryz.prog f args H R:=dl2 ab6 mixed mu hf hb hname hn hrs hargs ho h
end V
end
section
namespace V
open Go Go.ChangeShapes Go.WideShapes Go.RowKit
def G₀(W:World):Gh:={imm:=fun b _=>b < W.heap.size,blk:=fun _=>0,own:=fun _=>(none,0),lp:=fun _=>none}
def ch0(W:World):Prop:=(∀g j v,(bi8 g)[j]?=some v->W.cell? ⟨g,j,none⟩=some v)/\(∀g t,bp3 g=some t-> ∃t v,W.cell? ⟨g,0,none⟩=some (.iface t v))/\ ∀g,dy4 g=true-> ∃n,W.cell? ⟨g,0,none⟩=some (.int .i64 n)
theorem eo0{W:World}(h:ch0 W):HInv (G₀ W) [] W:=by
 have lt: ∀g j v,W.cell? ⟨g,j,none⟩=some v->g < W.heap.size:=fun g j v this=>by
  rcases xq8 g W.heap.size with hl|hl
  ·exact hl
  ·simp[World.cell?,bo4 hl] at this
 exact⟨fun b off h=>h,fun k sh cs e=>by simp at e,fun k s n t e=>by simp at e,fun k k' b e=>by simp[site] at e,⟨⟨⟨fun g j v e=>⟨lt g j v (h.1 g j v e),h.1 g j v e⟩,
  fun g t e=>let ⟨u,v,hv⟩:=h.2.1 g t e;⟨lt g 0 _ hv,u,v,hv⟩,fun g e=>let ⟨n,hn⟩:=h.2.2 g e;⟨lt g 0 _ hn,n,hn⟩⟩,fun k x e=>(by simp at e)⟩,⟨fun k l e=>(by cases e),fun k k' l e=>(by cases e),fun k l r E e=>(by cases e)⟩⟩⟩
theorem de3{P:Program}{f:FuncId}{fn:Func}{W:World}{xs:List AV}{args:Array Value}(hf:P.funcs[f]?=some fn)(hb:fn.body.isSome=true)(hn:(fn.name== "runtime.NumGoroutine")=false)(ht:ch0 W)(hr:ax2 (G₀ W) [] W xs args)
  (hA:o7 P f xs [] (fun x H'=>x=.bool true/\H'=[])):Calls P f args W fun e W'=>e=.returned (.bool true)/\Below W.heap.size W W':=by
 refine((hA (G₀ W) W args (eo0 ht) hr).calls hf hb hn).mono ?_;rintro e w' ⟨v,rfl,x,G',H',hi,hs,hx,rfl,rfl⟩
 have:=ac0 hx;subst this;exact⟨rfl,hs.osEq,hs.tape,hs.output,hs.size,fun b hb=>hs.whole b fun off=>hb⟩
theorem b68{P:Program}{f:FuncId}{fn:Func}{args:List AV}{H:List AObj}{R:AV->List AObj->Prop}(hf:P.funcs[f]?=some fn)(hb:fn.body.isSome=true)(hn:(fn.name== "runtime.NumGoroutine")=false)
  (h: ∀G w vs,HInv G H w->ax2 G H w args vs->Calls P f vs w fun e w'=> ∃v x,e=.returned v/\More w w'/\(∀G',HInv G' H w'->Step G H w G' H w'->Rel G' H w' x v)/\R x H):o7 P f args H R:=fun G w vs hi ha=>
 .inl ⟨fn,hf,hb,hn,(h G w vs hi ha).mono fun _ _ ⟨v,x,e,hm,hx,r⟩=>⟨v,e,x,_,H,hm.inv hi,hm.step hi,hx _ (hm.inv hi) (hm.step hi),r⟩⟩
section
variable {H:Type}{enc:TypeId×Value->H}{P:Program}{W W':World}
theorem trod_below(K:Kids P (· < P.types.size))(hsz: ∀{t e:TypeId},t < P.types.size->P.underlying t=some (.slice e)->0 < P.cellsOf e)(hb:Below W.heap.size W W'){sp:Nat->Bool}:
  ∀{ts:List TypeId} {vs:List Value} {ds:List (DataW H)} {ps:List MemPlace},(∀t∈ts,t < P.types.size)->DataW.TrodAll enc P W 0 (fun _=>true) true ts vs ds ps->(∀p∈ps,sp p.block=true)->DataW.TrodAll enc P W' 0 sp true ts vs ds ps
 |[],vs,ds,ps,_,h,_=>by
  obtain⟨rfl,rfl,rfl⟩:=trodAll_nil h;exact trodAll_mk0
 |t::ts,vs,ds,ps,hT,h,hs=>by
  obtain⟨v,vs1,d,ds1,a,b,rfl,rfl,rfl,⟨n,h1⟩,h2⟩:=trodAll_cons h;refine⟨a,b,⟨n,DataW.trod_stays K hsz (fun h=>by cases h) (hT t (aD9 ..)) h1 (fun p hp=>hb.same (DataW.trod_lt n t _ _ h1 p hp)) fun p hp=>hs p (List.mem_append_left _ hp)⟩,?_,rfl⟩
  exact trod_below K hsz hb (fun t ht=>hT t (aJ4 _ ht)) h2 fun p hp=>hs p (List.mem_append_right _ hp)
theorem dx7(K:Kids P (· < P.types.size))(hsz: ∀{t e:TypeId},t < P.types.size->P.underlying t=some (.slice e)->0 < P.cellsOf e){f:Func}{s:ChangeSpec}{apart fresh handsOn again:Bool}{args:Array Value}{ds gs:List (DataW H)}{before:List MemPlace}
  (hT: ∀t∈f.params.toList,t < P.types.size) {tb:TypeId} (hres:f.resultTypes= #[tb]) (htb:P.underlying tb=some .bool) (hv:s.vars=[])
  (hspec: ∀ds:List (DataW H),ds.length=f.params.size->s.fn H ds={results:=[.lit (.bool true)],args:=ds})
  (hW:DataW.Whole enc P f.params.toList s.vars apart W args.toList ds gs before) (hb:Below W.heap.size W W'):s.post enc P f apart fresh handsOn again W args (.bool true) W':=by
 have hW':=hW;obtain⟨p,q,hA,hV,rfl,hfz,hnd⟩:=hW;rw[hv] at hV;obtain⟨rfl,rfl⟩:=trodVars_none hV;have hlen: ∀{ts:List TypeId} {vs:List Value} {ds:List (DataW H)} {ps:List MemPlace},DataW.TrodAll enc P W 0 (fun _=>true) true ts vs ds ps->ds.length=ts.length:=by
  intro ts;induction ts with
  |nil=>intro vs ds ps h;obtain⟨_,rfl,_⟩:=trodAll_nil h;rfl
  |cons t ts ih=>
   intro vs ds ps h;obtain⟨v,vs1,d,ds1,a,b,rfl,rfl,rfl,_,h2⟩:=trodAll_cons h;simp[ih h2]
 have hs:=hspec (ds++[]) (by rw[List.append_nil,hlen hA];simp)
 have hold: ∀p'∈p++[],(fun b=>decide (b < W.heap.size)) p'.block=true:=fun p' hp=>by simpa using hW'.lt p' hp
 have hres': ∀(b:Nat) (sp:Nat->Bool) (hd:Bool),DataW.TrodAll enc P W' b sp hd f.resultTypes.toList ((Value.bool true).resultList f.resultTypes.size) (s.fn H (ds++[])).results []:=fun b sp hd=>by
  rw[hs,hres];exact trodAll_mk1 (shut_bool htb true)
 have hargs: ∀sp:Nat->Bool,(∀p'∈p,sp p'.block=true)->DataW.TrodAll enc P W' 0 sp true f.params.toList args.toList (s.fn H (ds++[])).args p:=fun sp hsp=>by
  rw[hs,List.append_nil];exact trod_below K hsz hb hT hA hsp
 have hvars: ∀sp:Nat->Bool,DataW.TrodVars enc P W' sp s.vars (s.fn H (ds++[])).vars []:=fun sp=>by
  rw[hs,hv];rfl
 refine⟨ds,[],p++[],[],p,[],hW',hres' _ _ _,hargs _ (fun p' hp=>hold p' (List.mem_append_left _ hp)),hvars _,World.keptBut_mono (fun p' hp=>⟨hp,?_⟩) (hb.frame (· ∈p++[])),fun _=>?_⟩
 ·exact Or.inr (by simpa using hp)
 ·refine⟨fun j t r h1 h2=>?_,_,_,([]++p)++[],⟨[]++p,[],trodAll_append (hargs _ (fun _ _=>rfl)) (hres' _ _ _),hvars _,rfl,?_,?_⟩,?_⟩
  ·rw[hres] at h1 h2
   match j,h1,h2 with
   |0,h1,h2=>
    simp at h1
    have:r=.bool true:=by simpa [Value.resultList] using h2.symm
    subst h1;subst this;exact okWide_bool_mk htb true
   |j+1,h1,_=>simp at h1
  ·intro b off hp
   have hlt:b < W.heap.size:=hW'.lt (.cell b off) (by simpa using hp)
   rw[hb.frozen (p:=⟨b,off,none⟩) hlt];exact hfz b off (by simpa using hp)
  ·intro ha
   have:=hnd ha;simpa using this
  ·intro p' hp _
   simpa using hp
end
end V
end
section
namespace V
open Go Go.ChangeShapes Go.WideShapes Go.RowKit
theorem bZ0{s:Nat}(hs:0 < s): ∀{xs:List AV},(∀x∈xs,x.flat.length=s)-> ∀{j:Nat} {y:AV},(aa2 xs)[j]?=some y-> ∃x,xs[j/s]?=some x/\x.flat[j%s]?=some y
 |[],_,j,y,h=>by simp[aa2] at h
 |x::xs,hx,j,y,h=>by
  rw[ag6] at h;have hl:=hx x (aD9 ..);by_cases hj:j < s
  ·rw[xq4 (by omega)] at h
   rw[Nat.div_eq_of_lt hj,bu0 hj];exact⟨x,rfl,h⟩
  ·rw[xq5 (by omega),hl] at h
   obtain⟨z,h1,h2⟩:=bZ0 hs (fun x hx'=>hx x (aJ4 _ hx')) h
   refine⟨z,?_,?_⟩
   ·rw[show j/s=(j - s)/s+1 by rw[<-Nat.sub_add_cancel (Nat.le_of_not_lt hj),Nat.add_div_right _ hs];simp]
    simpa using h1
   ·rw[show j%s=(j - s)%s by rw[<-Nat.sub_add_cancel (Nat.le_of_not_lt hj),Nat.add_mod_right];simp]
    exact h2
def bF5(w:World)(x:AV)(cs:List Value):Prop:=x.okv=true/\x.flat.length=cs.length/\ ∀(j:Nat) y c,x.flat[j]?=some y->cs[j]?=some c->Rel (G₀ w) [] w y c
theorem bh6{w:World}{x:AV}{c:Value}(hx:x.flat=[x])(ho:x.okv=true)(h:Rel (G₀ w) [] w x c):bF5 w x [c]:=by
 refine⟨ho,by rw[hx];rfl,fun j y d e e'=>?_⟩
 rw[hx] at e;cases j with
 |zero=>simp at e e';subst e;subst e';exact h
 |succ j=>simp at e
section
variable {H:Type}{enc:TypeId×Value->H}{P:Program}{w:World}
def a98{α:Type}(enc:TypeId×Value->H)(P:Program)(w:World)(n:Nat)(t:TypeId)(f:α->AV)(p:α->Prop):Prop:=
 ∀(m:Nat) cs x,m<=n->DataW.trod enc P w 0 (fun _=>true) true m t cs=some x-> ∃v:α,p v/\bF5 w (f v) cs
theorem a98.zero{α:Type}{t:TypeId}{f:α->AV}{p:α->Prop}:a98 enc P w 0 t f p:=fun m cs x hm hx=>by
 obtain rfl:m=0:=by omega
 simp[DataW.trod] at hx
theorem a98.imp{α β:Type}{n:Nat}{t:TypeId}{f:α->AV}{p:α->Prop}{g:β->AV}{q:β->Prop}(h:a98 enc P w n t f p)(k: ∀v,p v-> ∃u,q u/\g u=f v):a98 enc P w n t g q:=fun m cs x hm hx=>by
 obtain⟨v,hv,hr⟩:=h m cs x hm hx;obtain⟨u,hu,e⟩:=k v hv;exact⟨u,hu,e▸hr⟩
theorem cS6{t:TypeId}(n:Nat)(ht:P.underlying t=some .bool):a98 enc P w n t (fun b:Bool=>.lit (.bool b)) (fun _=>True):=fun m cs x _ hx=>by
 obtain⟨b,rfl,_⟩:=DataW.trod_bool ht hx;exact⟨b,trivial,bh6 rfl rfl (.lit _)⟩
theorem aC8{t:TypeId}{k:IntKind}(n:Nat)(ht:P.underlying t=some (.int k)):a98 enc P w n t (fun i:Int=>.lit (.int k i)) (fun i=>k.min<=i/\i<=k.max):=fun m cs x _ hx=>by
 obtain⟨i,rfl,_,hw⟩:=DataW.trod_int ht hx;refine⟨i,?_,bh6 rfl rfl (.lit _)⟩;simp only[Lit.wf,xq3,decide_eq_true_eq] at hw;exact hw
theorem add_add(a:Addr)(i j:Nat):(a.add i).add j=a.add (i+j):=by
 unfold Addr.add;by_cases hi:i=0<;>by_cases hj:j=0<;>simp[hi,hj,bo3]
def aP2{α:Type}(D:DataW H->Prop)(enc:TypeId×Value->H)(P:Program)(w:World)(n:Nat)(t:TypeId)(f:α->AV)(p:α->Prop):Prop:=
 ∀(m:Nat) cs x,m<=n->DataW.trod enc P w 0 (fun _=>true) true m t cs=some x->D x.1-> ∃v:α,p v/\bF5 w (f v) cs
theorem a98.d{α:Type}{D:DataW H->Prop}{n:Nat}{t:TypeId}{f:α->AV}{p:α->Prop}(h:a98 enc P w n t f p):aP2 D enc P w n t f p:=fun m cs x hm hx _=>h m cs x hm hx
theorem aM3{α:Type}{D:DataW H->Prop}{Q:Nat->Prop}{t e:TypeId}{s n:Nat}{f:α->AV}{p:α->Prop}(hQ:Q 0)(hD: ∀es rs,D (.slice es rs)->Q es.length/\ ∀d∈es,D d)(ht:P.underlying t=some (.slice e))(hc:P.cellsOf e=s)(hs:0 < s)(h:aP2 D enc P w n e f p):
  aP2 D enc P w (n+1) t (fun l:List α=>.sl .sh s (l.map f)) (fun l=>l.length<=9223372036854775807/\Q l.length/\ ∀v∈l,p v):=fun m cs x hm hx hd=>by
 rcases DataW.trod_slice ht hx with⟨rfl,_⟩|⟨a,len,cap,elems,rest,k,hk,rfl,rfl,hb,hl,hcap,hlen,hel,_,_⟩
 ·refine⟨[],⟨by simp,hQ,fun v hv=>by cases hv⟩,bh6 rfl rfl ?_⟩
  exact .sl .sh s [] none 0 0 (fun _=>undef) rfl (xq0 _) (fun x hx=>by cases hx) (fun j x e=>by simp[aa2] at e) (fun j x e=>by simp[aa2] at e) (fun e=>by cases e) (fun h=>absurd h (by omega)) (fun k e=>by cases e)
 ·subst hc
  have each: ∀i,i < len-> ∃v:α,p v/\ ∃cs',w.cells? 0 (a.add (i*P.cellsOf e)) (P.cellsOf e)=some cs'/\bF5 w (f v) cs':=fun i hi=>by
   have:=hel i hi;rw[xq1 (by omega),Option.bind_eq_some_iff] at this
   obtain⟨cs',h1,h2⟩:=this;obtain⟨v,hv,hr⟩:=h k cs' _ (by omega) h2 ((hD _ _ hd).2 _ (xq9.2 ⟨_,aT3 _,rfl⟩))
   exact⟨v,hv,cs',h1,hr⟩
  obtain⟨g,hg⟩: ∃g:Nat->Option α,∀i,i < len-> ∃v,g i=some v/\p v/\ ∃cs',w.cells? 0 (a.add (i*P.cellsOf e)) (P.cellsOf e)=some cs'/\bF5 w (f v) cs':=by
   refine⟨fun i=>if hi:i < len then some (Classical.choose (each i hi)) else none,fun i hi=>?_⟩
   simp only[dif_pos hi];exact⟨_,rfl,Classical.choose_spec (each i hi)⟩
  have hget: ∀(n:Nat),n<=len->((List.range n).filterMap g).length=n/\ ∀i,i < n->((List.range n).filterMap g)[i]?=g i:=by
   intro n;induction n with
   |zero=>intro _;exact⟨rfl,fun i hi=>absurd hi (by omega)⟩
   |succ n ih=>
    intro hn;obtain⟨h1,h2⟩:=ih (by omega)
    obtain⟨v,hv,_⟩:=hg n (by omega)
    rw[List.range_succ,List.filterMap_append];have e1:List.filterMap g [n]=[v]:=by simp[hv]
    rw[e1];refine⟨by simp[h1],fun i hi=>?_⟩
    by_cases hin:i < n
    ·rw[xq4 (by omega)];exact h2 i hin
    ·obtain rfl:i=n:=by omega
     rw[xq5 (by omega),h1,ao4,hv]
     rfl
  obtain⟨l,hll,hlg⟩: ∃l:List α,l.length=len/\ ∀i,i < len->l[i]?=g i:=⟨_,hget len (xq0 _)⟩;have hat: ∀i v,l[i]?=some v->i < len/\p v/\ ∃cs',w.cells? 0 (a.add (i*P.cellsOf e)) (P.cellsOf e)=some cs'/\bF5 w (f v) cs':=fun i v hv=>by
   have hi:i < len:=by have:=aa0 hv;omega
   rw[hlg i hi] at hv;obtain⟨v',h1,h2⟩:=hg i hi;rw[h1] at hv;cases hv
   exact⟨hi,h2⟩
  have huni: ∀y∈l.map f,y.flat.length=P.cellsOf e/\y.okv=true:=fun y hy=>by
   obtain⟨v,hv,rfl⟩:=xq9.1 hy;obtain⟨i,hi⟩:=List.getElem?_of_mem hv;obtain⟨_,_,cs',h1,h2,h3,_⟩:=hat i v hi;exact⟨by rw[h3];exact(World.cells?_some h1).2.1,h2⟩
  have hmax:len<=9223372036854775807:=by unfold maxLen at hcap;omega
  refine⟨l,⟨by rw[hll];exact hmax,by have:=(hD _ _ hd).1;rw[List.length_map,hlen] at this;rw[hll];exact this,fun v hv=>?_⟩,bh6 rfl rfl ?_⟩
  ·obtain⟨i,hi⟩:=List.getElem?_of_mem hv
   exact(hat i v hi).2.1
  ·by_cases h0:len=0
   ·have hnil:l=[]:=aB0 (by omega)
    rw[hnil];exact .sl .sh _ [] _ _ _ (fun _=>undef) (by simp[h0]) hl (fun x hx=>by cases hx) (fun j x e=>by simp[aa2] at e) (fun j x e=>by simp[aa2] at e) (fun e=>by cases e) (fun h=>absurd h (by omega)) (fun k e=>by cases e)
   ·have hcellat: ∀(j:Nat) y,(aa2 (l.map f))[j]?=some y-> ∃u,w.cell? (a.add j)=some u/\Rel (G₀ w) [] w y u:=fun j y hj=>by
     obtain⟨z,h1,h2⟩:=bZ0 hs (fun y hy=>(huni y hy).1) hj
     rw[xq7,cN9] at h1;obtain⟨v,hv,rfl⟩:=h1;obtain⟨hi,_,cs',hc',_,hl',hr⟩:=hat _ v hv;obtain⟨_,hn',hcell⟩:=World.cells?_some hc';have hlt:j%P.cellsOf e < P.cellsOf e:=Nat.mod_lt _ hs;have:=hcell (j%P.cellsOf e) hlt;rw[xq1 (by omega)] at this
     refine⟨_,?_,hr _ _ _ h2 (xq1 (by omega))⟩
     rw[<-this,add_add,Nat.mul_comm,Nat.div_add_mod]
    have hlen0:0 < (aa2 (l.map f)).length:=by
     rw[af5 fun y hy=>(huni y hy).1,List.length_map,hll]
     exact Nat.mul_pos (by omega) hs
    obtain⟨u,hu,_⟩:=hcellat 0 _ (xq1 hlen0);obtain⟨b,off,rfl⟩: ∃b off,a=⟨b,off,none⟩:=by
     obtain⟨b,off,sp⟩:=a;cases sp with
     |none=>exact⟨b,off,rfl⟩
     |some k=>
      simp only[Addr.add,if_true,World.cell?] at hu;split at hu<;>simp at hu
    refine bl3 (by simp[hll]) hl huni fun j y hj=>?_
    obtain⟨u,hu,hr⟩:=hcellat j y hj;have hadd:(Addr.mk b off none).add j=⟨b,off+j,none⟩:=by
     unfold Addr.add;split
     ·rename_i e;subst e;rfl
     ·rfl
    rw[hadd] at hu;refine⟨?_,u,hu,hr⟩;show b < w.heap.size
    rcases xq8 b w.heap.size with hlt|hlt
    ·exact hlt
    ·simp[World.cell?,bo4 hlt] at hu
theorem bJ8{w:World}{x:AV}{v:Value}{xs:List AV}{vs:List Value}(h:Rel (G₀ w) [] w x v)(k:ax2 (G₀ w) [] w xs vs.toArray):ax2 (G₀ w) [] w (x::xs) (v::vs).toArray:=⟨by simpa using k.1,fun j y u e e'=>by
 cases j with
 |zero=>simp at e e';subst e;subst e';exact h
 |succ j=>exact k.2 j y u (by simpa using e) (by simpa using e')⟩
theorem cQ9{w:World}:ax2 (G₀ w) [] w [] ([]:List Value).toArray:=⟨rfl,fun j y u e e'=>by simp at e⟩
theorem bV4{w:World}{xs:List AV}{cs:Array Value}(h:bF5 w (.agg xs) (Value.agg cs).cells.toList):Rel (G₀ w) [] w (.agg xs) (.agg cs):=
 .agg _ _ (by have:=h.2.1;simpa [AV.flat,Value.cells] using this.symm) fun j x v e e'=>h.2.2 j x v e (by simpa [Value.cells] using e')
end
end V
end
section
namespace V
open Go
inductive Frz1(H:List AObj)(k:Nat):AV->AV->Prop
 |keep (x:AV):Frz1 H k x x
 |any (x:AV):Frz1 H k x .any
 |row (len s:Nat) (sh:Shape) (cs xs:List AV) (ho:H[k]?=some (.cells sh cs)) (hx:xs.length=len) (hs: ∀x∈xs,x.flat.length=s/\x.okv=true) (hl:(aa2 xs).length<=cs.length)
   (h: ∀(j:Nat) c y,cs[j]?=some c->(aa2 xs)[j]?=some y->Frz1 H k c y):Frz1 H k (.mrow k len) (.sl .sh s xs)
 |msl (off len cap s:Nat) (sh:Shape) (cs xs:List AV) (ho:H[k]?=some (.cells sh cs)) (hx:xs.length=len) (hs: ∀x∈xs,x.flat.length=s/\x.okv=true) (hl:off+(aa2 xs).length<=cs.length)
   (h: ∀(j:Nat) c y,cs[off+j]?=some c->(aa2 xs)[j]?=some y->Frz1 H k c y):Frz1 H k (.msl k off len cap) (.sl .sh s xs)
 |mp (off:Nat) (sh:Shape) (cs:List AV) (x:AV) (ho:H[k]?=some (.cells sh cs)) (hl:off+x.flat.length<=cs.length)
   (h: ∀(j:Nat) c y,cs[off+j]?=some c->x.flat[j]?=some y->Frz1 H k c y):Frz1 H k (.mp k off) (.ip x)
 |agg (cs ds:List AV) (hl:ds.length=cs.length) (h: ∀(j:Nat) c d,cs[j]?=some c->ds[j]?=some d->Frz1 H k c d):Frz1 H k (.agg cs) (.agg ds)
 |tup (cs ds:List AV) (hl:ds.length=cs.length) (h: ∀(j:Nat) c d,cs[j]?=some c->ds[j]?=some d->Frz1 H k c d):Frz1 H k (.tup cs) (.tup ds)
 |ifc (t:TypeId) (x y:AV) (h:Frz1 H k x y):Frz1 H k (.ifc t x) (.ifc t y)
def cv1(G:Gh)(k:Nat):Gh:={G with imm:=fun b off=>G.imm b off\/b=G.blk k}
theorem b59{G:Gh}{H:List AObj}{w:World}(hi:HInv G H w){k:Nat}{sh:Shape}{cs:List AV}(hk:H[k]?=some (.cells sh cs)):HInv (cv1 G k) (H.set k .gone) w/\Step G H w (cv1 G k) (H.set k .gone) w:=by
 obtain⟨hi1,st1⟩:=bB4 hi hk;have st2:Step G (H.set k .gone) w (cv1 G k) (H.set k .gone) w:=⟨rfl,rfl,rfl,xq0 _,fun _ _ h=>.inl h,fun _ _ _=>rfl,fun _ _=>rfl,fun i=>by
  cases e:(H.set k AObj.gone)[i]? with
  |none=>exact aN5 e
  |some o=>
   cases o with
   |cells t c=>exact⟨⟨_,e,rfl⟩,rfl,rfl⟩
   |mo x=>exact⟨⟨_,e,rfl⟩,rfl,rfl⟩
   |gone=>exact⟨e,rfl,rfl⟩
   |loop r E=>exact⟨e,rfl,rfl⟩
   |grow s n t=>exact⟨n,e,xq0 _,fun _=>rfl⟩⟩
 have hsk:site G H k=some (G.blk k):=aQ9 hi hk;refine⟨⟨fun b off h=>?_,fun i sh1 c ei=>?_,fun i s n t ei=>?_,hi1.apart,hi1.tabs.step st2 fun i x e=>⟨e,rfl,fun off h=>h.elim id fun h=>by
  rcases af6 e with⟨hik,e'⟩|⟨_,e',_⟩
  ·exact absurd h (hi.mo_apart e' hsk hik)
  ·cases e'⟩⟩,st1.trans st2⟩
 ·rcases h with h|h
  ·exact hi.lt b off h
  ·have h:b=G.blk k:=h
   rw[h];exact hi.site_lt hsk
 ·obtain⟨arr,T,fr,hb,hs,hr,hf1,hf2⟩:=hi1.cells i sh1 c ei
  refine⟨arr,T,fr,hb,hs,fun j x v ex ev=>(hr j x v ex ev).mono st2,fun off h=>?_,hf2⟩
  rcases h with h|h
  ·exact hf1 off h
  ·have h:G.blk i=G.blk k:=h
   rcases af6 ei with⟨hik,ei'⟩|⟨_,ei',_⟩
   ·exact hik (hi.apart i k (G.blk k) (by simp[site,ei',h]) hsk)
   ·cases ei'
 ·rcases af6 ei with⟨hik,ei'⟩|⟨_,ei',_⟩
  ·obtain⟨h0,h1,h2,h3⟩:=hi1.grow i s n t ei
   have hne: ∀b off,(G.own i).1=some ⟨b,off,none⟩->(n < (G.own i).2\/t.isSome=true/\0 < (G.own i).2)->b≠G.blk k:=fun b off ea hc e=>by
    refine hik (hi.apart i k (G.blk k) ?_ hsk);unfold site;rw[ei',show G.own i=(some ⟨b,off,none⟩,(G.own i).2) by rw[<-ea]]
    simp only;rw[if_pos hc,e]
   refine⟨h0,h1,fun hn=>?_,aj1 h3 rfl (xq0 _) (fun b arr e fr hb=>⟨arr,hb,rfl⟩) fun b off arr e fr hb ea hc ht hx _=>?_⟩
   ·obtain⟨b,off,arr,T,fr,ea,hb,hsz,hj⟩:=h2 hn
    refine⟨b,off,arr,T,fr,ea,hb,hsz,fun j h4 h5=>⟨?_,(hj j h4 h5).2⟩⟩
    rintro(h|h)
    ·exact(hj j h4 h5).1 h
    ·exact hne b off ea (.inl hn) h
   ·rcases hx with hx|hx
    ·exact hx
    ·exact absurd hx (hne b 0 ea (.inr ⟨ht,hc⟩))
  ·cases ei'
theorem cK3{G:Gh}{H:List AObj}{w:World}(hi:HInv G H w){k:Nat}{sh:Shape}{cs:List AV}(hk:H[k]?=some (.cells sh cs)){x y:AV}(f:Frz1 H k x y): ∀v,Rel G H w x v->Rel (cv1 G k) (H.set k .gone) w y v:=by
 obtain⟨_,st⟩:=b59 hi hk;have cell: ∀sh cs,H[k]?=some (.cells sh cs)-> ∃arr:Array Value,cs.length<=arr.size/\(∀(j:Nat) x v,cs[j]?=some x->arr[j]?=some v->Rel G H w x v)/\ ∀j,(cv1 G k).imm (G.blk k) j/\w.cell? ⟨G.blk k,j,none⟩=arr[j]?:=fun sh cs ho=>by
  obtain⟨arr,T,fr,hb,hsz,hr,_⟩:=hi.cells k sh cs ho;exact⟨arr,hsz,hr,fun j=>⟨.inr rfl,aq7 hb⟩⟩
 induction f with
 |keep x=>intro v r;exact r.mono st
 |any x=>intro v r;exact .any v
 |row len s sh cs xs ho hx hs hl h ih=>
  intro v r;obtain⟨arr,hsz,hr,hc⟩:=cell _ cs ho;cases r with
  |mrow _ _ o h1 h2 hcap=>
   refine .sl .sh s xs _ _ _ (fun j=>(arr[j]?).getD undef) hx.symm hcap hs (fun j y e=>?_) (fun j y e=>?_) (fun e=>by cases e) (fun _=>rfl) (fun k e=>by cases e)
   ·have hj:=aa0 e
    have ha:arr[j]?=some (arr[j]'(by omega)):=xq2 _
    refine⟨G.blk k,0,rfl,?_,?_⟩
    ·rw[Nat.zero_add];exact(hc j).1
    ·rw[Nat.zero_add,(hc j).2,ha];rfl
   ·have hj:=aa0 e
    have ha:arr[j]?=some (arr[j]'(by omega)):=xq2 _
    have hcj:cs[j]?=some (cs[j]'(by omega)):=xq1 _
    have:=ih j _ y hcj e _ (hr j _ _ hcj ha);rw[ha];exact this
 |msl off len cap s sh cs xs ho hx hs hl h ih=>
  intro v r;obtain⟨arr,hsz,hr,hc⟩:=cell _ cs ho;cases r with
  |msl _ _ _ _ o h1 h2 hcap=>
   refine .sl .sh s xs _ _ _ (fun j=>(arr[off+j]?).getD undef) hx.symm hcap hs (fun j y e=>?_) (fun j y e=>?_) (fun e=>by cases e) (fun _=>rfl) (fun k e=>by cases e)
   ·have hj:=aa0 e
    have ha:arr[off+j]?=some (arr[off+j]'(by omega)):=xq2 _
    refine⟨G.blk k,off,rfl,(hc _).1,?_⟩;rw[(hc _).2,ha];rfl
   ·have hj:=aa0 e
    have ha:arr[off+j]?=some (arr[off+j]'(by omega)):=xq2 _
    have hcj:cs[off+j]?=some (cs[off+j]'(by omega)):=xq1 _
    have:=ih j _ y hcj e _ (hr _ _ _ hcj ha);rw[ha];exact this
 |mp off sh cs x ho hl h ih=>
  intro v r;obtain⟨arr,hsz,hr,hc⟩:=cell _ cs ho;cases r with
  |mp _ _ o h1 h2=>
   refine .ip x _ _ (fun j=>(arr[off+j]?).getD undef) (fun j y e=>?_) (fun j y e=>?_)
   ·have hj:=aa0 e
    have ha:arr[off+j]?=some (arr[off+j]'(by omega)):=xq2 _
    refine⟨(hc _).1,?_⟩;rw[(hc _).2,ha];rfl
   ·have hj:=aa0 e
    have ha:arr[off+j]?=some (arr[off+j]'(by omega)):=xq2 _
    have hcj:cs[off+j]?=some (cs[off+j]'(by omega)):=xq1 _
    have:=ih j _ y hcj e _ (hr _ _ _ hcj ha);rw[ha];exact this
 |agg cs ds hl h ih=>
  intro v r;cases r with
  |agg _ arr ha hr=>
   refine .agg ds arr (ha.trans hl.symm) fun j y u e e'=>?_
   have hj:=aa0 e;have hcj:cs[j]?=some (cs[j]'(by omega)):=xq1 _
   exact ih j _ y hcj e _ (hr j _ u hcj e')
 |tup cs ds hl h ih=>
  intro v r;cases r with
  |tup _ arr ha hr=>
   refine .tup ds arr (ha.trans hl.symm) fun j y u e e'=>?_
   have hj:=aa0 e;have hcj:cs[j]?=some (cs[j]'(by omega)):=xq1 _
   exact ih j _ y hcj e _ (hr j _ u hcj e')
 |ifc t x y h ih=>
  intro v r;cases r with
  |ifc _ _ u hr=>exact .ifc t y u (ih u hr)
theorem dB5{H₀ H:List AObj}{x x' y:AV}{k:Nat}{sh:Shape}{cs:List AV}(hle:Le x x')(hk:H[k]?=some (.cells sh cs))(f:Frz1 H k x' y):Ends H₀ x H y (H.set k .gone):=fun G₀ w₀ G w v h0 hi hs r=>by
 obtain⟨hi',st⟩:=b59 hi hk;exact⟨_,hi',hs.trans st,cK3 hi hk f v (hle _ _ _ _ r)⟩
theorem ee2{P:Program}{n:Nat}{c:Code}{Q:Exit->Env->List AObj->Prop}{env env':Env}{H:List AObj}{k:Nat}{sh:Shape}{cs:List AV}(hk:H[k]?=some (.cells sh cs))(hf: ∀t,Frz1 H k (get env t) (get env' t))
  (h:AW P n c Q env' (H.set k .gone)):AW P n c Q env H:=fun ro N ds G a w s=>by
 obtain⟨hi',st⟩:=b59 s.inv hk;exact wpIn_mono (h ro N ds _ a w ⟨s.size,s.defers,fun t=>cK3 s.inv hk (hf t) _ (s.env t),hi'⟩) fun _ _ _ p=>p.trans st
theorem b40{G:Gh}{H:List AObj}{w:World}(hi:HInv G H w){k:Nat}{sh:Shape}{cs:List AV}(hk:H[k]?=some (.cells sh cs)){cs':List AV}{sh':Shape}{arr:Array Value}{T:TypeId}{fr:Nat×Nat}
  (hb:w.heap[G.blk k]?=some (.cells arr T fr)) (hr:aH5 G H w cs' arr) (hsh:aS0 G k sh' cs'.length T arr.size fr):
  HInv G (H.set k (.cells sh' cs')) w/\Step G H w G (H.set k (.cells sh' cs')) w:=by
 have hkl:=aa0 hk;obtain⟨arr0,T0,fr0,hb0,hs0,hr0,hf1,hf2,_⟩:=hi.cells k sh cs hk;rw[hb] at hb0;cases hb0
 have st:Step G H w G (H.set k (.cells sh' cs')) w:=by
  refine⟨rfl,rfl,rfl,xq0 _,fun _ _ h=>h,fun _ _ _=>rfl,fun _ _=>rfl,fun i=>?_⟩
  cases ei:H[i]? with
  |none=>exact bs1 ei
  |some o=>
   by_cases hik:i=k
   ·subst hik
    rw[hk] at ei;cases ei
    exact⟨⟨_,by simp[hkl];rfl,rfl⟩,rfl,rfl⟩
   ·have ea:(H.set k (.cells sh' cs'))[i]?=some o:=by rw[ar6 (fun h=>hik h.symm)];exact ei
    cases o with
    |cells t c=>exact⟨⟨_,ea,rfl⟩,rfl,rfl⟩
    |mo x=>exact⟨⟨_,ea,rfl⟩,rfl,rfl⟩
    |gone=>exact⟨ea,rfl,rfl⟩
    |loop r E=>exact⟨ea,rfl,rfl⟩
    |grow s n t=>exact⟨n,ea,xq0 _,fun _=>rfl⟩
 refine⟨⟨hi.lt,fun i sh1 c ei=>?_,fun i s n t ei=>?_,fun i j b e1 e2=>?_,hi.tabs.step st fun i x e=>by
  rcases af6 e with⟨_,e⟩|⟨_,e,_⟩
  ·exact⟨e,rfl,fun _ h=>h⟩
  ·cases e⟩,st⟩
 ·rcases af6 ei with⟨hik,ei'⟩|⟨rfl,ei',_⟩
  ·obtain⟨arr1,T1,fr1,hb1,hs1,hr1,hg⟩:=hi.cells i sh1 c ei'
   exact⟨arr1,T1,fr1,hb1,hs1,fun j x v ex ev=>(hr1 j x v ex ev).mono st,hg⟩
  ·cases ei'
   exact⟨arr,T,fr,hb,hr.1,fun j x v ex ev=>(hr.2 j x v ex ev).mono st,hf1,hf2,hsh⟩
 ·rcases af6 ei with⟨hik,ei'⟩|⟨_,ei',_⟩
  ·exact hi.grow i s n t ei'
  ·cases ei'
 ·have hs: ∀i b,site G (H.set k (.cells sh' cs')) i=some b->site G H i=some b:=fun i b e=>by
   unfold site at e⊢;cases ei:(H.set k (AObj.cells sh' cs'))[i]? with
   |none=>rw[ei] at e;cases e
   |some o=>
    rw[ei] at e;rcases af6 ei with⟨_,ei'⟩|⟨rfl,ei',_⟩
    ·rw[ei'];exact e
    ·subst ei';rw[hk];exact e
  exact hi.apart i j b (hs i b e1) (hs j b e2)
theorem open_row{G:Gh}{H:List AObj}{w:World}(hi:HInv G H w){k n s:Nat}{cs:List AV}(hk:H[k]?=some (.cells (.prow s) cs))(hl:cs.length=n*s){v:Value}(r:Rel G H w (.mrow k n) v):
  ∃T cap,n<=cap/\HInv G (H.set k (.cells (.one T) (cs++List.replicate ((cap - n)*s) .any))) w/\Step G H w G (H.set k (.cells (.one T) (cs++List.replicate ((cap - n)*s) .any))) w/\Rel G (H.set k (.cells (.one T) (cs++List.replicate ((cap - n)*s) .any))) w (.msl k 0 n cap) v:=by
 have hkl:=aa0 hk;obtain⟨arr,T,fr,hb,hsz,hr,hf1,hf2,hf3⟩:=hi.cells k _ cs hk;have hasz:arr.size=(G.own k).2*s:=hf3.2.1;cases r with
 |mrow _ _ o0 hk0 hb0 hcap=>
 have hsz':(cs++List.replicate (((G.own k).2 - n)*s) AV.any).length=arr.size:=by
  rw[List.length_append,List.length_replicate,hl,hasz,<-aA1];congr 1
  omega
 have hrel:aH5 G H w (cs++List.replicate (((G.own k).2 - n)*s) .any) arr:=by
  refine⟨aQ7 hsz',fun j x v e1 e2=>?_⟩
  by_cases hj:j < cs.length
  ·rw[xq4 hj] at e1
   exact hr j x v e1 e2
  ·rw[xq5 (by omega),b29] at e1
   split at e1
   ·cases e1;exact .any _
   ·cases e1
 obtain⟨hi',st⟩:=b40 hi hk hb hrel (sh':=.one T) ⟨rfl,hsz'.symm,hf3.2.2⟩;exact⟨T,(G.own k).2,hcap,hi',st,.msl k 0 n _ _ (by simp[hkl];rfl) rfl hcap⟩
theorem bq2{P:Program}{f:FuncId}{xs1 bs:List AV}{H:List AObj}{R:AV->List AObj->Prop}{k n s:Nat}{cs:List AV}(hk:H[k]?=some (.cells (.prow s) cs))(hl:cs.length=n*s)
  (h: ∀T cap,n<=cap->o7 P f (xs1++ .msl k 0 n cap::bs) (H.set k (.cells (.one T) (cs++List.replicate ((cap - n)*s) .any))) R):o7 P f (xs1++ .mrow k n::bs) H R:=fun G w vs hi ha=>by
 obtain⟨v,hv⟩: ∃v,vs[xs1.length]?=some v:=⟨_,xq2 (by rw[ha.1];simp)⟩
 obtain⟨T,cap,hc,hi',st,r⟩:=open_row hi hk hl (ha.2 xs1.length _ v (by simp) hv)
 refine(h T cap hc G w vs hi' ⟨by rw[ha.1];simp,fun j y u ey ev=>?_⟩).mono ?_
 ·rcases Nat.lt_trichotomy j xs1.length with hj|rfl|hj
  ·rw[xq4 hj] at ey
   exact(ha.2 j y u (by rw[xq4 hj];exact ey) ev).mono st
  ·rw[xq5 (xq0 _),ao4] at ey
   simp at ey
   subst ey;rw[hv] at ev;cases ev
   exact r
  ·obtain⟨i,rfl⟩: ∃i,j=xs1.length+(i+1):=⟨j - xs1.length - 1,by omega⟩
   rw[xq5 (by omega),au2,List.getElem?_cons_succ] at ey
   exact(ha.2 _ y u (by rw[xq5 (by omega),au2,List.getElem?_cons_succ];exact ey) ev).mono st
 ·rintro v w' ⟨x,G',H',h1,h2,h3,h4⟩
  exact⟨x,G',H',h1,st.trans h2,h3,h4⟩
theorem ap1{H₀ H H':List AObj}{R:AV->List AObj->Prop}{x y:AV}{k:Nat}{sh:Shape}{cs:List AV}(hk:H[k]?=some (.cells sh cs))(f:Frz1 H k x y)(hr:Done H₀ R y (H.set k .gone)):Done H₀ R x H:=by
 unfold Done at hr⊢;obtain⟨z,H'',he,hR⟩:=hr;exact⟨z,H'',be3 (dB5 (Le.refl x) hk f) he,hR⟩
end V
end
section
namespace V
open Go
section
variable {H M:List AObj}{o:AObj}{n k i:Nat}
theorem hg0(h:n=H.length):(H++M)[n]?=M[0]?:=by subst h;exact aH4
theorem hg1(h:n=H.length+1):(H++M)[n]?=M[1]?:=by subst h;exact ao7
theorem hg2(h:n=H.length+2):(H++M)[n]?=M[2]?:=by subst h;exact ao7
theorem hs0(h:n=H.length):(H++M).set n o=H++M.set 0 o:=by subst h;exact aP0
theorem hs1(h:n=H.length+1):(H++M).set n o=H++M.set 1 o:=by subst h;exact an1
theorem hs2(h:n=H.length+2):(H++M).set n o=H++M.set 2 o:=by subst h;exact an1
theorem hss(h:k < H.length):(H.set k o)[k]?=some o:=by simp[h]
theorem hsn(h:k≠i):(H.set k o)[i]?=H[i]?:=ar6 h
theorem az2(h:H[k]?=some o):H.set k o=H:=by
 refine aW9 fun i=>?_
 rw[bu3];split
 ·rename_i e;subst e;split
  ·exact h.symm
  ·rename_i hl;rw[aw1 (by omega)]
 ·rfl
end
attribute [go_sem] List.set_set hss List.length_set
theorem aC3{P:Program}{f:FuncId}{fn:Func}{e:Array Value->Sem Value}{args:List AV}{H:List AObj}{R:AV->List AObj->Prop}(hf:P.funcs[f]?=some fn)(hname:(fn.name== "runtime.NumGoroutine")=false)(hb:fn.body.isNone=true)(hn:Extern.findNext fn=none)(he:Extern.find fn=some e)
  (h: ∀G w vs,HInv G H w->ax2 G H w args vs-> ∃v w' x G' H',(e vs).run P w=.ok v w'/\HInv G' H' w'/\Step G H w G' H' w'/\Rel G' H' w' x v/\R x H'):o7 P f args H R:=fun G w vs hi ha=>by
 obtain⟨v,w',x,G',H',hr,h1,h2,h3,h4⟩:=h G w vs hi ha;refine .inr ⟨v,w',?_,x,G',H',h1,h2,h3,h4⟩;rw[run_callFunc_extern hf hname hb hn he,hr];rfl
theorem dp1{G:Gh}{H:List AObj}{w:World}{x:AV}{vs:Array Value}(h:ax2 G H w [x] vs): ∃v,vs= #[v]/\Rel G H w x v:=by
 obtain⟨hs,hr⟩:=h;obtain⟨l⟩:=vs;match l,hs with
 |[v],_=>exact⟨v,rfl,hr 0 x v rfl rfl⟩
theorem bh7{G:Gh}{H:List AObj}{w:World}{x y:AV}{vs:Array Value}(h:ax2 G H w [x,y] vs): ∃v u,vs= #[v,u]/\Rel G H w x v/\Rel G H w y u:=by
 obtain⟨hs,hr⟩:=h;obtain⟨l⟩:=vs;match l,hs with
 |[v,u],_=>exact⟨v,u,rfl,hr 0 x v rfl rfl,hr 1 y u rfl rfl⟩
theorem cZ2(x:AV)(H:List AObj):o7 Tryz.prog 433 [x] H (fun y H'=>y=x/\H'=H):=
 aC3 (e:=Extern.AbiNoEscape.same) Tryz.func433 (by kernel_rfl) (by kernel_rfl) (by kernel_rfl) (by kernel_rfl) fun G w vs hi ha=>by
  obtain⟨v,rfl,hv⟩:=dp1 ha;exact⟨v,w,x,G,H,Lib.run_noEscape w v,hi,.refl _ _ _,hv,rfl,rfl⟩
def aw2(l:List UInt8)(c:UInt8):Int:=if l.idxOf c < l.length then(l.idxOf c:Nat) else -1
theorem firstIdx_eq(l:List UInt8)(c:UInt8):firstIdx ⟨l.toArray⟩ c=aw2 l c:=by
 have hsz:(ByteArray.mk l.toArray).size=l.length:=by simp[ByteArray.size]
 have hget: ∀i,i < l.length->(ByteArray.mk l.toArray)[i]! =l.getD i 0:=fun i hi=>by
  rw[getElem!_pos (ByteArray.mk l.toArray) i (by rw[hsz];exact hi)]
  simp[List.getD,hi]
  rfl
 unfold firstIdx aw2;rw[hsz];by_cases h:l.idxOf c < l.length
 ·rw[if_pos h]
  have:(List.range l.length).find? (fun i=>(ByteArray.mk l.toArray)[i]! ==c)=some (l.idxOf c):=by
   rw[List.find?_eq_some_iff_getElem];refine⟨?_,l.idxOf c,by simpa using h,by simp,fun j hj=>?_⟩
   ·rw[hget _ h,List.getD,xq1 h]
    simp[bR6 h]
   ·rw[List.getElem_range,hget j (by omega),List.getD,xq1 (by omega)]
    have:=List.not_of_lt_findIdx (xs:=l) (p:=(· ==c)) hj;simpa using this
  rw[this]
 ·rw[if_neg h]
  have hn:c∉l:=fun hc=>h (bR5 hc)
  have:(List.range l.length).find? (fun i=>(ByteArray.mk l.toArray)[i]! ==c)=none:=by
   rw[List.find?_eq_none];intro i hi;rw[bg1] at hi;rw[hget i hi,List.getD,xq1 hi];simp only[Option.getD_some,beq_iff_eq];intro e;exact hn (e▸aT3 hi)
  rw[this]
theorem bJ2(l:List UInt8)(c:UInt8)(H:List AObj):o7 Tryz.prog 335 [.str l,o6 c] H (fun y H'=>y=.int .i64 (aw2 l c)/\H'=H):=
 aC3 (e:=Extern.BytealgIndexByte.indexByte) Tryz.func335 (by kernel_rfl) (by kernel_rfl) (by kernel_rfl) (by kernel_rfl) fun G w vs hi ha=>by
  obtain⟨v,u,rfl,hv,hu⟩:=bh7 ha;rw[ak9 hv,ac0 hu];refine⟨_,w,_,G,H,run_indexByte_string _ _ w,hi,.refl _ _ _,.lit _,?_,rfl⟩;have:((c.toNat:Int).toNat).toUInt8=c:=by simp
  rw[this,firstIdx_eq]
end V
end
section
open Go V
def bo8(b:UInt8):UInt8:=if 65<=b.toNat/\b.toNat<=90 then b+32 else b
def ay0(l:List UInt8)(i:Nat):List UInt8:=(l.take i).map bo8++l.drop i
theorem b88(l:List UInt8)(i:Nat):(ay0 l i).length=l.length:=by simp[ay0];omega
theorem bC5(l:List UInt8)(i:Nat):(ay0 l i).getD i 0=l.getD i 0:=by
 unfold ay0;by_cases h:i < l.length
 ·have e:((l.take i).map bo8).length=i:=by simp;omega
  rw[List.getD,xq5 (by omega),e,ao4,aL2,aD8,List.getD]
 ·rw[List.getD,aw1 (by simp;omega),List.getD,aw1 (by omega)]
theorem dS6{b:UInt8}{v:Int}(h1:65<=(b.toNat:Int))(h2:(b.toNat:Int)<=90)(hv:v=(b.toNat:Int)+32):(AV.lit (.int .u8 v))=o6 (bo8 b):=by
 subst hv;unfold o6 bo8;rw[if_pos (by omega),UInt8.toNat_add]
 have:(32:UInt8).toNat=32:=rfl;rw[this,bu0 (by omega)]
 rfl
theorem bX1{l:List UInt8}{i:Nat}(h:i < l.length):ay0 l (i+1)=(ay0 l i).set i (bo8 (l.getD i 0)):=by
 unfold ay0;have e:((l.take i).map bo8).length=i:=by simp;omega
 rw[az0 _ _ (by omega),e,ao4,aL3 h,List.set_cons_zero,b23,xq1 h,aJ3,List.append_assoc,List.getD,xq1 h]
 rfl
theorem bX0{l:List UInt8}{i:Nat}(h:i < l.length)(hb: ¬(65<=((ay0 l i).getD i 0).toNat/\((ay0 l i).getD i 0).toNat<=90)):ay0 l (i+1)=ay0 l i:=by
 rw[bC5] at hb;rw[bX1 h,bo8,if_neg hb,<-bC5];have:i < (ay0 l i).length:=by rw[b88];exact h
 rw[List.getD,xq1 this];exact List.set_getElem_self this
theorem dN2{l:List UInt8}{i:Nat}{v:Int}(h:i < l.length)(h1:65<=(((ay0 l i).getD i 0).toNat:Int))(h2:(((ay0 l i).getD i 0).toNat:Int)<=90)(hv:v=(((ay0 l i).getD i 0).toNat:Int)+32):
  ((ay0 l i).map o6).set i (AV.lit (.int .u8 v))=(ay0 l (i+1)).map o6:=by
 rw[dS6 h1 h2 hv,bC5,bX1 h,bz6]
theorem dd5(l:List UInt8):ay0 l l.length=l.map bo8:=by simp[ay0]
theorem en6: ∀n:Fin 256,65<=n.val->n.val<=90->(BitVec.ofInt 8 (n.val:Int)|||BitVec.ofInt 8 32).toNat=n.val+32:=by decide+kernel
theorem d60{b:UInt8}(h1:65<=(b.toNat:Int))(h2:(b.toNat:Int)<=90):IntKind.u8.wrap ((BitVec.ofInt IntKind.u8.bits (b.toNat:Int)|||BitVec.ofInt IntKind.u8.bits 32).toNat:Int)=(b.toNat:Int)+32:=by
 have:=en6 ⟨b.toNat,b.toNat_lt⟩ (by show 65<=b.toNat;omega) (by show b.toNat<=90;omega)
 show IntKind.u8.wrap ((BitVec.ofInt 8 (b.toNat:Int)|||BitVec.ofInt 8 32).toNat:Int)=_
 rw[this,IntWalk.u8_in _ (by show 0<=((b.toNat+32:Nat):Int)/\((b.toNat+32:Nat):Int)<=255;omega)]
 rfl
theorem d08(l:List UInt8)(H:List AObj)(hl:l.length<=100000):o7 Tryz.prog 282 [.str l] H (fun x H'=>x=.str (l.map bo8)/\H'=H):=by
 refine o8 [7] [.tmp 2] 29 Tryz.func282 ?_;repeat' simp -dsimp -implicitDefEqProofs only[go_sem]
 refine aa7 ab6 mixed [7] [2,3,8,9] (fun i:Nat=>i<=l.length) (fun i=>[(10,.int .i64 i)]) (fun i=>H++[.cells (.row 1) ((ay0 l i).map o6)]) (fun i=>l.length - i) (by kernel_rfl) ?_ 0 (aC0 _) aa3 (by rw[ay0];rfl)
 intro i hi;have hm:=b88 l i;repeat' first|refine l9 ?_|simp -dsimp -implicitDefEqProofs (disch:=first|omega|simp only[ll];omega) only[go_sem]|refine vcA ?_ ?_|omega|refine aa8 fun _=>?_
 ·refine again (i+1) ?_ ?_ ?_ aa3
  ·omega
  ·omega
  ·rw[dN2 (by omega) (by omega) (by omega) (d60 (by omega) (by omega))]
 ·refine again (i+1) ?_ ?_ ?_ aa3
  ·omega
  ·omega
  ·rw[bX0 (by omega) (by omega)]
 ·refine again (i+1) ?_ ?_ ?_ aa3
  ·omega
  ·omega
  ·rw[bX0 (by omega) (by omega)]
 ·obtain rfl:i=l.length:=by omega
  refine am7 (.str _) ⟨?_,rfl⟩;rw[dd5]
def ay8(l:List UInt8):Bool:=l.all fun c=>decide (32<=c.toNat/\c.toNat<=126)
theorem take_snoc{l:List UInt8}{i:Nat}(h:i < l.length):l.take (i+1)=l.take i++[l.getD i 0]:=by
 rw[b23];simp[List.getD,xq1 h]
theorem bY1{l:List UInt8}{i:Nat}(hi:i<=l.length)(h:i < l.length)(hp:ay8 (l.take i)=true):ay8 l=(decide (32<=(l.getD i 0).toNat/\(l.getD i 0).toNat<=126)&&ay8 (l.drop (i+1))):=by
 have e:l=l.take i++(l.getD i 0::l.drop (i+1)):=by
  rw[show l.getD i 0=l[i] by simp[List.getD,xq1 h],<-aL3 h,bt9]
 conv=>lhs;rw[e]
 unfold ay8 at*;rw[List.all_append,hp,List.all_cons,Bool.true_and]
theorem a97(l:List UInt8)(H:List AObj)(hl:l.length<=5000):o7 Tryz.prog 157 [.str l] H (fun x H'=>x=.bool (ay8 l)/\H'=H):=by
 refine o8 [] [.tmp 2] 20 Tryz.func157 ?_;repeat' simp -dsimp -implicitDefEqProofs only[go_sem]
 refine bG2 ab6 mixed [] (fun i:Nat=>i<=l.length/\ay8 (l.take i)=true) (fun i=>[(6,.int .i64 i),(5,.int .i64 l.length),(0,.str l)]) (fun _=>H) (fun i=>l.length - i) (by kernel_rfl) ?_ 0 ⟨by omega,rfl⟩ aa3 rfl
 intro i ⟨hi,hp⟩;repeat' first|refine l9 ?_|simp -dsimp -implicitDefEqProofs (disch:=omega) only[go_sem]|refine vcA ?_ ?_|omega|refine aa8 fun _=>?_
 ·refine o5 ⟨ad5 ?_,rfl⟩
  rw[bY1 hi (by omega) hp,decide_eq_false (by omega),az9]
 ·refine o5 ⟨ad5 ?_,rfl⟩
  rw[bY1 hi (by omega) hp,decide_eq_false (by omega),az9]
 ·refine again (i+1) ?_ ?_ rfl aa3
  ·omega
  ·refine⟨by omega,?_⟩
   rw[take_snoc (by omega),ay8,List.all_append,<-ay8,hp,List.all_cons,List.all_nil,decide_eq_true (by omega)]
   rfl
 ·refine o5 ⟨ad5 ?_,rfl⟩
  have:i=l.length:=by omega
  subst this;rw[aL1] at hp;rw[hp]
end
section
open Go V
def bD3(r:Int):Bool:=decide (0<=r/\r<=1114111/\(r < 55296\/57343 < r))
def byteOf(i:Int):UInt8:=UInt8.ofNat i.toNat
theorem cY1{i:Int}(h:0<=i/\i < 256):((byteOf i).toNat:Int)=i:=by
 unfold byteOf;have:(UInt8.ofNat i.toNat).toNat=i.toNat:=by simp;omega
 omega
theorem ax5{a b:Int}(h:0<=b/\b < 256)(e:a=b):AV.lit (.int .u8 a)=o6 (byteOf b):=by
 subst e;unfold o6;rw[cY1 h]
def enc1(r:Int):List UInt8:=
 if r < 128 then[byteOf r]
 else if r < 2048 then[byteOf (192+r/64),byteOf (128+r%64)]
 else if r < 65536 then[byteOf (224+r/4096),byteOf (128+r/64%64),byteOf (128+r%64)]
 else[byteOf (240+r/262144),byteOf (128+r/4096%64),byteOf (128+r/64%64),byteOf (128+r%64)]
theorem cv9(r:Int):(enc1 r).length<=4:=by
 unfold enc1;repeat' split
 all_goals simp
theorem ej1{a a':AV}(h:a=a'):[a]=[a']:=by rw[h]
theorem ej0{a a' b b':AV}(h:a=a')(h2:b=b'):[a,b]=[a',b']:=by rw[h,h2]
theorem dJ6{a a' b b' c c':AV}(h:a=a')(h2:b=b')(h3:c=c'):[a,b,c]=[a',b',c']:=by rw[h,h2,h3]
theorem list4{a a' b b' c c' d d':AV}(h:a=a')(h2:b=b')(h3:c=c')(h4:d=d'):[a,b,c,d]=[a',b',c',d']:=by rw[h,h2,h3,h4]
theorem da8{r:Int}(h1:r < 128):enc1 r=[byteOf r]:=if_pos h1
theorem da7{r:Int}(h1:128<=r)(h2:r < 2048):enc1 r=[byteOf (192+r/64),byteOf (128+r%64)]:=by rw[enc1,if_neg (by omega),if_pos h2]
theorem bW5{r:Int}(h1:2048<=r)(h2:r < 65536):enc1 r=[byteOf (224+r/4096),byteOf (128+r/64%64),byteOf (128+r%64)]:=by rw[enc1,if_neg (by omega),if_neg (by omega),if_pos h2]
theorem da6{r:Int}(h1:65536<=r):enc1 r=[byteOf (240+r/262144),byteOf (128+r/4096%64),byteOf (128+r/64%64),byteOf (128+r%64)]:=by rw[enc1,if_neg (by omega),if_neg (by omega),if_neg (by omega)]
theorem bU2{o:Own}{s:Nat}{xs ys:List AV}(h:xs=ys):AV.sl o s xs=AV.sl o s ys:=by rw[h]
theorem bk3{l:List UInt8}{r:Int}{xs:List AV}(h:xs=(enc1 r).map o6):l.map o6++xs=(l++enc1 r).map o6:=by rw[h,aJ3]
theorem cY4(l:List UInt8)(r:Int)(k:Nat)(H:List AObj){t:Option TypeId}(hk:H[k]?=some (.grow 1 l.length t))(ht:b48 t 5)(hr:bD3 r=true)(h1:128<=r)(hl:l.length<=100000):
  o7 Tryz.prog 457 [.sl (.tok k) 1 (l.map o6),.lit (.int .i32 r)] H (fun x H'=>x=.sl (.tok k) 1 ((l++enc1 r).map o6)/\H'=H.set k (.grow 1 (l.length+(enc1 r).length) t)):=by
 have hr':=of_decide_eq_true hr;refine o8 [] [.tmp 4] 78 Tryz.func457 ?_;repeat' first|refine l9 ?_|simp -dsimp -implicitDefEqProofs (disch:=omega) only[go_sem,bq7,ht,hk]|refine vcA ?_ ?_|omega|refine aa8 fun _=>?_
 ·refine aa5 _ (Le.refl _) (by simp) ⟨bU2 (bk3 ?_),by rw[da7 (by omega) (by omega)];rfl⟩
  rw[da7 (by omega) (by omega)];exact ej0 (ax5 (by omega) (by omega)) (ax5 (by omega) (by omega))
 ·refine aa5 _ (Le.refl _) (by simp) ⟨bU2 (bk3 ?_),by rw[bW5 (by omega) (by omega)];rfl⟩
  rw[bW5 (by omega) (by omega)];exact dJ6 (ax5 (by omega) (by omega)) (ax5 (by omega) (by omega)) (ax5 (by omega) (by omega))
 ·refine aa5 _ (Le.refl _) (by simp) ⟨bU2 (bk3 ?_),by rw[bW5 (by omega) (by omega)];rfl⟩
  rw[bW5 (by omega) (by omega)];exact dJ6 (ax5 (by omega) (by omega)) (ax5 (by omega) (by omega)) (ax5 (by omega) (by omega))
 ·refine aa5 _ (Le.refl _) (by simp) ⟨bU2 (bk3 ?_),by rw[da6 (by omega)];rfl⟩
  rw[da6 (by omega)];exact list4 (ax5 (by omega) (by omega)) (ax5 (by omega) (by omega)) (ax5 (by omega) (by omega)) (ax5 (by omega) (by omega))
theorem cy3(l:List UInt8)(r:Int)(k:Nat)(H:List AObj){t:Option TypeId}(hk:H[k]?=some (.grow 1 l.length t))(ht:b48 t 5)(hr:bD3 r=true)(hl:l.length<=100000):
  o7 Tryz.prog 451 [.sl (.tok k) 1 (l.map o6),.lit (.int .i32 r)] H (fun x H'=>x=.sl (.tok k) 1 ((l++enc1 r).map o6)/\H'=H.set k (.grow 1 (l.length+(enc1 r).length) t)):=by
 have hr':=of_decide_eq_true hr;refine o8 [] [.tmp 4] 16 Tryz.func451 ?_;repeat' first|refine l9 ?_|simp -dsimp -implicitDefEqProofs (disch:=omega) only[go_sem,bq7,ht,hk]|refine l7 (cY4 _ _ _ _ (by assumption) (by assumption) (by assumption) (by omega) (by omega)) ?_|refine vcA ?_ ?_|omega|refine aa8 fun _=>?_
 ·refine aa5 _ (Le.refl _) (by simp) ⟨bU2 (bk3 ?_),by rw[da8 (by omega)];rfl⟩
  rw[da8 (by omega)];exact ej1 (ax5 (by omega) (by omega))
 ·exact aa5 _ (Le.refl _) (by simp) ⟨rfl,rfl⟩
end
section
namespace V
open Go
theorem bM8{H:List AObj}{k m:Nat}{a b c:AObj}(h:k≠m):((H.set k a).set m b).set k c=(H.set k c).set m b:=by
 rw[List.set_comm _ _ (Ne.symm h),List.set_set]
def ap7(T:TypeId)(m:Nat)(a:AV)(bs:List UInt8):AObj:=.cells (.one T) [a,.sl (.tok m) 1 (bs.map o6)]
def ax7(n:Nat):AObj:=.grow 1 n (some 5)
def aD5(k:Nat)(a:AV):Prop:=a=.lit (.pointer none)\/a=.mp k 0
theorem an4{k:Nat}:aD5 k (.mp k 0):=.inr rfl
theorem b65{k:Nat}:aD5 k (.lit (.pointer none)):=.inl rfl
def bT(T:TypeId):Prop:=liesAt Tryz.prog Tryz.prog.depth T (2/Tryz.prog.cellsOf T) 0 343 1=true
theorem bs9:bT 343:=by unfold bT;kernel_rfl
theorem dn0{k:IntKind}{a a':Int}{v:AV}(h:a=a'):AV.tup [.lit (.int k a),v]=.tup [.lit (.int k a'),v]:=by rw[h]
theorem bN6(c:UInt8):[AV.lit (.int .u8 (c.toNat:Int))]=[c].map o6:=rfl
theorem bp7{T k m:Nat}{a:AV}{bs:List UInt8}{H:List AObj}(hT:bT T)(hk:H[k]?=some (ap7 T m a bs))(ha:aD5 k a):
  o7 Tryz.prog 399 [.mp k 0] H (fun x H'=>x=.tup []/\H'=H.set k (ap7 T m (.mp k 0) bs)):=by
 unfold ap7 bT at*;have hkl:=aa0 hk;rcases ha with rfl|rfl
 ·refine o8 [] [] 20 Tryz.func399 ?_
  repeat' first|refine l9 ?_|simp -dsimp -implicitDefEqProofs (disch:=omega) only[go_sem,hk,hT]|refine l7 (cZ2 _ _) ?_|fail
  exact aa5 _ (Le.refl _) (by simp) ⟨rfl,rfl⟩
 ·refine o8 [] [] 20 Tryz.func399 ?_
  repeat' first|refine l9 ?_|simp -dsimp -implicitDefEqProofs (disch:=omega) only[go_sem,hk,hT]
  exact aa5 _ (Le.refl _) (by simp) ⟨rfl,(az2 hk).symm⟩
theorem a96{T k m:Nat}{a:AV}{bs:List UInt8}{c:UInt8}{H:List AObj}(hT:bT T)(hk:H[k]?=some (ap7 T m a bs))(ha:aD5 k a)(hm:H[m]?=some (ax7 bs.length))(hl:bs.length<=100000000):
  o7 Tryz.prog 325 [.mp k 0,.lit (.int .u8 c.toNat)] H (fun x H'=>x=.lit .nilIface/\H'=(H.set k (ap7 T m (.mp k 0) (bs++[c]))).set m (ax7 (bs++[c]).length)):=by
 have hkl:=aa0 hk;have hml:=aa0 hm;have hkm:k≠m:=by intro e;subst e;rw[hk] at hm;cases hm
 have hmk:=hkm.symm;refine o8 [] [.tmp 4] 17 Tryz.func325 ?_;repeat' first|simp -dsimp -implicitDefEqProofs (disch:=assumption) only[go_sem,hsn,hm]|refine l7 (bp7 hT hk ha) ?_|refine vcA ?_ ?_|omega
 all_goals unfold ap7 ax7 at*
 all_goals repeat' simp -dsimp -implicitDefEqProofs only[go_sem,hsn,hm,ar6 hkm,ar6 hmk,bN6,bM8 hkm]
 all_goals exact aa5 _ (Le.refl _) (by simp) ⟨rfl,by simp⟩
theorem cc9{T k m:Nat}{a:AV}{bs l:List UInt8}{H:List AObj}(hT:bT T)(hk:H[k]?=some (ap7 T m a bs))(ha:aD5 k a)(hm:H[m]?=some (ax7 bs.length))(hl:bs.length<=100000000)(hl2:l.length<=100000000):
  o7 Tryz.prog 341 [.mp k 0,.str l] H (fun x H'=>x=.tup [.int .i64 l.length,.lit .nilIface]/\H'=(H.set k (ap7 T m (.mp k 0) (bs++l))).set m (ax7 (bs++l).length)):=by
 have hkl:=aa0 hk;have hml:=aa0 hm;have hkm:k≠m:=by intro e;subst e;rw[hk] at hm;cases hm
 have hmk:=hkm.symm;refine o8 [] [.tmp 4,.tmp 5] 19 Tryz.func341 ?_;repeat' first|simp -dsimp -implicitDefEqProofs (disch:=assumption) only[go_sem,hsn,hm]|refine l7 (bp7 hT hk ha) ?_|refine vcA ?_ ?_|omega
 all_goals unfold ap7 ax7 at*
 all_goals repeat' simp -dsimp -implicitDefEqProofs only[go_sem,hsn,hm,ar6 hkm,ar6 hmk,bN6,bM8 hkm]
 all_goals exact aa5 _ (Le.refl _) (by simp) ⟨rfl,by simp⟩
theorem bK8{T k m:Nat}{a:AV}{bs:List UInt8}{r:Int}{H:List AObj}(hT:bT T)(hk:H[k]?=some (ap7 T m a bs))(ha:aD5 k a)(hm:H[m]?=some (ax7 bs.length))(hr:bD3 r=true)(hl:bs.length<=100000):
  o7 Tryz.prog 446 [.mp k 0,.lit (.int .i32 r)] H (fun x H'=>x=.tup [.int .i64 (enc1 r).length,.lit .nilIface]/\H'=(H.set k (ap7 T m (.mp k 0) (bs++enc1 r))).set m (ax7 (bs++enc1 r).length)):=by
 have hkl:=aa0 hk;have hml:=aa0 hm;have hkm:k≠m:=by intro e;subst e;rw[hk] at hm;cases hm
 have hmk:=hkm.symm;have he:=cv9 r;refine o8 [] [.tmp 4,.tmp 5] 30 Tryz.func446 ?_;repeat' first|simp -dsimp -implicitDefEqProofs (disch:=assumption) only[go_sem,hsn,hm]|refine l7 (bp7 hT hk ha) ?_|refine vcA ?_ ?_
 all_goals unfold ap7 ax7 at*
 all_goals repeat' first|simp -dsimp -implicitDefEqProofs (disch:=first|assumption|omega) only[go_sem,hsn,hm,ar6 hkm,ar6 hmk,bN6,bM8 hkm]|refine l7 (cy3 (t:=some 5) bs r m _ (by rw[ar6 hkm];exact hm) rfl hr (by omega)) ?_|fail
 all_goals exact aa5 _ (Le.refl _) (by simp) ⟨dn0 (by omega),by simp⟩
theorem ch8{T k m:Nat}{a:AV}{bs:List UInt8}{H:List AObj}(hk:H[k]?=some (ap7 T m a bs)):
  o7 Tryz.prog 259 [.mp k 0] H (fun x H'=>x=.int .i64 bs.length/\H'=H):=by
 unfold ap7 at*;refine o8 [] [.tmp 2] 8 Tryz.func259 ?_;repeat' simp -dsimp -implicitDefEqProofs only[go_sem,hk]
 exact o5 ⟨rfl,rfl⟩
theorem bQ0{T k m:Nat}{a:AV}{bs:List UInt8}{H:List AObj}(hk:H[k]?=some (ap7 T m a bs))(hm:H[m]?=some (ax7 bs.length))(hl:bs.length<=100000000):
  o7 Tryz.prog 260 [.mp k 0] H (fun x H'=>x=.str bs/\H'=H):=by
 unfold ap7 ax7 at*;refine o8 [1000001] [.tmp 2] 14 Tryz.func260 ?_;repeat' first|simp -dsimp -implicitDefEqProofs only[go_sem,hk,hm]|refine vcA ?_ ?_|omega
 exact o5 ⟨rfl,rfl⟩
end V
end
section
open Go V
theorem aN3(w l:List UInt8):w.isPrefixOf l=decide (w.length<=l.length/\l.take w.length=w):=by
 rw[bf7,bR4,decide_eq_true_eq,List.prefix_iff_eq_take];constructor
 ·intro h
  refine⟨?_,h.symm⟩;have:=congrArg List.length h;rw[List.length_take] at this;omega
 ·rintro⟨_,h⟩
  exact h.symm
theorem cF9(l w:List UInt8)(H:List AObj)(hl:l.length<=100000000):o7 Tryz.prog 334 [.str l,.str w] H (fun x H'=>x=.bool (w.isPrefixOf l)/\H'=H):=by
 refine o8 [] [.tmp 4] 18 Tryz.func334 ?_;repeat' first|refine l9 ?_|simp -dsimp -implicitDefEqProofs only[go_sem]|refine vcA ?_ ?_|omega|refine aa8 fun _=>?_
 ·rename_i h
  refine o5 ⟨ad5 ?_,rfl⟩;rw[aN3,decide_eq_decide];constructor
  ·intro h2;exact⟨by omega,h2⟩
  ·intro h2;exact h2.2
 ·rename_i h
  refine o5 ⟨ad5 ?_,rfl⟩;rw[aN3,decide_eq_false];omega
theorem bL0(l w:List UInt8)(H:List AObj)(hl:l.length<=100000000):o7 Tryz.prog 266 [.str l,.str w] H (fun x H'=>x=.bool (w.isPrefixOf l)/\H'=H):=by
 refine o8 [] [.tmp 4] 8 Tryz.func266 ?_;repeat' first|simp -dsimp -implicitDefEqProofs only[go_sem]|refine l7 (cF9 _ _ _ hl) ?_|fail
 exact o5 ⟨rfl,rfl⟩
theorem bK9(l:List UInt8)(c:UInt8)(H:List AObj):o7 Tryz.prog 249 [.str l,.lit (.int .u8 c.toNat)] H (fun x H'=>x=.int .i64 (aw2 l c)/\H'=H):=by
 refine o8 [] [.tmp 4] 8 Tryz.func249 ?_;repeat' first|simp -dsimp -implicitDefEqProofs only[go_sem]|refine l7 (bJ2 _ _ _) ?_|fail
 exact o5 ⟨rfl,rfl⟩
theorem al7(l:List UInt8)(c:UInt8)(H:List AObj):o7 Tryz.prog 164 [.str l,.lit (.int .u8 c.toNat)] H (fun x H'=>x=.int .i64 (aw2 l c)/\H'=H):=by
 refine o8 [] [.tmp 4] 8 Tryz.func164 ?_;repeat' first|simp -dsimp -implicitDefEqProofs only[go_sem]|refine l7 (bK9 _ _ _) ?_|fail
 exact o5 ⟨rfl,rfl⟩
end
section
open Go
end
section
namespace V
open Go
theorem bl6{w x:Nat}(hx:x < 2^w):(BitVec.ofInt w (x:Int)).toNat=x:=by
 rw[bR7,bz7,bu0 hx]
theorem ek8{w x y:Nat}(hx:x < 2^w)(hy:y < 2^w):(BitVec.ofInt w (x:Int)|||BitVec.ofInt w (y:Int)).toNat=x|||y:=by
 rw[ce1,bl6 hx,bl6 hy]
theorem dj5{w x y:Nat}(hx:x < 2^w)(hy:y < 2^w):(BitVec.ofInt w (x:Int)&&&BitVec.ofInt w (y:Int)).toNat=x&&&y:=by
 rw[BitVec.toNat_and,bl6 hx,bl6 hy]
theorem bg2{x:Nat}(hx:x < 2^64):IntKind.u64.wrap (x:Int)=x:=IntWalk.u64_in _ (by omega)
theorem ci1{x:Nat}(hx:x < 2^32):IntKind.u32.wrap (x:Int)=x:=IntWalk.u32_in _ (by omega)
theorem cy4{x:Nat}(hx:x < 2^8):IntKind.u8.wrap (x:Int)=x:=IntWalk.u8_in _ (by omega)
theorem bC1{x y:Nat}(hx:x < 2^64)(hy:y < 2^64):IntKind.u64.wrap ((BitVec.ofInt IntKind.u64.bits (x:Int)|||BitVec.ofInt IntKind.u64.bits (y:Int)).toNat:Int)=((x|||y:Nat):Int):=by
 show IntKind.u64.wrap ((BitVec.ofInt 64 (x:Int)|||BitVec.ofInt 64 (y:Int)).toNat:Int)=_
 rw[ek8 hx hy,bg2 (bR3 hx hy)]
theorem dZ3{x y:Nat}(hx:x < 2^64)(hy:y < 2^64):IntKind.u64.wrap ((BitVec.ofInt IntKind.u64.bits (x:Int)&&&BitVec.ofInt IntKind.u64.bits (y:Int)).toNat:Int)=((x&&&y:Nat):Int):=by
 show IntKind.u64.wrap ((BitVec.ofInt 64 (x:Int)&&&BitVec.ofInt 64 (y:Int)).toNat:Int)=_
 rw[dj5 hx hy,bg2 (Nat.and_lt_two_pow _ hy)]
end V
end
end Go.Proofs.YtdkpdjfimckdgaaGreatDoor
