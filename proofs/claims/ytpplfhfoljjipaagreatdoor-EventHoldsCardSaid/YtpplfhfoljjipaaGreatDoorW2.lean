/- More operations: nil checks, functions' values, least and greatest, capacity, interface values, slices held against nil. -/
import Derived.Test.YtpplfhfoljjipaaGreatDoorW1
import Derived.Lib.SliceRun
import Derived.WalkSpells
import Derived.Laws.MakeOwn
import Derived.Lib.AppendZeros
import Derived.Lib.UnsafeStr
set_option linter.unusedVariables false
set_option linter.unusedSimpArgs false
set_option maxRecDepth 512
set_option maxHeartbeats 200000
namespace Go.Proofs.YtpplfhfoljjipaaGreatDoor
section
namespace V
open Go
variable {ds:List Deferred}
section
variable {P:Program}{env:Env}{H:List AObj}{dst:Option Tmp}{ty:TypeId}{pos:String}{after:Array Edge}{guard:Option (Nat×Bool)}
def cw8:AV->Option (Prop×AV)
 |.ip x=>some (True,.ip x)
 |.mp k o=>some (True,.mp k o)
 |.fn (.func g) fs cs=>some (True,.fn (.func g) fs cs)
 |_=>none
theorem dy7{x:Operand}{p:Prop}{z:AV}(h:cw8 (ev env x)=some (p,z)):Still P ⟨dst,.nilCheck x,ty,pos,after,guard⟩ env H p z:=fun hp _ _ G a w s=>by
 have rx:=s.ev x;unfold cw8 at h;split at h
 ·rename_i y e
  rw[e] at rx;cases h
  have rx0:=rx;generalize hv:a.eval x=v at rx;cases rx
  exact⟨_,by simp[execOp,hv],hv▸rx0⟩
 ·rename_i k o e
  rw[e] at rx;cases h
  have rx0:=rx;generalize hv:a.eval x=v at rx;cases rx
  exact⟨_,by simp[execOp,hv],hv▸rx0⟩
 ·rename_i g fs cs e
  rw[e] at rx;cases h
  have rx0:=rx;generalize hv:a.eval x=v at rx;cases rx
  exact⟨_,by simp[execOp,hv],hv▸rx0⟩
 ·cases h
theorem b96{n:Nat}{G:Gh}{a:Act}{w:World}(s:Sat n ds G env H a w)(xs:Array Operand):ay7 G H w (xs.toList.map (ev env)) (xs.map a.eval):=by
 refine⟨by simp,fun j x v e e'=>?_⟩
 simp only[ak8,cI5,aW2] at e e';cases h:xs[j]? with
 |none=>rw[h] at e;cases e
 |some y=>
  rw[h] at e e';cases e
  cases e'
  exact s.ev y
theorem cw0{f:Fn}{fs cs:Array Operand}:Still P ⟨dst,.makeFunc f fs cs,ty,pos,after,guard⟩ env H True (.fn f (fs.toList.map (ev env)) (cs.toList.map (ev env))):=fun _ _ _ G a w s=>by
 have h1:=b96 s fs;have h2:=b96 s cs;exact⟨_,by simp[execOp,Instr.makeFunc],.fn f _ _ _ _ h1.1 h2.1 h1.2 h2.2⟩
def aS5(great:Bool):AV->AV->Option (Prop×AV)
 |.lit (.int k a),.lit (.int k' b)=>if k=k' then some (True,.int k (if great then max a b else min a b)) else none
 |_,_=>none
theorem dy8{x y:Operand}{ats:Array TypeId}{p:Prop}{z:AV}(h:aS5 false (ev env x) (ev env y)=some (p,z)):Still P ⟨dst,.call {callee:=.builtin .min,args:= #[x,y],argTypes:=ats},ty,pos,after,guard⟩ env H p z:=fun hp _ _ G a w s=>by
 have rx:=s.ev x;have ry:=s.ev y;unfold aS5 at h;split at h
 ·rename_i k i k' j e1 e2
  rw[e1] at rx;rw[e2] at ry;have ex:=ab7 rx;have ey:=ab7 ry;split at h
  ·rename_i hk
   subst hk;cases h
   refine⟨.int k (min i j),?_,.lit _⟩;have:(if j < i then j else i)=min i j:=by rw[Int.min_def];split<;>split<;>omega
   simp[execOp,resolve,invoke,builtin,ex,ey,Builtin.min_,Builtin.min2,this]
  ·cases h
 ·cases h
theorem dy9{x y:Operand}{ats:Array TypeId}{p:Prop}{z:AV}(h:aS5 true (ev env x) (ev env y)=some (p,z)):Still P ⟨dst,.call {callee:=.builtin .max,args:= #[x,y],argTypes:=ats},ty,pos,after,guard⟩ env H p z:=fun hp _ _ G a w s=>by
 have rx:=s.ev x;have ry:=s.ev y;unfold aS5 at h;split at h
 ·rename_i k i k' j e1 e2
  rw[e1] at rx;rw[e2] at ry;have ex:=ab7 rx;have ey:=ab7 ry;split at h
  ·rename_i hk
   subst hk;cases h
   refine⟨.int k (max i j),?_,.lit _⟩;have:(if i < j then j else i)=max i j:=by rw[Int.max_def];split<;>split<;>omega
   simp[execOp,resolve,invoke,builtin,ex,ey,Builtin.max_,Builtin.max2,this]
  ·cases h
 ·cases h
def cw9(L:Tab)(t:TypeId):AV->Option (Prop×AV)
 |.msl _ _ _ cap=>match(L t).k with|.slice _=>some (True,.int .i64 cap)|_=>none
 |_=>none
theorem dz1{L:Tab}(hL:ad9 P L){x:Operand}{t:TypeId}{p:Prop}{z:AV}(h:cw9 L t (ev env x)=some (p,z)):Still P ⟨dst,.call {callee:=.builtin .cap,args:= #[x],argTypes:= #[t]},ty,pos,after,guard⟩ env H p z:=fun hp _ _ G a w s=>by
 have rx:=s.ev x;unfold cw9 at h;split at h
 ·rename_i k off len cap e
  split at h
  ·rename_i te hk
   have hu:=(hL t (by rw[hk];simp)).1
   rw[hk] at hu;simp only[av9] at hu;rw[e] at rx;cases h
   generalize hv:a.eval x=v at rx;cases rx
   refine⟨_,?_,.lit _⟩;simp[execOp,resolve,invoke,builtin,hv,Builtin.cap_,run_underlying hu,goInt]
  ·cases h
 ·cases h
def cn4(L:Tab)(t:TypeId)(x:AV):Option (Prop×AV):=
 match(L t).k with
 |.other|.one|.iface=>none
 |_=>some (True,.ifc t x)
theorem c44{L:Tab}(hL:ad9 P L){x:Operand}{t:TypeId}{p:Prop}{z:AV}(h:cn4 L t (ev env x)=some (p,z)):Still P ⟨dst,.makeInterface t x,ty,pos,after,guard⟩ env H p z:=fun hp _ _ G a w s=>by
 have rx:=s.ev x;unfold cn4 at h;have key:(∃d,P.underlying t=some d/\ ∀ms,d≠ .interface ms)/\z=.ifc t (ev env x):=by
  have hk:=(hL t (by intro e;rw[e] at h;cases h)).1
  split at h
  ·cases h
  ·cases h
  ·cases h
  ·rename_i h1 h2 h3
   cases h
   refine⟨?_,rfl⟩;generalize hq:(L t).k=q at hk;cases q with
   |other=>exact absurd hq h1
   |one=>exact absurd hq h2
   |iface=>exact absurd hq h3
   |struct fs=>obtain⟨a,ha,_⟩:=hk;exact⟨_,ha,fun ms e=>by cases e⟩
   |_=>exact⟨_,hk,fun ms e=>by cases e⟩
 obtain⟨⟨d,hd,hne⟩,rfl⟩:=key;refine⟨.iface t (a.eval x),?_,.ifc t _ _ rx⟩;simp only[execOp,Instr.makeInterface,Sem.run_bind,run_underlying hd,Result.andThen_ok];cases d<;>simp_all
def bv6(L:Tab)(t:TypeId)(x:AV):Option (Prop×AV):=
 match(L t).k,x with
 |.arr n _,.sl _ z xs=>some (0 < n/\n<=xs.length/\z=1,.ip (.agg ((aa1 xs).take n)))
 |_,_=>none
theorem c41{L:Tab}(hL:ad9 P L){x:Operand}{t:TypeId}{p:Prop}{z:AV}(h:bv6 L t (ev env x)=some (p,z)):Still P ⟨dst,.sliceToArrayPointer t x,ty,pos,after,guard⟩ env H p z:=fun hp _ _ G a w s=>by
 have rx:=s.ev x;unfold bv6 at h;split at h
 ·rename_i n e o zz xs hk ex
  have hu:=(hL t (by rw[hk];simp)).1
  rw[hk] at hu;rw[ex] at rx;cases h
  obtain⟨p1,p2,p3⟩:=hp;subst p3;generalize hv:a.eval x=v at rx;cases rx with
  |sl _ _ _ ad len cap val hl hcap huni hc hr hf ha ho=>
  have hfl:(aa1 xs).length=xs.length:=by have:=ai3 (s:=1) fun y hy=>(huni y hy).1;omega
  obtain⟨b,off,ea,_⟩:=hc 0 _ (xq1 (by omega))
  have hat: ∀(j:Nat) y,(AV.agg ((aa1 xs).take n)).flat[j]?=some y->(aa1 xs)[j]?=some y:=fun j y e=>by
   simp only[AV.flat,aK6] at e;split at e
   ·exact e
   ·cases e
  refine⟨.pointer ad,?_,?_⟩
  ·have hlt: ¬len < n:=by omega
   simp[execOp,hv,Instr.arrayAt,run_underlying hu,hlt]
  ·rw[ea]
   refine .ip _ b off val (fun j y e=>?_) (fun j y e=>hr j y (hat j y e))
   obtain⟨b',off',ea',q⟩:=hc j y (hat j y e);rw[ea] at ea';cases ea'
   exact q
 ·cases h
def aI2:Operand->Bool
 |.const (.slice none 0 0)=>true
 |_=>false
def cj8(L:Tab)(op:BinOp)(t:TypeId)(x:AV)(H:List AObj)(K:AV->List AObj->Prop)[Tag K]:Prop:=
 match(L t).k,op,x with
 |.slice _,.eql,.sl _ _ xs=>(xs≠[]->K (.bool false) H)/\(xs=[]-> ∀b,K (.bool b) H)
 |.slice _,.neq,.sl _ _ xs=>(xs≠[]->K (.bool true) H)/\(xs=[]-> ∀b,K (.bool b) H)
 |.slice _,.eql,.msl _ _ _ _=>K (.bool false) H
 |.slice _,.neq,.msl _ _ _ _=>K (.bool true) H
 |.slice _,.eql,.mrow _ _=>K (.bool false) H
 |.slice _,.neq,.mrow _ _=>K (.bool true) H
 |_,_,_=>False
theorem et8{L:Tab}(hL:ad9 P L){op:BinOp}{t t':TypeId}{x y:Operand}{K:AV->List AObj->Prop}(hy:aI2 y=true)(h:cj8 L op t (ev env x) H K):AOp P ⟨dst,.binOp op t x y t',ty,pos,after,guard⟩ env H K:=.of_run fun n ds G a w s=>by
 have ey:a.eval y=.slice none 0 0:=by
  unfold aI2 at hy;split at hy
  ·rfl
  ·cases hy
 have rx:=s.ev x;unfold cj8 at h;have fin: ∀(o:Option Addr) (len cap:Nat),a.eval x=.slice o len cap->(∃e,(L t).k=.slice e)->(op=.eql-> ∃z,z=AV.bool o.isNone/\K z H)->(op=.neq-> ∃z,z=AV.bool !o.isNone/\K z H)->(op=.eql\/op=.neq)->
   ∃v w' x' G' H',(execOp a.eval ⟨dst,.binOp op t x y t',ty,pos,after,guard⟩).run P w=.ok (.value v) w'/\HInv G' H' w'/\Step G H w G' H' w'/\Rel G' H' w' x' v/\K x' H':=fun o len cap ex ⟨e,hk⟩ h1 h2 h3=>by
  have hu:=(hL t (by rw[hk];simp)).1
  rw[hk] at hu;simp only[av9] at hu;rcases h3 with rfl|rfl
  ·obtain⟨z,rfl,hK⟩:=h1 rfl
   exact⟨_,w,_,G,H,by simp[execOp,ex,ey,ag4,Lib.run_eql_slice_nil w t e o len cap 0 0 hu],s.inv,.refl _ _ _,.lit _,hK⟩
  ·obtain⟨z,rfl,hK⟩:=h2 rfl
   exact⟨_,w,_,G,H,by simp[execOp,ex,ey,ag4,Go.run_neq_slice_nil_any w t e o len cap 0 0 hu],s.inv,.refl _ _ _,.lit _,hK⟩
 split at h
 ·rename_i e o z xs hk ex
  rw[ex] at rx;generalize hv:a.eval x=v at rx;cases rx with
  |sl _ _ _ ad len cap val hl hcap hs hc hr hf ha ho=>
   refine fin ad len cap hv ⟨_,hk⟩ (fun _=>⟨_,rfl,?_⟩) (fun e=>by cases e) (.inl rfl)
   by_cases hx:xs=[]
   ·exact h.2 hx _
   ·have:=ha (by rw[hl];exact aR1.2 hx)
    cases ad with
    |none=>cases this
    |some _=>exact h.1 hx
 ·rename_i e o z xs hk ex
  rw[ex] at rx;generalize hv:a.eval x=v at rx;cases rx with
  |sl _ _ _ ad len cap val hl hcap hs hc hr hf ha ho=>
   refine fin ad len cap hv ⟨_,hk⟩ (fun e=>by cases e) (fun _=>⟨_,rfl,?_⟩) (.inr rfl)
   by_cases hx:xs=[]
   ·exact h.2 hx _
   ·have:=ha (by rw[hl];exact aR1.2 hx)
    cases ad with
    |none=>cases this
    |some _=>exact h.1 hx
 ·rename_i e k off len cap hk ex
  rw[ex] at rx;generalize hv:a.eval x=v at rx;cases rx
  exact fin _ _ _ hv ⟨_,hk⟩ (fun _=>⟨_,rfl,h⟩) (fun e=>by cases e) (.inl rfl)
 ·rename_i e k off len cap hk ex
  rw[ex] at rx;generalize hv:a.eval x=v at rx;cases rx
  exact fin _ _ _ hv ⟨_,hk⟩ (fun e=>by cases e) (fun _=>⟨_,rfl,h⟩) (.inr rfl)
 ·rename_i e k len hk ex
  rw[ex] at rx;generalize hv:a.eval x=v at rx;cases rx
  exact fin _ _ _ hv ⟨_,hk⟩ (fun _=>⟨_,rfl,h⟩) (fun e=>by cases e) (.inl rfl)
 ·rename_i e k len hk ex
  rw[ex] at rx;generalize hv:a.eval x=v at rx;cases rx
  exact fin _ _ _ hv ⟨_,hk⟩ (fun e=>by cases e) (fun _=>⟨_,rfl,h⟩) (.inr rfl)
 ·exact h.elim
end
end V
end
section
namespace V
open Go
variable {ds:List Deferred}
theorem bM5{G:Gh}{H:List AObj}{w:World}(hi:HInv G H w){k:Nat}{sh:Shape}{cs:List AV}(hk:H[k]?=some (.cells sh cs)):site G H k=some (G.blk k):=by simp[site,hk]
theorem cm5{G:Gh}{H:List AObj}{w:World}(hi:HInv G H w){k:Nat}{sh:Shape}{cs:List AV}(hk:H[k]?=some (.cells sh cs)):HInv G (H.set k .gone) w/\Step G H w G (H.set k .gone) w:=by
 have hkl:=aa0 hk;have st:Step G H w G (H.set k .gone) w:=by
  refine⟨rfl,rfl,rfl,xq0 _,fun _ _ h=>h,fun _ _ _=>rfl,fun _ _=>rfl,fun i=>?_⟩
  cases ei:H[i]? with
  |none=>exact bW2 ei
  |some o=>
   by_cases hik:i=k
   ·subst hik
    rw[hk] at ei;cases ei
    exact⟨⟨.gone,by simp[hkl],rfl⟩,rfl,rfl⟩
   ·have ea:(H.set k .gone)[i]?=some o:=by rw[ar4 (fun h=>hik h.symm)];exact ei
    cases o with
    |cells t c=>exact⟨⟨_,ea,rfl⟩,rfl,rfl⟩
    |gone=>exact⟨ea,rfl,rfl⟩
    |loop r E=>exact⟨ea,rfl,rfl⟩
    |grow s n t=>exact⟨n,ea,xq0 _,fun _=>rfl⟩
 refine⟨⟨hi.lt,fun i sh' c ei=>?_,fun i s n t ei=>?_,fun i j b e1 e2=>?_,hi.tabs.step st⟩,st⟩
 ·rcases aq3 ei with⟨hik,ei'⟩|⟨rfl,ei',_⟩
  ·obtain⟨arr,T,fr,hb,hs,hr,hf⟩:=hi.cells i sh' c ei'
   exact⟨arr,T,fr,hb,hs,fun j x v ex ev=>(hr j x v ex ev).mono st,hf⟩
  ·cases ei'
 ·rcases aq3 ei with⟨hik,ei'⟩|⟨rfl,ei',_⟩
  ·exact hi.grow i s n t ei'
  ·cases ei'
 ·have hs: ∀i b,site G (H.set k .gone) i=some b->site G H i=some b:=fun i b e=>by
   unfold site at e⊢;cases ei:(H.set k AObj.gone)[i]? with
   |none=>rw[ei] at e;cases e
   |some o=>
    rw[ei] at e;rcases aq3 ei with⟨_,ei'⟩|⟨rfl,ei',_⟩
    ·rw[ei'];exact e
    ·subst ei';cases e
  exact hi.apart i j b (hs i b e1) (hs j b e2)
theorem rename{G:Gh}{H:List AObj}{w:World}(hi:HInv G H w){k:Nat}{sh:Shape}{cs:List AV}(hk:H[k]?=some (.cells sh cs)){cs':List AV}(sh':Shape)(cap:Nat){arr:Array Value}{T:TypeId}{fr:Nat×Nat}
  (hb:w.heap[G.blk k]?=some (.cells arr T fr)) (hr:aR0 G H w cs' arr) (hsh:match sh' with|.one t=>T=t/\arr.size=cs'.length/\fr.2=0|.raw t=>T=t/\arr.size=cs'.length|.row s=>0 < s/\arr.size=cap*s|.prow s=>0 < s/\arr.size=cap*s/\fr.2=0):
  HInv (ag8 G H (G.blk k) cap) (H.set k .gone++[.cells sh' cs']) w/\Step G H w (ag8 G H (G.blk k) cap) (H.set k .gone++[.cells sh' cs']) w/\(ag8 G H (G.blk k) cap).blk H.length=G.blk k/\(ag8 G H (G.blk k) cap).own H.length=(none,cap):=by
 obtain⟨hi1,st1⟩:=cm5 hi hk;obtain⟨arr0,T0,fr0,hb0,hs0,hr0,hf1,hf2,_⟩:=hi.cells k sh cs hk;rw[hb] at hb0;cases hb0
 have hkl:=aa0 hk;have hlen:(H.set k .gone).length=H.length:=List.length_set ..;have hblk: ∀i,i≠H.length->(ag8 G H (G.blk k) cap).blk i=G.blk i:=fun i hi=>by simp[ag8,hi]
 have hown: ∀i,i≠H.length->(ag8 G H (G.blk k) cap).own i=G.own i:=fun i hi=>by simp[ag8,hi]
 have hnew:(ag8 G H (G.blk k) cap).blk H.length=G.blk k:=by simp[ag8]
 have hnewo:(ag8 G H (G.blk k) cap).own H.length=(none,cap):=by simp[ag8]
 have st2:Step G (H.set k .gone) w (ag8 G H (G.blk k) cap) (H.set k .gone++[.cells sh' cs']) w:=by
  refine⟨rfl,rfl,rfl,xq0 _,fun _ _ h=>h,fun _ _ _=>rfl,fun _ _=>rfl,fun i=>?_⟩
  cases ei:(H.set k AObj.gone)[i]? with
  |none=>exact cx8 ei (fun _ _ e=>by cases e)
  |some o=>
   have hil:=aa0 ei;rw[hlen] at hil;have ea:(H.set k .gone++[.cells sh' cs'])[i]?=some o:=by rw[xq4 (by rw[hlen];exact hil)];exact ei
   cases o with
   |cells t c=>exact⟨⟨_,ea,rfl⟩,hblk i (by omega),hown i (by omega)⟩
   |gone=>exact⟨ea,hblk i (by omega),hown i (by omega)⟩
   |loop r E=>exact⟨ea,hblk i (by omega),hown i (by omega)⟩
   |grow s n t=>exact⟨n,ea,xq0 _,fun _=>hown i (by omega)⟩
 have snoc: ∀{i:Nat} {o:AObj},(H.set k .gone++[.cells sh' cs'])[i]?=some o->(i < H.length/\(H.set k .gone)[i]?=some o)\/(i=H.length/\o=.cells sh' cs'):=fun {i o} e=>by
  rcases aZ7 e with h|h
  ·exact .inl ⟨by rw[<-hlen];exact h.1,h.2⟩
  ·exact .inr ⟨by rw[<-hlen];exact h.1,h.2⟩
 refine⟨⟨hi.lt,fun i sh1 c ei=>?_,fun i s n t ei=>?_,fun i j b e1 e2=>?_,hi.tabs.step (st1.trans st2)⟩,st1.trans st2,hnew,hnewo⟩
 ·rcases snoc ei with⟨hil,ei'⟩|⟨rfl,ei'⟩
  ·obtain⟨arr1,T1,fr1,hb1,hs1,hr1,hg1,hg2,hg3⟩:=hi1.cells i sh1 c ei'
   rw[hblk i (by omega)]
   exact⟨arr1,T1,fr1,hb1,hs1,fun j x v ex ev=>(hr1 j x v ex ev).mono st2,hg1,hg2,bk9 (hown i (by omega)) hg3⟩
  ·cases ei'
   rw[hnew];refine⟨arr,T,fr,hb,hr.1,fun j x v ex ev=>(hr.2 j x v ex ev).mono (st1.trans st2),hf1,hf2,?_⟩
   unfold a08;rw[hnewo];exact hsh
 ·rcases snoc ei with⟨hil,ei'⟩|⟨rfl,ei'⟩
  ·rw[hown i (by omega)]
   obtain⟨h1,h2,h3,h4⟩:=hi1.grow i s n t ei';exact⟨h1,h2,h3,ap7 h4 (hown i (by omega)) (xq0 _) (fun b arr e fr hb=>⟨arr,hb,rfl⟩) (fun _ _ _ _ _ _ _ _ _ hx _=>hx)⟩
  ·cases ei'
 ·have hs: ∀i b,site (ag8 G H (G.blk k) cap) (H.set k .gone++[.cells sh' cs']) i=some b->(i < H.length/\i≠k/\site G H i=some b)\/(i=H.length/\b=G.blk k):=fun i b e=>by
   unfold site at e;cases ei:(H.set k .gone++[.cells sh' cs'])[i]? with
   |none=>rw[ei] at e;cases e
   |some o=>
    rw[ei] at e;rcases snoc ei with⟨hil,ei'⟩|⟨rfl,ei'⟩
    ·left
     rcases aq3 ei' with⟨hik,ei''⟩|⟨rfl,ei'',_⟩
     ·refine⟨hil,hik,?_⟩
      unfold site;rw[ei''];rw[hblk i (by omega),hown i (by omega)] at e
      exact e
     ·subst ei'';cases e
    ·right
     subst ei';simp only[hnew,Option.some.injEq] at e;exact⟨rfl,e.symm⟩
  rcases hs i b e1 with⟨h1,h2,h3⟩|⟨h1,h2⟩<;>rcases hs j b e2 with⟨h4,h5,h6⟩|⟨h4,h5⟩
  ·exact hi.apart i j b h3 h6
  ·subst h5
   exact absurd (hi.apart i k _ h3 (bM5 hi hk)) h2
  ·subst h2
   exact absurd (hi.apart j k _ h6 (bM5 hi hk)) h5
  ·omega
section
variable {P:Program}{env:Env}{H:List AObj}{dst:Option Tmp}{ty:TypeId}{pos:String}{after:Array Edge}{guard:Option (Nat×Bool)}
theorem bY9{L:Tab}(hL:ad9 P L){t t2 e:TypeId}{w:World}{a:Option Addr}{n cap m s:Nat}{v2:Value}{us vs:List Value}(ht:(L t).k=.slice e)(hd2: ∃d,P.underlying t2=some d/\ ∀q,d≠ .int q)(he:known (L e)=true)
  (hse:s=(L e).size) (hby:0 < (L e).bytes) (hroom:(n+m)*(L e).bytes<=140737488355328) (hfit:cap < n+m) (hlen: ∀w',(Builtin.lenOf v2).run P w'=.ok m w')
  (hu1:(Builtin.firstCells s n (.slice a n cap)).run P w.drew=.ok us.toArray w.drew) (hv1:(Builtin.firstCells s m v2).run P w.drew=.ok vs.toArray w.drew):
  ∃zc:Array Value,zc.size=(grownCap w (n+m) cap e - (n+m))*s/\
   (Builtin.append_ #[t,t2] ty #[.slice a n cap,v2]).run P w=.ok (.slice (some ⟨w.heap.size,0,none⟩) (n+m) (grownCap w (n+m) cap e)) (w.drew.alloc (.cells ((us++vs).toArray++zc) e)):=by
 have hu:=(hL t (by rw[ht];simp)).1
 rw[ht] at hu;simp only[av9] at hu;obtain⟨_,ie,zv,hie,hisz,hiby,hzl,hzv,hzs,_⟩:=hL e (am8 he);obtain⟨d2,hd2,hnint⟩:=hd2;have hnoov: ¬(Builtin.nextslicecap (n+m) cap*ie.bytes > 281474976710656):=by
  have:=growslice_fits (need:=n+m) (old:=cap) (bytes:=ie.bytes) hfit (by rw[hiby];exact hroom)
  omega
 have hbz:ie.bytes≠0:=by rw[hiby];omega
 have hzsz:zv.cells.size=s:=by
  have:=(aN2 (H:=[]) (G:=⟨fun _ _=>False,fun _=>0,fun _=>(none,0),fun _=>none⟩) (w:=w) hzs).1
  rw[this,hzl,hse]
 refine⟨Builtin.zeroCells zv.cells (grownCap w (n+m) cap e - (n+m)),by simp[Builtin.zeroCells,hzsz],?_⟩
 simp only[Builtin.append_,Sem.run_bind,run_underlying hu,ak4 hL (am8 he),run_underlying hd2,Result.andThen_ok,Sem.run_pure,List.getElem?_toArray,List.getElem?_cons_zero,List.getElem?_cons_succ];simp only[Bool.false_eq_true,if_false,hlen,Result.andThen_ok,if_neg (show¬(n+m<=cap) by omega),typeInfo,Sem.run_bind,run_program,hie,Sem.run_pure,hbz,false_or,and_false]
 simp only[show (2:Nat)^48=281474976710656 from rfl,if_neg hnoov,Sem.run_bind,Sem.run_pure,Result.andThen_ok,run_choose_drew,Question.forced,Bool.false_eq_true,if_false,run_askRoom,<-hse,zeroValue,typeInfo,run_program,hie,hzv,newRow,run_newObj_alloc]
 rw[show (Question.appendCap (n+m) cap e).cut (w.tape w.drawn (Question.appendCap (n+m) cap e))=grownCap w (n+m) cap e from rfl]
 simp[hu1,hv1]
 refine congrArg (fun c=>w.drew.alloc (Obj.cells c e)) ?_
 apply Array.ext'
 simp
theorem c88{G:Gh}{w:World}{o:Own}{s:Nat}{xs:List AV}{a:Option Addr}{n cap:Nat}(r:Rel G H w (.sl o s xs) (.slice a n cap))(hs:0 < s):
  ∃us:List Value,us.length=(aa1 xs).length/\(∀(j:Nat) x u,(aa1 xs)[j]?=some x->us[j]?=some u->Rel G H w x u)/\(∀w',(∀a,w'.cell? a=w.cell? a)->(Builtin.firstCells s xs.length (.slice a n cap)).run P w'=.ok us.toArray w'):=by
 have r':=r;cases r with
 |sl _ _ _ _ len _ val hl hcap huni hc hr hf ha ho=>
 rcases a98 xs.length with h0|h0
 ·have hnil:xs=[]:=aR5 h0
  subst hnil;refine⟨[],rfl,fun j x u e=>by simp[aa1] at e,fun w' _=>?_⟩
  cases a with
  |none=>simp[Builtin.firstCells]
  |some a=>simp[Builtin.firstCells,loadCells,loadCellsFrom]
 ·obtain⟨b,off,cap',ev,_,hcc⟩:=r'.sl_addr hs h0
  cases ev
  obtain⟨us,hl',h1,h2⟩:=aP4 (G:=G) (H:=H) (w:=w) (b:=b) (off:=off) (aa1 xs) (fun j y e=>(hcc j y e).2)
  exact⟨us,hl',h2,fun w' hw'=>run_firstCells_some w' s xs.length ⟨b,off,none⟩ _ cap us (by rw[hl',ai3 fun x hx=>(huni x hx).1]) (fun j v e=>by rw[addr_add,hw'];exact h1 j v e)⟩
theorem bj1{G:Gh}{w:World}(hi:HInv G H w){k off m s n cap:Nat}{sh:Shape}{cs:List AV}(hk:H[k]?=some (.cells sh cs))(hl:off+m*s<=cs.length):
  ∃us:List Value,us.length=m*s/\(∀(j:Nat) x u,((cs.drop off).take (m*s))[j]?=some x->us[j]?=some u->Rel G H w x u)/\(∀w',(∀a,w'.cell? a=w.cell? a)->(Builtin.firstCells s m (.slice (some ⟨G.blk k,off,none⟩) n cap)).run P w'=.ok us.toArray w'):=by
 obtain⟨arr,T,fr,hb,hsz,hr,hf1,hf2,hf3⟩:=hi.cells k sh cs hk;obtain⟨us,hul,h1,h2⟩:=aP4 (G:=G) (H:=H) (w:=w) (b:=G.blk k) (off:=off) ((cs.drop off).take (m*s)) (fun j u e=>by
  rw[aK6] at e;split at e
  ·rw[aP9] at e
   have hj:=aa0 e;exact⟨arr[off+j],(az5 hb).trans (xq2 (by omega)),hr _ _ _ e (xq2 (by omega))⟩
  ·cases e)
 have hlen:((cs.drop off).take (m*s)).length=m*s:=by rw[List.length_take,List.length_drop];omega
 exact⟨us,by rw[hul,hlen],h2,fun w' hw'=>run_firstCells_some w' s m ⟨G.blk k,off,none⟩ n cap us (by rw[hul,hlen]) (fun j v e=>by rw[addr_add,hw'];exact h1 j v e)⟩
theorem dd9{G:Gh}{w:World}(hi:HInv G H w){e:TypeId}{s n cap:Nat}(hs:0 < s){cs:List AV}{us:List Value}{zc:Array Value}(hl:us.length=cs.length)(hcs:cs.length=n*s)(hc:n<=cap)(hz:zc.size=(cap - n)*s)
  (hr: ∀(j:Nat) x u,cs[j]?=some x->us[j]?=some u->Rel G H w x u):
  ∃G',HInv G' (H++[.cells (.prow s) cs]) (w.drew.alloc (.cells (us.toArray++zc) e))/\Step G H w G' (H++[.cells (.prow s) cs]) (w.drew.alloc (.cells (us.toArray++zc) e))/\
   Rel G' (H++[.cells (.prow s) cs]) (w.drew.alloc (.cells (us.toArray++zc) e)) (.mrow H.length n) (.slice (some ⟨w.heap.size,0,none⟩) n cap):=by
 have hsz:(us.toArray++zc).size=cap*s:=by
  rw[bT0,aR2,hl,hcs,hz,<-aD3];congr 1
  omega
 have hrc:aR0 G H w cs (us.toArray++zc):=by
  refine⟨by rw[bT0,aR2,hl];omega,fun j x v e1 e2=>?_⟩
  have hj:=aa0 e1;rw[bJ8 (by rw[aR2];omega)] at e2
  exact hr j x v e1 (by simpa using e2)
 obtain⟨hi',hst,hb,ho⟩:=aI3 hi (More.refl w).drew rfl hrc e (0,0) (.inr rfl) (.prow s) cap ⟨hs,hsz,rfl⟩;exact⟨_,hi',hst,bv4 hb (by rw[ho]) hc⟩
theorem cd4{L:Tab}(hL:ad9 P L){t2:TypeId}(h:a04 (L t2).k=true): ∃d,P.underlying t2=some d/\ ∀q,d≠ .int q:=by
 have ht2:(∃e',(L t2).k=.slice e')\/(L t2).k=.str:=by
  cases hk:(L t2).k<;>simp_all [a04]
 rcases ht2 with⟨e',h⟩|h
 ·have:=(hL t2 (by rw[h];simp)).1
  rw[h] at this;exact⟨_,this,fun q=>by simp⟩
 ·have:=(hL t2 (by rw[h];simp)).1
  rw[h] at this;exact⟨_,this,fun q=>by simp⟩
def a02(L:Tab)(t t2:TypeId)(x y:AV)(H:List AObj)(K:AV->List AObj->Prop)[Tag K]:Prop:=
 match(L t).k,x,bp8 y with
 |.slice e,.sl .full z xs,some (z2,ys)=>(a04 (L t2).k=true/\known (L e)=true/\0 < (L e).size/\0 < (L e).bytes/\(xs≠[]->z=(L e).size)/\ys≠[]/\z2=(L e).size/\(xs.length+ys.length)*(L e).bytes<=140737488355328)/\
   K (.mrow H.length (xs.length+ys.length)) (H++[.cells (.prow (L e).size) (aa1 (xs++ys))])
 |_,_,_=>False
theorem da1{L:Tab}(hL:ad9 P L){t t2:TypeId}{x y:Operand}{K:AV->List AObj->Prop}(h:a02 L t t2 (ev env x) (ev env y) H K):
  AOp P ⟨dst,.call {callee:=.builtin .append,args:= #[x,y],argTypes:= #[t,t2]},ty,pos,after,guard⟩ env H K:=.of_run fun n ds G a w s=>by
 unfold a02 at h;split at h
 ·rename_i e z xs z2 ys hk ex ey
  obtain⟨⟨h1,h2,h3,h4,h5,h6,h7,h8⟩,hK⟩:=h;have rx:=s.ev x;have ry:=s.ev y;rw[ex] at rx;have hop: ∀v v2:Value,a.eval x=v->a.eval y=v2-> ∀v' w',(Builtin.append_ #[t,t2] ty #[v,v2]).run P w=.ok v' w'->
    (execOp a.eval ⟨dst,.call {callee:=.builtin .append,args:= #[x,y],argTypes:= #[t,t2]},ty,pos,after,guard⟩).run P w=.ok (.value v') w':=fun v v2 e1 e2 v' w' hr=>by
   simp[execOp,resolve,invoke,builtin,e1,e2,hr]
  generalize hv:a.eval x=v at rx;have rx0:=rx;cases rx with
  |sl _ _ _ ad len cap val hl hcap huni hc hr hf ha ho=>
  have hcl:cap=len:=hf rfl;subst hcl;subst hl;have rx1:Rel G H w (.sl .full (L e).size xs) (.slice ad xs.length xs.length):=by
   by_cases hx:xs=[]
   ·subst hx
    exact .sl .full _ [] _ _ _ (fun _=>undef) rfl (xq0 _) (fun x hx=>by cases hx) (fun j x e=>by simp[aa1] at e) (fun j x e=>by simp[aa1] at e) (fun _=>rfl) (fun h=>absurd h (by simp)) (fun k e=>by cases e)
   ·rw[<-h5 hx];exact rx0
  obtain⟨us,hul,hur,hu1⟩:=c88 (P:=P) rx1 h3;obtain⟨hlen,huni2,vs,hvl,hvr,hv1⟩:=b45 (P:=P) ry ey (fun _=>h7) h3
  have hyp:0 < ys.length:=aR1.2 h6;obtain⟨zc,hzc,hrun⟩:=bY9 (ty:=ty) (n:=xs.length) (cap:=xs.length) (m:=ys.length) hL hk (cd4 hL h1) h2 rfl h4 h8 (by omega) hlen (hu1 w.drew fun _=>rfl) (hv1 w.drew fun _=>rfl)
  have huniX:=rx1.sl_uni;have hfl:(aa1 (xs++ys)).length=(xs.length+ys.length)*(L e).size:=by
   rw[am5,List.length_append,ai3 huniX,ai3 fun x hx=>(huni2 x hx).1,<-aD3]
  obtain⟨G',hi',hst,hrel⟩:=dd9 (e:=e) s.inv h3 (cs:=aa1 (xs++ys)) (us:=us++vs) (n:=xs.length+ys.length) (cap:=grownCap w (xs.length+ys.length) xs.length e) (by rw[am5,List.length_append,List.length_append,hul,hvl]) hfl (grownCap_ge w _ _ e) hzc (fun j x u e1 e2=>by
   rw[am5] at e1;by_cases hj:j < (aa1 xs).length
   ·rw[xq4 hj] at e1
    rw[xq4 (by rw[hul];exact hj)] at e2
    exact hur j x u e1 e2
   ·rw[xq7 (by omega)] at e1
    rw[xq7 (by omega),hul] at e2
    exact(hvr _ x u e1 e2).1)
  exact⟨_,_,_,G',_,hop _ _ hv rfl _ _ hrun,hi',hst,hrel,hK⟩
 ·exact h.elim
def a01(L:Tab)(t t2:TypeId)(x y:AV)(H:List AObj)(K:AV->List AObj->Prop)[Tag K]:Prop:=
 match(L t).k,x,bp8 y with
 |.slice e,.mrow k n,some (z2,ys)=>match H[k]? with
  |some (.cells (.prow s) cs)=>(a04 (L t2).k=true/\known (L e)=true/\s=(L e).size/\0 < (L e).bytes/\cs.length=n*s/\(ys≠[]->z2=(L e).size)/\(n+ys.length)*(L e).bytes<=140737488355328)/\
   K (.mrow H.length (n+ys.length)) (H.set k .gone++[.cells (.prow s) (cs++aa1 ys)])
  |_=>False
 |_,_,_=>False
theorem da0{L:Tab}(hL:ad9 P L){t t2:TypeId}{x y:Operand}{K:AV->List AObj->Prop}(h:a01 L t t2 (ev env x) (ev env y) H K):
  AOp P ⟨dst,.call {callee:=.builtin .append,args:= #[x,y],argTypes:= #[t,t2]},ty,pos,after,guard⟩ env H K:=.of_run fun n0 ds G a w st=>by
 unfold a01 at h;split at h
 ·rename_i e k n z2 ys hk ex ey
  split at h
  ·rename_i s cs ho
   obtain⟨⟨h1,h2,h3,h4,h5,h6,h8⟩,hK⟩:=h;have rx:=st.ev x;have ry:=st.ev y;rw[ex] at rx;have hkl:=aa0 ho;have hu:=(hL t (by rw[hk];simp)).1
   rw[hk] at hu;simp only[av9] at hu;have hop: ∀v v2:Value,a.eval x=v->a.eval y=v2-> ∀v' w',(Builtin.append_ #[t,t2] ty #[v,v2]).run P w=.ok v' w'->
     (execOp a.eval ⟨dst,.call {callee:=.builtin .append,args:= #[x,y],argTypes:= #[t,t2]},ty,pos,after,guard⟩).run P w=.ok (.value v') w':=fun v v2 e1 e2 v' w' hr=>by
    simp[execOp,resolve,invoke,builtin,e1,e2,hr]
   obtain⟨arr,T,fr,hb,hsz,hr,hf1,hf2,hf3⟩:=st.inv.cells k _ cs ho;have hs:0 < s:=hf3.1;have hasz:arr.size=(G.own k).2*s:=hf3.2.1;generalize hv:a.eval x=v at rx;cases rx with
   |mrow _ _ o0 hk0 hb0 hcap=>
   obtain⟨hlen,huni2,vs,hvl,hvr,hv1⟩:=b45 (P:=P) ry ey h6 (by rw[<-h3];exact hs)
   rw[<-h3] at huni2 hv1;have hvl':vs.length=ys.length*s:=by rw[hvl,ai3 fun x hx=>(huni2 x hx).1]
   have hfl:(cs++aa1 ys).length=(n+ys.length)*s:=by rw[List.length_append,h5,ai3 fun x hx=>(huni2 x hx).1,aD3]
   by_cases hfit:n+ys.length<=(G.own k).2
   ·have hle:(n+ys.length)*s<=(G.own k).2*s:=aR6 s hfit
    rw[aD3] at hle;obtain⟨w',hst,hov⟩:=aK8 (P:=P) (n*s) vs 0 w arr hb (fun v hv=>by
     obtain⟨j,hj'⟩:=au9.1 hv;have hjl:j < (aa1 ys).length:=by rw[<-hvl];exact aa0 hj'
     exact(hvr j _ v (xq1 hjl) hj').2) (by rw[hvl',hasz];omega) (fun j _ h7=>hf2 j (by rw[hasz];omega))
    obtain⟨g1,g2⟩:=Great.foldl_set (n*s) vs 0 arr;have hrel:aR0 G H w (cs++aa1 ys) ((vs.zipIdx 0).foldl (fun cs (x:Value×Nat)=>cs.setIfInBounds (n*s+x.2) x.1) arr):=by
     refine⟨by rw[g1,hfl,hasz,aD3];exact hle,fun j x v e1 e2=>?_⟩
     rw[g2 j] at e2;simp only[ar7] at e2;by_cases hj:j < cs.length
     ·rw[xq4 hj] at e1
      rw[if_neg (by omega)] at e2
      exact hr j x v e1 e2
     ·rw[xq7 (by omega)] at e1
      have hjl:=aa0 e1;rw[if_pos (by rw[hvl,hasz];rw[ai3 fun x hx=>(huni2 x hx).1] at hjl⊢;omega)] at e2
      rw[h5] at e1;exact(hvr _ x v e1 e2).1
    obtain⟨hi1,st1⟩:=bq5 st.inv ho (fun h=>absurd rfl (h s).2) hb g1 hov hrel
    have hget:(H.set k (.cells (.prow s) (cs++aa1 ys)))[k]?=some (.cells (.prow s) (cs++aa1 ys)):=by simp[hkl]
    obtain⟨hi2,st2,hb2,ho2⟩:=rename hi1 hget (.prow s) (G.own k).2 hov.row (cs':=cs++aa1 ys) ⟨hrel.1,fun j x v e1 e2=>(hrel.2 j x v e1 e2).mono st1⟩ ⟨hs,by rw[g1];exact hasz,hf3.2.2⟩
    have hss:(H.set k (.cells (.prow s) (cs++aa1 ys))).set k .gone=H.set k .gone:=by simp
    rw[hss] at hi2 st2;have hll:(H.set k (.cells (.prow s) (cs++aa1 ys))).length=H.length:=by simp
    rw[hll] at hb2 ho2;refine⟨.slice (some ⟨G.blk k,0,none⟩) (n+ys.length) (G.own k).2,w',_,_,_,hop _ _ hv rfl _ _ ?_,hi2,st1.trans st2,?_,hK⟩
    ·have:=hv1 w (fun _=>rfl)
     obtain⟨d2,hd2,hnint⟩:=cd4 hL h1;simp[Builtin.append_,run_underlying hu,ak4 hL (am8 h2),run_underlying hd2,hlen,hfit,<-h3,this,addr_add,hst]
    ·have hml:(H.set k .gone).length=H.length:=by simp
     have:=bv4 (G:=ag8 G (H.set k (AObj.cells (Shape.prow s) (cs++aa1 ys))) (G.blk k) (G.own k).2) (H:=H.set k .gone) (w:=w') (sh:=.prow s) (cs:=cs++aa1 ys) (b:=G.blk k) (cap:=(G.own k).2) (len:=n+ys.length) (by rw[hml];exact hb2) (by rw[hml,ho2]) hfit
     rwa [hml] at this
   ·obtain⟨us,hul,hur,hu1⟩:=bj1 (P:=P) st.inv ho (off:=0) (m:=n) (s:=s) (n:=n) (cap:=(G.own k).2) (by omega)
    rw[List.drop_zero,al2 (by omega)] at hur
    obtain⟨zc,hzc,hrun⟩:=bY9 (ty:=ty) (n:=n) (cap:=(G.own k).2) (m:=ys.length) hL hk (cd4 hL h1) h2 h3 h4 h8 (by omega) hlen (hu1 w.drew fun _=>rfl) (hv1 w.drew fun _=>rfl)
    obtain⟨G',hi',hst,hrel⟩:=dd9 (e:=e) st.inv hs (cs:=cs++aa1 ys) (us:=us++vs) (n:=n+ys.length) (cap:=grownCap w (n+ys.length) (G.own k).2 e) (by rw[List.length_append,List.length_append,hul,hvl,h5]) hfl (grownCap_ge w _ _ e) hzc (fun j x u e1 e2=>by
     by_cases hj:j < cs.length
     ·rw[xq4 hj] at e1
      rw[xq4 (by omega)] at e2
      exact hur j x u e1 e2
     ·rw[xq7 (by omega)] at e1
      rw[xq7 (by omega),hul,<-h5] at e2
      exact(hvr _ x u e1 e2).1)
    obtain⟨hi2,st2⟩:=cm5 (k:=k) hi' (sh:=.prow s) (cs:=cs) (by rw[xq4 hkl];exact ho)
    rw[bC7 _ _ hkl] at hi2 st2;exact⟨_,_,_,G',_,hop _ _ hv rfl _ _ hrun,hi2,hst.trans st2,hrel.mono st2,hK⟩
  ·exact h.elim
 ·exact h.elim
def bm6(L:Tab)(t t2:TypeId)(x y:AV)(H:List AObj)(K:AV->List AObj->Prop)[Tag K]:Prop:=
 match(L t).k,(L t2).k,x,y with
 |.slice e,.int .i64,.msl k off n cap,.lit (.int _ c)=>match H[k]? with
  |some (.cells _ cs)=>(known (L e)=true/\0 < (L e).size/\0 < (L e).bytes/\off+n*(L e).size<=cs.length/\0<=c/\(cap:Int) < n+c/\((n:Int)+c)*(L e).bytes<=140737488355328)/\
   ∀z,K (.msl H.length 0 (n+c.toNat) (n+c.toNat+z)) (H++[.cells (.raw e) ((cs.drop off).take (n*(L e).size)++List.replicate ((c.toNat+z)*(L e).size) .any)])
  |_=>False
 |_,_,_,_=>False
theorem c99{L:Tab}(hL:ad9 P L){t t2:TypeId}{x y:Operand}{K:AV->List AObj->Prop}(h:bm6 L t t2 (ev env x) (ev env y) H K):
  AOp P ⟨dst,.call {callee:=.builtin .append,args:= #[x,y],argTypes:= #[t,t2]},ty,pos,after,guard⟩ env H K:=.of_run fun n0 ds G a w st=>by
 unfold bm6 at h;split at h
 ·rename_i e k off n cap q c hk hk2 ex ey
  split at h
  ·rename_i sh cs ho
   obtain⟨⟨h1,h2,h3,h4,h5,h6,h7⟩,hK⟩:=h;have rx:=st.ev x;have ry:=st.ev y;rw[ex] at rx;rw[ey] at ry;have hy:=ab7 ry;have hu:=(hL t (by rw[hk];simp)).1
   rw[hk] at hu;simp only[av9] at hu;have hu2:=(hL t2 (by rw[hk2];simp)).1
   rw[hk2] at hu2;simp only[av9] at hu2;obtain⟨_,ie,zv,hie,hisz,hiby,hzl,hzv,hzs,_⟩:=hL e (am8 h1);generalize hv:a.eval x=v at rx;cases rx with
   |msl _ _ _ _ o0 hk0 hb0 hcap=>
   obtain⟨us,hul,hur,hu1⟩:=bj1 (P:=P) st.inv ho (off:=off) (m:=n) (s:=(L e).size) (n:=n) (cap:=cap) h4;have hzsz:zv.cells.size=(L e).size:=by
    have:=(aN2 (H:=[]) (G:=G) (w:=w) hzs).1;rw[this,hzl]
   obtain⟨m,rfl⟩: ∃m:Nat,c=m:=⟨c.toNat,by omega⟩
   simp only[Int.toNat_natCast] at hK;have hroom:(n+m)*ie.bytes<=140737488355328:=by
    have e1:((n:Int)+(m:Int))*((L e).bytes:Int)=(((n+m)*(L e).bytes:Nat):Int):=by rw[Int.natCast_mul,Int.natCast_add]
    rw[e1] at h7;rw[hiby];omega
   have hb1:1<=ie.bytes:=by rw[hiby];exact h3
   have hm64:n+m<=140737488355328:=ay9 (Nat.le_mul_of_pos_right _ hb1) hroom;have hmb:m*ie.bytes<=140737488355328:=ay9 (aR6 _ (by omega)) hroom
   have hw:IntKind.i64.wrap (m:Int)=m:=by rw[IntKind.wrap_i64];omega
   have hnoov: ¬(281474976710656 < Builtin.nextslicecap (n+m) cap*ie.bytes):=by
    have:=growslice_fits (need:=n+m) (old:=cap) (bytes:=ie.bytes) (by omega) hroom
    omega
   have hnm: ¬(281474976710656 < (m:Int)*(ie.bytes:Int)):=by rw[<-Int.natCast_mul];omega
   have hneg: ¬((m:Int) < 0):=by omega
   have hmp:0 < m:=by omega
   have hns: ¬(m*ie.size=0):=Nat.mul_ne_zero (by omega) (by rw[hisz];omega)
   have h63: ¬(9223372036854775807 < ((n:Int)+(m:Int))):=by omega
   have hbz:ie.bytes≠0:=by omega
   have hu1':=hu1 w.drew fun _=>rfl
   rw[<-hisz] at hu1';have hrun:(Builtin.append_ #[t,t2] ty #[.slice (some ⟨G.blk k,off,none⟩) n cap,.int q m]).run P w=
     .ok (.slice (some ⟨w.heap.size,0,none⟩) (n+m) (grownCap w (n+m) cap e)) (w.drew.alloc (.cells (us.toArray++Builtin.zeroCells zv.cells m++Builtin.zeroCells zv.cells (grownCap w (n+m) cap e - (n+m))) e)):=by
    have hfit: ¬(n+m<=cap):=by omega
    simp[Builtin.append_,run_underlying hu,run_underlying hu2,sizeOf,typeInfo,zeroValue,hie,hzv,asInt,asIntOf,hw,hneg,hns,h63,hnoov,hnm,Question.forced,newRow,grownCap,hfit,hu1',hbz]
   have hcg:n+m<=grownCap w (n+m) cap e:=grownCap_ge w _ cap e;have hK':=hK (grownCap w (n+m) cap e - (n+m));rw[show n+m+(grownCap w (n+m) cap e - (n+m))=grownCap w (n+m) cap e by omega] at hK'
   have hz1:(Builtin.zeroCells zv.cells m).size=m*(L e).size:=by simp[Builtin.zeroCells,hzsz]
   have hz2:(Builtin.zeroCells zv.cells (grownCap w (n+m) cap e - (n+m))).size=(grownCap w (n+m) cap e - (n+m))*(L e).size:=by simp[Builtin.zeroCells,hzsz]
   have hdl:((cs.drop off).take (n*(L e).size)).length=n*(L e).size:=by rw[List.length_take,List.length_drop];omega
   have hsz:(us.toArray++Builtin.zeroCells zv.cells m++Builtin.zeroCells zv.cells (grownCap w (n+m) cap e - (n+m))).size=((cs.drop off).take (n*(L e).size)++List.replicate ((m+(grownCap w (n+m) cap e - (n+m)))*(L e).size) AV.any).length:=by
    rw[bT0,bT0,aR2,hul,hz1,hz2,List.length_append,List.length_replicate,hdl,aD3];omega
   have hrc:aR0 G H w ((cs.drop off).take (n*(L e).size)++List.replicate ((m+(grownCap w (n+m) cap e - (n+m)))*(L e).size) AV.any) (us.toArray++Builtin.zeroCells zv.cells m++Builtin.zeroCells zv.cells (grownCap w (n+m) cap e - (n+m))):=by
    refine⟨bf7 hsz.symm,fun j x v e1 e2=>?_⟩
    by_cases hj:j < n*(L e).size
    ·rw[xq4 (by omega)] at e1
     rw[Array.append_assoc,bJ8 (by rw[aR2];omega)] at e2
     exact hur j x v e1 (by simpa using e2)
    ·rw[xq7 (by omega)] at e1
     rw[b33] at e1;split at e1
     ·cases e1;exact .any _
     ·cases e1
   obtain⟨hi',hst,hb,_⟩:=aI3 st.inv (More.refl w).drew rfl hrc e (0,0) (.inr rfl) (.raw e) 0 ⟨rfl,hsz⟩;refine⟨.slice (some ⟨w.heap.size,0,none⟩) (n+m) (grownCap w (n+m) cap e),_,_,_,_,?_,hi',hst,?_,hK'⟩
   ·simp[execOp,resolve,invoke,builtin,hv,hy,hrun]
   ·have:=Rel.msl (G:=ag8 G H w.heap.size 0) (H:=H++[.cells (.raw e) ((cs.drop off).take (n*(L e).size)++List.replicate ((m+(grownCap w (n+m) cap e - (n+m)))*(L e).size) AV.any)]) (w:=w.drew.alloc (.cells (us.toArray++Builtin.zeroCells zv.cells m++Builtin.zeroCells zv.cells (grownCap w (n+m) cap e - (n+m))) e (0,0)))
     H.length 0 (n+m) (grownCap w (n+m) cap e) _ bT1 rfl hcg
    rw[hb] at this;exact this
  ·exact h.elim
 ·exact h.elim
def b78(H:List AObj)(s dn:Nat)(y:AV):Option (Prop×Nat×List AV):=
 match y with
 |.msl k off n _=>match H[k]? with
  |some (.cells _ cs)=>some (off+n*s<=cs.length/\(((cs.drop off).take (min n dn*s)).all AV.scalar=true),min n dn,(cs.drop off).take (min n dn*s))
  |_=>none
 |y=>match bp8 y with
  |some (z,ys)=>some ((ys≠[]->z=s)/\ys.length<=dn,ys.length,aa1 ys)
  |none=>none
theorem c94{G:Gh}{w:World}(hi:HInv G H w){s dn:Nat}(hs:0 < s){y:AV}{v:Value}(ry:Rel G H w y v){p:Prop}{m:Nat}{zs:List AV}(h:b78 H s dn y=some (p,m,zs))(hp:p):
  ∃len,(Builtin.lenOf v).run P w=.ok len w/\Nat.min len dn=m/\m<=dn/\zs.length=m*s/\ ∃vs:List Value,vs.length=m*s/\(∀(j:Nat) x u,zs[j]?=some x->vs[j]?=some u->Rel G H w x u)/\(∀u∈vs,u.oneCell'=true)/\(Builtin.firstCells s m v).run P w=.ok vs.toArray w:=by
 unfold b78 at h;split at h
 ·rename_i k off n cap
  split at h
  ·rename_i sh cs ho
   cases h
   obtain⟨h1,h2⟩:=hp;cases ry with
   |msl _ _ _ _ o0 hk0 hb0 hcap=>
   have hms:min n dn*s<=n*s:=aR6 s (Nat.min_le_left ..);obtain⟨us,hul,hur,hu1⟩:=bj1 (P:=P) hi ho (off:=off) (m:=min n dn) (s:=s) (n:=n) (cap:=cap) (by omega)
   have hdl:((cs.drop off).take (min n dn*s)).length=min n dn*s:=by rw[List.length_take,List.length_drop];omega
   refine⟨n,by simp[Builtin.lenOf],rfl,Nat.min_le_right ..,hdl,us,hul,hur,fun u hu=>?_,hu1 w fun _=>rfl⟩
   obtain⟨j,hj⟩:=au9.1 hu;have hjl:=aa0 hj;have hx:((cs.drop off).take (min n dn*s))[j]?=some (((cs.drop off).take (min n dn*s))[j]'(by omega)):=xq1 _
   exact(ba9 (hur j _ u hx hj) (xq5.1 h2 _ (aR4 _))).2.1
  ·cases h
 ·rename_i y' _
  split at h
  ·rename_i z ys ey
   cases h
   obtain⟨h1,h2⟩:=hp;obtain⟨hlen,huni2,vs,hvl,hvr,hv1⟩:=b45 (P:=P) ry ey h1 hs;have hfl:=ai3 (s:=s) fun x hx=>(huni2 x hx).1
   refine⟨ys.length,hlen w,bt9 h2,h2,hfl,vs,by rw[hvl,hfl],fun j x u e e'=>(hvr j x u e e').1,fun u hu=>?_,hv1 w fun _=>rfl⟩
   obtain⟨j,hj⟩:=au9.1 hu;have hjl:j < (aa1 ys).length:=by rw[<-hvl];exact aa0 hj
   exact(hvr j _ u (xq1 hjl) hj).2
  ·cases h
def bE5(L:Tab)(t:TypeId)(x y:AV)(H:List AObj)(K:AV->List AObj->Prop)[Tag K]:Prop:=
 match(L t).k,x with
 |.slice e,.msl k off dn _=>match H[k]?,b78 H (L e).size dn y with
  |some (.cells sh cs),some (p,m,zs)=>(known (L e)=true/\0 < (L e).size/\off+m*(L e).size<=cs.length/\p)/\K (.int .i64 m) (H.set k (.cells sh (ag0 cs off zs)))
  |_,_=>False
 |_,_=>False
theorem d88{L:Tab}(hL:ad9 P L){t t2:TypeId}{x y:Operand}{K:AV->List AObj->Prop}(h:bE5 L t (ev env x) (ev env y) H K):
  AOp P ⟨dst,.call {callee:=.builtin .copy,args:= #[x,y],argTypes:= #[t,t2]},ty,pos,after,guard⟩ env H K:=.of_run fun n0 ds G a w st=>by
 unfold bE5 at h;split at h
 ·rename_i e k off dn cap hk ex
  split at h
  ·rename_i sh cs p m zs ho hsrc
   obtain⟨⟨h1,h2,h3,h4⟩,hK⟩:=h;have rx:=st.ev x;have ry:=st.ev y;rw[ex] at rx;have hu:=(hL t (by rw[hk];simp)).1
   rw[hk] at hu;simp only[av9] at hu;obtain⟨len,hlen,hmin,hmd,hzl,vs,hvl,hvr,hv1c,hv1⟩:=c94 (P:=P) st.inv h2 ry hsrc h4;obtain⟨arr,T,fr,hb,hsz,hr,hf1,hf2,hf3⟩:=st.inv.cells k sh cs ho;generalize hv:a.eval x=v at rx;cases rx with
   |msl _ _ _ _ o0 hk0 hb0 hcap=>
   obtain⟨w',hst,hov⟩:=aK8 (P:=P) off vs 0 w arr hb hv1c (by omega) (fun j _ _=>hf2 j (by omega))
   have hrel:=bS0 (off:=off) (xs:=zs) (vs:=vs) ⟨hsz,hr⟩ (by omega) hvr
   obtain⟨hi',st'⟩:=bq5 st.inv ho (fun _=>by rw[aw7]) hb (ca6 ..) hov hrel
   refine⟨.int .i64 m,w',_,G,_,?_,hi',st',.lit _,hK⟩;simp[execOp,resolve,invoke,builtin,hv,Builtin.copy_,run_underlying hu,ak4 hL (am8 h1),hlen,hmin,hv1,hst,goInt]
  ·exact h.elim
 ·exact h.elim
def bu4(L:Tab)(t:TypeId)(len:Nat)(parts:List (Nat×AV))(H:List AObj)(K:AV->List AObj->Prop)[Tag K]:Prop:=
 match(L t).k with
 |.slice e=>(len≠0/\known (L e)=true/\0 < (L e).size/\(L e).zero.length=(L e).size/\len*(L e).size<=16777216/\(ay1 (fun i=>some (i*(L e).size,(L e).size)) (ah7 (L e).zero (len*(L e).size)) parts).1)/\
   K (.msl H.length 0 len len) (H++[.cells (.one e) (ay1 (fun i=>some (i*(L e).size,(L e).size)) (ah7 (L e).zero (len*(L e).size)) parts).2])
 |_=>False
theorem dv3{L:Tab}(hL:ad9 P L){t:TypeId}{len:Nat}{parts:Array (Nat×Operand)}{K:AV->List AObj->Prop}(h:bu4 L t len (ak2 env parts) H K):
  AOp P ⟨dst,.buildSlice t len parts,ty,pos,after,guard⟩ env H K:=.of_run fun n0 ds G a w st=>by
 unfold bu4 at h;split at h
 ·rename_i e hk
  obtain⟨⟨h0,h1,h2,h3,h4,h5⟩,hK⟩:=h;have hu:=(hL t (by rw[hk];simp)).1
  rw[hk] at hu;simp only[av9] at hu;obtain⟨arr',hrun,hb⟩:=cE6 hL st hu h0 h1 h2 h3 h4 h5;obtain⟨hi',hst,hb',_⟩:=aI3 st.inv (More.refl w) rfl hb.le e (0,0) (.inr rfl) (.one e) 0 ⟨rfl,hb.1,rfl⟩;refine⟨.slice (some ⟨w.heap.size,0,none⟩) len len,_,_,_,_,by simp only[execOp,Sem.run_bind,hrun,Result.andThen_ok,Sem.run_pure],hi',hst,?_,hK⟩
  have:=Rel.msl (G:=ag8 G H w.heap.size 0) (H:=H++[.cells (.one e) (ay1 (fun i=>some (i*(L e).size,(L e).size)) (ah7 (L e).zero (len*(L e).size)) (ak2 env parts)).2]) (w:=w.alloc (.cells arr' e (0,0)))
   H.length 0 len len _ bT1 rfl (xq0 _)
  rw[hb'] at this;exact this
 ·exact h.elim
def bE4(L:Tab)(t:TypeId)(x y:AV)(H:List AObj)(K:AV->List AObj->Prop)[Tag K]:Prop:=
 match(L t).k,x,y with
 |.slice e,.lit (.int _ n),.lit (.int _ c)=>(known (L e)=true/\0 < (L e).size/\(L e).zero.length=(L e).size/\0<=n/\n<=c/\c<=9223372036854775807/\((L e).bytes:Int)*c<=281474976710656)/\
   K (.msl H.length 0 n.toNat c.toNat) (H++[.cells (.one e) (ah7 (L e).zero (c.toNat*(L e).size))])
 |_,_,_=>False
theorem d87{L:Tab}(hL:ad9 P L){t:TypeId}{x y:Operand}{K:AV->List AObj->Prop}(h:bE4 L t (ev env x) (ev env y) H K):
  AOp P ⟨dst,.makeSlice t x y,ty,pos,after,guard⟩ env H K:=.of_run fun n0 ds G a w st=>by
 unfold bE4 at h;split at h
 ·rename_i e q n q' c hk ex ey
  obtain⟨⟨h1,h2,h3,h4,h5,h6,h7⟩,hK⟩:=h;have rx:=st.ev x;have ry:=st.ev y;rw[ex] at rx;rw[ey] at ry;have hx:=ab7 rx;have hy:=ab7 ry;have hu:=(hL t (by rw[hk];simp)).1
  rw[hk] at hu;simp only[av9] at hu;obtain⟨_,ie,zv,hie,hisz,hiby,hzl,hzv,hzs,_⟩:=hL e (am8 h1);have hzr:=aN2 (H:=H) (G:=G) (w:=w) hzs;have hzl':zv.cells.size=(L e).size:=by rw[hzr.1,h3]
  have hrun:=run_make (P:=P) w t e ie zv hu hie hzv q q' n c h4 h5 (by rw[hiby];exact h7) h6
  rw[hisz] at hrun;have hrc:aJ8 G H w (ah7 (L e).zero (c.toNat*(L e).size)) (madeCells zv.cells (c.toNat*(L e).size)):=by
   refine⟨by simp[ah7,madeCells],fun j x v e1 e2=>?_⟩
   have hj:j < c.toNat*(L e).size:=by simpa [ah7] using aa0 e1
   have hmod:j%(L e).size < (L e).size:=a96 _ h2;simp only[ah7,ak8,aI7 hj,Option.map_some,Option.some.injEq] at e1;have e2':zv.cells[j%zv.cells.size]! =v:=by
    unfold madeCells at e2;rw[cI5,Array.getElem?_range] at e2;rw[if_pos hj] at e2;simpa using e2
   subst e1;rw[<-e2',h3];refine hzr.2 (j%(L e).size) _ _ (by simp[List.getD,xq1 (show j%(L e).size < (L e).zero.length by omega)]) ?_
   rw[hzl',xq2 (by omega)]
   simp[getElem!_def,xq2 (show j%(L e).size < zv.cells.size by omega)]
  obtain⟨hi',hst,hb',_⟩:=aI3 st.inv (More.refl w) rfl hrc.le e (0,0) (.inr rfl) (.one e) 0 ⟨rfl,hrc.1,rfl⟩;refine⟨.slice (some ⟨w.heap.size,0,none⟩) n.toNat c.toNat,_,_,_,_,by simp only[execOp,hx,hy,Sem.run_bind,hrun,Result.andThen_ok,Sem.run_pure],hi',hst,?_,hK⟩
  have:=Rel.msl (G:=ag8 G H w.heap.size 0) (H:=H++[.cells (.one e) (ah7 (L e).zero (c.toNat*(L e).size))]) (w:=w.alloc (.cells (madeCells zv.cells (c.toNat*(L e).size)) e (0,0)))
   H.length 0 n.toNat c.toNat _ bT1 rfl (by omega)
  rw[hb'] at this;exact this
 ·exact h.elim
def cJ7:List Nat->Nat->Option Nat
 |[],_=>none
 |c::r,d=>if c=3000000000+d*1000+c%1000 then some (c%1000) else cJ7 r d
def ax2(m:Nat):List AV->List AV
 |[]=>[]
 |.sl .full 0 []::r=>.sl (.tok m) 1 []::r
 |x::r=>x::ax2 m r
theorem cb6(m:Nat): ∀l,(ax2 m l).length=l.length
 |[]=>rfl
 |x::r=>by
  unfold ax2;split
  ·rename_i h;cases h
  ·rename_i h;cases h;rfl
  ·rename_i h;cases h;rw[List.length_cons,List.length_cons,cb6 m r]
theorem cb5{G:Gh}{w:World}{m:Nat}{e:TypeId}(hm:H[m]?=some (.grow 1 0 (some e)))(ho:G.own m=(none,0)): ∀(vs:List Value) (zs:List AV),vs.map aq0=zs->(∀(j:Nat) x v,(ax2 m zs)[j]?=some x->vs[j]?=some v->Rel G H w x v)
 |[],zs,h,j,x,v,e1,e2=>by simp at e2
 |u::us,zs,h,j,x,v,e1,e2=>by
  subst h;rw[List.map_cons] at e1;have tok:Rel G H w (.sl (.tok m) 1 []) (.slice none 0 0):=.sl (.tok m) 1 [] none 0 0 (fun _=>undef) rfl (xq0 _) (fun x hx=>by cases hx) (fun j x e=>by simp[aa1] at e) (fun j x e=>by simp[aa1] at e) (fun e=>by cases e) (fun h=>absurd h (by omega)) (fun k e=>by
   cases e
   exact⟨0,some _,hm,xq0 _,fun _=>ho⟩)
  have rest: ∀(j:Nat) x v,(us.map aq0)[j]?=some x->us[j]?=some v->Rel G H w x v:=fun j x v e1 e2=>by
   rw[ak8,e2] at e1;cases e1
   exact aN3 v
  unfold ax2 at e1;split at e1
  ·rename_i heq;simp at heq
  ·rename_i r heq
   simp only[List.cons.injEq] at heq;obtain⟨hu,rfl⟩:=heq;cases j with
   |zero=>
    simp at e1 e2
    subst e1;subst e2;have:u=.slice none 0 0:=by
     unfold aq0 at hu;split at hu<;>first|rfl|cases hu
    rw[this];exact tok
   |succ j=>exact rest j x v (by simpa using e1) (by simpa using e2)
  ·rename_i y r _ heq
   simp only[List.cons.injEq] at heq;obtain⟨hu,rfl⟩:=heq;cases j with
   |zero=>
    simp at e1 e2
    subst e1;subst e2;rw[<-hu];exact aN3 u
   |succ j=>exact cb5 hm ho us _ rfl j x v (by simpa using e1) (by simpa using e2)
theorem dv5{L:Tab}(hL:ad9 P L){e u:TypeId}{K:AV->List AObj->Prop}(hx:known (L e)=true)(hk:K (.mp H.length 0) (H++[.cells (.one e) (ax2 (H.length+1) (L e).zero),.grow 1 0 (some u)])):AOp P ⟨dst,.alloc e,ty,pos,after,guard⟩ env H K:=.of_run fun n ds G a w s=>by
 obtain⟨_,i,z,hi',_,_,_,hz,hzs,_⟩:=hL e (am8 hx);have hzr:=aN2 (H:=H) (G:=G) (w:=w) hzs;obtain⟨hi,hst,hb,hown⟩:=aI3 s.inv (More.refl w) rfl hzr.le e (0,0) (.inr rfl) (.one e) 0 ⟨rfl,hzr.1,rfl⟩;have hnil:=dc7 (G:=ag8 G H w.heap.size 0) (H:=H++[.cells (.one e) (L e).zero]) (w:=w.alloc (.cells z.cells e (0,0))) 0;obtain⟨hi2,st2,_⟩:=cR7 (some u) hi hnil (s:=1) (by omega) (fun h=>absurd rfl h) (fun _=>⟨rfl,rfl⟩)
 have hl1:(H++[AObj.cells (.one e) (L e).zero]).length=H.length+1:=by simp
 rw[hl1,List.length_nil] at hi2 st2;have hk0:(H++[AObj.cells (.one e) (L e).zero]++[.grow 1 0 (some u)])[H.length]?=some (.cells (.one e) (L e).zero):=by
  rw[List.append_assoc,xq7 (xq0 _),ap6];rfl
 have hk1:(H++[AObj.cells (.one e) (L e).zero]++[.grow 1 0 (some u)])[H.length+1]?=some (.grow 1 0 (some u)):=by
  rw[<-hl1];exact bT1
 have hrow:(w.alloc (.cells z.cells e (0,0))).heap[(aD0 (ag8 G H w.heap.size 0) (H.length+1) none 0).blk H.length]?=some (.cells z.cells e (0,0)):=by
  show (w.heap.push (.cells z.cells e (0,0)))[(ag8 G H w.heap.size 0).blk H.length]?=_
  rw[hb];simp
 have hlen:(ax2 (H.length+1) (L e).zero).length=(L e).zero.length:=cb6 _ _;obtain⟨hi3,st3⟩:=bq5 hi2 hk0 (cs':=ax2 (H.length+1) (L e).zero) (fun _=>hlen) hrow rfl ⟨rfl,rfl,rfl,rfl,fun _ _=>rfl,hrow⟩ ⟨by rw[hlen];exact bf7 hzr.1.symm,fun j x v e1 e2=>cb5 hk1 (by simp[aD0]) z.cells.toList _ hzs j x v e1 (by simpa using e2)⟩
 have hset:(H++[AObj.cells (.one e) (L e).zero]++[AObj.grow 1 0 (some u)]).set H.length (AObj.cells (.one e) (ax2 (H.length+1) (L e).zero))=H++[AObj.cells (.one e) (ax2 (H.length+1) (L e).zero),AObj.grow 1 0 (some u)]:=by
  rw[List.append_assoc,aD2 _ _ (xq0 _),ap6];rfl
 rw[hset] at hi3 st3;refine⟨.pointer (some ⟨w.heap.size,0,none⟩),_,.mp H.length 0,_,_,by simp[execOp,Instr.alloc,zeroValue,typeInfo,hi',hz,newVar,newRow],hi3,(hst.trans st2).trans st3,?_,hk⟩
 have:=Rel.mp (G:=aD0 (ag8 G H w.heap.size 0) (H.length+1) none 0) (H:=H++[.cells (.one e) (ax2 (H.length+1) (L e).zero),.grow 1 0 (some u)]) (w:=w.alloc (.cells z.cells e (0,0))) H.length 0 (.cells (.one e) (ax2 (H.length+1) (L e).zero)) (by rw[xq7 (xq0 _),ap6];rfl) rfl
 rw[show (aD0 (ag8 G H w.heap.size 0) (H.length+1) none 0).blk H.length=w.heap.size from hb] at this
 exact this
theorem cV9{G:Gh}{w:World}(hi:HInv G H w){k n cap:Nat}{e:TypeId}{b:Nat}(hk:H[k]?=some (.grow 1 n (some e)))(ho:G.own k=(some ⟨b,0,none⟩,cap))(hn:0 < n):
  HInv G H (w.freeze ⟨b,0,none⟩ n)/\Step G H w G H (w.freeze ⟨b,0,none⟩ n):=by
 obtain⟨_,hcap,_,hty⟩:=hi.grow k 1 n _ hk;rw[ho] at hcap;rcases hty e rfl with h|⟨b',arr,⟨lo,hi0⟩,h1,h2,h3,h4,h5,h6⟩
 ·rw[ho] at h;cases h
 rw[ho] at h1 h2 h4;cases h1
 simp only at hcap h2 h4 h5;have hsite:site G H k=some b:=by
  unfold site;rw[hk,ho];simp only;rw[if_pos (.inr ⟨rfl,h2⟩)]
 obtain⟨fr',hfr',hrow⟩: ∃fr':Nat×Nat,fr'.2<=n/\(w.freeze ⟨b,0,none⟩ n).heap[b]?=some (.cells arr e fr'):=by
  refine⟨if lo==hi0 then(0,0+n) else(min lo 0,max hi0 (0+n)),?_,?_⟩
  ·by_cases hl:lo=hi0
   ·simp[hl]
   ·have h5':hi0<=n:=by rcases h5 with h|h;exact absurd h hl;omega
    simp only[beq_iff_eq,hl,if_false];omega
  ·unfold World.freeze
   rw[if_neg (by omega)]
   simp[cj4,h3]
 have hother: ∀c,c≠b->(w.freeze ⟨b,0,none⟩ n).heap[c]?=w.heap[c]?:=fun c hc=>by
  unfold World.freeze;rw[if_neg (by omega)]
  simp[cj4,show¬b=c from fun h=>hc h.symm]
 have hsize:(w.freeze ⟨b,0,none⟩ n).heap.size=w.heap.size:=by
  unfold World.freeze;rw[if_neg (by omega)]
  simp
 have hos:(w.freeze ⟨b,0,none⟩ n).os=w.os/\(w.freeze ⟨b,0,none⟩ n).tape=w.tape/\(w.freeze ⟨b,0,none⟩ n).output=w.output:=by
  unfold World.freeze;rw[if_neg (by omega)]
  exact⟨rfl,rfl,rfl⟩
 have hcell: ∀c off,(w.freeze ⟨b,0,none⟩ n).cell? ⟨c,off,none⟩=w.cell? ⟨c,off,none⟩:=fun c off=>by
  by_cases hc:c=b
  ·subst hc;rw[az5 hrow,az5 h3]
  ·exact World.cell?_of_block (w:=w) (hother c hc)
 generalize w.freeze ⟨b,0,none⟩ n=w' at*;have st:Step G H w G H w':=⟨congrArg (fun o=>(o,G.lp)) hos.1,hos.2.1,hos.2.2,bf7 hsize.symm,fun _ _ h=>h,fun c off _=>hcell c off,fun c hc=>hother c fun e=>by subst e;exact h6 arr.size (xq0 _) (hc _),(Step.refl G H w).obj⟩
 refine⟨⟨fun c off h=>by rw[hsize];exact hi.lt c off h,fun i sh c ei=>?_,fun i s m t ei=>?_,hi.apart,hi.tabs.step st⟩,st⟩
 ·obtain⟨a1,T1,f1,hb1,hs1,hr1,hg1,hg2,hg3⟩:=hi.cells i sh c ei
  have hne:G.blk i≠b:=fun e=>by
   have:=hi.apart i k b (by simp[site,ei,e]) hsite
   subst this;rw[hk] at ei;cases ei
  exact⟨a1,T1,f1,(hother _ hne).trans hb1,hs1,fun j x v ex ev=>(hr1 j x v ex ev).mono st,hg1,fun off h=>(World.frozen?_of_block (w:=w) (hother _ hne)).trans (hg2 off h),hg3⟩
 ·obtain⟨g0,g1,g2,g3⟩:=hi.grow i s m t ei
  by_cases hik:i=k
  ·subst hik
   rw[hk] at ei;cases ei
   refine⟨g0,g1,fun hlt=>?_,fun e' he'=>.inr ⟨b,arr,fr',by rw[ho],by rw[ho];exact h2,?_,by rw[ho];exact h4,.inr (by omega),h6⟩⟩
   ·obtain⟨b1,off1,a1,T1,f1,ea1,hb1,hsz1,hj1⟩:=g2 hlt
    rw[ho] at ea1;cases ea1
    rw[h3] at hb1;cases hb1
    refine⟨b,0,arr,e,fr',by rw[ho],hrow,hsz1,fun j h7 h8=>⟨(hj1 j h7 h8).1,?_⟩⟩
    obtain⟨f1,f2⟩:=fr';simp only[World.frozen?,hrow,Bool.and_eq_false_iff,decide_eq_false_iff_not];simp only at hfr';omega
   ·cases he'
    exact hrow
  ·refine⟨g0,g1,fun hlt=>?_,?_⟩
   ·obtain⟨b1,off1,a1,T1,f1,ea1,hb1,hsz1,hj1⟩:=g2 hlt
    have hne:b1≠b:=fun e=>hik (hi.apart i k b (e▸a07 ei hlt ea1) hsite)
    exact⟨b1,off1,a1,T1,f1,ea1,(hother _ hne).trans hb1,hsz1,fun j h7 h8=>⟨(hj1 j h7 h8).1,(World.frozen?_of_block (w:=w) (hother _ hne)).trans (hj1 j h7 h8).2⟩⟩
   ·intro e' he'
    rcases g3 e' he' with h|⟨b1,a1,f1,h7,h8,h9,h10⟩
    ·exact .inl h
    ·have hne:b1≠b:=fun e=>by
      have hs1:site G H i=some b1:=by
       unfold site;rw[ei,show G.own i=(some ⟨b1,0,none⟩,(G.own i).2) by rw[<-h7]]
       simp only;rw[if_pos (.inr ⟨by rw[he'];rfl,h8⟩)]
      exact hik (hi.apart i k b (e▸hs1) hsite)
     exact .inr ⟨b1,a1,f1,h7,h8,(hother _ hne).trans h9,h10⟩
def aU9(H:List AObj)(x:AV):Option (Prop×AV):=
 match x with
 |.sl (.tok k) 1 xs=>match H[k]? with
  |some (.grow 1 n (some _))=>some (n=xs.length,.data (.sl (.tok k) 1 xs))
  |_=>none
 |_=>none
theorem cl0{x:Operand}{ats:Array TypeId}{p:Prop}{z:AV}(h:aU9 H (ev env x)=some (p,z)):Still P ⟨dst,.call {callee:=.builtin .unsafeSliceData,args:= #[x],argTypes:=ats},ty,pos,after,guard⟩ env H p z:=fun hp _ _ G a w s=>by
 have rx:=s.ev x;unfold aU9 at h;split at h
 ·rename_i k xs ex
  split at h
  ·rename_i n e hk
   cases h
   rw[ex] at rx;generalize hv:a.eval x=v at rx;have rx0:=rx;cases rx with
   |sl _ _ _ ad len cap val hl hcap huni hc hr hf ha ho=>
   obtain⟨n',t',hn',hle,hown⟩:=ho k rfl;rw[hk] at hn';cases hn'
   have hown:=hown hp.symm;obtain⟨_,_,_,hty⟩:=s.inv.grow k 1 n _ hk;have key:cap≠0\/ad=none:=by
    rcases hty e rfl with h|⟨b,arr,fr,h1,h2,_⟩
    ·rw[hown] at h;cases h;exact .inr rfl
    ·rw[hown] at h2;simp only at h2;exact .inl (by omega)
   refine⟨.pointer ad,?_,.data _ ad len cap rx0 key⟩;have hrun:(Builtin.unsafeSliceData_ ats ty #[.slice ad len cap]).run P w=.ok (.pointer ad) w:=by
    cases ad with
    |none=>rfl
    |some ad=>exact Lib.run_unsafeSliceData_row w ats ty ad len cap (by rcases key with h|h;exact h;cases h)
   simp[execOp,resolve,invoke,builtin,hv,hrun]
  ·cases h
 ·cases h
def bh3(L:Tab)(H:List AObj)(pt:TypeId)(x y:AV):Option (Prop×AV):=
 match(L pt).k,x,y with
 |.ptr e,.data (.sl (.tok k) 1 xs),.lit (.int .i64 c)=>match H[k]? with
  |some (.grow 1 n (some e'))=>some (n=xs.length/\c=xs.length/\e'=e/\(L e).k=.int .u8/\(L e).size=1/\xs.length<=140737488355328/\isBytes xs,.str (az1 xs))
  |_=>none
 |_,_,_=>none
theorem cO0{L:Tab}(hL:ad9 P L){x y:Operand}{pt it:TypeId}{p:Prop}{z:AV}(h:bh3 L H pt (ev env x) (ev env y)=some (p,z)):Quiet P ⟨dst,.call {callee:=.builtin .unsafeString,args:= #[x,y],argTypes:= #[pt,it]},ty,pos,after,guard⟩ env H p z:=fun hp _ _ G a w s=>by
 have rx:=s.ev x;have ry:=s.ev y;unfold bh3 at h;split at h
 ·rename_i e k xs c hpk ex ey
  split at h
  ·rename_i n e' hk
   cases h
   obtain⟨h1,h2,rfl,h4,h5,h6,h7⟩:=hp;rw[ex] at rx;rw[ey] at ry;have hy:=ab7 ry;have hpt:=(hL pt (by rw[hpk];simp)).1
   rw[hpk] at hpt;simp only[av9] at hpt;obtain⟨_,i,_,hinfo,hisz,_⟩:=hL e' (by rw[h4];simp)
   have hcells:P.cellsOf e'=1:=by
    unfold Program.cellsOf;simp[hinfo,hisz,h5]
   generalize hv:a.eval x=v at rx;cases rx with
   |data _ ad len cap hsl hcc=>
   cases hsl with
   |sl _ _ _ _ _ _ val hl hcap huni hc hr hf ha ho=>
   obtain⟨n',t',hn',hle,hown⟩:=ho k rfl;rw[hk] at hn';cases hn'
   have hown:=hown h1.symm;unfold isBytes at h7;generalize az1 xs=l at h7;have hll:l.length=xs.length:=by rw[h7];simp
   have hop: ∀v' w',(Builtin.unsafeString_ #[pt,it] ty #[.pointer ad,.int .i64 (l.length:Nat)]).run P w=.ok v' w'->
     (execOp a.eval ⟨dst,.call {callee:=.builtin .unsafeString,args:= #[x,y],argTypes:= #[pt,it]},ty,pos,after,guard⟩).run P w=.ok (.value v') w':=fun v' w' hr=>by
    rw[hll,<-h2] at hr;simp[execOp,resolve,invoke,builtin,hv,hy,hr]
   by_cases hnil:l=[]
   ·subst hnil
    exact⟨.string .empty,w,G,hop _ _ (Lib.run_unsafeString_none w pt it ty ad),s.inv,.refl _ _ _,.str []⟩
   ·have hpos:0 < l.length:=aR1.2 hnil
    obtain⟨_,_,_,hty⟩:=s.inv.grow k 1 n _ hk;rcases hty e' rfl with h|⟨b,arr,fr,g1,g2,g3,g4,_⟩
    ·rw[hown] at h;cases h;omega
    rw[hown] at g1 g2 g4;cases g1
    simp only at g2 g4;obtain⟨hi',hst⟩:=cV9 s.inv hk hown (by omega)
    have hsh:w.shape? b=some (e',arr.size):=by simp[World.shape?,g3]
    have hfl:=an5 o7 (fun _=>rfl) l
    have hrun:=Lib.run_unsafeString_row (P:=P) w pt it ty e' hpt hcells b arr.size hsh l hnil (by rw[g4];omega) (by omega) (fun j x0 ej=>by
     have hj:=aa0 ej;have hfj:(aa1 xs)[j]?=some (o7 x0):=by rw[h7,hfl,ak8,ej];rfl
     obtain⟨b',off',ea,_,hcell⟩:=hc j _ hfj;cases ea
     have hrj:=hr j _ hfj;have:=ab7 hrj;rw[addr_add,hcell,this])
    rw[show n=l.length by omega] at hi' hst
    exact⟨.string ⟨l.toArray⟩,_,G,hop _ _ hrun,hi',hst,.str l⟩
  ·cases h
 ·cases h
def bL2(L:Tab)(pt:TypeId)(k off:Nat)(y:AV)(H:List AObj)(K:AV->List AObj->Prop)[Tag K]:Prop:=
 match(L pt).k,y,H[k]? with
 |.ptr e,.lit (.int .i64 c),some (.cells (.one T) cs)=>(T=e/\off=0/\(L e).k=.int .u8/\(L e).size=1/\c=cs.length/\0 < cs.length/\cs.length<=140737488355328/\isBytes cs)/\K (.str (az1 cs)) (H.set k .gone)
 |_,_,_=>False
theorem dt2{G:Gh}{w:World}(hi:HInv G H w){k:Nat}{sh:Shape}{cs:List AV}(hk:H[k]?=some (.cells sh cs))(n:Nat):HInv G (H.set k .gone) (w.freeze ⟨G.blk k,0,none⟩ n)/\Step G H w G (H.set k .gone) (w.freeze ⟨G.blk k,0,none⟩ n):=by
 obtain⟨hi1,st1⟩:=cm5 hi hk;by_cases hn:n=0
 ·subst hn
  exact⟨hi1,st1⟩
 obtain⟨arr,T,⟨lo,hi0⟩,hb,hs,hr,hf1,hf2,_⟩:=hi.cells k sh cs hk;obtain⟨fr',hrow⟩: ∃fr':Nat×Nat,(w.freeze ⟨G.blk k,0,none⟩ n).heap[G.blk k]?=some (.cells arr T fr'):=by
  refine⟨if lo==hi0 then(0,0+n) else(min lo 0,max hi0 (0+n)),?_⟩
  unfold World.freeze;rw[if_neg hn];simp[cj4,hb]
 have hother: ∀c,c≠G.blk k->(w.freeze ⟨G.blk k,0,none⟩ n).heap[c]?=w.heap[c]?:=fun c hc=>by
  unfold World.freeze;rw[if_neg hn];simp[cj4,show¬G.blk k=c from fun h=>hc h.symm]
 have hsize:(w.freeze ⟨G.blk k,0,none⟩ n).heap.size=w.heap.size:=by
  unfold World.freeze;rw[if_neg hn];simp
 have hos:(w.freeze ⟨G.blk k,0,none⟩ n).os=w.os/\(w.freeze ⟨G.blk k,0,none⟩ n).tape=w.tape/\(w.freeze ⟨G.blk k,0,none⟩ n).output=w.output:=by
  unfold World.freeze;rw[if_neg hn];exact⟨rfl,rfl,rfl⟩
 have hcell: ∀c off,(w.freeze ⟨G.blk k,0,none⟩ n).cell? ⟨c,off,none⟩=w.cell? ⟨c,off,none⟩:=fun c off=>by
  by_cases hc:c=G.blk k
  ·subst hc;rw[az5 hrow,az5 hb]
  ·exact World.cell?_of_block (w:=w) (hother c hc)
 generalize w.freeze ⟨G.blk k,0,none⟩ n=w' at*;have hsk:=bM5 hi hk;have st:Step G (H.set k .gone) w G (H.set k .gone) w':=⟨congrArg (fun o=>(o,G.lp)) hos.1,hos.2.1,hos.2.2,bf7 hsize.symm,fun _ _ h=>h,fun c off _=>hcell c off,fun c hc=>hother c fun e=>by subst e;exact hf1 0 (hc 0),(Step.refl G _ w).obj⟩
 refine⟨⟨fun c off h=>by rw[hsize];exact hi.lt c off h,fun i sh1 c ei=>?_,fun i s m t ei=>?_,hi1.apart,hi1.tabs.step st⟩,st1.trans st⟩
 ·rcases aq3 ei with⟨hik,ei'⟩|⟨rfl,ei',_⟩
  ·obtain⟨a1,T1,f1,hb1,hs1,hr1,hg1,hg2,hg3⟩:=hi1.cells i sh1 c ei
   have hne:G.blk i≠G.blk k:=fun e=>hik (hi.apart i k (G.blk k) (by simp[site,ei',e]) hsk)
   exact⟨a1,T1,f1,(hother _ hne).trans hb1,hs1,fun j x v ex ev=>(hr1 j x v ex ev).mono st,hg1,fun off h=>(World.frozen?_of_block (w:=w) (hother _ hne)).trans (hg2 off h),hg3⟩
  ·cases ei'
 ·rcases aq3 ei with⟨hik,ei'⟩|⟨rfl,ei',_⟩
  ·obtain⟨g0,g1,g2,g3⟩:=hi1.grow i s m t ei
   refine⟨g0,g1,fun hlt=>?_,?_⟩
   ·obtain⟨b1,off1,a1,T1,f1,ea1,hb1,hsz1,hj1⟩:=g2 hlt
    have hne:b1≠G.blk k:=fun e=>hik (hi.apart i k (G.blk k) (e▸a07 ei' hlt ea1) hsk)
    exact⟨b1,off1,a1,T1,f1,ea1,(hother _ hne).trans hb1,hsz1,fun j h7 h8=>⟨(hj1 j h7 h8).1,(World.frozen?_of_block (w:=w) (hother _ hne)).trans (hj1 j h7 h8).2⟩⟩
   ·intro e' he'
    rcases g3 e' he' with h|⟨b1,a1,f1,h7,h8,h9,h10⟩
    ·exact .inl h
    ·have hne:b1≠G.blk k:=fun e=>by
      have hs1:site G H i=some b1:=by
       unfold site;rw[ei',show G.own i=(some ⟨b1,0,none⟩,(G.own i).2) by rw[<-h7]]
       simp only;rw[if_pos (.inr ⟨by rw[he'];rfl,h8⟩)]
      exact hik (hi.apart i k (G.blk k) (e▸hs1) hsk)
     exact .inr ⟨b1,a1,f1,h7,h8,(hother _ hne).trans h9,h10⟩
  ·cases ei'
theorem dv2{L:Tab}(hL:ad9 P L){x y:Operand}{pt it:TypeId}{k off:Nat}{K:AV->List AObj->Prop}(hx:ev env x=.mp k off)(h:bL2 L pt k off (ev env y) H K):
  AOp P ⟨dst,.call {callee:=.builtin .unsafeString,args:= #[x,y],argTypes:= #[pt,it]},ty,pos,after,guard⟩ env H K:=.of_run fun n0 ds G a w s=>by
 unfold bL2 at h;split at h
 ·rename_i e c T cs hpk ey hk
  obtain⟨⟨rfl,rfl,h4,h5,h6,h7,h8,h9⟩,hK⟩:=h;have rx:=s.ev x;have ry:=s.ev y;rw[hx] at rx;rw[ey] at ry;have hy:=ab7 ry;have hpt:=(hL pt (by rw[hpk];simp)).1
  rw[hpk] at hpt;simp only[av9] at hpt;obtain⟨_,i,_,hinfo,hisz,_⟩:=hL T (by rw[h4];simp)
  have hcells:P.cellsOf T=1:=by
   unfold Program.cellsOf;simp[hinfo,hisz,h5]
  obtain⟨arr,T',fr,hb,hs,hr,hf1,hf2,hf3⟩:=s.inv.cells k _ cs hk;obtain⟨rfl,hasz,_⟩:=hf3;unfold isBytes at h9;generalize az1 cs=l at h9 hK;have hll:l.length=cs.length:=by rw[h9];simp
  have hne:l≠[]:=by intro e;subst e;simp at hll;omega
  generalize hv:a.eval x=v at rx;cases rx with
  |mp _ _ o0 hk0 hb0=>
  have hsh:w.shape? (G.blk k)=some (T',arr.size):=by simp[World.shape?,hb]
  have hrun:=Lib.run_unsafeString_row (P:=P) w pt it ty T' hpt hcells (G.blk k) arr.size hsh l hne (by omega) (by omega) (fun j x0 ej=>by
   have hj:=aa0 ej;have hfj:cs[j]?=some (o7 x0):=by rw[h9,ak8,ej];rfl
   have ha:arr[j]?=some (arr[j]'(by omega)):=xq2 _
   have:=ab7 (hr j _ _ hfj ha);rw[addr_add,Nat.zero_add,az5 hb,ha,this])
  obtain⟨hi',hst⟩:=dt2 s.inv hk l.length;refine⟨.string ⟨l.toArray⟩,_,.str l,_,_,?_,hi',hst,.str l,hK⟩;rw[hll,<-h6] at hrun;rw[hll];simp[execOp,resolve,invoke,builtin,hv,hy,hrun]
 ·exact h.elim
end
end V
end
section
namespace V
open Go
variable {ds:List Deferred}
def lift(q:Option (Prop×AV))(K:AV->List AObj->Prop)(H:List AObj)[Tag K]:Prop:=
 match q with
 |some (p,z)=>p/\K z H
 |none=>False
theorem dG7{p:Prop}{z:AV}{K:AV->List AObj->Prop}{H:List AObj}:lift (some (p,z)) K H=(p/\K z H):=rfl
theorem dG8{K:AV->List AObj->Prop}{H:List AObj}:lift none K H=False:=rfl
def bq2(z:AV):Option (Prop×AV):=some (True,z)
def b52(c a b:AV):Option (Prop×AV):=
 match c with
 |.lit (.bool t)=>some (True,if t then a else b)
 |_=>none
def cO1(op:UnOp)(x:AV):Option (Prop×AV):=(qUn op x).map fun z=>(True,z)
def b53(L:Tab)(t:TypeId)(x:AV):Option (Prop×AV):=(cO2 L t x).map fun z=>(True,z)
def bv8(x:AV)(i:Nat):Option (Prop×AV):=
 match x with
 |.tup xs=>(xs[i]?).map fun z=>(True,z)
 |_=>none
def do3(x:AV):Option (Prop×AV):=some (x.okv=true,.ip x)
def bs1(L:Tab)(t:TypeId)(ad x:AV)(H:List AObj)(K:AV->List AObj->Prop)[Tag K]:Prop:=
 match ad with
 |.mp k off=>match H[k]? with
  |some (.cells sh cs)=>(known (L t)=true/\x.okv=true/\x.flat.length=(L t).size/\off+(L t).size<=cs.length)/\K .any (H.set k (.cells sh (ag0 cs off x.flat)))
  |_=>False
 |_=>False
def bu5(L:Tab)(t t2:TypeId)(x y:AV)(H:List AObj)(K:AV->List AObj->Prop)[Tag K]:Prop:=
 match(L t).k,x,bp8 y with
 |.slice e,.sl o z xs,some (z2,ys)=>(a04 (L t2).k=true/\known (L e)=true/\0 < (L e).size/\0 < (L e).bytes/\bY2 H o z xs (L e).size e/\(ys≠[]->z2=(L e).size)/\(xs.length+ys.length)*(L e).bytes<=140737488355328)/\
   K (.sl (bZ0 H o (L e).size (xs.length+ys.length)).1 (L e).size (xs++ys)) (bZ0 H o (L e).size (xs.length+ys.length)).2
 |_,_,_=>False
def ba3(P:Program)(f:AV)(args:List AV)(H:List AObj)(K:AV->List AObj->Prop)[Tag K]:Prop:=
 match f with
 |.fn (.func g) fs cs=>o8 P g (fs++args++cs) H K
 |.yld k=>a95 P k args H K
 |_=>False
def dk5(e:TypeId)(x:AV)(H:List AObj)(K:AV->List AObj->Prop)[Tag K]:Prop:=x.okv=true/\K (.mp H.length 0) (H++[.cells (.one e) x.flat])
def bz1(m:Bool)(L:Tab)(t t2:TypeId)(x y:AV)(H:List AObj)(K:AV->List AObj->Prop)[Tag K]:Prop:=
 match x with
 |.mrow _ _=>a01 L t t2 x y H K
 |.msl _ _ _ _=>bm6 L t t2 x y H K
 |_=>if m then a02 L t t2 x y H K else bu5 L t t2 x y H K
def ah3(m:Bool)(L:Tab)(b:Builtin)(args:List AV)(ts:List TypeId)(H:List AObj)(K:AV->List AObj->Prop)[Tag K]:Prop:=
 match b,args,ts with
 |.len,[x],[t]=>lift (b53 L t x) K H
 |.append,[x,y],[t,t2]=>bz1 m L t t2 x y H K
 |.copy,[x,y],[t,_]=>bE5 L t x y H K
 |.cap,[x],[t]=>lift (cw9 L t x) K H
 |.min,[x,y],[_,_]=>lift (aS5 false x y) K H
 |.max,[x,y],[_,_]=>lift (aS5 true x y) K H
 |.unsafeSliceData,[x],[_]=>lift (aU9 H x) K H
 |.unsafeString,[x,y],[pt,_]=>match x with
  |.mp k off=>bL2 L pt k off y H K
  |_=>lift (bh3 L H pt x y) K H
 |_,_,_=>False
def ac6(P:Program)(L:Tab)(mu:List Nat)(o:Oper)(env:Env)(H:List AObj)(K:AV->List AObj->Prop):Prop:=
 match o.op with
 |.move x|.assign x=>lift (bq2 (ev env x)) K H
 |.pick c a b=>lift (b52 (ev env c) (ev env a) (ev env b)) K H
 |.binOp op t x y _=>if aI2 y then cj8 L op t (ev env x) H K else lift (bV4 L op t (isConst y) (ev env x) (ev env y)) K H
 |.unOp op _ x=>lift (cO1 op (ev env x)) K H
 |.convert s d x=>if mu.contains (o.dst.getD 0) then bE6 L s d (ev env x) H K else lift (bG2 P L H s d (ev env x)) K H
 |.extract x i=>lift (bv8 (ev env x) i) K H
 |.indexAddr t x i=>lift (aN4 L t (ev env x) (ev env i)) K H
 |.index t x i=>lift (bG0 L t (ev env x) (ev env i)) K H
 |.load t x=>lift (aY3 L H t (ev env x)) K H
 |.slice t x lo hi mx=>lift (bv7 L t (ev env x) (evO env lo) (evO env hi) (evO env mx)) K H
 |.fieldAddr t x f=>lift (aN5 L t (ev env x) f) K H
 |.field t x f=>lift (bG1 L t (ev env x) f) K H
 |.build t parts=>lift (bG3 L t (ak2 env parts)) K H
 |.buildSlice t len parts=>if mu.contains (o.dst.getD 0) then bu4 L t len (ak2 env parts) H K else if len=0/\parts.size≠0 then False else lift (aO7 L t len (ak2 env parts)) K H
 |.box e x=>if mu.contains (o.dst.getD 0) then dk5 e (ev env x) H K else lift (do3 (ev env x)) K H
 |.alloc e=>known (L e)=true/\(match cJ7 mu (o.dst.getD 0) with
  |none=>K (.mp H.length 0) (H++[.cells (.one e) (L e).zero])
  |some u=>K (.mp H.length 0) (H++[.cells (.one e) (ax2 (H.length+1) (L e).zero),.grow 1 0 (some u)]))
 |.store t a x=>bs1 L t (ev env a) (ev env x) H K
 |.call c=>match c.callee with
  |.builtin b=>ah3 (mu.contains (o.dst.getD 0)) L b (c.args.toList.map (ev env)) c.argTypes.toList H K
  |.value f=>ba3 P (ev env f) (c.args.toList.map (ev env)) H K
  |.invoke _ _=>False
 |.nilCheck x=>lift (cw8 (ev env x)) K H
 |.makeSlice t x y=>bE4 L t (ev env x) (ev env y) H K
 |.makeFunc f fs cs=>lift (bq2 (.fn f (fs.toList.map (ev env)) (cs.toList.map (ev env)))) K H
 |.makeInterface t x=>lift (cn4 L t (ev env x)) K H
 |.sliceToArrayPointer t x=>lift (bv6 L t (ev env x)) K H
 |_=>False
theorem dz3{P:Program}{o:Oper}{env:Env}{H:List AObj}{p:Prop}{z:AV}{K:AV->List AObj->Prop}(h:Still P o env H p z)(hp:p)(hk:K z H):AOp P o env H K:=.of_run fun n ds G a w s=>
 let ⟨v,hr,hx⟩:=h hp n ds G a w s
 ⟨v,w,z,G,H,hr,s.inv,.refl _ _ _,hx,hk⟩
theorem dC3{P:Program}{o:Oper}{env:Env}{H:List AObj}{p:Prop}{z:AV}{K:AV->List AObj->Prop}(h:Quiet P o env H p z)(hp:p)(hk:K z H):AOp P o env H K:=.of_run fun n ds G a w s=>
 let ⟨v,w',G',hr,hi,hs,hx⟩:=h hp n ds G a w s
 ⟨v,w',z,G',H,hr,hi,hs,hx,hk⟩
theorem ag9{P:Program}{o:Oper}{env:Env}{H:List AObj}{q:Option (Prop×AV)}{K:AV->List AObj->Prop}(h: ∀p z,q=some (p,z)->Still P o env H p z)(hk:lift q K H):AOp P o env H K:=by
 unfold lift at hk;split at hk
 ·exact dz3 (h _ _ rfl) hk.1 hk.2
 ·exact hk.elim
theorem bq7{P:Program}{o:Oper}{env:Env}{H:List AObj}{q:Option (Prop×AV)}{K:AV->List AObj->Prop}(h: ∀p z,q=some (p,z)->Quiet P o env H p z)(hk:lift q K H):AOp P o env H K:=by
 unfold lift at hk;split at hk
 ·exact dC3 (h _ _ rfl) hk.1 hk.2
 ·exact hk.elim
section
variable {P:Program}{env:Env}{H:List AObj}{dst:Option Tmp}{ty:TypeId}{pos:String}{after:Array Edge}{guard:Option (Nat×Bool)}
theorem cn0{n:Nat}{G:Gh}{a:Act}{w:World}(s:Sat n ds G env H a w)(xs:Array Operand):ay7 G H w (xs.toList.map (ev env)) (xs.map a.eval):=by
 refine⟨by simp,fun j x v e e'=>?_⟩
 simp only[ak8,cI5,aW2] at e e';cases h:xs[j]? with
 |none=>rw[h] at e;cases e
 |some y=>
  rw[h] at e e';cases e
  cases e'
  exact s.ev y
theorem bS3{G:Gh}{w:World}{xs ys:List AV}{vs us:Array Value}(h:ay7 G H w xs vs)(k:ay7 G H w ys us):ay7 G H w (xs++ys) (vs++us):=by
 refine⟨by simp[h.1,k.1],fun j x v e e'=>?_⟩
 by_cases hj:j < xs.length
 ·rw[xq4 hj] at e
  rw[bJ8 (by rw[h.1];exact hj)] at e'
  exact h.2 j x v e e'
 ·rw[xq7 (by omega)] at e
  rw[dj4 (by rw[h.1];omega),h.1] at e'
  exact k.2 _ x v e e'
theorem d89{f:Operand}{args:Array Operand}{ats:Array TypeId}{K:AV->List AObj->Prop}(h:ba3 P (ev env f) (args.toList.map (ev env)) H K):AOp P ⟨dst,.call {callee:=.value f,args,argTypes:=ats},ty,pos,after,guard⟩ env H K:=by
 intro ro N Q n ds G a w s;have rf:=s.ev f;refine⟨fun _ _=>trivial,?_⟩
 rw[Oper.semAt_eq _ _ _ (fun c e=>by cases e)]
 unfold ba3 at h;split at h
 ·rename_i g fs cs ef
  rw[ef] at rf;generalize hv:a.eval f=v at rf;cases rf with
  |fn _ _ _ fa ca hf hc hrf hrc=>
   have hargs:ay7 G H w (fs++args.toList.map (ev env)++cs) (fa++args.map a.eval++ca):=bS3 (bS3 ⟨hf,hrf⟩ (cn0 s args)) ⟨hc,hrc⟩;have hinv:(execOp a.eval ⟨dst,.call {callee:=.value f,args,argTypes:=ats},ty,pos,after,guard⟩).run P w=(callFunc g (fa++args.map a.eval++ca)).run P w:=by
    simp[execOp,resolve,hv,Deferred.ofValue,invoke]
   rcases h G w _ s.inv hargs with⟨fn,hfn,hbody,hname,hcall⟩|⟨v,w',hcall,x,G',H',hi,hs,hx,hk⟩
   ·have hb:fn.body≠none:=by intro e;rw[e] at hbody;cases hbody
    have hn:fn.name≠ "runtime.NumGoroutine" :=by simpa using hname
    have hrun:(execOp a.eval ⟨dst,.call {callee:=.value f,args,argTypes:=ats},ty,pos,after,guard⟩).run P w=.ok (.enter g (fa++args.map a.eval++ca)) w:=by
     rw[hinv];simp[callFunc,hfn,hb,hn]
    rw[hrun,Oper.uponIn_enter];refine⟨fun e=>by simp[fw,Fence.wide] at e,ct9 (hcall.mono ?_)⟩
    rintro e w' ⟨v,rfl,x,G',H',hi,hs,hx,hk⟩
    exact⟨v,x,G',H',rfl,hi,hs,hx,hk⟩
   ·rw[hinv,hcall]
    exact⟨v,x,G',H',rfl,hi,hs,hx,hk⟩
 ·rename_i k ef
  rw[ef] at rf;generalize hv:a.eval f=v at rf;cases rf with
  |yld _ l o ho hlp=>
   have hinv:(execOp a.eval ⟨dst,.call {callee:=.value f,args,argTypes:=ats},ty,pos,after,guard⟩).run P w=(Instr.yield l (args.map a.eval)).run P w:=by
    simp[execOp,resolve,hv,Deferred.ofValue,invoke]
   obtain⟨fn,tmps,assign,body,hrun,hround⟩:=h ro (N - 1) G w _ l s.inv (cn0 s args) hlp;rw[hinv,hrun,Oper.uponIn_round];refine⟨fun e=>by simp[fw,Fence.wide] at e,hround.mono ?_⟩
   rintro e w' ⟨v,x,G',H',rfl,hi,hs,hx,hk⟩
   exact⟨v,x,G',H',rfl,hi,hs,hx,hk⟩
 ·exact h.elim
theorem bL3{L:Tab}(hL:ad9 P L){mu:List Nat}{o:Oper}{K:AV->List AObj->Prop}(h:ac6 P L mu o env H K):AOp P o env H K:=by
 obtain⟨dst,op,ty,pos,after,guard⟩:=o;unfold ac6 at h;simp only at h;split at h
 ·exact ag9 (fun p z e=>by cases e;exact dm1) h
 ·exact ag9 (fun p z e=>by cases e;exact cL9) h
 ·refine ag9 (fun p z e=>?_) h
  unfold b52 at e;split at e
  ·rename_i t et
   cases e
   exact dm0 et
  ·cases e
 ·split at h
  ·rename_i hn
   exact et8 hL hn h
  ·exact ag9 (fun p z e=>dz2 hL e) h
 ·refine ag9 (fun p z e=>?_) h
  unfold cO1 at e;rename_i op' _ x;cases e':qUn op' (ev env x) with
  |none=>rw[e'] at e;cases e
  |some u=>rw[e'] at e;cases e;exact dS2 e'
 ·split at h
  ·exact dO3 hL h
  ·exact bq7 (fun p z e=>c63 hL e) h
 ·rename_i x' i'
  refine ag9 (fun p z e=>?_) h
  unfold bv8 at e;split at e
  ·rename_i xs ex
   cases e':xs[i']? with
   |none=>rw[e'] at e;cases e
   |some u=>rw[e'] at e;cases e;exact cF7 ex e'
  ·cases e
 ·exact ag9 (fun p z e=>cl1 hL e) h
 ·exact ag9 (fun p z e=>c43 hL e) h
 ·exact ag9 (fun p z e=>dm2 hL e) h
 ·exact ag9 (fun p z e=>c42 hL e) h
 ·exact ag9 (fun p z e=>cl2 hL e) h
 ·exact ag9 (fun p z e=>c45 hL e) h
 ·exact ag9 (fun p z e=>c47 hL e) h
 ·split at h
  ·exact dv3 hL h
  split at h
  ·exact h.elim
  ·rename_i hne
   refine bq7 (fun p z e=>cd7 hL e fun h0=>dj5 (Classical.byContradiction fun hs=>hne ⟨h0,hs⟩)) h
 ·split at h
  ·exact c98 h.1 h.2
  ·exact bq7 (fun p z e=>by cases e;exact dC2) h
 ·obtain⟨h1,h2⟩:=h
  split at h2
  ·exact dO4 hL h1 h2
  ·exact dv5 hL h1 h2
 ·unfold bs1 at h
  split at h
  ·rename_i k off ea
   split at h
   ·rename_i sh cs hk
    exact dO2 hL ea hk h.1 h.2
   ·exact h.elim
  ·exact h.elim
 ·rename_i c
  obtain⟨callee,args,ats⟩:=c;simp only at h;split at h
  ·rename_i b
   unfold ah3 at h;split at h
   ·rename_i x t hx ht
    obtain⟨y,rfl,rfl⟩: ∃y,args= #[y]/\x=ev env y:=by
     obtain⟨l⟩:=args;match l,hx with
     |[y],hx=>exact⟨y,rfl,by simpa using hx.symm⟩
    obtain rfl:ats= #[t]:=Array.ext' (by simpa using ht)
    refine ag9 (fun p z e=>?_) h
    unfold b53 at e;cases e':cO2 L t (ev env y) with
    |none=>rw[e'] at e;cases e
    |some u=>rw[e'] at e;cases e;exact dz0 hL e'
   ·rename_i x y t t2 hx ht
    obtain⟨x',y',rfl,rfl,rfl⟩: ∃x' y',args= #[x',y']/\x=ev env x'/\y=ev env y':=by
     obtain⟨l⟩:=args;match l,hx with
     |[x',y'],hx=>exact⟨x',y',rfl,by simp at hx;exact hx.1.symm,by simp at hx;exact hx.2.symm⟩
    obtain rfl:ats= #[t,t2]:=Array.ext' (by simpa using ht)
    unfold bz1 at h;split at h
    ·exact da0 hL h
    ·exact c99 hL h
    ·split at h
     ·exact da1 hL h
     ·unfold bu5 at h
      split at h
      ·rename_i h1 h2 h3
       exact dv4 hL h2 h3 h1 h.1 h.2
      ·exact h.elim
   ·rename_i x y t t2 hx ht
    obtain⟨x',y',rfl,rfl,rfl⟩: ∃x' y',args= #[x',y']/\x=ev env x'/\y=ev env y':=by
     obtain⟨l⟩:=args;match l,hx with
     |[x',y'],hx=>exact⟨x',y',rfl,by simp at hx;exact hx.1.symm,by simp at hx;exact hx.2.symm⟩
    obtain rfl:ats= #[t,t2]:=Array.ext' (by simpa using ht)
    exact d88 hL h
   ·rename_i x t hx ht
    obtain⟨y,rfl,rfl⟩: ∃y,args= #[y]/\x=ev env y:=by
     obtain⟨l⟩:=args;match l,hx with
     |[y],hx=>exact⟨y,rfl,by simpa using hx.symm⟩
    obtain rfl:ats= #[t]:=Array.ext' (by simpa using ht)
    exact ag9 (fun p z e=>dz1 hL e) h
   ·rename_i x y t t2 hx ht
    obtain⟨x',y',rfl,rfl,rfl⟩: ∃x' y',args= #[x',y']/\x=ev env x'/\y=ev env y':=by
     obtain⟨l⟩:=args;match l,hx with
     |[x',y'],hx=>exact⟨x',y',rfl,by simp at hx;exact hx.1.symm,by simp at hx;exact hx.2.symm⟩
    exact ag9 (fun p z e=>dy8 e) h
   ·rename_i x y t t2 hx ht
    obtain⟨x',y',rfl,rfl,rfl⟩: ∃x' y',args= #[x',y']/\x=ev env x'/\y=ev env y':=by
     obtain⟨l⟩:=args;match l,hx with
     |[x',y'],hx=>exact⟨x',y',rfl,by simp at hx;exact hx.1.symm,by simp at hx;exact hx.2.symm⟩
    exact ag9 (fun p z e=>dy9 e) h
   ·rename_i x t hx ht
    obtain⟨y,rfl,rfl⟩: ∃y,args= #[y]/\x=ev env y:=by
     obtain⟨l⟩:=args;match l,hx with
     |[y],hx=>exact⟨y,rfl,by simpa using hx.symm⟩
    exact ag9 (fun p z e=>cl0 e) h
   ·rename_i x y t t2 hx ht
    obtain⟨x',y',rfl,rfl,rfl⟩: ∃x' y',args= #[x',y']/\x=ev env x'/\y=ev env y':=by
     obtain⟨l⟩:=args;match l,hx with
     |[x',y'],hx=>exact⟨x',y',rfl,by simp at hx;exact hx.1.symm,by simp at hx;exact hx.2.symm⟩
    obtain rfl:ats= #[t,t2]:=Array.ext' (by simpa using ht)
    split at h
    ·rename_i hx'
     exact dv2 hL hx' h
    ·exact bq7 (fun p z e=>cO0 hL e) h
   ·exact h.elim
  ·exact d89 h
  ·exact h.elim
 ·exact ag9 (fun p z e=>dy7 e) h
 ·exact d87 hL h
 ·exact ag9 (fun p z e=>by cases e;exact cw0) h
 ·exact ag9 (fun p z e=>c44 hL e) h
 ·exact ag9 (fun p z e=>c41 hL e) h
 ·exact h.elim
end
def at7(all:List Oper)(env:Env)(j:Nat):AV:=match(all[j]?).bind (·.dst) with|some d=>get env d|none=>.any
def aB0(g:AV)(want:Bool)(run skip skip0:Prop)[Tag run][Tag skip][Tag skip0]:Prop:=
 match g with
 |.lit (.bool b)=>(b=want->run)/\(b≠want->skip)
 |.lit (.tuple _)=>skip0
 |_=>False
theorem dx1{r s z:Prop}{b:Bool}{a:Array Value}:aB0 (.lit (.tuple a)) b r s z=z:=rfl
theorem dx2{r s z:Prop}{t:Bool}:aB0 (.lit (.bool t)) true r s z=((t=true->bf0 r)/\(t=false->bf0 s)):=by cases t<;>simp[aB0,bi7]
theorem dk7{r s z:Prop}{t:Bool}:aB0 (.lit (.bool t)) false r s z=((t=true->bf0 s)/\(t=false->bf0 r)):=by cases t<;>simp[aB0,bi7]
def known1(all:List Oper)(j:Nat)(b:Bool)(env:Env):Env:=put ((all[j]?).bind (·.dst)) (.lit (.bool b)) env
def aG3(P:Program)(L:Tab)(mu:List Nat)(all:List Oper):List Oper->Env->List AObj->(Env->List AObj->Prop)->Prop
 |[],env,H,K=>K env H
 |o::rest,env,H,K=>
  match o.guard with
  |none=>ac6 P L mu o env H fun v H'=>aG3 P L mu all rest (put o.dst v env) H' K
  |some (j,want)=>aB0 (at7 all env j) want (ac6 P L mu o (known1 all j want env) H fun v H'=>aG3 P L mu all rest (put o.dst v (known1 all j want env)) H' K) (aG3 P L mu all rest (put o.dst (.lit undef) (known1 all j (!want) env)) H K) (aG3 P L mu all rest (put o.dst (.lit undef) env) H K)
def aA6(n:Nat)(ops:List Oper):Bool:=ops.all fun o=>match o.dst with|some d=>decide (d < n)|none=>true
theorem bT8{n:Nat}{G:Gh}{env:Env}{H:List AObj}{a:Act}{w:World}(s:Sat n ds G env H a w){all:Array Oper}{o:Oper}{j:Nat}{want b:Bool}(hg:o.guard=some (j,want))(hb:at7 all.toList env j=.lit (.bool b))(hd:aA6 n all.toList=true):
  Region.wanted o (yielded all a.tmps)=decide (b=want):=by
 unfold at7 at hb;simp only[Region.wanted,hg,yielded];split at hb
 ·rename_i d hj
  rw[aW2] at hj;rw[hj];have r:=s.env d;rw[hb] at r;have e:=ab7 r;have hdn:d < n:=by
   cases ho:all[j]? with
   |none=>rw[ho] at hj;cases hj
   |some oj=>
    rw[ho] at hj;have:=xq5.1 hd oj (by rw[a97];exact cI4 ho)
    simp only[Option.bind_some] at hj;rw[hj] at this;simpa using this
  have hlt:d < a.tmps.size:=by rw[s.size];exact hdn
  have:a.tmps[d]?=some (.bool b):=by
   rw[as3,xq2 hlt] at e;rw[xq2 hlt];exact congrArg some e
  simp only[Option.bind_some,this];cases b<;>cases want<;>rfl
 ·cases hb
theorem bu3{n:Nat}{G:Gh}{env:Env}{H:List AObj}{a:Act}{w:World}(s:Sat n ds G env H a w){all:Array Oper}{o:Oper}{j:Nat}{want:Bool}{ar:Array Value}(hg:o.guard=some (j,want))(hb:at7 all.toList env j=.lit (.tuple ar))(hd:aA6 n all.toList=true):
  Region.wanted o (yielded all a.tmps)=false:=by
 unfold at7 at hb;simp only[Region.wanted,hg,yielded];split at hb
 ·rename_i d hj
  rw[aW2] at hj;rw[hj];have r:=s.env d;rw[hb] at r;have e:=ab7 r;rw[as3] at e;simp only[Option.bind_some];cases h:a.tmps[d]? with
  |none=>cases want<;>rfl
  |some v=>
   rw[h] at e;simp only[Option.getD_some] at e;subst e;cases want<;>rfl
 ·cases hb
theorem Sat.known{n:Nat}{G:Gh}{env:Env}{H:List AObj}{a:Act}{w:World}(s:Sat n ds G env H a w){all:List Oper}{j:Nat}{b:Bool}(hb:at7 all env j=.lit (.bool b)):Sat n ds G (known1 all j b env) H a w:=by
 refine⟨s.size,s.defers,fun t=>?_,s.inv⟩
 unfold known1 V.put;unfold at7 at hb;split at hb
 ·rename_i d hd
  rw[hd];simp only[get];split
  ·rename_i e
   subst e;rw[<-hb];exact s.env d
  ·exact s.env t
 ·cases hb
theorem dD5{F:Fence}{N:Nat}{P:Program}{o:Oper}{a:Act}{w:World}{K K':Act->World->Prop}{Q Q':Exit->Act->World->Prop}(h: ∀a w,K a w->K' a w)(hq: ∀e a w,Q e a w->Q' e a w)
  (hh:o.wpIn F N P a w K Q):o.wpIn F N P a w K' Q':=by
 have hl:LetsOut Q->LetsOut Q':=fun⟨a,w,q⟩=>⟨a,w,hq _ _ _ q⟩
 refine⟨hh.1,?_⟩;have hh:=hh.2;generalize (o.semAt F.round a.eval).run P w=r at*;cases r with
 |ok x w'=>
  cases x<;>simp only[Oper.uponIn] at hh⊢ <;>
   first
    |exact h _ _ hh
    |exact⟨hh.1,CallsIn.mono hh.2 (fun e w'' he=>by cases e<;>first|exact h _ _ he|exact hq _ _ _ he|exact hl he)⟩
    |exact⟨hh.1,RowsIn.mono hh.2 (fun _ _ he=>h _ _ he)⟩
    |exact⟨hh.1,RoundIn.mono hh.2 (fun e w'' he=>by cases e<;>first|exact h _ _ he|exact hq _ _ _ he|exact hl he)⟩
 |halt x w'=>
  cases x<;>simp only[Oper.uponIn] at hh⊢
  all_goals first|exact hq _ _ _ hh|exact hh
theorem bD6{F:Fence}{N:Nat}{P:Program}{all:Array Oper}{Q Q':Exit->Act->World->Prop}(hq: ∀e a w,Q e a w->Q' e a w): ∀(l:List Oper) (a:Act) (w:World),wpListIn F N P all Q l a w->wpListIn F N P all Q' l a w
 |[],a,w,h=>hq _ _ _ h
 |o::r,a,w,h=>by
  unfold wpListIn at h⊢;split at h
  ·rename_i hw
   rw[if_pos hw];exact dD5 (fun a w h=>bD6 hq r a w h) hq h
  ·rename_i hw
   rw[if_neg hw];exact⟨h.1,bD6 hq r _ _ h.2⟩
theorem bk5{P:Program}{L:Tab}(hL:ad9 P L){mu:List Nat}{n:Nat}{all:Array Oper}(hall:aA6 n all.toList=true){Q:Exit->Env->List AObj->Prop}:
  ∀(rest:List Oper) (env:Env) (H:List AObj),aA6 n rest=true->aG3 P L mu all.toList rest env H (Q .normal)-> ∀ro N ds G a w,Sat n ds G env H a w->wpListIn (fw ro) N P all (Post n ds G H w Q) rest a w
 |[],env,H,_,h,ro,N,ds,G,a,w,s=>⟨G,env,H,s,.refl _ _ _,h⟩
 |o::rest,env,H,hd,h,ro,N,ds,G,a,w,s=>by
  simp only[aA6,List.all_cons,xq3] at hd;obtain⟨hd1,hd2⟩:=hd;have hdst: ∀t,o.dst=some t->t < n:=fun t e=>by rw[e] at hd1;simpa using hd1
  have run: ∀env,Sat n ds G env H a w->ac6 P L mu o env H (fun v H'=>aG3 P L mu all.toList rest (put o.dst v env) H' (Q .normal))->o.wpIn (fw ro) N P a w (wpListIn (fw ro) N P all (Post n ds G H w Q) rest) (Post n ds G H w Q):=fun env s hv=>by
   refine Oper.wpIn_mono (fun a' w' hx=>?_) (bL3 hL hv ro N (Post n ds G H w Q) n ds G a w s)
   obtain⟨v,x,G',H',rfl,hi,hs,hx,hk⟩:=hx;have s':=s.put hs hi hx hdst;exact bD6 (fun _ _ _ h=>h.trans hs) _ _ _ (bk5 hL hall (Q:=Q) rest _ H' hd2 hk ro N ds G' _ w' s')
  unfold aG3 at h;unfold wpListIn;cases hg:o.guard with
  |none=>
   rw[hg] at h;have hw:Region.wanted o (yielded all a.tmps)=true:=by simp[Region.wanted,hg]
   rw[if_pos hw];exact run env s h
  |some jw=>
   obtain⟨j,want⟩:=jw;rw[hg] at h;simp only[aB0] at h;split at h
   ·rename_i b hb
    have hwd:=bT8 s hg hb hall;rw[hwd];by_cases e:b=want
    ·rw[if_pos (by simpa using e)]
     exact run _ (s.known (e▸hb)) (h.1 e)
    ·rw[if_neg (by simpa using e)]
     have hb':at7 all.toList env j=.lit (.bool !want):=by rw[hb];cases b<;>cases want<;>simp_all
     exact⟨fun _ _=>trivial,bk5 hL hall (Q:=Q) rest _ H hd2 (h.2 e) ro N ds G _ w ((s.known hb').put (.refl _ _ _) s.inv (.lit _) hdst)⟩
   ·rename_i ar hb
    rw[bu3 s hg hb hall];rw[if_neg (by simp)]
    exact⟨fun _ _=>trivial,bk5 hL hall (Q:=Q) rest _ H hd2 h ro N ds G _ w (s.put (.refl _ _ _) s.inv (.lit _) hdst)⟩
   ·exact h.elim
theorem dO0{P:Program}{L:Tab}(hL:ad9 P L)(mu:List Nat){n:Nat}{id:Nat}{ops:List Oper}(hops:aA6 n ops=true){Q:Exit->Env->List AObj->Prop}{env:Env}{H:List AObj}
  (h:aG3 P L mu ops ops env H (Q .normal)):AW P n (.region id ops.toArray false) Q env H:=fun ro N ds G a w s=>
 wpIn_region_list (bk5 (all:=ops.toArray) hL (by simpa using hops) ops env H hops (by simpa using h) ro N ds G a w s)
end V
end
section
namespace V
open Go
variable {ds:List Deferred}
def aL8:Nat->List AV->Env
 |_,[]=>[]
 |i,x::r=>(i,x)::aL8 (i+1) r
theorem cg3: ∀(l:List AV) (i t:Nat),get (aL8 i l) t=if i<=t then(l[t - i]?).getD .any else .any
 |[],i,t=>by simp[aL8,get]
 |x::r,i,t=>by
  simp only[aL8,get,cg3 r];by_cases h:i=t
  ·subst h;simp
  ·simp only[h,if_false]
   by_cases h2:i+1<=t
   ·rw[if_pos h2,if_pos (by omega),show t - i=(t - (i+1))+1 by omega,List.getElem?_cons_succ]
   ·rw[if_neg h2,if_neg (by omega)]
def bF6(L:Tab)(env:Env)(H:List AObj):ResultVar->Option (Prop×AV)
 |.tmp t=>some (True,get env t)
 |.cell a t=>aY3 L H t (get env a)
def aL0(L:Tab)(env:Env)(H:List AObj):List ResultVar->Option (Prop×List AV)
 |[]=>some (True,[])
 |r::rs=>match bF6 L env H r,aL0 L env H rs with
  |some (p,x),some (q,xs)=>some (p/\q,x::xs)
  |_,_=>none
def aX0:List AV->AV
 |[x]=>x
 |xs=>.tup xs
def Ends(H₀:List AObj)(x:AV)(H:List AObj)(y:AV)(H':List AObj):Prop:=
 ∀G₀ w₀ G w v,HInv G₀ H₀ w₀->HInv G H w->Step G₀ H₀ w₀ G H w->Rel G H w x v-> ∃G',HInv G' H' w/\Step G₀ H₀ w₀ G' H' w/\Rel G' H' w y v
theorem eq3{H₀ H:List AObj}{x y:AV}(h:Le x y):Ends H₀ x H y H:=fun _ _ G w v _ hi hs r=>⟨G,hi,hs,h _ _ _ _ r⟩
theorem ct2{H₀ H H' H'':List AObj}{x y z:AV}(h:Ends H₀ x H y H')(k:Ends H₀ y H' z H''):Ends H₀ x H z H'':=fun G₀ w₀ G w v h0 hi hs r=>by
 obtain⟨G1,hi1,hs1,r1⟩:=h G₀ w₀ G w v h0 hi hs r;exact k G₀ w₀ G1 w v h0 hi1 hs1 r1
theorem bx2{H₀ H:List AObj}{x y:AV}{m:Nat}(hle:Le x y)(hm:H₀.length<=m)(hl:Low m y)(hobj: ∀k sh cs,k < m->H[k]?=some (.cells sh cs)->H₀[k]?=some (.cells sh cs)\/ ∀y∈cs,Low m y):Ends H₀ x H y (H.take m):=fun G₀ w₀ G w v h0 hi hs r=>by
 refine⟨G,hi.cut m fun k sh cs hk e y hy=>?_,hs.cut hm,(hle _ _ _ _ r).cut m hl⟩
 rcases hobj k sh cs hk e with h|h
 ·obtain⟨arr,T,fr,hb',hsz,hr',_⟩:=h0.cells k sh cs h
  obtain⟨j,hj⟩:=au9.1 hy;have hja:j < arr.size:=aC3 (aa0 hj) hsz;exact((hr' j y _ hj (xq2 hja)).low).mono hm
 ·exact h y hy
inductive Frz(m:Nat)(H:List AObj):AV->AV->Prop
 |low (x:AV) (h:Low m x):Frz m H x x
 |any (x:AV):Frz m H x .any
 |row (k len s:Nat) (sh:Shape) (cs xs:List AV) (hk:m<=k) (ho:H[k]?=some (.cells sh cs)) (hx:xs.length=len) (hs: ∀x∈xs,x.flat.length=s/\x.okv=true) (hl:(aa1 xs).length<=cs.length)
   (h: ∀(j:Nat) c y,cs[j]?=some c->(aa1 xs)[j]?=some y->Frz m H c y):Frz m H (.mrow k len) (.sl .sh s xs)
 |msl (k off len cap s:Nat) (sh:Shape) (cs xs:List AV) (hk:m<=k) (ho:H[k]?=some (.cells sh cs)) (hx:xs.length=len) (hs: ∀x∈xs,x.flat.length=s/\x.okv=true) (hl:off+(aa1 xs).length<=cs.length)
   (h: ∀(j:Nat) c y,cs[off+j]?=some c->(aa1 xs)[j]?=some y->Frz m H c y):Frz m H (.msl k off len cap) (.sl .sh s xs)
 |mp (k off:Nat) (sh:Shape) (cs:List AV) (x:AV) (hk:m<=k) (ho:H[k]?=some (.cells sh cs)) (hl:off+x.flat.length<=cs.length)
   (h: ∀(j:Nat) c y,cs[off+j]?=some c->x.flat[j]?=some y->Frz m H c y):Frz m H (.mp k off) (.ip x)
 |agg (cs ds:List AV) (hl:ds.length=cs.length) (h: ∀(j:Nat) c d,cs[j]?=some c->ds[j]?=some d->Frz m H c d):Frz m H (.agg cs) (.agg ds)
 |tup (cs ds:List AV) (hl:ds.length=cs.length) (h: ∀(j:Nat) c d,cs[j]?=some c->ds[j]?=some d->Frz m H c d):Frz m H (.tup cs) (.tup ds)
 |ifc (t:TypeId) (x y:AV) (h:Frz m H x y):Frz m H (.ifc t x) (.ifc t y)
def cV8(G:Gh)(H:List AObj)(m:Nat):Gh:={G with imm:=fun b off=>G.imm b off\/ ∃k sh cs,m<=k/\H[k]?=some (.cells sh cs)/\b=G.blk k}
theorem cg6{G:Gh}{H:List AObj}{w:World}(hi:HInv G H w)(m:Nat):Step G (H.take m) w (cV8 G H m) (H.take m) w:=
 ⟨rfl,rfl,rfl,xq0 _,fun _ _ h=>.inl h,fun _ _ _=>rfl,fun _ _=>rfl,fun k=>by
  cases e:(H.take m)[k]? with
  |none=>exact bs7 e
  |some o=>
   cases o with
   |cells t c=>exact⟨⟨_,e,rfl⟩,rfl,rfl⟩
   |gone=>exact⟨e,rfl,rfl⟩
   |loop r E=>exact⟨e,rfl,rfl⟩
   |grow s n t=>exact⟨n,e,xq0 _,fun _=>rfl⟩⟩
theorem ep3{G:Gh}{H:List AObj}{w:World}(hi:HInv G H w)(m:Nat)(hl: ∀k sh cs,k < m->H[k]?=some (.cells sh cs)-> ∀x∈cs,Low m x):HInv (cV8 G H m) (H.take m) w:=by
 have hc:=hi.cut m hl;have st:=cg6 hi m;have tk: ∀{k:Nat} {o:AObj},(H.take m)[k]?=some o->k < m/\H[k]?=some o:=fun {k o} e=>by
  rw[aK6] at e;split at e
  ·exact⟨by assumption,e⟩
  ·cases e
 refine⟨fun b off h=>?_,fun k sh cs e=>?_,fun k s n t e=>?_,hc.apart,hc.tabs.step st⟩
 ·rcases h with h|⟨k,sh,cs,_,hk,rfl⟩
  ·exact hi.lt b off h
  ·obtain⟨arr,T,fr,hb,_⟩:=hi.cells k sh cs hk
   exact aB9 hb
 ·obtain⟨arr,T,fr,hb,hs,hr,hf1,hf2⟩:=hc.cells k sh cs e
  obtain⟨hkm,e'⟩:=tk e;refine⟨arr,T,fr,hb,hs,fun j x v ex ev=>(hr j x v ex ev).mono st,fun off h=>?_,hf2⟩
  rcases h with h|⟨k',sh',cs',hm',hk',hbb⟩
  ·exact hf1 off h
  ·have hbb':G.blk k=G.blk k':=hbb
   have:=hi.apart k k' (G.blk k) (by simp[site,e']) (by simp[site,hk',hbb'])
   omega
 ·obtain⟨h0,h1,h2,h3⟩:=hc.grow k s n t e
  obtain⟨hkm,e'⟩:=tk e;refine⟨h0,h1,fun hn=>?_,ap7 h3 rfl (xq0 _) (fun b arr e fr hb=>⟨arr,hb,rfl⟩) fun b off arr e fr hb ea hc ht hx _=>?_⟩
  rotate_left
  ·rcases hx with hx|⟨k',sh',cs',hm',hk',hbb⟩
   ·exact hx
   ·have hs:site G H k=some b:=by
     unfold site;rw[e',show G.own k=(some ⟨b,0,none⟩,(G.own k).2) by rw[<-ea]]
     simp only;rw[if_pos (.inr ⟨ht,hc⟩)]
    have:=hi.apart k k' b hs (by simp[site,hk',hbb])
    omega
  obtain⟨b,off,arr,T,fr,ea,hb,hsz,hj⟩:=h2 hn;refine⟨b,off,arr,T,fr,ea,hb,hsz,fun j h4 h5=>⟨?_,(hj j h4 h5).2⟩⟩
  rintro(h|⟨k',sh',cs',hm',hk',hbb⟩)
  ·exact(hj j h4 h5).1 h
  ·have:=hi.apart k k' b (a07 e' hn ea) (by simp[site,hk',hbb])
   omega
theorem ep2{G:Gh}{H:List AObj}{w:World}(hi:HInv G H w){m:Nat}{x y:AV}(f:Frz m H x y): ∀v,Rel G H w x v->Rel (cV8 G H m) (H.take m) w y v:=by
 have st:=cg6 hi m;have cell: ∀(k:Nat) sh cs,m<=k->H[k]?=some (.cells sh cs)-> ∃arr:Array Value,cs.length<=arr.size/\(∀(j:Nat) x v,cs[j]?=some x->arr[j]?=some v->Rel G H w x v)/\ ∀j,(cV8 G H m).imm (G.blk k) j/\w.cell? ⟨G.blk k,j,none⟩=arr[j]?:=fun k sh cs hk ho=>by
  obtain⟨arr,T,fr,hb,hsz,hr,_⟩:=hi.cells k sh cs ho;exact⟨arr,hsz,hr,fun j=>⟨.inr ⟨k,sh,cs,hk,ho,rfl⟩,az5 hb⟩⟩
 induction f with
 |low x h=>intro v r;exact(r.cut m h).mono st
 |any x=>intro v r;exact .any v
 |row k len s sh cs xs hk ho hx hs hl h ih=>
  intro v r;obtain⟨arr,hsz,hr,hc⟩:=cell k _ cs hk ho;cases r with
  |mrow _ _ o h1 h2 hcap=>
   refine .sl .sh s xs _ _ _ (fun j=>(arr[j]?).getD undef) hx.symm hcap hs (fun j y e=>?_) (fun j y e=>?_) (fun e=>by cases e) (fun _=>rfl) (fun k e=>by cases e)
   ·have hj:=aa0 e
    have ha:arr[j]?=some (arr[j]'(by omega)):=xq2 _
    refine⟨G.blk k,0,rfl,?_,?_⟩
    ·rw[Nat.zero_add];exact(hc j).1
    ·rw[Nat.zero_add,(hc j).2,ha];rfl
   ·have hj:=aa0 e
    have ha:arr[j]?=some (arr[j]'(by omega)):=xq2 _
    have hcj:cs[j]?=some (cs[j]'(by omega)):=xq1 _
    have:=ih j _ y hcj e _ (hr j _ _ hcj ha);rw[ha];exact this
 |msl k off len cap s sh cs xs hk ho hx hs hl h ih=>
  intro v r;obtain⟨arr,hsz,hr,hc⟩:=cell k _ cs hk ho;cases r with
  |msl _ _ _ _ o h1 h2 hcap=>
   refine .sl .sh s xs _ _ _ (fun j=>(arr[off+j]?).getD undef) hx.symm hcap hs (fun j y e=>?_) (fun j y e=>?_) (fun e=>by cases e) (fun _=>rfl) (fun k e=>by cases e)
   ·have hj:=aa0 e
    have ha:arr[off+j]?=some (arr[off+j]'(by omega)):=xq2 _
    refine⟨G.blk k,off,rfl,(hc _).1,?_⟩;rw[(hc _).2,ha];rfl
   ·have hj:=aa0 e
    have ha:arr[off+j]?=some (arr[off+j]'(by omega)):=xq2 _
    have hcj:cs[off+j]?=some (cs[off+j]'(by omega)):=xq1 _
    have:=ih j _ y hcj e _ (hr _ _ _ hcj ha);rw[ha];exact this
 |mp k off sh cs x hk ho hl h ih=>
  intro v r;obtain⟨arr,hsz,hr,hc⟩:=cell k _ cs hk ho;cases r with
  |mp _ _ o h1 h2=>
   refine .ip x _ _ (fun j=>(arr[off+j]?).getD undef) (fun j y e=>?_) (fun j y e=>?_)
   ·have hj:=aa0 e
    have ha:arr[off+j]?=some (arr[off+j]'(by omega)):=xq2 _
    refine⟨(hc _).1,?_⟩;rw[(hc _).2,ha];rfl
   ·have hj:=aa0 e
    have ha:arr[off+j]?=some (arr[off+j]'(by omega)):=xq2 _
    have hcj:cs[off+j]?=some (cs[off+j]'(by omega)):=xq1 _
    have:=ih j _ y hcj e _ (hr _ _ _ hcj ha);rw[ha];exact this
 |agg cs ds hl h ih=>
  intro v r;cases r with
  |agg _ arr ha hr=>
   refine .agg ds arr (ha.trans hl.symm) fun j y u e e'=>?_
   have hj:=aa0 e;have hcj:cs[j]?=some (cs[j]'(by omega)):=xq1 _
   exact ih j _ y hcj e _ (hr j _ u hcj e')
 |tup cs ds hl h ih=>
  intro v r;cases r with
  |tup _ arr ha hr=>
   refine .tup ds arr (ha.trans hl.symm) fun j y u e e'=>?_
   have hj:=aa0 e;have hcj:cs[j]?=some (cs[j]'(by omega)):=xq1 _
   exact ih j _ y hcj e _ (hr j _ u hcj e')
 |ifc t x y h ih=>
  intro v r;cases r with
  |ifc _ _ u hr=>exact .ifc t y u (ih u hr)
theorem d53{H₀ H:List AObj}{x x' y:AV}{m:Nat}(hle:Le x x')(hm:H₀.length<=m)(f:Frz m H x' y)(hobj: ∀k sh cs,k < m->H[k]?=some (.cells sh cs)->H₀[k]?=some (.cells sh cs)\/ ∀y∈cs,Low m y):Ends H₀ x H y (H.take m):=fun G₀ w₀ G w v h0 hi hs r=>by
 have hl: ∀k sh cs,k < m->H[k]?=some (.cells sh cs)-> ∀x∈cs,Low m x:=fun k sh cs hk e y hy=>by
  rcases hobj k sh cs hk e with h|h
  ·obtain⟨arr,T,fr,hb',hsz,hr',_⟩:=h0.cells k sh cs h
   obtain⟨j,hj⟩:=au9.1 hy;have hja:j < arr.size:=aC3 (aa0 hj) hsz;exact((hr' j y _ hj (xq2 hja)).low).mono hm
  ·exact h y hy
 exact⟨cV8 G H m,ep3 hi m hl,(hs.cut hm).trans (cg6 hi m),ep2 hi f v (hle _ _ _ _ r)⟩
def Fin(L:Tab)(rs:List ResultVar)(H₀:List AObj)(R:AV->List AObj->Prop)(env:Env)(H:List AObj):Prop:=
 match aL0 L env H rs with
 |some (p,xs)=>p/\ ∃y H',Ends H₀ (aX0 xs) H y H'/\R y H'
 |none=>False
def bR8(L:Tab)(rs:List ResultVar)(H₀:List AObj)(R:AV->List AObj->Prop):Exit->Env->List AObj->Prop
 |.normal,env,H=>Fin L rs H₀ R env H
 |.ret,env,H=>Fin L rs H₀ R env H
 |_,_,_=>False
def cm7(tmps:Array Value):ResultVar->Sem Value
 |.tmp t=>pure (tmps.getD t undef)
 |.cell b t=>do loadVar t (<-asAddr (tmps.getD b undef))
theorem cm6(fn:Func)(tmps:Array Value):results fn tmps=(do let vs<-fn.results.mapM (cm7 tmps);pure (if h:vs.size=1 then vs[0] else .tuple vs)):=by
 unfold results;congr 2
theorem cw6{P:Program}{L:Tab}(hL:ad9 P L){n:Nat}{G:Gh}{env:Env}{H:List AObj}{a:Act}{w:World}(s:Sat n ds G env H a w): ∀(rs:List ResultVar) {p:Prop} {xs:List AV},aL0 L env H rs=some (p,xs)->p->
  ∃vs:List Value,(rs.mapM (cm7 a.tmps):Sem (List Value)).run P w=.ok vs w/\vs.length=xs.length/\(∀(j:Nat) x v,xs[j]?=some x->vs[j]?=some v->Rel G H w x v)
 |[],p,xs,h,hp=>by
  simp only[aL0,Option.some.injEq,Prod.mk.injEq] at h;obtain⟨_,rfl⟩:=h;exact⟨[],by simp,rfl,fun j x v e=>by simp at e⟩
 |r::rs,p,xs,h,hp=>by
  simp only[aL0] at h;split at h
  ·rename_i p1 x1 p2 xs2 h1 h2
   simp only[Option.some.injEq,Prod.mk.injEq] at h;obtain⟨rfl,rfl⟩:=h;obtain⟨vs,hr,hl,hrel⟩:=cw6 hL s rs h2 hp.2;have: ∃v,(cm7 a.tmps r).run P w=.ok v w/\Rel G H w x1 v:=by
    cases r with
    |tmp t=>
     simp only[bF6,Option.some.injEq,Prod.mk.injEq] at h1;obtain⟨_,rfl⟩:=h1;exact⟨_,rfl,s.env t⟩
    |cell b t=>
     obtain⟨ad,u,hv,hrun,hz⟩:=cS1 hL (show aY3 L H t (get env b)=some (p1,x1) from h1) hp.1 s.inv (s.env b)
     exact⟨u,by simp only[cm7,Sem.run_bind];rw[hv];simp[asAddr,hrun],hz⟩
   obtain⟨v,hv,hz⟩:=this;refine⟨v::vs,?_,by simp[hl],fun j x u e e'=>?_⟩
   ·rw[List.mapM_cons]
    simp only[Sem.run_bind];rw[hv];simp only[Result.andThen_ok,hr,Sem.run_pure]
   ·cases j with
    |zero=>simp at e e';subst e;subst e';exact hz
    |succ j=>exact hrel j x u (by simpa using e) (by simpa using e')
  ·cases h
theorem bZ5{P:Program}{L:Tab}(hL:ad9 P L){f:FuncId}{fn:Func}{c:Code}{n:Nat}{rs:List ResultVar}{args:List AV}{H:List AObj}{R:AV->List AObj->Prop}(hf:P.funcs[f]?=some fn)(hb:fn.body=some c)(hname:(fn.name== "runtime.NumGoroutine")=false)(hn:fn.ntmps=n)
  (hrs:fn.results.toList=rs) (hargs:args.length<=n) (h:AW P n c (bR8 L rs H R) (aL8 0 args) H):o8 P f args H R:=by
 intro G w vs hi hr;refine .inl ⟨fn,hf,by rw[hb];rfl,hname,?_⟩
 refine calls_of_wp hf hb (wpIn_wide.1 (wpIn_mono (n:=0) (h none 0 [] G {tmps:=vs++Array.replicate (fn.ntmps - vs.size) undef,defers:=[]} w ⟨by simp[hr.1];omega,rfl,fun t=>?_,hi⟩) fun e a w' hq=>?_))
 ·rw[cg3]
  simp only[aP7,if_true,a99];by_cases ht:t < args.length
  ·rw[xq1 ht]
   have hv:t < vs.size:=by rw[hr.1];exact ht
   rw[as3,bJ8 hv,xq2 hv];exact hr.2 t _ _ (xq1 ht) (xq2 hv)
  ·rw[av1 (by omega)]
   exact .any _
 ·obtain⟨G',env',H',s,st,q⟩:=hq
  have key:Fin L rs H R env' H'->a.defers=[]/\ ∃v,(results fn a.tmps).run P w'=.ok v w'/\ ∃v',Ending.returned v=.returned v'/\ ∃x G'' H'',HInv G'' H'' w'/\Step G H w G'' H'' w'/\Rel G'' H'' w' x v'/\R x H'':=fun hfin=>by
   unfold Fin at hfin;split at hfin
   ·rename_i p xs hres
    obtain⟨hp,x,H'',hends,hR⟩:=hfin;obtain⟨us,hrun,hlen,hrel⟩:=cw6 (P:=P) hL s rs hres hp;have hres':(results fn a.tmps).run P w'=.ok (if h:us.length=1 then us[0] else .tuple us.toArray) w':=by
     rw[cm6,dj6,hrs];simp only[Sem.run_bind,Sem.run_map];rw[hrun];simp only[Result.andThen_ok,Sem.run_pure,aR2,List.getElem_toArray]
    have hrx:Rel G' H' w' (aX0 xs) (if h:us.length=1 then us[0] else .tuple us.toArray):=by
     unfold aX0;split
     ·have h1:us.length=1:=by simpa using hlen
      rw[dif_pos h1];exact hrel 0 _ _ rfl (by simp[h1])
     ·rename_i hne
      have h1:us.length≠1:=by
       intro h1;rw[hlen] at h1;obtain⟨y,hy⟩:=List.length_eq_one_iff.1 h1;exact hne y hy
      rw[dif_neg h1];exact .tup _ _ (by simpa using hlen) fun j x v e e'=>hrel j x v e (by simpa using e')
    obtain⟨G'',hi'',st'',hrx''⟩:=hends G w G' w' _ hi s.inv st hrx;exact⟨s.defers,_,hres',_,rfl,x,G'',H'',hi'',st'',hrx'',hR⟩
   ·exact hfin.elim
  cases e with
  |normal=>
   obtain⟨h1,v,h2,h3⟩:=key q;exact⟨h1,v,h2,h3⟩
  |ret=>
   obtain⟨h1,v,h2,h3⟩:=key q;exact⟨h1,v,h2,h3⟩
  |exit _=>exact q.elim
  |goto _=>exact q.elim
  |panic _=>exact q.elim
  |outgrown=>exact q.elim
end V
end
section
namespace V
open Go
variable {ds:List Deferred}{ro:Option Nat}{N:Nat}
def ar5(P:Program)(L:Tab)(o:Oper)(env:Env)(H:List AObj)(z:AV):Prop:=ac6 P L [] o env H fun x H'=>x=z/\H'=H
theorem d51{env env':Env}{x:Operand}(h: ∀t,x=.tmp t->get env t=get env' t):ev env x=ev env' x:=by
 cases x with
 |tmp t=>exact h t rfl
 |_=>rfl
theorem ba2{P:Program}{L:Tab}{mu:List Nat}{o:Oper}{env env':Env}{H:List AObj}{K:AV->List AObj->Prop}(h: ∀x∈o.op.operands.toList,∀t,x=.tmp t->get env t=get env' t):ac6 P L mu o env H K=ac6 P L mu o env' H K:=by
 obtain⟨dst,op,ty,pos,after,guard⟩:=o;have e1: ∀x,x∈op.operands.toList->ev env x=ev env' x:=fun x hx=>d51 (h x hx)
 cases op<;>simp only[ac6]<;>simp only[Op.operands] at e1
 case move x=>rw[e1 x (by simp)]
 case assign x=>rw[e1 x (by simp)]
 case pick a b c=>rw[e1 a (by simp),e1 b (by simp),e1 c (by simp)]
 case box e x=>rw[e1 x (by simp)]
 case build t parts=>
  have:ak2 env parts=ak2 env' parts:=bS9 fun p hp=>by rw[e1 p.2 (by simpa using ⟨p.1,by simpa using hp⟩)]
  rw[this]
 case buildSlice t len parts=>
  have:ak2 env parts=ak2 env' parts:=bS9 fun p hp=>by rw[e1 p.2 (by simpa using ⟨p.1,by simpa using hp⟩)]
  rw[this]
 case load t x=>rw[e1 x (by simp)]
 case store t a x=>rw[e1 a (by simp),e1 x (by simp)]
 case binOp op t x y t'=>rw[e1 x (by simp),e1 y (by simp)]
 case unOp op t x=>rw[e1 x (by simp)]
 case convert s d x=>rw[e1 x (by simp)]
 case slice t x lo hi mx=>
  have eo: ∀z,(z=lo\/z=hi\/z=mx)->evO env z=evO env' z:=fun z hz=>by
   cases z with
   |none=>rfl
   |some y=>simp only[evO,Option.map_some];rw[e1 y (by rcases hz with rfl|rfl|rfl<;>simp)]
  rw[e1 x (by simp),eo lo (.inl rfl),eo hi (.inr (.inl rfl)),eo mx (.inr (.inr rfl))]
 case fieldAddr t x f=>rw[e1 x (by simp)]
 case field t x f=>rw[e1 x (by simp)]
 case indexAddr t x i=>rw[e1 x (by simp),e1 i (by simp)]
 case index t x i=>rw[e1 x (by simp),e1 i (by simp)]
 case extract x i=>rw[e1 x (by simp)]
 case nilCheck x=>rw[e1 x (by simp)]
 case makeSlice t x y=>rw[e1 x (by simp),e1 y (by simp)]
 case makeInterface t x=>rw[e1 x (by simp)]
 case sliceToArrayPointer t x=>rw[e1 x (by simp)]
 case makeFunc f fs cs=>
  have h1:fs.toList.map (ev env)=fs.toList.map (ev env'):=bS9 fun x hx=>e1 x (by rw[dj3,aR3];exact .inl hx)
  have h2:cs.toList.map (ev env)=cs.toList.map (ev env'):=bS9 fun x hx=>e1 x (by rw[dj3,aR3];exact .inr hx)
  rw[h1,h2]
 case call c=>
  obtain⟨callee,args,ats⟩:=c;simp only[Call.operands] at e1;have ea:args.toList.map (ev env)=args.toList.map (ev env'):=bS9 fun x hx=>e1 x (by simp only[dj3,aR3];exact .inr hx)
  rw[ea];cases callee with
  |builtin b=>rfl
  |value f=>simp only[];rw[e1 f (by simp)]
  |invoke r m=>rfl
def ab9(listed:Nat->Bool)(zs:Nat->AV):Nat->List Oper->Env->Env
 |_,[],env=>env
 |i,o::r,env=>ab9 listed zs (i+1) r (if listed i then put o.dst (zs i) env else env)
theorem get_put(d:Option Nat)(v:AV)(env:Env)(t:Nat):get (put d v env) t=if d=some t then v else get env t:=by
 cases d with
 |none=>simp[put]
 |some d=>simp[put,get]
theorem aw1{zs:Nat->AV}{l l':Nat->Bool}{t:Nat}: ∀(ops:List Oper) (i:Nat) (env env':Env),get env t=get env' t->(∀(j:Nat) o,ops[j]?=some o->o.dst=some t->l (i+j)=l' (i+j))->get (ab9 l zs i ops env) t=get (ab9 l' zs i ops env') t
 |[],_,_,_,h,_=>h
 |o::r,i,env,env',h,hl=>by
  simp only[ab9];refine aw1 r (i+1) _ _ ?_ fun j o' e hd=>by have:=hl (j+1) o' (by simpa using e) hd;rwa [show i+(j+1)=i+1+j by omega] at this
  by_cases hd:o.dst=some t
  ·have:=hl 0 o rfl hd
   rw[ar7] at this;rw[this];cases l' i
   ·simpa using h
   ·simp[get_put,hd]
  ·cases l i<;>cases l' i<;>simp[get_put,hd,h]
theorem bB4{zs:Nat->AV}{l:Nat->Bool}{t:Nat}: ∀(ops:List Oper) (i:Nat) (env:Env) (k:Nat) (o:Oper),ops[k]?=some o->l (i+k)=false->(∀(j:Nat) o',k < j->ops[j]?=some o'->l (i+j)=true->o.dst=some t->o'.dst≠some t)->
  get (ab9 (fun j=>if j=i+k then true else l j) zs i ops env) t=get (put o.dst (zs (i+k)) (ab9 l zs i ops env)) t
 |[],_,_,_,_,e,_,_=>by simp at e
 |o::r,i,env,0,o',e,hl,h=>by
  simp only[List.getElem?_cons_zero,Option.some.injEq] at e;subst e;simp only[ar7] at hl⊢;simp only[ab9,if_true,hl,Bool.false_eq_true,if_false];rw[get_put];by_cases hd:o.dst=some t
  ·rw[if_pos hd]
   have: ∀(ops:List Oper) (i':Nat) (env:Env),(∀(j:Nat) o',ops[j]?=some o'->(fun j=>if j=i then true else l j) (i'+j)=true->o'.dst≠some t)->get (ab9 (fun j=>if j=i then true else l j) zs i' ops env) t=get env t:=by
    intro ops;induction ops with
    |nil=>intro _ _ _;rfl
    |cons o r ih=>
     intro i' env hh;simp only[ab9];rw[ih (i'+1) _ fun j o' e he=>hh (j+1) o' (by simpa using e) (by rwa [show i'+(j+1)=i'+1+j by omega])]
     by_cases hi:(if i'=i then true else l i')=true
     ·rw[if_pos hi,get_put,if_neg (hh 0 o rfl (by simpa using hi))]
     ·rw[if_neg hi]
   rw[this r (i+1) _ fun j o' e he=>h (j+1) o' (by omega) (by simpa using e) (by
    simp only[show¬(i+1+j=i) by omega,if_false] at he
    rwa [show i+(j+1)=i+1+j by omega]) hd,get_put,if_pos hd]
  ·rw[if_neg hd]
   refine aw1 r (i+1) _ _ (by rw[get_put,if_neg hd]) fun j o' e _=>by simp[show¬(i+1+j=i) by omega]
 |o::r,i,env,k+1,o',e,hl,h=>by
  simp only[List.getElem?_cons_succ] at e;have hne: ¬(i=i+(k+1)):=by omega
  simp only[ab9,hne,if_false];have:=bB4 r (i+1) (if l i then put o.dst (zs i) env else env) k o' e (by rw[show i+1+k=i+(k+1) by omega];exact hl) (t:=t) (zs:=zs) (l:=l) fun j o'' hj e' he hd=>h (j+1) o'' (by omega) (by simpa using e') (by rw[show i+(j+1)=i+1+j by omega];exact he) hd
  rw[show i+1+k=i+(k+1) by omega] at this
  exact this
def touches(all:List Oper)(o:Oper):List Nat:=
 (o.op.operands.toList.filterMap fun|.tmp t=>some t|_=>none)++(match o.guard with|some (j,_)=>((all[j]?).bind (·.dst)).toList|none=>[])++o.dst.toList
def am1:List Oper->List (List Nat)->List (List Nat)
 |[],acc=>acc
 |o::r,acc=>am1 r (acc++[(o.after.toList.flatMap fun e=>if Region.binds .any e then e.on::acc.getD e.on [] else[]).eraseDups])
def ordered(bs:List (List Nat))(ops:List Oper)(i:Nat)(o:Oper):Nat->List Oper->Bool
 |_,[]=>true
 |j,q::r=>(match q.dst with
   |some d=>if j=i then true else if(touches ops o).contains d then(if j < i then(bs.getD i []).contains j else(bs.getD j []).contains i) else true
   |none=>true)&&ordered bs ops i o (j+1) r
def be9(bs:List (List Nat))(ops:List Oper):Nat->List Oper->Bool
 |_,[]=>true
 |i,o::r=>ordered bs ops i o 0 ops&&(o.after.toList.all fun e=>!Region.binds .any e||decide (e.on < i))&&be9 bs ops (i+1) r
def aO3(ops:List Oper):Bool:=be9 (am1 ops []) ops 0 ops
def Past(ops:List Oper)(l:Nat->Bool):Prop:= ∀(i:Nat) o,ops[i]?=some o->l i=true-> ∀e∈o.after.toList,Region.binds .any e=true->l e.on=true
theorem aA8{ops:List Oper}{l:Nat->Bool}(hp:Past ops l): ∀(r done:List Oper) (acc:List (List Nat)),ops=done++r->acc.length=done.length->
  (∀i j o,i < acc.length->j∈acc.getD i []->ops[i]?=some o->(∀e∈o.after.toList,Region.binds .any e=true->l e.on=true)->l j=true)->
  ∀i j o,j∈(am1 r acc).getD i []->ops[i]?=some o->(∀e∈o.after.toList,Region.binds .any e=true->l e.on=true)->l j=true
 |[],done,acc,_,_,h,i,j,o,hj,ho,hl=>by
  simp only[am1] at hj;by_cases hi:i < acc.length
  ·exact h i j o hi hj ho hl
  ·simp[List.getD,av1 (by omega:acc.length<=i)] at hj
 |q::r,done,acc,he,hlen,h,i,j,o,hj,ho,hl=>by
  refine aA8 hp r (done++[q]) _ (by simp[he]) (by simp[hlen]) (fun i j o hi hj ho hl=>?_) i j o hj ho hl
  by_cases hi':i < acc.length
  ·have:(acc++[(q.after.toList.flatMap fun e=>if Region.binds .any e then e.on::acc.getD e.on [] else[]).eraseDups]).getD i []=acc.getD i []:=by simp[List.getD,xq4 hi']
   rw[this] at hj;exact h i j o hi' hj ho hl
  ·have hi2:i=acc.length:=by simp at hi;omega
   subst hi2;have hq:o=q:=by
    rw[he,xq7 (by omega),hlen,ap6] at ho
    exact(Option.some.inj ho).symm
   subst hq;simp only[List.getD,xq7 (xq0 _),ap6,List.getElem?_cons_zero,Option.getD_some,List.mem_eraseDups] at hj;obtain⟨e,hem,hje⟩:=bK7.1 hj;split at hje
   ·rename_i hb
    have hle:=hl e hem hb;rcases xq8.1 hje with rfl|hje
    ·exact hle
    ·have hee:e.on < acc.length:=by
      rcases an9 e.on acc.length with h1|h1
      ·exact h1
      ·simp[av1 h1] at hje
     cases hoe:ops[e.on]? with
     |none=>
      have:ops.length<=e.on:=by simpa using hoe
      rw[he] at this;simp at this
      omega
     |some oe=>exact h e.on j oe hee hje hoe fun e' he' hb'=>hp e.on oe hoe hle e' he' hb'
   ·cases hje
theorem aF5{bs:List (List Nat)}{ops:List Oper}{i:Nat}{o:Oper}: ∀(r:List Oper) (j:Nat),ordered bs ops i o j r=true-> ∀(k:Nat) q d,r[k]?=some q->q.dst=some d->j+k≠i->d∈touches ops o->(j+k < i->(j+k)∈bs.getD i [])/\(i < j+k->i∈bs.getD (j+k) [])
 |[],_,_,k,q,d,e,_,_,_=>by simp at e
 |q::r,j,h,0,q',d,e,hd,hne,ht=>by
  simp only[List.getElem?_cons_zero,Option.some.injEq] at e;subst e;simp only[ordered,xq3,hd] at h;have h1:=h.1;simp only[ar7] at hne⊢;rw[if_neg hne,if_pos (by simpa using ht)] at h1
  refine⟨fun hlt=>by rw[if_pos hlt] at h1;simpa using h1,fun hgt=>by rw[if_neg (by omega)] at h1;simpa using h1⟩
 |q::r,j,h,k+1,q',d,e,hd,hne,ht=>by
  simp only[ordered,xq3] at h;have:=aF5 r (j+1) h.2 k q' d (by simpa using e) hd (by omega) ht
  rwa [show j+1+k=j+(k+1) by omega] at this
theorem aC1{bs:List (List Nat)}{ops:List Oper}: ∀(r:List Oper) (s:Nat),be9 bs ops s r=true-> ∀(i:Nat) o,r[i]?=some o->ordered bs ops (s+i) o 0 ops=true/\ ∀e∈o.after.toList,Region.binds .any e=true->e.on < s+i
 |[],_,_,i,o,e=>by simp at e
 |q::r,s,h,0,o,e=>by
  simp only[List.getElem?_cons_zero,Option.some.injEq] at e;subst e;simp only[be9,xq3,xq5,bT4,Bool.not_eq_true',decide_eq_true_eq] at h;exact⟨h.1.1,fun e he hb=>by
   rcases h.1.2 e he with h'|h'
   ·rw[hb] at h';cases h'
   ·simpa using h'⟩
 |q::r,s,h,i+1,o,e=>by
  simp only[be9,xq3] at h;have:=aC1 r (s+1) h.2 i o (by simpa using e)
  rwa [show s+1+i=s+(i+1) by omega] at this
def Does(P:Program)(L:Tab)(all:List Oper)(o:Oper)(env:Env)(H:List AObj)(z:AV):Prop:=
 match o.guard with
 |none=>ar5 P L o env H z
 |some (j,want)=>(∃b,at7 all env j=.lit (.bool b)/\((b=want/\ar5 P L o env H z)\/(b≠want/\z=.lit undef)))\/(∃ar,at7 all env j=.lit (.tuple ar)/\z=.lit undef)
theorem du1{P:Program}{L:Tab}{all:List Oper}{o:Oper}{env env':Env}{H:List AObj}{z:AV}(h: ∀t∈touches all o,t∉o.dst.toList\/True->get env t=get env' t):Does P L all o env H z->Does P L all o env' H z:=by
 have h': ∀t∈touches all o,get env t=get env' t:=fun t ht=>h t ht (.inr trivial)
 have hq:ar5 P L o env H z=ar5 P L o env' H z:=by
  unfold ar5;exact ba2 fun x hx t ht=>h' t (by
   unfold touches;refine aR3.2 (.inl (aR3.2 (.inl (List.mem_filterMap.2 ⟨x,hx,by rw[ht]⟩))))
   )
 unfold Does;cases hg:o.guard with
 |none=>simp only;rw[hq];exact id
 |some jw=>
  obtain⟨j,want⟩:=jw;simp only;have hgv:at7 all env j=at7 all env' j:=by
   unfold at7;cases hj:(all[j]?).bind (·.dst) with
   |none=>rfl
   |some d=>exact h' d (by unfold touches;rw[hg];simp[hj])
  rw[hq,hgv];exact id
theorem Sat.of_get{n:Nat}{G:Gh}{env env':Env}{H:List AObj}{a:Act}{w:World}(s:Sat n ds G env H a w)(h: ∀t,get env t=get env' t):Sat n ds G env' H a w:=
 ⟨s.size,s.defers,fun t=>h t▸s.env t,s.inv⟩
theorem aM1{G:Gh}{H:List AObj}{w:World}:Step G H w G H w.drew:=⟨rfl,rfl,rfl,xq0 _,fun _ _ h=>h,fun _ _ _=>rfl,fun _ _=>rfl,(Step.refl G H w).obj⟩
theorem cf9{G:Gh}{H:List AObj}{w:World}(h:HInv G H w):HInv G H w.drew:=by
 refine⟨h.lt,fun k sh cs e=>?_,h.grow,h.apart,h.tabs.step (H:=H) aM1⟩
 obtain⟨arr,T,fr,hb,hs,hr,hf⟩:=h.cells k sh cs e;exact⟨arr,T,fr,hb,hs,fun j x v ex ev=>(hr j x v ex ev).mono aM1,hf⟩
theorem eq6{P:Program}{L:Tab}(hL:ad9 P L){n:Nat}{all:Array Oper}(hops:aA6 n all.toList=true){i:Nat}{o:Oper}(ho:all[i]?=some o){env:Env}{H:List AObj}{z:AV}(hd:Does P L all.toList o env H z)
  {G:Gh} {a:Act} {w:World} (s:Sat n ds G env H a w) {K:Act->World->Prop} {Q:Exit->Act->World->Prop} (hK: ∀G' a' w',Sat n ds G' (put o.dst z env) H a' w'->Step G H w G' H w'->K a' w'):wpOpIn (fw ro) N P all Q i K a w:=by
 have hdst: ∀t,o.dst=some t->t < n:=fun t e=>by
  have:=xq5.1 hops o (by rw[a97];exact cI4 ho)
  rw[e] at this;simpa using this
 have hq:ar5 P L o env H z->o.wpIn (fw ro) N P a w K Q:=fun hq=>by
  refine Oper.wpIn_mono (fun a' w' hx=>?_) (bL3 hL hq ro N Q n ds G a w s)
  obtain⟨v,x,G',H',rfl,hi,hs,hx,rfl,rfl⟩:=hx;exact hK G' _ w' (s.put hs hi hx hdst) hs
 unfold wpOpIn;rw[ho];simp only;unfold Does at hd;cases hg:o.guard with
 |none=>
  rw[hg] at hd;rw[if_pos (by simp[Region.wanted,hg])]
  exact hq hd
 |some jw=>
  obtain⟨j,want⟩:=jw;rw[hg] at hd;rcases hd with⟨b,hb,hd⟩|⟨ar,hb,rfl⟩
  ·rw[bT8 s hg hb hops]
   rcases hd with⟨e,hd⟩|⟨e,rfl⟩
   ·rw[if_pos (by simpa using e)]
    exact hq hd
   ·rw[if_neg (by simpa using e)]
    exact⟨fun _ _=>trivial,hK G _ w (s.put (.refl _ _ _) s.inv (.lit _) hdst) (.refl _ _ _)⟩
  ·rw[bu3 s hg hb hops]
   rw[if_neg (by simp)]
   exact⟨fun _ _=>trivial,hK G _ w (s.put (.refl _ _ _) s.inv (.lit _) hdst) (.refl _ _ _)⟩
theorem cu3{P:Program}{L:Tab}(hL:ad9 P L)(hm:P.follows .mixedOrders=true){n:Nat}{rid:Nat}{ops:List Oper}(hops:aA6 n ops=true)(hdr:aO3 ops=true){Q:Exit->Env->List AObj->Prop}{env:Env}{H:List AObj}(zs:Nat->AV)
  (hdoes: ∀(i:Nat) o,ops[i]?=some o->Does P L ops o (ab9 (fun j=>decide (j < i)) zs 0 ops env) H (zs i)) (env':Env) (henv: ∀t,get (ab9 (fun _=>true) zs 0 ops env) t=get env' t) (hQ:Q .normal env' H):AW P n (.region rid ops.toArray true) Q env H:=fun ro N ds G a w s=>by
 refine wpIn_region_draw fun t=>?_
 simp only[Region.schedule,hm,Bool.true_or,if_true];have hord: ∀(i:Nat) o,ops[i]?=some o->ordered (am1 ops []) ops i o 0 ops=true/\ ∀e∈o.after.toList,Region.binds .any e=true->e.on < i:=fun i o e=>by
  have:=aC1 ops 0 hdr i o e;rwa [Nat.zero_add] at this
 have key: ∀(fuel:Nat) (listed:Array Bool) (a:Act) (w':World) (G':Gh),listed.size=ops.length->Past ops (fun j=>listed.getD j false)->Step G H w G' H w'->Sat n ds G' (ab9 (fun j=>listed.getD j false) zs 0 ops env) H a w'->
   (∀i,i < ops.length->listed.getD i false=false->0 < fuel)->(fuel+(listed.toList.filter id).length=ops.length)->wpAnyIn (fw ro) N P .any ops.toArray (Post n ds G H w Q) fuel listed a w':=by
  intro fuel;induction fuel with
  |zero=>
   intro listed a w' G' hsz hpast hst hs hf _;have hall: ∀i,i < ops.length->listed.getD i false=true:=fun i hi=>by
    cases hl:listed.getD i false with
    |true=>rfl
    |false=>exact absurd (hf i hi hl) (bu0 _)
   refine⟨?_,G',_,H,hs.of_get fun t=>(aw1 ops 0 env env rfl fun j o e _=>by rw[Nat.zero_add];exact hall j (aa0 e)).trans (henv t),hst,hQ⟩
   unfold Region.ready;rw[dj2];intro i hi;have hi':i < ops.length:=by simpa using hi
   have:=hall i hi';have h2:listed.getD i true=true:=by
    rw[as3,xq2 (by omega)] at this⊢
    exact this
   simp[h2]
  |succ fuel ih=>
   intro listed a w' G' hsz hpast hst hs hf hcount;refine⟨fun hnil=>?_,fun i hi=>?_⟩
   ·
    have hall: ∀i,i < ops.length->listed.getD i false=true:=by
     intro i;induction i using Nat.strongRecOn with
     |_ i ihi=>
      intro hi;cases hl:listed.getD i false with
      |true=>rfl
      |false=>
       exfalso
       have hmem:i∈Region.ready .any ops.toArray listed:=by
        unfold Region.ready;rw[bf6];refine⟨by simpa using hi,?_⟩
        have h2:listed.getD i true=false:=by
         rw[as3,xq2 (by omega)] at hl⊢
         exact hl
        have ho:ops.toArray[i]?=some ops[i]:=by simp[hi]
        rw[h2,ho];simp only[Bool.not_false,Bool.true_and,Option.map_some,Option.getD_some];rw[b09];intro e he;have:=(hord i ops[i] (xq1 hi)).2 e (a97.2 he);cases hb:Region.binds .any e with
        |false=>rfl
        |true=>
         have h3:=this hb;rw[ihi e.on h3 (by omega)]
         rfl
       rw[hnil] at hmem;cases hmem
    exact⟨G',_,H,hs.of_get fun t=>(aw1 ops 0 env env rfl fun j o e _=>by rw[Nat.zero_add];exact hall j (aa0 e)).trans (henv t),hst,hQ⟩
   ·unfold Region.ready at hi
    rw[bf6] at hi;obtain⟨hi1,hi2⟩:=hi;have hi':i < ops.length:=by simpa using hi1
    have ho:ops.toArray[i]?=some ops[i]:=by simp[hi']
    rw[ho] at hi2;simp only[Option.map_some,Option.getD_some,xq3,Bool.not_eq_true'] at hi2;obtain⟨hl0,hready⟩:=hi2;have hl:listed.getD i false=false:=by
     rw[as3,xq2 (by omega)] at hl0⊢
     exact hl0
    have hpre: ∀e∈(ops[i]).after.toList,Region.binds .any e=true->listed.getD e.on false=true:=fun e he hb=>by
     rw[b09] at hready;have:=hready e (a97.1 he);rw[hb] at this;simpa using this
    have hoi:ops[i]?=some ops[i]:=xq1 hi';obtain⟨hor,hback⟩:=hord i ops[i] hoi;have hbi: ∀j,j∈(am1 ops []).getD i []->listed.getD j false=true:=fun j hj=>
     aA8 hpast ops [] [] rfl rfl (fun i j o hi=>by simp at hi) i j ops[i] hj hoi hpre
    have hlater: ∀(j:Nat) q,ops[j]?=some q->i∈(am1 ops []).getD j []->listed.getD j false=false:=fun j q hq hij=>by
     cases hlj:listed.getD j false with
     |false=>rfl
     |true=>
      have:=aA8 hpast ops [] [] rfl rfl (fun i j o hi=>by simp at hi) j i q hij hq (hpast j q hq hlj)
      rw[hl] at this;cases this
    have hsame: ∀t∈touches ops ops[i],get (ab9 (fun j=>decide (j < i)) zs 0 ops env) t=get (ab9 (fun j=>listed.getD j false) zs 0 ops env) t:=fun t ht=>by
     refine aw1 ops 0 env env rfl fun j q hq hd=>?_
     rw[Nat.zero_add];by_cases hji:j=i
     ·subst hji
      rw[hl];simp
     ·have hsp:=aF5 ops 0 hor j q t hq hd (by omega) ht
      rw[Nat.zero_add] at hsp;rcases an9 j i with h1|h1
      ·rw[hbi j (hsp.1 h1)]
       simpa using h1
      ·rw[hlater j q hq (hsp.2 (by omega))]
       simpa using h1
    have hdo:=du1 (fun t ht _=>hsame t ht) (hdoes i ops[i] hoi)
    refine eq6 hL (all:=ops.toArray) (by simpa using hops) ho hdo hs fun G'' a'' w'' hs'' hst''=>?_
    have hget: ∀t,get (put (ops[i]).dst (zs i) (ab9 (fun j=>listed.getD j false) zs 0 ops env)) t=get (ab9 (fun j=>(listed.setIfInBounds i true).getD j false) zs 0 ops env) t:=fun t=>by
     have h1:=bB4 (zs:=zs) (l:=fun j=>listed.getD j false) (t:=t) ops 0 env i ops[i] hoi (by rw[Nat.zero_add];exact hl) (fun j q hj hq hlj hd=>by
      intro hqd;rw[Nat.zero_add] at hlj;have hsp:=aF5 ops 0 hor j q t hq hqd (by omega) (by unfold touches;rw[hd];simp)
      rw[Nat.zero_add] at hsp;have hlj':listed.getD j false=true:=hlj;rw[hlater j q hq (hsp.2 hj)] at hlj';cases hlj')
     rw[Nat.zero_add] at h1;rw[<-h1];refine aw1 ops 0 env env rfl fun j q hq _=>?_
     rw[Nat.zero_add];simp only[as3,b35];by_cases hji:j=i
     ·subst hji
      simp[show j < listed.size by omega]
     ·simp[hji,show¬(i=j) from fun h=>hji h.symm]
    have hgd: ∀j,(listed.setIfInBounds i true).getD j false=if j=i then true else listed.getD j false:=fun j=>by
     simp only[as3,b35];by_cases hji:j=i
     ·subst hji
      simp[show j < listed.size by omega]
     ·simp[hji,show¬(i=j) from fun h=>hji h.symm]
    have hcnt:fuel+((listed.setIfInBounds i true).toList.filter id).length=ops.length:=by
     have:((listed.setIfInBounds i true).toList.filter id).length=(listed.toList.filter id).length+1:=by
      rw[cI3];have hli:i < listed.toList.length:=by simp;omega
      have hlf:listed.toList[i]=false:=by
       rw[as3,xq2 (by omega)] at hl
       simpa using hl
      have key2: ∀(l:List Bool) (i:Nat) (hi:i < l.length),l[i]=false->((l.set i true).filter id).length=(l.filter id).length+1:=by
       intro l;induction l with
       |nil=>intro i hi;simp at hi
       |cons b r ih=>
        intro i hi he;cases i with
        |zero=>simp at he;subst he;simp
        |succ i=>
         simp only[List.set_cons_succ,aP6];have:=ih i (by simpa using hi) (by simpa using he)
         cases b<;>simp[this]
      exact key2 _ i hli hlf
     omega
    refine ih _ _ _ G'' (by simp[hsz]) (fun j q hq hlj e he hb=>?_) (hst.trans hst'') (hs''.of_get hget) (fun j hj hlj=>?_) hcnt
    ·simp only[hgd] at hlj⊢
     by_cases hji:j=i
     ·subst hji
      have hqe:q=ops[j]:=by rw[hoi] at hq;exact(Option.some.inj hq).symm
      subst hqe;split
      ·rfl
      ·exact hpre e he hb
     ·rw[if_neg hji] at hlj
      split
      ·rfl
      ·exact hpast j q hq hlj e he hb
    ·
     rcases a98 fuel with h0|h0
     ·exfalso
      rw[h0,Nat.zero_add] at hcnt;have hfull: ∀(l:List Bool),(l.filter id).length=l.length-> ∀b∈l,b=true:=fun l hl b hb=>by
       have:=cI2.1 (List.Sublist.eq_of_length (cI1 (l:=l) (p:=id)) hl) b hb;simpa using this
      have hlen:((listed.setIfInBounds i true).toList.filter id).length=(listed.setIfInBounds i true).toList.length:=by rw[hcnt];simp[hsz]
      have hjs:j < (listed.setIfInBounds i true).size:=by simp;omega
      have:=hfull _ hlen ((listed.setIfInBounds i true)[j]) (by rw[a97];exact Array.getElem_mem hjs)
      rw[as3,xq2 hjs] at hlj;simp only[Option.getD_some] at hlj;rw[this] at hlj;cases hlj
     ·exact h0
 have hcap:Sat n ds G (ab9 (fun j=>(Array.replicate ops.toArray.size false).getD j false) zs 0 ops env) H a {w with drawn:=w.drawn+1}:=by
  have h0: ∀t,get env t=get (ab9 (fun j=>(Array.replicate ops.toArray.size false).getD j false) zs 0 ops env) t:=fun t=>by
   have: ∀(r:List Oper) (i:Nat) (env:Env),get env t=get (ab9 (fun j=>(Array.replicate ops.toArray.size false).getD j false) zs i r env) t:=by
    intro r;induction r with
    |nil=>intro _ _;rfl
    |cons o r ih=>
     intro i env;simp only[ab9];have:(Array.replicate ops.toArray.size false).getD i false=false:=by
      rw[as3,bK6];split<;>rfl
     simp only[this,Bool.false_eq_true,if_false];exact ih (i+1) env
   exact this ops 0 env
  exact Sat.of_get (env:=env) (s.step aM1 (cf9 s.inv)) h0
 refine wpAnyIn_sound ops.toArray.size t _ a _ (key ops.toArray.size _ a _ G (by simp) (fun i o ho hl=>?_) aM1 hcap (fun i hi _=>by simp;omega) (by simp))
 simp only[as3,bK6] at hl;split at hl<;>cases hl
end V
end
section
namespace V
open Go
def qOp(P:Program)(L:Tab)(o:Oper)(env:Env)(H:List AObj):Option (Prop×AV):=
 match o.op with
 |.move x|.assign x=>bq2 (ev env x)
 |.pick c a b=>b52 (ev env c) (ev env a) (ev env b)
 |.binOp op t x y _=>if aI2 y then none else bV4 L op t (isConst y) (ev env x) (ev env y)
 |.nilCheck x=>cw8 (ev env x)
 |.makeFunc f fs cs=>bq2 (.fn f (fs.toList.map (ev env)) (cs.toList.map (ev env)))
 |.makeInterface t x=>cn4 L t (ev env x)
 |.sliceToArrayPointer t x=>bv6 L t (ev env x)
 |.unOp op _ x=>cO1 op (ev env x)
 |.convert s d x=>bG2 P L H s d (ev env x)
 |.extract x i=>bv8 (ev env x) i
 |.indexAddr t x i=>aN4 L t (ev env x) (ev env i)
 |.index t x i=>bG0 L t (ev env x) (ev env i)
 |.load t x=>aY3 L H t (ev env x)
 |.slice t x lo hi mx=>bv7 L t (ev env x) (evO env lo) (evO env hi) (evO env mx)
 |.fieldAddr t x f=>aN5 L t (ev env x) f
 |.field t x f=>bG1 L t (ev env x) f
 |.build t parts=>bG3 L t (ak2 env parts)
 |.box _ x=>do3 (ev env x)
 |_=>none
theorem ez2{P:Program}{L:Tab}{o:Oper}{env:Env}{H:List AObj}{p:Prop}{z:AV}(h:qOp P L o env H=some (p,z))(hp:p):ar5 P L o env H z:=by
 obtain⟨dst,op,ty,pos,after,guard⟩:=o;have key: ∀(q:Option (Prop×AV)) (K:AV->List AObj->Prop),q=some (p,z)->K z H->lift q K H:=fun q K e hk=>by rw[e];exact⟨hp,hk⟩
 unfold ar5;cases op<;>simp only[qOp] at h<;>first|(simp at h;done)|(simp only[ac6,List.contains_nil,Bool.false_eq_true,if_false];exact key _ _ h ⟨rfl,rfl⟩)|skip
 case binOp op t x y t'=>
  simp only[ac6];split at h
  ·cases h
  ·rename_i hn
   rw[if_neg hn];exact key _ _ h ⟨rfl,rfl⟩
def b40(P:Program)(f:AV)(args:List AV)(H:List AObj)(K:AV->Prop)[Tag K]:Prop:=
 match f with
 |.fn (.func g) fs cs=> ∃z,o8 P g (fs++args++cs) H (fun x H'=>x=z/\H'=H)/\K z
 |_=>False
def ax9(q:Option (Prop×AV))(K:AV->Prop)[Tag K]:Prop:=
 match q with
 |some (p,z)=>p/\K z
 |none=>False
theorem dr4{p:Prop}{z:AV}{K:AV->Prop}:ax9 (some (p,z)) K=(p/\K z):=rfl
def bp4(L:Tab)(H:List AObj)(b:Builtin)(args:List AV)(ts:List TypeId)(K:AV->Prop)[Tag K]:Prop:=
 match b,args,ts with
 |.len,[x],[t]=>ax9 (b53 L t x) K
 |.cap,[x],[t]=>ax9 (cw9 L t x) K
 |.min,[x,y],[_,_]=>ax9 (aS5 false x y) K
 |.max,[x,y],[_,_]=>ax9 (aS5 true x y) K
 |.unsafeSliceData,[x],[_]=>ax9 (aU9 H x) K
 |.unsafeString,[x,y],[pt,_]=>ax9 (bh3 L H pt x y) K
 |_,_,_=>False
def az6(P:Program)(L:Tab)(o:Oper)(env:Env)(H:List AObj)(K:AV->Prop):Prop:=
 match o.op with
 |.call c=>match c.callee with
  |.value f=>b40 P (ev env f) (c.args.toList.map (ev env)) H K
  |.builtin b=>bp4 L H b (c.args.toList.map (ev env)) c.argTypes.toList K
  |_=>False
 |.buildSlice t len parts=>if len=0/\parts.size≠0 then False else ax9 (aO7 L t len (ak2 env parts)) K
 |_=>ax9 (qOp P L o env H) K
theorem bk6{P:Program}{L:Tab}{o:Oper}{env:Env}{H:List AObj}{K:AV->Prop}(h:az6 P L o env H K): ∃z,ar5 P L o env H z/\K z:=by
 have key: ∀q,q=qOp P L o env H->ax9 q K-> ∃z,ar5 P L o env H z/\K z:=fun q e hk=>by
  unfold ax9 at hk;split at hk
  ·exact⟨_,ez2 e.symm hk.1,hk.2⟩
  ·exact hk.elim
 unfold az6 at h;split at h
 ·rename_i c ho
  split at h
  ·rename_i f hf
   unfold b40 at h;split at h
   ·rename_i g fs cs ef
    obtain⟨z,hz,hk⟩:=h;refine⟨z,?_,hk⟩;unfold ar5 ac6;rw[ho];simp only;rw[hf];simp only;unfold ba3;rw[ef];exact hz
   ·exact h.elim
  ·rename_i b hb
   unfold bp4 at h;split at h
   case _ x t hx ht|_ x t hx ht|_ x y _ _ hx ht|_ x y _ _ hx ht|_ x _ hx ht|_ x y _ _ hx ht=>
    unfold ax9 at h;split at h
    ·rename_i p z hq
     refine⟨z,?_,h.2⟩;unfold ar5 ac6;rw[ho];simp only;rw[hb];simp only;rw[hx,ht];unfold ah3;simp only;try (split;· simp[bh3] at hq)
     rw[hq];exact⟨h.1,rfl,rfl⟩
    ·exact h.elim
   ·exact h.elim
  ·exact h.elim
 ·rename_i t len parts ho
  split at h
  ·exact h.elim
  ·rename_i hne
   unfold ax9 at h;split at h
   ·rename_i p z hq
    refine⟨z,?_,h.2⟩;unfold ar5 ac6;rw[ho];simp only;rw[if_neg hne,hq];exact⟨h.1,rfl,rfl⟩
   ·exact h.elim
 ·exact key _ rfl h
def ay2(P:Program)(L:Tab)(all:List Oper):List Oper->Env->List AObj->(Env->List AObj->Prop)->Prop
 |[],env,H,K=>K env H
 |o::rest,env,H,K=>
  match o.guard with
  |none=>az6 P L o env H fun z=>ay2 P L all rest (put o.dst z env) H K
  |some (j,want)=>aB0 (at7 all env j) want (az6 P L o (known1 all j want env) H fun z=>ay2 P L all rest (put o.dst z (known1 all j want env)) H K) (ay2 P L all rest (put o.dst (.lit undef) (known1 all j (!want) env)) H K) (ay2 P L all rest (put o.dst (.lit undef) env) H K)
theorem aI5{zs:Nat->AV}{l:Nat->Bool}: ∀(r:List Oper) (i:Nat) (env:Env),(∀j,j < r.length->l (i+j)=false)->ab9 l zs i r env=env
 |[],_,_,_=>rfl
 |o::r,i,env,h=>by
  have h0:=h 0 (by simp)
  rw[ar7] at h0;simp only[ab9,h0,Bool.false_eq_true,if_false];exact aI5 r (i+1) env fun j hj=>by have:=h (j+1) (by simp;omega);rwa [show i+(j+1)=i+1+j by omega] at this
theorem aT7{zs zs':Nat->AV}{l l':Nat->Bool}: ∀(r:List Oper) (i:Nat) (env:Env),(∀j,j < r.length->zs (i+j)=zs' (i+j)/\l (i+j)=l' (i+j))->ab9 l zs i r env=ab9 l' zs' i r env
 |[],_,_,_=>rfl
 |o::r,i,env,h=>by
  obtain⟨h0,h1⟩:=h 0 (by simp)
  rw[ar7] at h0 h1;simp only[ab9,h0,h1];exact aT7 r (i+1) _ fun j hj=>by have:=h (j+1) (by simp;omega);rwa [show i+(j+1)=i+1+j by omega] at this
theorem bA7{all:List Oper}{j:Nat}{b:Bool}{env:Env}(hb:at7 all env j=.lit (.bool b))(t:Nat):get (known1 all j b env) t=get env t:=by
 unfold known1;rw[get_put];unfold at7 at hb;split
 ·rename_i hd
  rw[hd] at hb;exact hb.symm
 ·rfl
theorem br0{all:List Oper}{j:Nat}{env env':Env}(h: ∀t,get env t=get env' t):at7 all env j=at7 all env' j:=by
 unfold at7;split
 ·exact h _
 ·rfl
theorem bU0{P:Program}{L:Tab}{all:List Oper}{H:List AObj}{K:Env->List AObj->Prop}: ∀(r:List Oper) (i:Nat) (env env₀:Env),(∀t,get env t=get env₀ t)->ay2 P L all r env H K->
  ∃(zs:Nat->AV) (env':Env),(∀(k:Nat) o,r[k]?=some o->Does P L all o (ab9 (fun j=>decide (j < i+k)) zs i r env₀) H (zs (i+k)))/\(∀t,get (ab9 (fun _=>true) zs i r env₀) t=get env' t)/\K env' H
 |[],i,env,env₀,he,h=>⟨fun _=>.any,env,fun k o e=>by simp at e,fun t=>(he t).symm,h⟩
 |o::r,i,env,env₀,he,h=>by
  have fin: ∀z env₁,(∀t,get env₁ t=get env₀ t)->Does P L all o env₀ H z->ay2 P L all r (put o.dst z env₁) H K->
    ∃(zs:Nat->AV) (env':Env),(∀(k:Nat) q,(o::r)[k]?=some q->Does P L all q (ab9 (fun j=>decide (j < i+k)) zs i (o::r) env₀) H (zs (i+k)))/\(∀t,get (ab9 (fun _=>true) zs i (o::r) env₀) t=get env' t)/\K env' H:=fun z env₁ he₁ hz hr=>by
   obtain⟨zs,env',h1,h2,h3⟩:=bU0 r (i+1) _ (put o.dst z env₀) (fun t=>by rw[get_put,get_put,he₁ t]) hr
   refine⟨fun j=>if j=i then z else zs j,env',fun k q e=>?_,fun t=>?_,h3⟩
   ·cases k with
    |zero=>
     simp only[List.getElem?_cons_zero,Option.some.injEq] at e;subst e;rw[aI5 _ _ _ fun j _=>by simp]
     simpa using hz
    |succ k=>
     have:=h1 k q (by simpa using e)
     have e1:ab9 (fun j=>decide (j < i+(k+1))) (fun j=>if j=i then z else zs j) i (o::r) env₀=ab9 (fun j=>decide (j < i+1+k)) zs (i+1) r (put o.dst z env₀):=by
      simp only[ab9,show i < i+(k+1) by omega,decide_true,if_true]
      exact aT7 r (i+1) _ fun j _=>⟨by rw[if_neg (by omega)],by rw[show i+(k+1)=i+1+k by omega]⟩
     rw[e1];simp only[show¬(i+(k+1)=i) by omega,if_false]
     rwa [show i+(k+1)=i+1+k by omega]
   ·have e1:ab9 (fun _=>true) (fun j=>if j=i then z else zs j) i (o::r) env₀=ab9 (fun _=>true) zs (i+1) r (put o.dst z env₀):=by
     simp only[ab9,if_true];exact aT7 r (i+1) _ fun j _=>⟨by rw[if_neg (by omega)],rfl⟩
    rw[e1];exact h2 t
  have hq: ∀env₁ z,(∀t,get env₁ t=get env₀ t)->ar5 P L o env₁ H z->ar5 P L o env₀ H z:=fun env₁ z he₁ hz=>by
   unfold ar5 at hz⊢;rwa [<-ba2 (env:=env₁) fun x _ t _=>he₁ t]
  unfold ay2 at h;cases hg:o.guard with
  |none=>
   rw[hg] at h;obtain⟨z,hz,hk⟩:=bk6 h;exact fin z env he (by unfold Does;rw[hg];exact hq env z he hz) hk
  |some jw=>
   obtain⟨j,want⟩:=jw;rw[hg] at h;simp only[aB0] at h;split at h
   ·rename_i b hb
    have hb0:at7 all env₀ j=.lit (.bool b):=by rw[<-br0 he];exact hb
    by_cases e:b=want
    ·subst e
     have he₁: ∀t,get (known1 all j b env) t=get env₀ t:=fun t=>(bA7 hb t).trans (he t)
     obtain⟨z,hz,hk⟩:=bk6 (h.1 rfl);exact fin z _ he₁ (by unfold Does;rw[hg];exact .inl ⟨b,hb0,.inl ⟨rfl,hq _ z he₁ hz⟩⟩) hk
    ·have hbn:b=!want:=by cases b<;>cases want<;>simp_all
     have he₁: ∀t,get (known1 all j (!want) env) t=get env₀ t:=fun t=>(bA7 (hbn▸hb) t).trans (he t)
     exact fin (.lit undef) _ he₁ (by unfold Does;rw[hg];exact .inl ⟨b,hb0,.inr ⟨e,rfl⟩⟩) (h.2 e)
   ·rename_i ar hb
    exact fin (.lit undef) env he (by unfold Does;rw[hg];exact .inr ⟨ar,by rw[<-br0 he];exact hb,rfl⟩) h
   ·exact h.elim
theorem cz6{P:Program}{L:Tab}(hL:ad9 P L)(hm:P.follows .mixedOrders=true){n:Nat}{rid:Nat}{ops:List Oper}(hops:aA6 n ops=true)(hdr:aO3 ops=true){Q:Exit->Env->List AObj->Prop}{env:Env}{H:List AObj}
  (h:ay2 P L ops ops env H (Q .normal)):AW P n (.region rid ops.toArray true) Q env H:=by
 obtain⟨zs,env',h1,h2,h3⟩:=bU0 ops 0 env env (fun _=>rfl) h
 exact cu3 hL hm hops hdr zs (fun i o e=>by have:=h1 i o e;rwa [Nat.zero_add] at this) env' h2 h3
end V
end
section
namespace V
open Go
variable {ds:List Deferred}{ro:Option Nat}{N:Nat}
def ay3(mu:List Nat)(o:Oper):Bool:=
 match o.op with
 |.move _|.assign _|.pick _ _ _|.unOp .. |.extract .. |.index .. |.indexAddr .. |.fieldAddr .. |.field .. |.build .. |.slice .. |.nilCheck .. |.makeFunc .. |.sliceToArrayPointer .. |.makeInterface .. =>true
 |.binOp _ _ _ y _=>!aI2 y
 |.box _ _=>!mu.contains (o.dst.getD 0)
 |.call c=>match c.callee with
  |.builtin .len|.builtin .cap|.builtin .min|.builtin .max=>true
  |_=>false
 |_=>false
theorem bA2{q:Option (Prop×AV)}{z:AV}{H H':List AObj}(h:lift q (fun x H''=>x=z/\H''=H) H):lift q (fun x H''=>x=z/\H''=H') H':=by
 unfold lift at h⊢;split at h
 ·exact⟨h.1,h.2.1,rfl⟩
 ·exact h.elim
theorem cd9{P:Program}{L:Tab}{mu:List Nat}{o:Oper}{env:Env}{H H':List AObj}{z:AV}(hp:ay3 mu o=true)(h:ac6 P L mu o env H fun x H''=>x=z/\H''=H):ac6 P L mu o env H' fun x H''=>x=z/\H''=H':=by
 obtain⟨dst,op,ty,pos,after,guard⟩:=o;cases op<;>simp only[ay3,ac6,Bool.false_eq_true] at hp h⊢ <;>first|exact bA2 h|skip
 case box e x=>
  rw[Bool.not_eq_true'] at hp;simp only[hp,Bool.false_eq_true,if_false] at h⊢;exact bA2 h
 case binOp op t x y t'=>
  rw[Bool.not_eq_true'] at hp;simp only[hp,Bool.false_eq_true,if_false] at h⊢;exact bA2 h
 case call c=>
  obtain⟨callee,args,ats⟩:=c;cases callee with
  |builtin b=>
   cases b<;>simp only[Bool.false_eq_true] at hp
   all_goals
    simp only at h⊢;unfold ah3 at h⊢;split at h<;>first|exact bA2 h|(rename_i e _ _;cases e;done)|exact h.elim
  |value f=>simp at hp
  |invoke r m=>simp at hp
def ai1(mu:List Nat)(o:Oper):Bool:=
 match o.op with
 |.store .. |.alloc .. |.makeSlice .. =>true
 |.box .. |.buildSlice .. |.convert .. =>mu.contains (o.dst.getD 0)
 |.call c=>match c.callee with
  |.value _=>!mu.contains (2000000+o.dst.getD 0)
  |.builtin .append|.builtin .copy|.invoke .. =>true
  |_=>false
 |_=>false
def as9(rid i j:Nat):Nat:=1000000000000+(rid*1000+i)*1000+j
theorem dd0{rid i j:Nat}:as9 rid i j=1000000000000+(rid*1000+i)*1000+j:=rfl
attribute [irreducible] as9
def bj6(rid:Nat)(bs:List (List Nat))(mu:List Nat)(j:Nat)(q:Oper):Nat->List Oper->Bool
 |_,[]=>true
 |i,o::r=>(if i=j then true
   else if ai1 mu o then
    (if ai1 mu q then decide (j < i)||(bs.getD j []).contains i
     else ay3 mu q||(bs.getD j []).contains i||(bs.getD i []).contains j||mu.contains (as9 rid j i))
   else true)&&bj6 rid bs mu j q (i+1) r
def bx4(rid:Nat)(bs:List (List Nat))(mu:List Nat)(ops:List Oper):Nat->List Oper->Bool
 |_,[]=>true
 |j,o::r=>bj6 rid bs mu j o 0 ops&&bx4 rid bs mu ops (j+1) r
def bt3(rid:Nat)(mu:List Nat)(ops:List Oper):Bool:=bx4 rid (am1 ops []) mu ops 0 ops
theorem bp0{rid:Nat}{bs:List (List Nat)}{mu:List Nat}{j:Nat}{q:Oper}: ∀(r:List Oper) (s:Nat),bj6 rid bs mu j q s r=true-> ∀(i:Nat) o,r[i]?=some o->s+i≠j->ai1 mu o=true->
  (ai1 mu q=true->s+i < j->s+i∈bs.getD j [])/\(ai1 mu q=false->ay3 mu q=false->s+i∈bs.getD j []\/j∈bs.getD (s+i) []\/mu.contains (as9 rid j (s+i))=true)
 |[],_,_,i,o,e,_,_=>by simp at e
 |p::r,s,h,0,o,e,hi,hp=>by
  simp only[List.getElem?_cons_zero,Option.some.injEq] at e;subst e;simp only[ar7] at hi⊢;simp only[bj6,xq3] at h;have:=h.1;rw[if_neg hi,if_pos hp] at this;refine⟨fun hq hlt=>?_,fun hq hpu=>?_⟩
  ·rw[if_pos hq] at this
   simp only[bT4,decide_eq_true_eq] at this;rcases this with h1|h1
   ·omega
   ·simpa using h1
  ·rw[hq,hpu] at this
   simp only[Bool.false_eq_true,if_false,Bool.false_or,bT4] at this;rcases this with(h1|h1)|h1
   ·exact .inl (by simpa using h1)
   ·exact .inr (.inl (by simpa using h1))
   ·exact .inr (.inr h1)
 |p::r,s,h,i+1,o,e,hi,hp=>by
  simp only[bj6,xq3] at h;have:=bp0 r (s+1) h.2 i o (by simpa using e) (by omega) hp
  rwa [show s+1+i=s+(i+1) by omega] at this
theorem bp1{rid:Nat}{bs:List (List Nat)}{mu:List Nat}{ops:List Oper}: ∀(r:List Oper) (s:Nat),bx4 rid bs mu ops s r=true-> ∀(j:Nat) o,r[j]?=some o->bj6 rid bs mu (s+j) o 0 ops=true
 |[],_,_,j,o,e=>by simp at e
 |q::r,s,h,0,o,e=>by
  simp only[List.getElem?_cons_zero,Option.some.injEq] at e;subst e;simp only[bx4,xq3] at h;exact h.1
 |q::r,s,h,j+1,o,e=>by
  simp only[bx4,xq3] at h;have:=bp1 r (s+1) h.2 j o (by simpa using e)
  rwa [show s+1+j=s+(j+1) by omega] at this
theorem bY0{rid:Nat}{mu:List Nat}{ops:List Oper}(h:bt3 rid mu ops=true){i j:Nat}{o q:Oper}(hj:ops[j]?=some q)(hi:ops[i]?=some o)(hij:i < j)(hq:ai1 mu q=true)(ho:ai1 mu o=true):i∈(am1 ops []).getD j []:=by
 have:=bp1 ops 0 h j q hj;rw[Nat.zero_add] at this;have:=(bp0 ops 0 this i o hi (by omega) ho).1 hq (by omega)
 rwa [Nat.zero_add] at this
theorem bY1{rid:Nat}{mu:List Nat}{ops:List Oper}(h:bt3 rid mu ops=true){i j:Nat}{o q:Oper}(hj:ops[j]?=some q)(hi:ops[i]?=some o)(hij:i≠j)(hq:ai1 mu q=false)(hpq:ay3 mu q=false)(ho:ai1 mu o=true):
  i∈(am1 ops []).getD j []\/j∈(am1 ops []).getD i []\/mu.contains (as9 rid j i)=true:=by
 have:=bp1 ops 0 h j q hj;rw[Nat.zero_add] at this;have:=(bp0 ops 0 this i o hi (by omega) ho).2 hq hpq
 rwa [Nat.zero_add] at this
def DoesE(P:Program)(L:Tab)(mu:List Nat)(all:List Oper)(o:Oper)(env:Env)(H:List AObj)(z:AV)(H':List AObj):Prop:=
 match o.guard with
 |none=>ac6 P L mu o env H fun x H''=>x=z/\H''=H'
 |some (j,want)=>(∃b,at7 all env j=.lit (.bool b)/\((b=want/\ac6 P L mu o env H fun x H''=>x=z/\H''=H')\/(b≠want/\z=.lit undef/\H'=H)))\/(∃ar,at7 all env j=.lit (.tuple ar)/\z=.lit undef/\H'=H)
theorem bD8{P:Program}{L:Tab}{mu:List Nat}{all:List Oper}{o:Oper}{env env':Env}{H H':List AObj}{z:AV}(h: ∀t∈touches all o,get env t=get env' t):DoesE P L mu all o env H z H'->DoesE P L mu all o env' H z H':=by
 have hq:ac6 P L mu o env H (fun x H''=>x=z/\H''=H')=ac6 P L mu o env' H (fun x H''=>x=z/\H''=H'):=
  ba2 fun x hx t ht=>h t (by
   unfold touches;refine aR3.2 (.inl (aR3.2 (.inl (List.mem_filterMap.2 ⟨x,hx,by rw[ht]⟩)))))
 unfold DoesE;cases hg:o.guard with
 |none=>simp only;rw[hq];exact id
 |some jw=>
  obtain⟨j,want⟩:=jw;simp only;have hgv:at7 all env j=at7 all env' j:=by
   unfold at7;cases hj:(all[j]?).bind (·.dst) with
   |none=>rfl
   |some d=>exact h d (by unfold touches;rw[hg];simp[hj])
  rw[hq,hgv];exact id
theorem du2{P:Program}{L:Tab}{mu:List Nat}{all:List Oper}{o:Oper}{env:Env}{H H':List AObj}{z:AV}(hp:ay3 mu o=true)(h:DoesE P L mu all o env H z H):DoesE P L mu all o env H' z H':=by
 unfold DoesE at h⊢;cases hg:o.guard with
 |none=>
  rw[hg] at h;exact cd9 hp h
 |some jw=>
  obtain⟨j,want⟩:=jw;rw[hg] at h;rcases h with⟨b,hb,⟨e,hd⟩|⟨e,hz,_⟩⟩|⟨ar,hb,hz,_⟩
  ·exact .inl ⟨b,hb,.inl ⟨e,cd9 hp hd⟩⟩
  ·exact .inl ⟨b,hb,.inr ⟨e,hz,rfl⟩⟩
  ·exact .inr ⟨ar,hb,hz,rfl⟩
theorem bQ4{P:Program}{L:Tab}(hL:ad9 P L){mu:List Nat}{n:Nat}{all:Array Oper}(hops:aA6 n all.toList=true){i:Nat}{o:Oper}(ho:all[i]?=some o){env:Env}{H H':List AObj}{z:AV}(hd:DoesE P L mu all.toList o env H z H')
  {G:Gh} {a:Act} {w:World} (s:Sat n ds G env H a w) {K:Act->World->Prop} {Q:Exit->Act->World->Prop} (hK: ∀G' a' w',Sat n ds G' (put o.dst z env) H' a' w'->Step G H w G' H' w'->K a' w'):wpOpIn (fw ro) N P all Q i K a w:=by
 have hdst: ∀t,o.dst=some t->t < n:=fun t e=>by
  have:=xq5.1 hops o (by rw[a97];exact cI4 ho)
  rw[e] at this;simpa using this
 have hq:(ac6 P L mu o env H fun x H''=>x=z/\H''=H')->o.wpIn (fw ro) N P a w K Q:=fun hq=>by
  refine Oper.wpIn_mono (fun a' w' hx=>?_) (bL3 hL hq ro N Q n ds G a w s)
  obtain⟨v,x,G',H'',rfl,hi,hs,hx,rfl,rfl⟩:=hx;exact hK G' _ w' (s.put hs hi hx hdst) hs
 unfold wpOpIn;rw[ho];simp only;unfold DoesE at hd;cases hg:o.guard with
 |none=>
  rw[hg] at hd;rw[if_pos (by simp[Region.wanted,hg])]
  exact hq hd
 |some jw=>
  obtain⟨j,want⟩:=jw;rw[hg] at hd;rcases hd with⟨b,hb,hd⟩|⟨ar,hb,rfl,rfl⟩
  ·rw[bT8 s hg hb hops]
   rcases hd with⟨e,hd⟩|⟨e,rfl,rfl⟩
   ·rw[if_pos (by simpa using e)]
    exact hq hd
   ·rw[if_neg (by simpa using e)]
    exact⟨fun _ _=>trivial,hK G _ w (s.put (.refl _ _ _) s.inv (.lit _) hdst) (.refl _ _ _)⟩
  ·rw[bu3 s hg hb hops]
   rw[if_neg (by simp)]
   exact⟨fun _ _=>trivial,hK G _ w (s.put (.refl _ _ _) s.inv (.lit _) hdst) (.refl _ _ _)⟩
theorem cg8{P:Program}{L:Tab}(hL:ad9 P L)(hm:P.follows .mixedOrders=true)(mu:List Nat){n:Nat}{rid:Nat}{ops:List Oper}(hops:aA6 n ops=true)(hdr:aO3 ops=true)(hch:bt3 rid mu ops=true){Q:Exit->Env->List AObj->Prop}{env:Env}{H:List AObj}(zs:Nat->AV)(oh:Nat->List AObj)(oh0:oh 0=H)(hpure: ∀(i:Nat) o,ops[i]?=some o->ai1 mu o=false->oh (i+1)=oh i)
  (hstay: ∀(i:Nat) o,ops[i]?=some o->ai1 mu o=false-> ∀m,m<=ops.length->(∀j q,ops[j]?=some q->ai1 mu q=true->m<=j->j < i->j∉(am1 ops []).getD i [])->(∀j q,ops[j]?=some q->ai1 mu q=true->i < j->j < m->i∉(am1 ops []).getD j [])->DoesE P L mu ops o (ab9 (fun j=>decide (j < i)) zs 0 ops env) (oh m) (zs i) (oh m))
  (hdoes: ∀(i:Nat) o,ops[i]?=some o->DoesE P L mu ops o (ab9 (fun j=>decide (j < i)) zs 0 ops env) (oh i) (zs i) (oh (i+1))) (env':Env) (henv: ∀t,get (ab9 (fun _=>true) zs 0 ops env) t=get env' t) (hQ:Q .normal env' (oh ops.length)):AW P n (.region rid ops.toArray true) Q env H:=fun ro N ds G a w s=>by
 refine wpIn_region_draw fun t=>?_
 simp only[Region.schedule,hm,Bool.true_or,if_true];have hord: ∀(i:Nat) o,ops[i]?=some o->ordered (am1 ops []) ops i o 0 ops=true/\ ∀e∈o.after.toList,Region.binds .any e=true->e.on < i:=fun i o e=>by
  have:=aC1 ops 0 hdr i o e;rwa [Nat.zero_add] at this
 have ohc: ∀d a,a+d<=ops.length->(∀j o,a<=j->j < a+d->ops[j]?=some o->ai1 mu o=false)->oh (a+d)=oh a:=by
  intro d;induction d with
  |zero=>intro a _ _;rfl
  |succ d ih=>
   intro a hl h;have hlt:a+d < ops.length:=by omega
   rw[show a+(d+1)=a+d+1 by omega,hpure (a+d) ops[a+d] (xq1 hlt) (h (a+d) _ (by omega) (by omega) (xq1 hlt))]
   exact ih a (by omega) fun j o h1 h2 e=>h j o h1 (by omega) e
 have key: ∀(fuel:Nat) (listed:Array Bool) (a:Act) (w':World) (G':Gh) (m:Nat),m<=ops.length->(∀j o,j < m->ops[j]?=some o->ai1 mu o=true->listed.getD j false=true)->(∀j o,m<=j->ops[j]?=some o->ai1 mu o=true->listed.getD j false=false)->listed.size=ops.length->Past ops (fun j=>listed.getD j false)->Step G H w G' (oh m) w'->Sat n ds G' (ab9 (fun j=>listed.getD j false) zs 0 ops env) (oh m) a w'->
   (∀i,i < ops.length->listed.getD i false=false->0 < fuel)->(fuel+(listed.toList.filter id).length=ops.length)->wpAnyIn (fw ro) N P .any ops.toArray (Post n ds G H w Q) fuel listed a w':=by
  intro fuel;induction fuel with
  |zero=>
   intro listed a w' G' m hm1 hlo hhi hsz hpast hst hs hf _;have hall: ∀i,i < ops.length->listed.getD i false=true:=fun i hi=>by
    cases hl:listed.getD i false with
    |true=>rfl
    |false=>exact absurd (hf i hi hl) (bu0 _)
   have hend:oh ops.length=oh m:=by
    have:=ohc (ops.length - m) m (by omega) fun j o h1 h2 e=>by
     cases hp:ai1 mu o with
     |false=>rfl
     |true=>
      have h3:=hhi j o h1 e hp;rw[hall j (aa0 e)] at h3;cases h3
    rwa [show m+(ops.length - m)=ops.length by omega] at this
   rw[hend] at hQ;refine⟨?_,G',_,oh m,hs.of_get fun t=>(aw1 ops 0 env env rfl fun j o e _=>by rw[Nat.zero_add];exact hall j (aa0 e)).trans (henv t),hst,hQ⟩
   unfold Region.ready;rw[dj2];intro i hi;have hi':i < ops.length:=by simpa using hi
   have:=hall i hi';have h2:listed.getD i true=true:=by
    rw[as3,xq2 (by omega)] at this⊢
    exact this
   simp[h2]
  |succ fuel ih=>
   intro listed a w' G' m hm1 hlo hhi hsz hpast hst hs hf hcount;refine⟨fun hnil=>?_,fun i hi=>?_⟩
   ·
    have hall: ∀i,i < ops.length->listed.getD i false=true:=by
     intro i;induction i using Nat.strongRecOn with
     |_ i ihi=>
      intro hi;cases hl:listed.getD i false with
      |true=>rfl
      |false=>
       exfalso
       have hmem:i∈Region.ready .any ops.toArray listed:=by
        unfold Region.ready;rw[bf6];refine⟨by simpa using hi,?_⟩
        have h2:listed.getD i true=false:=by
         rw[as3,xq2 (by omega)] at hl⊢
         exact hl
        have ho:ops.toArray[i]?=some ops[i]:=by simp[hi]
        rw[h2,ho];simp only[Bool.not_false,Bool.true_and,Option.map_some,Option.getD_some];rw[b09];intro e he;have:=(hord i ops[i] (xq1 hi)).2 e (a97.2 he);cases hb:Region.binds .any e with
        |false=>rfl
        |true=>
         have h3:=this hb;rw[ihi e.on h3 (by omega)]
         rfl
       rw[hnil] at hmem;cases hmem
    have hend:oh ops.length=oh m:=by
     have:=ohc (ops.length - m) m (by omega) fun j o h1 h2 e=>by
      cases hp:ai1 mu o with
      |false=>rfl
      |true=>
       have h3:=hhi j o h1 e hp;rw[hall j (aa0 e)] at h3;cases h3
     rwa [show m+(ops.length - m)=ops.length by omega] at this
    rw[hend] at hQ;exact⟨G',_,oh m,hs.of_get fun t=>(aw1 ops 0 env env rfl fun j o e _=>by rw[Nat.zero_add];exact hall j (aa0 e)).trans (henv t),hst,hQ⟩
   ·unfold Region.ready at hi
    rw[bf6] at hi;obtain⟨hi1,hi2⟩:=hi;have hi':i < ops.length:=by simpa using hi1
    have ho:ops.toArray[i]?=some ops[i]:=by simp[hi']
    rw[ho] at hi2;simp only[Option.map_some,Option.getD_some,xq3,Bool.not_eq_true'] at hi2;obtain⟨hl0,hready⟩:=hi2;have hl:listed.getD i false=false:=by
     rw[as3,xq2 (by omega)] at hl0⊢
     exact hl0
    have hpre: ∀e∈(ops[i]).after.toList,Region.binds .any e=true->listed.getD e.on false=true:=fun e he hb=>by
     rw[b09] at hready;have:=hready e (a97.1 he);rw[hb] at this;simpa using this
    have hoi:ops[i]?=some ops[i]:=xq1 hi';obtain⟨hor,hback⟩:=hord i ops[i] hoi;have hbi: ∀j,j∈(am1 ops []).getD i []->listed.getD j false=true:=fun j hj=>
     aA8 hpast ops [] [] rfl rfl (fun i j o hi=>by simp at hi) i j ops[i] hj hoi hpre
    have hlater: ∀(j:Nat) q,ops[j]?=some q->i∈(am1 ops []).getD j []->listed.getD j false=false:=fun j q hq hij=>by
     cases hlj:listed.getD j false with
     |false=>rfl
     |true=>
      have:=aA8 hpast ops [] [] rfl rfl (fun i j o hi=>by simp at hi) j i q hij hq (hpast j q hq hlj)
      rw[hl] at this;cases this
    have hsame: ∀t∈touches ops ops[i],get (ab9 (fun j=>decide (j < i)) zs 0 ops env) t=get (ab9 (fun j=>listed.getD j false) zs 0 ops env) t:=fun t ht=>by
     refine aw1 ops 0 env env rfl fun j q hq hd=>?_
     rw[Nat.zero_add];by_cases hji:j=i
     ·subst hji
      rw[hl];simp
     ·have hsp:=aF5 ops 0 hor j q t hq hd (by omega) ht
      rw[Nat.zero_add] at hsp;rcases an9 j i with h1|h1
      ·rw[hbi j (hsp.1 h1)]
       simpa using h1
      ·rw[hlater j q hq (hsp.2 (by omega))]
       simpa using h1
    have hdo0:=bD8 (fun t ht=>hsame t ht) (hdoes i ops[i] hoi)
    obtain⟨m',hm2,hlo',hhi',hdo⟩: ∃m',m'<=ops.length/\(∀j o,j < m'->ops[j]?=some o->ai1 mu o=true->(if j=i then true else listed.getD j false)=true)/\(∀j o,m'<=j->ops[j]?=some o->ai1 mu o=true->(if j=i then true else listed.getD j false)=false)/\DoesE P L mu ops ops[i] (ab9 (fun j=>listed.getD j false) zs 0 ops env) (oh m) (zs i) (oh m'):=by
     cases hp:ai1 mu ops[i] with
     |false=>
      refine⟨m,hm1,fun j o hj e hp'=>?_,fun j o hj e hp'=>?_,?_⟩
      ·split
       ·rfl
       ·exact hlo j o hj e hp'
      ·have:j≠i:=fun e'=>by subst e';rw[hoi] at e;cases e;rw[hp] at hp';cases hp'
       rw[if_neg this];exact hhi j o hj e hp'
      ·refine bD8 (fun t ht=>hsame t ht) (hstay i ops[i] hoi hp m hm1 (fun j q e hq hmj _ hb=>?_) (fun j q e hq _ hjm hb=>?_))
       ·have h1:=hhi j q hmj e hq
        rw[hbi j hb] at h1;cases h1
       ·have h1:=hlo j q hjm e hq
        rw[hlater j q e hb] at h1;cases h1
     |true=>
      have hbef: ∀j o,j < i->ops[j]?=some o->ai1 mu o=true->listed.getD j false=true:=fun j o hj e hp'=>
       hbi j (bY0 hch hoi e hj hp hp')
      have haft: ∀j o,i < j->ops[j]?=some o->ai1 mu o=true->listed.getD j false=false:=fun j o hj e hp'=>
       hlater j o e (bY0 hch e hoi hj hp' hp)
      have hmi:m<=i:=by
       rcases an9 i m with h1|h1
       ·have:=hlo i _ h1 hoi hp
        rw[hl] at this;cases this
       ·exact h1
      have hom:oh i=oh m:=by
       have:=ohc (i - m) m (by omega) fun j o h1 h2 e=>by
        cases hp':ai1 mu o with
        |false=>rfl
        |true=>
         have h3:=hhi j o h1 e hp';rw[hbef j o (by omega) e hp'] at h3
         cases h3
       rwa [show m+(i - m)=i by omega] at this
      refine⟨i+1,by omega,fun j o hj e hp'=>?_,fun j o hj e hp'=>?_,?_⟩
      ·split
       ·rfl
       ·exact hbef j o (by omega) e hp'
      ·rw[if_neg (by omega)]
       exact haft j o (by omega) e hp'
      ·rw[<-hom]
       exact hdo0
    refine bQ4 hL (all:=ops.toArray) (by simpa using hops) ho hdo hs fun G'' a'' w'' hs'' hst''=>?_
    have hget: ∀t,get (put (ops[i]).dst (zs i) (ab9 (fun j=>listed.getD j false) zs 0 ops env)) t=get (ab9 (fun j=>(listed.setIfInBounds i true).getD j false) zs 0 ops env) t:=fun t=>by
     have h1:=bB4 (zs:=zs) (l:=fun j=>listed.getD j false) (t:=t) ops 0 env i ops[i] hoi (by rw[Nat.zero_add];exact hl) (fun j q hj hq hlj hd=>by
      intro hqd;rw[Nat.zero_add] at hlj;have hsp:=aF5 ops 0 hor j q t hq hqd (by omega) (by unfold touches;rw[hd];simp)
      rw[Nat.zero_add] at hsp;have hlj':listed.getD j false=true:=hlj;rw[hlater j q hq (hsp.2 hj)] at hlj';cases hlj')
     rw[Nat.zero_add] at h1;rw[<-h1];refine aw1 ops 0 env env rfl fun j q hq _=>?_
     rw[Nat.zero_add];simp only[as3,b35];by_cases hji:j=i
     ·subst hji
      simp[show j < listed.size by omega]
     ·simp[hji,show¬(i=j) from fun h=>hji h.symm]
    have hgd: ∀j,(listed.setIfInBounds i true).getD j false=if j=i then true else listed.getD j false:=fun j=>by
     simp only[as3,b35];by_cases hji:j=i
     ·subst hji
      simp[show j < listed.size by omega]
     ·simp[hji,show¬(i=j) from fun h=>hji h.symm]
    have hcnt:fuel+((listed.setIfInBounds i true).toList.filter id).length=ops.length:=by
     have:((listed.setIfInBounds i true).toList.filter id).length=(listed.toList.filter id).length+1:=by
      rw[cI3];have hli:i < listed.toList.length:=by simp;omega
      have hlf:listed.toList[i]=false:=by
       rw[as3,xq2 (by omega)] at hl
       simpa using hl
      have key2: ∀(l:List Bool) (i:Nat) (hi:i < l.length),l[i]=false->((l.set i true).filter id).length=(l.filter id).length+1:=by
       intro l;induction l with
       |nil=>intro i hi;simp at hi
       |cons b r ih=>
        intro i hi he;cases i with
        |zero=>simp at he;subst he;simp
        |succ i=>
         simp only[List.set_cons_succ,aP6];have:=ih i (by simpa using hi) (by simpa using he)
         cases b<;>simp[this]
      exact key2 _ i hli hlf
     omega
    refine ih _ _ _ G'' m' hm2 (fun j o hj e hp'=>by rw[hgd];exact hlo' j o hj e hp') (fun j o hj e hp'=>by rw[hgd];exact hhi' j o hj e hp') (by simp[hsz]) (fun j q hq hlj e he hb=>?_) (hst.trans hst'') (hs''.of_get hget) (fun j hj hlj=>?_) hcnt
    ·simp only[hgd] at hlj⊢
     by_cases hji:j=i
     ·subst hji
      have hqe:q=ops[j]:=by rw[hoi] at hq;exact(Option.some.inj hq).symm
      subst hqe;split
      ·rfl
      ·exact hpre e he hb
     ·rw[if_neg hji] at hlj
      split
      ·rfl
      ·exact hpast j q hq hlj e he hb
    ·
     rcases a98 fuel with h0|h0
     ·exfalso
      rw[h0,Nat.zero_add] at hcnt;have hfull: ∀(l:List Bool),(l.filter id).length=l.length-> ∀b∈l,b=true:=fun l hl b hb=>by
       have:=cI2.1 (List.Sublist.eq_of_length (cI1 (l:=l) (p:=id)) hl) b hb;simpa using this
      have hlen:((listed.setIfInBounds i true).toList.filter id).length=(listed.setIfInBounds i true).toList.length:=by rw[hcnt];simp[hsz]
      have hjs:j < (listed.setIfInBounds i true).size:=by simp;omega
      have:=hfull _ hlen ((listed.setIfInBounds i true)[j]) (by rw[a97];exact Array.getElem_mem hjs)
      rw[as3,xq2 hjs] at hlj;simp only[Option.getD_some] at hlj;rw[this] at hlj;cases hlj
     ·exact h0
 have hcap:Sat n ds G (ab9 (fun j=>(Array.replicate ops.toArray.size false).getD j false) zs 0 ops env) H a {w with drawn:=w.drawn+1}:=by
  have h0: ∀t,get env t=get (ab9 (fun j=>(Array.replicate ops.toArray.size false).getD j false) zs 0 ops env) t:=fun t=>by
   have: ∀(r:List Oper) (i:Nat) (env:Env),get env t=get (ab9 (fun j=>(Array.replicate ops.toArray.size false).getD j false) zs i r env) t:=by
    intro r;induction r with
    |nil=>intro _ _;rfl
    |cons o r ih=>
     intro i env;simp only[ab9];have:(Array.replicate ops.toArray.size false).getD i false=false:=by
      rw[as3,bK6];split<;>rfl
     simp only[this,Bool.false_eq_true,if_false];exact ih (i+1) env
   exact this ops 0 env
  exact Sat.of_get (env:=env) (s.step aM1 (cf9 s.inv)) h0
 refine wpAnyIn_sound ops.toArray.size t _ a _ (key ops.toArray.size _ a _ G 0 (by omega) (fun j o hj=>absurd hj (by omega)) (fun j o _ e _=>by
  rw[as3,bK6];split<;>rfl) (by simp) (fun i o ho hl=>?_) (oh0▸aM1) (oh0▸hcap) (fun i hi _=>by simp;omega) (by simp))
 simp only[as3,bK6] at hl;split at hl<;>cases hl
def cq1:List AV->Prop
 |.msl _ _ _ _::_=>False
 |_=>True
def al0(P:Program)(L:Tab)(mu:List Nat)(o:Oper)(env:Env)(H:List AObj)(K:AV->List AObj->Prop):Prop:=
 match o.op with
 |.call c=>match c.callee with
  |.value _=> ∃z H',ac6 P L mu o env H (fun x H''=>x=z/\H''=H')/\K z H'
  |.builtin b=>match b with
   |.len|.cap|.min|.max|.copy|.unsafeSliceData|.unsafeString=>ac6 P L mu o env H K
   |.append=>cq1 (c.args.toList.map (ev env))/\ac6 P L mu o env H K
   |_=>False
  |_=>False
 |.move _|.assign _|.pick _ _ _|.unOp .. |.extract .. |.index .. |.indexAddr .. |.fieldAddr .. |.field .. |.build .. |.slice .. |.load .. |.buildSlice .. |.alloc .. |.store .. |.convert .. |.nilCheck .. |.makeFunc .. |.sliceToArrayPointer .. |.makeInterface .. |.makeSlice .. =>ac6 P L mu o env H K
 |.binOp _ _ _ y _=>if aI2 y then False else ac6 P L mu o env H K
 |.box .. =>ac6 P L mu o env H K
 |_=>False
theorem aR8{q:Option (Prop×AV)}{K:AV->List AObj->Prop}{H:List AObj}(h:lift q K H): ∃z H',lift q (fun x H''=>x=z/\H''=H') H/\K z H':=by
 unfold lift at h;split at h
 ·exact⟨_,_,⟨h.1,rfl,rfl⟩,h.2⟩
 ·exact h.elim
theorem b92{P:Program}{L:Tab}{mu:List Nat}{o:Oper}{env:Env}{H:List AObj}{K:AV->List AObj->Prop}(h:al0 P L mu o env H K): ∃z H',ac6 P L mu o env H (fun x H''=>x=z/\H''=H')/\K z H':=by
 obtain⟨dst,op,ty,pos,after,guard⟩:=o;cases op<;>simp only[al0] at h<;>first|exact h.elim|(simp only[ac6] at h⊢;exact aR8 h)|skip
 case alloc e=>
  simp only[ac6] at h⊢;obtain⟨h1,h2⟩:=h;split at h2
  ·rename_i hb
   exact⟨_,_,⟨h1,⟨rfl,rfl⟩⟩,h2⟩
  ·rename_i u hb
   exact⟨_,_,⟨h1,⟨rfl,rfl⟩⟩,h2⟩
 case box e x=>
  simp only[ac6] at h⊢;split at h
  ·rename_i hm
   exact⟨_,_,by rw[if_pos hm];exact⟨h.1,rfl,rfl⟩,h.2⟩
  ·rename_i hm
   obtain⟨z,H',h1,h2⟩:=aR8 h;exact⟨z,H',by rw[if_neg hm];exact h1,h2⟩
 case buildSlice t len parts=>
  simp only[ac6] at h⊢;split at h
  ·rename_i hm
   simp only[if_pos hm];unfold bu4 at h⊢;split at h
   ·exact⟨_,_,⟨h.1,rfl,rfl⟩,h.2⟩
   ·exact h.elim
  ·rename_i hm
   simp only[if_neg hm];split at h
   ·exact h.elim
   ·rename_i hm
    obtain⟨z,H',h1,h2⟩:=aR8 h;exact⟨z,H',by rw[if_neg hm];exact h1,h2⟩
 case binOp op t x y t'=>
  split at h
  ·exact h.elim
  ·rename_i hm
   simp only[ac6] at h⊢;rw[if_neg hm] at h;obtain⟨z,H',h1,h2⟩:=aR8 h;exact⟨z,H',by rw[if_neg hm];exact h1,h2⟩
 case convert s d x=>
  simp only[ac6] at h⊢;split at h
  ·rename_i hm
   simp only[if_pos hm];unfold bE6 at h⊢;split at h
   ·exact⟨_,_,⟨h.1,rfl,rfl⟩,h.2⟩
   ·exact h.elim
  ·rename_i hm
   obtain⟨z,H',h1,h2⟩:=aR8 h;exact⟨z,H',by rw[if_neg hm];exact h1,h2⟩
 case store t a x=>
  simp only[ac6,bs1] at h⊢;split at h
  ·split at h
   ·exact⟨_,_,⟨h.1,rfl,rfl⟩,h.2⟩
   ·exact h.elim
  ·exact h.elim
 case makeSlice t x y=>
  simp only[ac6,bE4] at h⊢;split at h
  ·exact⟨_,_,⟨h.1,rfl,rfl⟩,h.2⟩
  ·exact h.elim
 case call c=>
  obtain⟨callee,args,ats⟩:=c;cases callee with
  |value f=>exact h
  |invoke r m=>exact h.elim
  |builtin b=>
   cases b<;>simp only at h<;>first|exact h.elim|skip
   case append=>
    obtain⟨hn,h⟩:=h;simp only[ac6,ah3] at h⊢;split at h
    ·rename_i e _ _;cases e
    ·rename_i x y t t2 _ hx _
     rw[hx] at hn;unfold bz1 at h⊢;split at h
     ·unfold a01 at h⊢
      split at h
      ·split at h
       ·exact⟨_,_,⟨h.1,rfl,rfl⟩,h.2⟩
       ·exact h.elim
      ·exact h.elim
     ·exact hn.elim
     ·split at h
      ·rename_i hm
       simp only[if_pos hm];unfold a02 at h⊢;split at h
       ·exact⟨_,_,⟨h.1,rfl,rfl⟩,h.2⟩
       ·exact h.elim
      ·rename_i hm
       simp only[if_neg hm];unfold bu5 at h⊢;split at h
       ·exact⟨_,_,⟨h.1,rfl,rfl⟩,h.2⟩
       ·exact h.elim
    all_goals first|(rename_i e _ _;cases e;done)|exact h.elim
   case copy=>
    simp only[ac6,ah3] at h⊢;split at h
    all_goals first|(rename_i e _ _;cases e;done)|exact h.elim|skip
    unfold bE5 at h⊢;split at h
    ·split at h
     ·exact⟨_,_,⟨h.1,rfl,rfl⟩,h.2⟩
     ·exact h.elim
    ·exact h.elim
   case unsafeString=>
    simp only[ac6,ah3] at h⊢;split at h
    all_goals first|(rename_i e _ _;cases e;done)|exact h.elim|skip
    split at h
    ·unfold bL2 at h⊢
     split at h
     ·exact⟨_,_,⟨h.1,rfl,rfl⟩,h.2⟩
     ·exact h.elim
    ·exact aR8 h
   all_goals
    simp only[ac6,ah3] at h⊢;split at h
    all_goals first|exact aR8 h|(rename_i e _ _;cases e;done)|exact h.elim
def as8(P:Program)(L:Tab)(mu:List Nat)(rid j:Nat)(H':List AObj):List (Nat×Oper×Env×AV)->Prop
 |[]=>True
 |(i,o,env,z)::r=>if mu.contains (as9 rid i j) then ac6 P L mu o env H' (fun x H''=>x=z/\H''=H')/\as8 P L mu rid j H' r else as8 P L mu rid j H' r
def aF2(P:Program)(L:Tab)(mu:List Nat)(rid i:Nat)(o:Oper)(env:Env)(z:AV):List (Nat×List AObj)->Prop
 |[]=>True
 |(j,H)::r=>if mu.contains (as9 rid i j) then ac6 P L mu o env H (fun x H''=>x=z/\H''=H)/\aF2 P L mu rid i o env z r else aF2 P L mu rid i o env z r
def ai6(P:Program)(L:Tab)(mu:List Nat)(rid i:Nat)(o:Oper)(env:Env)(H:List AObj)(z:AV)(H':List AObj)(hist:List (Nat×List AObj))(rs:List (Nat×Oper×Env×AV))(k:List (Nat×List AObj)->List (Nat×Oper×Env×AV)->Prop)[Tag k]:Prop:=
 if ai1 mu o then as8 P L mu rid i H' rs/\k ((i,H)::hist) rs
 else if ay3 mu o then k hist rs
 else H'=H/\aF2 P L mu rid i o env z hist/\k hist ((i,o,env,z)::rs)
def as4(P:Program)(L:Tab)(mu:List Nat)(rid:Nat)(all:List Oper):Nat->List Oper->Env->List AObj->List (Nat×List AObj)->List (Nat×Oper×Env×AV)->(Env->List AObj->Prop)->Prop
 |_,[],env,H,_,_,K=>K env H
 |i,o::rest,env,H,hist,rs,K=>
  match o.guard with
  |none=>al0 P L mu o env H fun z H'=>ai6 P L mu rid i o env H z H' hist rs fun hist' rs'=>as4 P L mu rid all (i+1) rest (put o.dst z env) H' hist' rs' K
  |some (j,want)=>aB0 (at7 all env j) want (al0 P L mu o (known1 all j want env) H fun z H'=>ai6 P L mu rid i o (known1 all j want env) H z H' hist rs fun hist' rs'=>as4 P L mu rid all (i+1) rest (put o.dst z (known1 all j want env)) H' hist' rs' K) (as4 P L mu rid all (i+1) rest (put o.dst (.lit undef) (known1 all j (!want) env)) H hist rs K) (as4 P L mu rid all (i+1) rest (put o.dst (.lit undef) env) H hist rs K)
theorem bA1{q:Option (Prop×AV)}{z:AV}{H H':List AObj}(h:lift q (fun x H''=>x=z/\H''=H') H):H'=H:=by
 unfold lift at h;split at h
 ·exact h.2.2.symm
 ·exact h.elim
theorem dC5{P:Program}{L:Tab}{mu:List Nat}{o:Oper}{env:Env}{H H':List AObj}{z:AV}(hp:ay3 mu o=true)(h:ac6 P L mu o env H fun x H''=>x=z/\H''=H'):H'=H:=by
 obtain⟨dst,op,ty,pos,after,guard⟩:=o;cases op<;>simp only[ay3,ac6,Bool.false_eq_true] at hp h<;>first|exact bA1 h|skip
 case binOp op t x y t'=>
  rw[Bool.not_eq_true'] at hp;simp only[hp,Bool.false_eq_true,if_false] at h;exact bA1 h
 case box e x=>
  rw[Bool.not_eq_true'] at hp;simp only[hp,Bool.false_eq_true,if_false] at h;exact bA1 h
 case call c=>
  obtain⟨callee,args,ats⟩:=c;cases callee with
  |builtin b=>
   cases b<;>simp only[Bool.false_eq_true] at hp
   all_goals
    simp only at h;unfold ah3 at h;split at h<;>first|exact bA1 h|(rename_i e _ _;cases e;done)|exact h.elim
  |value f=>simp at hp
  |invoke r m=>simp at hp
theorem bv1{P:Program}{L:Tab}{mu:List Nat}{rid j:Nat}{H':List AObj}: ∀{rs:List (Nat×Oper×Env×AV)},as8 P L mu rid j H' rs-> ∀i o env z,(i,o,env,z)∈rs->mu.contains (as9 rid i j)=true->ac6 P L mu o env H' (fun x H''=>x=z/\H''=H')
 |[],_,i,o,env,z,hm,_=>by cases hm
 |(i',o',env',z')::r,h,i,o,env,z,hm,hc=>by
  unfold as8 at h;rcases xq8.1 hm with e|hm
  ·cases e
   rw[if_pos hc] at h;exact h.1
  ·split at h
   ·exact bv1 h.2 i o env z hm hc
   ·exact bv1 h i o env z hm hc
theorem bL0{P:Program}{L:Tab}{mu:List Nat}{rid i:Nat}{o:Oper}{env:Env}{z:AV}: ∀{hist:List (Nat×List AObj)},aF2 P L mu rid i o env z hist-> ∀j H,(j,H)∈hist->mu.contains (as9 rid i j)=true->ac6 P L mu o env H (fun x H''=>x=z/\H''=H)
 |[],_,j,H,hm,_=>by cases hm
 |(j',H')::r,h,j,H,hm,hc=>by
  unfold aF2 at h;rcases xq8.1 hm with e|hm
  ·cases e
   rw[if_pos hc] at h;exact h.1
  ·split at h
   ·exact bL0 h.2 j H hm hc
   ·exact bL0 h j H hm hc
def by3(P:Program)(L:Tab)(mu:List Nat)(rid:Nat)(all:List Oper)(K:Env->List AObj->Prop)(r:List Oper)(i:Nat)(env₀:Env)(H:List AObj)(hist:List (Nat×List AObj))(rs:List (Nat×Oper×Env×AV)):Prop:=
 ∃(zs:Nat->AV) (oh:Nat->List AObj) (env':Env),oh i=H/\(∀(k:Nat) o,r[k]?=some o->ai1 mu o=false->oh (i+k+1)=oh (i+k))/\
  (∀(k:Nat) o,r[k]?=some o->DoesE P L mu all o (ab9 (fun j=>decide (j < i+k)) zs i r env₀) (oh (i+k)) (zs (i+k)) (oh (i+k+1)))/\(∀t,get (ab9 (fun _=>true) zs i r env₀) t=get env' t)/\K env' (oh (i+r.length))/\
  (∀q o e z,(q,o,e,z)∈rs->ac6 P L mu o e H (fun x H''=>x=z/\H''=H)-> ∀p,p<=r.length->(∀j o',j < p->r[j]?=some o'->ai1 mu o'=true->mu.contains (as9 rid q (i+j))=true)->ac6 P L mu o e (oh (i+p)) (fun x H''=>x=z/\H''=oh (i+p)))/\
  (∀j₀ Hj,(j₀,Hj)∈hist-> ∀(k:Nat) o,r[k]?=some o->ai1 mu o=false->ay3 mu o=false->mu.contains (as9 rid (i+k) j₀)=true->DoesE P L mu all o (ab9 (fun j=>decide (j < i+k)) zs i r env₀) Hj (zs (i+k)) Hj)/\
  (∀(k:Nat) o,r[k]?=some o->ai1 mu o=false->ay3 mu o=false-> ∀p,p<=k->(∀j o',p<=j->j < k->r[j]?=some o'->ai1 mu o'=true->mu.contains (as9 rid (i+k) (i+j))=true)->DoesE P L mu all o (ab9 (fun j=>decide (j < i+k)) zs i r env₀) (oh (i+p)) (zs (i+k)) (oh (i+p)))/\
  (∀(k:Nat) o,r[k]?=some o->ai1 mu o=false->ay3 mu o=false-> ∀p,k<=p->p<=r.length->(∀j o',k < j->j < p->r[j]?=some o'->ai1 mu o'=true->mu.contains (as9 rid (i+k) (i+j))=true)->DoesE P L mu all o (ab9 (fun j=>decide (j < i+k)) zs i r env₀) (oh (i+p)) (zs (i+k)) (oh (i+p)))
set_option maxRecDepth 20000 in
theorem aY8{P:Program}{L:Tab}{mu:List Nat}{rid:Nat}{all:List Oper}{K:Env->List AObj->Prop}{o:Oper}{r:List Oper}{i:Nat}{env₀:Env}{H H':List AObj}{hist hist':List (Nat×List AObj)}{rs rs':List (Nat×Oper×Env×AV)}{z:AV}
  (hp:ai1 mu o=false->H'=H) (hz:DoesE P L mu all o env₀ H z H') (hr:by3 P L mu rid all K r (i+1) (put o.dst z env₀) H' hist' rs')
  (hhist: ∀x,x∈hist->x∈hist') (hrs: ∀x,x∈rs->x∈rs') (heff:ai1 mu o=true->H'=H\/(i,H)∈hist')
  (hst:ai1 mu o=true-> ∀q p e y,(q,p,e,y)∈rs->mu.contains (as9 rid q i)=true->ac6 P L mu p e H (fun x H''=>x=y/\H''=H)->ac6 P L mu p e H' (fun x H''=>x=y/\H''=H'))
  (hrd:ai1 mu o=false->ay3 mu o=false->(∀j₀ Hj,(j₀,Hj)∈hist->mu.contains (as9 rid i j₀)=true->DoesE P L mu all o env₀ Hj z Hj)/\
   ((∀Hx,DoesE P L mu all o env₀ Hx z Hx)\/ ∃e,(i,o,e,z)∈rs'/\ac6 P L mu o e H (fun x H''=>x=z/\H''=H)/\ ∀Hx,ac6 P L mu o e Hx (fun x H''=>x=z/\H''=Hx)->DoesE P L mu all o env₀ Hx z Hx)):
  by3 P L mu rid all K (o::r) i env₀ H hist rs:=by
 obtain⟨zs,oh,env',h0,hpu,h1,h2,h3,h4,h5,h6,h7⟩:=hr;have hoh: ∀j,i < j->(fun j=>if j=i then H else oh j) j=oh j:=fun j hj=>by simp only;rw[if_neg (by omega)]
 have hohs: ∀j,(fun j=>if j=i then H else oh j) (i+(j+1))=oh (i+1+j):=fun j=>by rw[hoh _ (by omega),show i+(j+1)=i+1+j by omega]
 have hoh0:(fun j=>if j=i then H else oh j) (i+0)=H:=by simp
 have hzss: ∀j,(fun j=>if j=i then z else zs j) (i+(j+1))=zs (i+1+j):=fun j=>by simp only;rw[if_neg (by omega),show i+(j+1)=i+1+j by omega]
 have hzs0:(fun j=>if j=i then z else zs j) (i+0)=z:=by simp
 have henv0:ab9 (fun j=>decide (j < i+0)) (fun j=>if j=i then z else zs j) i (o::r) env₀=env₀:=aI5 _ _ _ fun j _=>by simp
 have henvs: ∀k,ab9 (fun j=>decide (j < i+(k+1))) (fun j=>if j=i then z else zs j) i (o::r) env₀=ab9 (fun j=>decide (j < i+1+k)) zs (i+1) r (put o.dst z env₀):=fun k=>by
  simp only[ab9,show i < i+(k+1) by omega,decide_true,if_true]
  exact aT7 r (i+1) _ fun j _=>⟨by rw[if_neg (by omega)],by rw[show i+(k+1)=i+1+k by omega]⟩
 refine⟨fun j=>if j=i then z else zs j,fun j=>if j=i then H else oh j,env',by simp,fun k q e hq=>?_,fun k q e=>?_,fun t=>?_,?_,fun q p e y hm hv m hml hmu=>?_,fun j₀ Hj hm k q e hq hq2 hc=>?_,fun k q e hq hq2 p hpk hmu=>?_,fun k q e hq hq2 p hpk hpl hmu=>?_⟩
 ·cases k with
  |zero=>
   simp only[List.getElem?_cons_zero,Option.some.injEq] at e;subst e;rw[hoh0,show i+0+1=i+1 from rfl,hoh (i+1) (by omega),h0]
   exact hp hq
  |succ k=>
   rw[show i+(k+1)+1=i+((k+1)+1) by omega,hohs,hohs]
   have:=hpu k q (by simpa using e) hq
   rwa [show i+1+(k+1)=i+1+k+1 by omega]
 ·cases k with
  |zero=>
   simp only[List.getElem?_cons_zero,Option.some.injEq] at e;subst e;rw[henv0,hoh0,hzs0];rw[show i+0+1=i+1 from rfl,hoh (i+1) (by omega),h0]
   exact hz
  |succ k=>
   rw[henvs,hohs,hzss,show i+(k+1)+1=i+((k+1)+1) by omega,hohs]
   have:=h1 k q (by simpa using e)
   rwa [show i+1+(k+1)=i+1+k+1 by omega]
 ·have e1:ab9 (fun _=>true) (fun j=>if j=i then z else zs j) i (o::r) env₀=ab9 (fun _=>true) zs (i+1) r (put o.dst z env₀):=by
   simp only[ab9,if_true];exact aT7 r (i+1) _ fun j _=>⟨by rw[if_neg (by omega)],rfl⟩
  rw[e1];exact h2 t
 ·rw[List.length_cons,hohs]
  exact h3
 ·cases m with
  |zero=>rw[hoh0];exact hv
  |succ m=>
   rw[hohs];refine h4 q p e y (hrs _ hm) ?_ m (by simpa using hml) fun j o' hj e' ho'=>?_
   ·cases ho:ai1 mu o with
    |false=>rw[hp ho];exact hv
    |true=>exact hst ho q p e y hm (by have:=hmu 0 o (by omega) rfl ho;simpa using this) hv
   ·have:=hmu (j+1) o' (by omega) (by simpa using e') ho'
    rwa [show i+(j+1)=i+1+j by omega] at this
 ·cases k with
  |zero=>
   simp only[List.getElem?_cons_zero,Option.some.injEq] at e;subst e;rw[henv0,hzs0];exact(hrd hq hq2).1 j₀ Hj hm hc
  |succ k=>
   rw[henvs,hzss];exact h5 j₀ Hj (hhist _ hm) k q (by simpa using e) hq hq2 (by rwa [show i+1+k=i+(k+1) by omega])
 ·cases k with
  |zero=>
   simp only[List.getElem?_cons_zero,Option.some.injEq] at e;subst e;obtain rfl:p=0:=by omega
   rw[henv0,hzs0,hoh0];rw[hp hq] at hz;exact hz
  |succ k=>
   rw[henvs,hzss];have sub: ∀p',p<=p'+1-> ∀j o',p'<=j->j < k->r[j]?=some o'->ai1 mu o'=true->mu.contains (as9 rid (i+1+k) (i+1+j))=true:=fun p' hp' j o' h8 h9 e' ho'=>by
    have:=hmu (j+1) o' (by omega) (by omega) (by simpa using e') ho'
    rwa [show i+1+k=i+(k+1) by omega,show i+1+j=i+(j+1) by omega]
   cases p with
   |succ p=>
    rw[hohs];exact h6 k q (by simpa using e) hq hq2 p (by omega) (sub p (by omega))
   |zero=>
    rw[hoh0];have same:H'=H->DoesE P L mu all q (ab9 (fun j=>decide (j < i+1+k)) zs (i+1) r (put o.dst z env₀)) H (zs (i+1+k)) H:=fun hH=>by
     have:=h6 k q (by simpa using e) hq hq2 0 (by omega) (sub 0 (by omega))
     rw[ar7,h0,hH] at this;exact this
    cases ho:ai1 mu o with
    |false=>exact same (hp ho)
    |true=>
     rcases heff ho with hH|hH
     ·exact same hH
     ·have hc:=hmu 0 o (by omega) (by omega) rfl ho
      rw[ar7] at hc;exact h5 i H hH k q (by simpa using e) hq hq2 (by rwa [show i+1+k=i+(k+1) by omega])
 ·cases k with
  |zero=>
   simp only[List.getElem?_cons_zero,Option.some.injEq] at e;subst e;rw[henv0,hzs0];cases p with
   |zero=>
    rw[hoh0];rw[hp hq] at hz;exact hz
   |succ p=>
    rw[hohs];rcases(hrd hq hq2).2 with hall|⟨e1,hm,hv,hk⟩
    ·exact hall _
    ·refine hk _ (h4 i o e1 z hm ?_ p (by simpa using hpl) fun j o' hj e' ho'=>?_)
     ·rw[hp hq];exact hv
     ·have:=hmu (j+1) o' (by omega) (by omega) (by simpa using e') ho'
      rw[ar7] at this;rwa [show i+(j+1)=i+1+j by omega] at this
  |succ k=>
   rw[henvs,hzss];cases p with
   |zero=>omega
   |succ p=>
    rw[hohs];refine h7 k q (by simpa using e) hq hq2 p (by omega) (by simpa using hpl) fun j o' h8 h9 e' ho'=>?_
    have:=hmu (j+1) o' (by omega) (by omega) (by simpa using e') ho'
    rwa [show i+1+k=i+(k+1) by omega,show i+1+j=i+(j+1) by omega]
theorem cF5{P:Program}{L:Tab}{mu:List Nat}{rid:Nat}{all:List Oper}{K:Env->List AObj->Prop}(r:List Oper): ∀(i:Nat) (env env₀:Env) (H:List AObj) (hist:List (Nat×List AObj)) (rs:List (Nat×Oper×Env×AV)),(∀t,get env t=get env₀ t)->as4 P L mu rid all i r env H hist rs K->by3 P L mu rid all K r i env₀ H hist rs:=by
 induction r with
 |nil=>
  intro i env env₀ H hist rs he h;exact⟨fun _=>.any,fun _=>H,env,rfl,fun k o e=>by simp at e,fun k o e=>by simp at e,fun t=>(he t).symm,h,fun q o e z _ hv p _ _=>hv,fun j₀ Hj _ k o e=>by simp at e,fun k o e=>by simp at e,fun k o e=>by simp at e⟩
 |cons o r ih=>
  intro i env env₀ H hist rs he h;have hq: ∀env₁ z H H',(∀t,get env₁ t=get env₀ t)->ac6 P L mu o env₁ H (fun x H''=>x=z/\H''=H')->ac6 P L mu o env₀ H (fun x H''=>x=z/\H''=H'):=fun env₁ z H H' he₁ hz=>by
   rwa [<-ba2 (env:=env₁) fun x _ t _=>he₁ t]
  have run: ∀env₁,(∀t,get env₁ t=get env₀ t)->(∀Hx Hy z,ac6 P L mu o env₀ Hx (fun x H''=>x=z/\H''=Hy)->DoesE P L mu all o env₀ Hx z Hy)->
    (al0 P L mu o env₁ H fun z H'=>ai6 P L mu rid i o env₁ H z H' hist rs fun hist' rs'=>as4 P L mu rid all (i+1) r (put o.dst z env₁) H' hist' rs' K)->by3 P L mu rid all K (o::r) i env₀ H hist rs:=fun env₁ he₁ hdo h=>by
   obtain⟨z,H',hz,hk⟩:=b92 h;unfold ai6 at hk;cases ho:ai1 mu o with
   |true=>
    rw[if_pos ho] at hk;exact aY8 (fun e=>by rw[ho] at e;cases e) (hdo _ _ _ (hq env₁ z H H' he₁ hz)) (ih (i+1) _ _ H' _ _ (fun t=>by rw[get_put,get_put,he₁ t]) hk.2) (fun x hx=>aA0 _ hx) (fun x hx=>hx) (fun _=>.inr (au8 ..)) (fun _ q p e y hm hc _=>bv1 hk.1 q p e y hm hc) (fun e=>by rw[ho] at e;cases e)
   |false=>
    rw[if_neg (by rw[ho];simp)] at hk
    cases hpu:ay3 mu o with
    |true=>
     rw[if_pos hpu] at hk;exact aY8 (fun _=>dC5 hpu hz) (hdo _ _ _ (hq env₁ z H H' he₁ hz)) (ih (i+1) _ _ H' _ _ (fun t=>by rw[get_put,get_put,he₁ t]) hk) (fun x hx=>hx) (fun x hx=>hx) (fun e=>by rw[ho] at e;cases e) (fun e=>by rw[ho] at e;cases e) (fun _ e=>by rw[hpu] at e;cases e)
    |false=>
     rw[if_neg (by rw[hpu];simp)] at hk
     obtain⟨rfl,hw,hk⟩:=hk;refine aY8 (fun _=>rfl) (hdo _ _ _ (hq env₁ z H' H' he₁ hz)) (ih (i+1) _ _ H' _ _ (fun t=>by rw[get_put,get_put,he₁ t]) hk) (fun x hx=>hx) (fun x hx=>aA0 _ hx) (fun e=>by rw[ho] at e;cases e) (fun e=>by rw[ho] at e;cases e) (fun _ _=>⟨fun j₀ Hj hm hc=>hdo _ _ _ (hq env₁ z Hj Hj he₁ (bL0 hw j₀ Hj hm hc)),.inr ⟨env₁,au8 ..,hz,fun Hx hx=>hdo _ _ _ (hq env₁ z Hx Hx he₁ hx)⟩⟩)
  have skip: ∀env₁,(∀t,get env₁ t=get env₀ t)->(∀Hx,DoesE P L mu all o env₀ Hx (.lit undef) Hx)->as4 P L mu rid all (i+1) r (put o.dst (.lit undef) env₁) H hist rs K->by3 P L mu rid all K (o::r) i env₀ H hist rs:=fun env₁ he₁ hdo h=>
   aY8 (z:=.lit undef) (hist':=hist) (rs':=rs) (fun _=>rfl) (hdo H) (ih (i+1) _ _ H hist rs (fun t=>by rw[get_put,get_put,he₁ t]) h) (fun x hx=>hx) (fun x hx=>hx) (fun _=>.inl rfl) (fun _ q p e y _ _ hv=>hv) (fun _ _=>⟨fun _ Hj _ _=>hdo Hj,.inl hdo⟩)
  unfold as4 at h;cases hg:o.guard with
  |none=>
   rw[hg] at h;exact run env he (fun Hx Hy z hz=>by unfold DoesE;rw[hg];exact hz) h
  |some jw=>
   obtain⟨j,want⟩:=jw;rw[hg] at h;simp only[aB0] at h;split at h
   ·rename_i b hb
    have hb0:at7 all env₀ j=.lit (.bool b):=by rw[<-br0 he];exact hb
    by_cases e:b=want
    ·subst e
     have he₁: ∀t,get (known1 all j b env) t=get env₀ t:=fun t=>(bA7 hb t).trans (he t)
     exact run _ he₁ (fun Hx Hy z hz=>by unfold DoesE;rw[hg];exact .inl ⟨b,hb0,.inl ⟨rfl,hz⟩⟩) (h.1 rfl)
    ·have hbn:b=!want:=by cases b<;>cases want<;>simp_all
     have he₁: ∀t,get (known1 all j (!want) env) t=get env₀ t:=fun t=>(bA7 (hbn▸hb) t).trans (he t)
     exact skip _ he₁ (fun Hx=>by unfold DoesE;rw[hg];exact .inl ⟨b,hb0,.inr ⟨e,rfl,rfl⟩⟩) (h.2 e)
   ·rename_i ar hb
    exact skip env he (fun Hx=>by unfold DoesE;rw[hg];exact .inr ⟨ar,by rw[<-br0 he];exact hb,rfl,rfl⟩) h
   ·exact h.elim
theorem cu2{ops:List Oper}(hdr:aO3 ops=true){i j:Nat}{o:Oper}(e:ops[i]?=some o)(h:j∈(am1 ops []).getD i []):j < i:=by
 have hord: ∀(i:Nat) o,ops[i]?=some o-> ∀e∈o.after.toList,Region.binds .any e=true->e.on < i:=fun i o e=>by
  have:=(aC1 ops 0 hdr i o e).2;rwa [Nat.zero_add] at this
 have hp:Past ops (fun k=>decide (k < i)):=fun k o' ek hk e' he' hb=>by
  have h1:k < i:=by simpa using hk
  have:=hord k o' ek e' he' hb;simp only[decide_eq_true_eq];omega
 have:=aA8 hp ops [] [] rfl rfl (fun i j o hi=>by simp at hi) i j o h e (fun e' he' hb=>by have:=hord i o e e' he' hb;simpa using this)
 simpa using this
theorem cu4{P:Program}{L:Tab}(hL:ad9 P L)(hm:P.follows .mixedOrders=true)(mu:List Nat){n:Nat}{rid:Nat}{ops:List Oper}(hops:aA6 n ops=true)(hdr:aO3 ops=true)(hch:bt3 rid mu ops=true){Q:Exit->Env->List AObj->Prop}{env:Env}{H:List AObj}
  (h:as4 P L mu rid ops 0 ops env H [] [] (Q .normal)):AW P n (.region rid ops.toArray true) Q env H:=by
 obtain⟨zs,oh,env',h0,hpu,h1,h2,h3,_,_,h6,h7⟩:=cF5 ops 0 env env H [] [] (fun _=>rfl) h
 simp only[Nat.zero_add] at hpu h1 h3 h6 h7;refine cg8 hL hm mu hops hdr hch zs oh h0 hpu (fun i o e ho m hml hA hB=>?_) h1 env' h2 h3
 cases hp:ay3 mu o with
 |true=>
  have:=h1 i o e;rw[hpu i o e ho] at this;exact du2 hp this
 |false=>
  rcases an9 i m with him|him
  ·refine h7 i o e ho hp m (by omega) hml fun j o' hij hjm e' ho'=>?_
   rcases bY1 hch e e' (by omega) ho hp ho' with h8|h8|h8
   ·exfalso
    have:=cu2 hdr e h8;omega
   ·exact absurd h8 (hB j o' e' ho' hij hjm)
   ·exact h8
  ·refine h6 i o e ho hp m him fun j o' hmj hji e' ho'=>?_
   rcases bY1 hch e e' (by omega) ho hp ho' with h8|h8|h8
   ·exact absurd h8 (hA j o' e' ho' hmj hji)
   ·exfalso
    have:=cu2 hdr e' h8;omega
   ·exact h8
end V
end
section
namespace V
open Go
def dk6(c:AV)(a b:Prop)[Tag a][Tag b]:Prop:=
 match c with
 |.lit (.bool t)=>(t=true->a)/\(t=false->b)
 |_=>False
theorem dx0{t:Bool}{a b:Prop}:dk6 (.lit (.bool t)) a b=((t=true->bf0 a)/\(t=false->bf0 b)):=by rw[bi7,bi7];rfl
def vcC(P:Program)(L:Tab)(mu:List Nat)(n:Nat):Code->(Exit->Env->List AObj->Prop)->Env->List AObj->Prop
 |.skip,Q,env,H=>Q .normal env H
 |.seq x y,Q,env,H=>vcC P L mu n x (Ex (fun env H=>vcC P L mu n y Q env H) Q) env H
 |.cond c x y,Q,env,H=>dk6 (ev env c) (vcC P L mu n x Q env H) (vcC P L mu n y Q env H)
 |.block id c,Q,env,H=>vcC P L mu n c (InB id Q) env H
 |.exit id,Q,env,H=>Q (.exit id) env H
 |.ret,Q,env,H=>Q .ret env H
 |.region _ ops false,Q,env,H=>aG3 P L mu ops.toList ops.toList env H (Q .normal)
 |.region id ops true,Q,env,H=>if mu.contains (1000000+id) then as4 P L mu id ops.toList 0 ops.toList env H [] [] (Q .normal) else ay2 P L ops.toList ops.toList env H (Q .normal)
 |c,Q,env,H=>AW P n c Q env H
def okC(mu:List Nat)(n:Nat):Code->Bool
 |.seq x y=>okC mu n x&&okC mu n y
 |.cond _ x y=>okC mu n x&&okC mu n y
 |.block _ c=>okC mu n c
 |.region id ops d=>aA6 n ops.toList&&(!d||(aO3 ops.toList&&(!mu.contains (1000000+id)||bt3 id mu ops.toList)))
 |_=>true
theorem ak7{P:Program}{L:Tab}(hL:ad9 P L)(hm:P.follows .mixedOrders=true){mu:List Nat}{n:Nat}: ∀(c:Code) {Q:Exit->Env->List AObj->Prop} {env:Env} {H:List AObj},okC mu n c=true->vcC P L mu n c Q env H->AW P n c Q env H
 |.skip,_,_,_,_,h=>et4 h
 |.seq x y,Q,env,H,ho,h=>by
  simp only[okC,xq3] at ho;exact bI5 ((ak7 hL hm x ho.1 h).mono fun e env' H' q=>by
   cases e with
   |normal=>exact ak7 hL hm y ho.2 q
   |_=>exact q)
 |.cond c x y,Q,env,H,ho,h=>by
  simp only[okC,xq3] at ho;simp only[vcC,dk6] at h;split at h
  ·rename_i t ht
   exact et6 ht (fun e=>ak7 hL hm x ho.1 (h.1 e)) (fun e=>ak7 hL hm y ho.2 (h.2 e))
  ·exact h.elim
 |.block id c,Q,env,H,ho,h=>cZ1 (ak7 hL hm c ho h)
 |.exit id,_,_,_,_,h=>et5 h
 |.ret,_,_,_,_,h=>eK4 h
 |.region id ops false,Q,env,H,ho,h=>by
  simp only[okC,xq3] at ho;have:=dO0 hL mu (id:=id) (ops:=ops.toList) ho.1 h;simpa using this
 |.region id ops true,Q,env,H,ho,h=>by
  simp only[okC,xq3] at ho;have ho2:aO3 ops.toList=true/\(mu.contains (1000000+id)=true->bt3 id mu ops.toList=true):=by
   have:=ho.2;simp only[Bool.not_true,Bool.false_or,xq3,bT4,Bool.not_eq_true'] at this;refine⟨this.1,fun e=>?_⟩
   rcases this.2 with h'|h'
   ·rw[e] at h';cases h'
   ·exact h'
  unfold vcC at h;split at h
  ·rename_i hm'
   have:=cu4 hL hm mu (rid:=id) (ops:=ops.toList) ho.1 ho2.1 (ho2.2 hm') h;simpa using this
  ·have:=cz6 hL hm (rid:=id) (ops:=ops.toList) ho.1 ho2.1 h
   simpa using this
 |.loop c,_,_,_,_,h=>h
 |.rangeFunc _ _ _ _,_,_,_,_,h=>h
 |.scope _,_,_,_,_,h=>h
 |.label _,_,_,_,_,h=>h
 |.goto _,_,_,_,_,h=>h
 |.refuse _,_,_,_,_,h=>h
theorem dP3{P:Program}{L:Tab}(hL:ad9 P L)(hm:P.follows .mixedOrders=true)(mu:List Nat){f:FuncId}{fn:Func}{c:Code}{n:Nat}{rs:List ResultVar}{args:List AV}{H:List AObj}{R:AV->List AObj->Prop}(hf:P.funcs[f]?=some fn)(hb:fn.body=some c)(hname:(fn.name== "runtime.NumGoroutine")=false)(hn:fn.ntmps=n)
  (hrs:fn.results.toList=rs) (hargs:args.length<=n) (ho:okC mu n c=true) (h:vcC P L mu n c (bR8 L rs H R) (aL8 0 args) H):o8 P f args H R:=
 bZ5 hL hf hb hname hn hrs hargs (ak7 hL hm c ho h)
end V
end
end Go.Proofs.YtpplfhfoljjipaaGreatDoor
