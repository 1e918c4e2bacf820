/- Field: carried, sums, differences: the program's. -/
import Derived.Test.YtpplfhfoljjipaaGreatDoorW4
import Derived.Test.YtpplfhfoljjipaaGreatDoorW5
import Derived.Laws.Externs
import Derived.Lib.MakeNoZero
set_option linter.unusedVariables false
set_option linter.unusedSimpArgs false
set_option maxRecDepth 10000
set_option maxHeartbeats 4000000
namespace Go.Proofs.YtpplfhfoljjipaaGreatDoor
section
namespace Fe
open Go V
theorem bY3(l:List W)(i:Nat):(aj2 l i).1.length=l.length:=by
 induction i with
 |zero=>rfl
 |succ i ih=>rw[aj2,List.length_set,ih]
theorem bo1(l:List W):(be5 l).length=l.length:=by rw[be5,List.length_set,bY3]
def bq4(l:List W):Nat->List W
 |0=>l
 |i+1=>be5 (bq4 l i)
theorem dC9(l:List W)(i:Nat):(bq4 l i).length=l.length:=by
 induction i with
 |zero=>rfl
 |succ i ih=>rw[bq4,bo1,ih]
theorem cu7(x:W):IntKind.u64.wrap (((BitVec.ofInt IntKind.u64.bits (x.toNat:Int)&&&BitVec.ofInt IntKind.u64.bits 2251799813685247).toNat:Nat):Int)=((x&&&mW).toNat:Int):=by
 show IntKind.u64.wrap (((BitVec.ofInt 64 (x.toNat:Int)&&&mW).toNat:Nat):Int)=_
 rw[as6,W64.bp5]
theorem af4{m:List W}(h:m.length=5):ag0 [.lit (.int .u64 0),.lit (.int .u64 0),.lit (.int .u64 0),.lit (.int .u64 0),.lit (.int .u64 0)] 0 (m.map (wAV .u64))=m.map (wAV .u64):=by
 rw[aF0 _ _ _ (by simp[h])]
 simp[h]
theorem aV7{n:Nat}{m:List W}:Low n (.agg (m.map (wAV .u64))):=.agg _ fun x hx=>by
 obtain⟨c,_,rfl⟩:=xq6.1 hx;exact .lit _
theorem ek8{n:Nat}{m:List W}:Low n (.agg (m.map (wAV .u64)))=True:=eq_true aV7
theorem eD7{n:Nat}{m:List W}:Low n (.ip (.agg (m.map (wAV .u64))))=True:=eq_true (.ip _ fun x hx=>by
 obtain⟨c,_,rfl⟩:=xq6.1 hx;exact .lit _)
attribute [go_sem] ek8 eD7
theorem bo0(l:List W)(H:List AObj)(hl:l.length=5):o8 Tryz.prog 167 [.agg (l.map (wAV .u64))] H (fun y H'=>y=.agg ((af1 l).map (wAV .u64))/\H'=H):=by
 refine y8 [1] [.cell 2 97] 34 Tryz.func167 ?_;repeat' simp -dsimp -implicitDefEqProofs only[go_sem,ad7,hl]
 refine aa8 ab2 mixed [1] [1,2] (fun i:Nat=>i<=2) (fun i=>[(5,.lit (.int .i64 i))]) (fun i=>H++[.cells (.one 97) ((bq4 l i).map (wAV .u64)),.cells (.one 97) [.lit (.int .u64 0),.lit (.int .u64 0),.lit (.int .u64 0),.lit (.int .u64 0),.lit (.int .u64 0)]]) (fun i=>2 - i) (by kernel_rfl) ?_ 0 (by omega) y9 rfl
 intro i hi;have hpl:=dC9 l i;rw[hl] at hpl;have hnx:bq4 l (i+1)=be5 (bq4 l i):=rfl;by_cases h:i < 2
 ·have hic:((i:Int) < 2)=True:=eq_true (by omega)
  generalize bq4 l i=m at*;repeat' first|refine o6 ?_|simp -dsimp -implicitDefEqProofs only[go_sem,hic]
  refine aa8 ab2 mixed [1] [1,2,5,6] (fun j:Nat=>j<=5) (fun j=>[(3,wAV .u64 (aj2 m j).2),(7,.lit (.int .i64 j))]) (fun j=>H++[.cells (.one 97) ((aj2 m j).1.map (wAV .u64)),.cells (.one 97) [.lit (.int .u64 0),.lit (.int .u64 0),.lit (.int .u64 0),.lit (.int .u64 0),.lit (.int .u64 0)]]) (fun j=>5 - j) (by kernel_rfl) ?_ 0 (by omega) y9 rfl
  intro j hj;have hcl:=bY3 m j;rw[hpl] at hcl;by_cases h5:j < 5
  ·have hjc:((j:Int) < 5)=True:=eq_true (by omega)
   have hg:=ac9 (K:=.u64) (m:=(aj2 m j).1) (i:=j) (by omega)
   have hn:aj2 m (j+1)=((aj2 m j).1.set j (((aj2 m j).1.getD j 0+(aj2 m j).2)&&&mW),((aj2 m j).1.getD j 0+(aj2 m j).2)>>>51):=rfl;have hgs: ∀x:AV,(((aj2 m j).1.map (wAV .u64)).set j x).getD j .any=x:=fun x=>by
    rw[List.getD,ay8 (by rw[List.length_map];omega)]
    rfl
   have hms: ∀x:W,((aj2 m j).1.map (wAV .u64)).set j (wAV .u64 x)=((aj2 m j).1.set j x).map (wAV .u64):=fun x=>by rw[ar1]
   have h51:=fun x:W=>(b47 x).symm
   repeat' first|refine o6 ?_|simp -dsimp -implicitDefEqProofs (disch:=omega) only[go_sem,hjc,hcl,hg,hgs,cu7,h51]|refine vcA ?_ ?_|omega
   refine again (j+1) ?_ ?_ ?_ y9
   ·omega
   ·omega
   ·rw[hn,ar1]
  ·obtain rfl:j=5:=by omega
   have hgs: ∀x:AV,(((aj2 m 5).1.map (wAV .u64)).set 0 x).getD 0 .any=x:=fun x=>by
    rw[List.getD,ay8 (by rw[List.length_map];omega)]
    rfl
   have hg:=ac9 (K:=.u64) (m:=(aj2 m 5).1) (i:=0) (by omega)
   have h19: ∀x:W,IntKind.u64.wrap (19*(x.toNat:Int))=((19*x).toNat:Int):=fun x=>by
    rw[bC2];show IntKind.u64.wrap (19*(x.toNat:Int))=((19*x.toNat%2^64:Nat):Int)
    simp[IntKind.wrap,IntKind.signed,IntKind.bits]
   have hq:be5 m=(aj2 m 5).1.set 0 ((aj2 m 5).1.getD 0 0+19*(aj2 m 5).2):=rfl;repeat' first|refine o6 ?_|simp -dsimp -implicitDefEqProofs (disch:=omega) only[go_sem,hcl,hg,hgs,h19]
   refine again (i+1) ?_ ?_ ?_ y9
   ·omega
   ·omega
   ·rw[hnx,hq,ar1]
 ·obtain rfl:i=2:=by omega
  have hT:af1 l=bq4 l 2:=rfl;rw[hT];generalize bq4 l 2=m at*;have has:=af4 hpl;have htk:(m.map (wAV .u64)).take 5=m.map (wAV .u64):=al2 (by rw[List.length_map];omega)
  repeat' first|refine o6 ?_|simp -dsimp -implicitDefEqProofs only[go_sem,ad7,hpl,has,htk]
  exact aa5 (.agg (m.map (wAV .u64))) (Le.refl _) aV7 ⟨rfl,rfl⟩
theorem bu7(f:Nat->W)(l:List W)(i:Nat):(az0 f l i).length=l.length:=by simp[az0]
theorem bL5{f:Nat->W}{l:List W}{i:Nat}(j:Nat):(az0 f l i)[j]?=if j < l.length then some (if j < i then f j else l.getD j 0) else none:=by
 unfold az0;rw[ak8];by_cases h:j < l.length
 ·rw[aI7 h,if_pos h]
  rfl
 ·rw[av1 (by simp;omega),if_neg h]
  rfl
theorem cA4(f:Nat->W)(l:List W):az0 f l 0=l:=by
 apply aW4
 intro j;rw[bL5];by_cases h:j < l.length
 ·rw[if_pos h,if_neg (by omega),List.getD,xq1 h]
  rfl
 ·rw[if_neg h,av1 (by omega)]
theorem db6{f:Nat->W}{l:List W}{i:Nat}(h:i < l.length):(az0 f l i).getD i 0=l.getD i 0:=by
 rw[List.getD,bL5,if_pos h,if_neg (by omega)]
 rfl
theorem cL0{f:Nat->W}{l:List W}{i:Nat}(h:i < l.length):(az0 f l i).set i (f i)=az0 f l (i+1):=by
 apply aW4
 intro j;rw[bf8,bL5,bL5,bu7];by_cases h1:j < l.length
 ·rw[if_pos h1,if_pos h1]
  split
  ·rename_i e
   subst e;rw[if_pos (by omega)]
  ·rename_i e
   by_cases h3:j < i
   ·rw[if_pos h3,if_pos (by omega)]
   ·rw[if_neg h3,if_neg (by omega)]
 ·rw[if_neg h1,if_neg h1]
  split
  ·omega
  ·rfl
theorem aU3(l m:List W)(H:List AObj)(hl:l.length=5)(hm:m.length=5):o8 Tryz.prog 160 [.agg (l.map (wAV .u64)),.agg (m.map (wAV .u64))] H (fun y H'=>y=.agg ((ah4 l m).map (wAV .u64))/\H'=H):=by
 refine y8 [2,1000004] [.cell 4 97] 20 Tryz.func160 ?_;repeat' simp -dsimp -implicitDefEqProofs only[go_sem,ad7,hl,hm]
 refine aa8 ab2 mixed [2,1000004] [2,3,4] (fun i:Nat=>i<=5) (fun i=>[(6,.lit (.int .i64 i))]) (fun i=>H++[.cells (.one 97) ((az0 (fun j=>l.getD j 0+m.getD j 0) l i).map (wAV .u64)),.cells (.one 97) [.lit (.int .u64 0),.lit (.int .u64 0),.lit (.int .u64 0),.lit (.int .u64 0),.lit (.int .u64 0)]]) (fun i=>5 - i) (by kernel_rfl) ?_ 0 (by omega) y9 (by rw[cA4])
 intro i hi;have hcl:=bu7 (fun j=>l.getD j 0+m.getD j 0) l i
 rw[hl] at hcl;by_cases h5:i < 5
 ·have hic:((i:Int) < 5)=True:=eq_true (by omega)
  have hu:=db6 (f:=fun j=>l.getD j 0+m.getD j 0) (l:=l) (i:=i) (by omega)
  have hn:=cL0 (f:=fun j=>l.getD j 0+m.getD j 0) (l:=l) (i:=i) (by omega)
  generalize az0 (fun j=>l.getD j 0+m.getD j 0) l i=u at*
  have hg:=ac9 (K:=.u64) (m:=u) (i:=i) (by omega)
  have hg2:=ac9 (K:=.u64) (m:=m) (i:=i) (by omega)
  rw[hu] at hg;repeat' first|refine o6 ?_|simp -dsimp -implicitDefEqProofs (disch:=omega) only[go_sem,hic,hcl,hg,hg2,hm]|refine vcA ?_ ?_|omega
  refine again (i+1) ?_ ?_ ?_ y9
  ·omega
  ·omega
  ·rw[<-hn,ar1]
 ·obtain rfl:i=5:=by omega
  have hc:=fun H=>bo0 (az0 (fun j=>l.getD j 0+m.getD j 0) l 5) H hcl
  have hpl:(ah4 l m).length=5:=by unfold ah4 af1;rw[bo1,bo1,hcl]
  have hq:af1 (az0 (fun j=>l.getD j 0+m.getD j 0) l 5)=ah4 l m:=rfl
  rw[hq] at hc;generalize az0 (fun j=>l.getD j 0+m.getD j 0) l 5=u at*
  generalize ah4 l m=r at*;have has:=af4 hpl;have htk:(r.map (wAV .u64)).take 5=r.map (wAV .u64):=al2 (by rw[List.length_map];omega)
  have htu:(u.map (wAV .u64)).take 5=u.map (wAV .u64):=al2 (by rw[List.length_map];omega)
  repeat' first|refine o6 ?_|simp -dsimp -implicitDefEqProofs only[go_sem,ad7,hpl,hcl,has,htk,htu]|refine o5 (hc _) ?_|fail
  exact aa5 (.agg (r.map (wAV .u64))) (Le.refl _) aV7 ⟨rfl,rfl⟩
end Fe
end
section
namespace Fe
open Go V
theorem ee7(x y:W):IntKind.u64.wrap ((x.toNat:Int)*(y.toNat:Int))=((x*y).toNat:Int):=by
 rw[bC2];simp[IntKind.wrap,IntKind.signed,IntKind.bits]
theorem ea9(x:W):x.toNat/4294967296=(x>>>32).toNat:=by simp[aK5]
theorem eK9(x:W):IntKind.u64.wrap (((BitVec.ofInt IntKind.u64.bits (x.toNat:Int)&&&BitVec.ofInt IntKind.u64.bits 4294967295).toNat:Nat):Int)=((x&&&4294967295#64).toNat:Int):=by
 show IntKind.u64.wrap (((BitVec.ofInt 64 (x.toNat:Int)&&&4294967295#64).toNat:Nat):Int)=_
 rw[as6,W64.bp5]
def hiW(x y:W):W:=
 let t:=(x>>>32)*(y&&&4294967295#64)+((x&&&4294967295#64)*(y&&&4294967295#64))>>>32
 (x>>>32)*(y>>>32)+t>>>32+((t&&&4294967295#64)+(x&&&4294967295#64)*(y>>>32))>>>32
theorem b87(x y:W)(H:List AObj):o8 Tryz.prog 166 [wAV .u64 x,wAV .u64 y] H (fun z H'=>z=.tup [wAV .u64 (hiW x y),wAV .u64 (x*y)]/\H'=H):=by
 refine y8 [] [.tmp 4,.tmp 5] 51 Tryz.func166 ?_;repeat' simp -dsimp -implicitDefEqProofs (disch:=omega) only[go_sem,ee7,ea9,eK9]
 exact o9 ⟨rfl,rfl⟩
theorem cy8(x y:W):(hiW x y).toNat=x.toNat*y.toNat/18446744073709551616:=by
 have hx:=x.isLt;have hy:=y.isLt;have m32: ∀z:W,(z&&&4294967295#64).toNat=z.toNat%4294967296:=fun z=>by
  rw[cj3];exact cj1 z.toNat 32
 have s32: ∀z:W,(z>>>32).toNat=z.toNat/4294967296:=fun z=>(ea9 z).symm
 have e:x.toNat*y.toNat=18446744073709551616*((x.toNat/4294967296)*(y.toNat/4294967296))+4294967296*((x.toNat/4294967296)*(y.toNat%4294967296))+4294967296*((x.toNat%4294967296)*(y.toNat/4294967296))+(x.toNat%4294967296)*(y.toNat%4294967296):=by
  have h1:=Nat.mod_add_div x.toNat 4294967296;have h2:=Nat.mod_add_div y.toNat 4294967296;generalize x.toNat/4294967296=x1 at*;generalize y.toNat/4294967296=y1 at*;generalize x.toNat%4294967296=x0 at*;generalize y.toNat%4294967296=y0 at*;rw[<-h1,<-h2];grind
 have q: ∀{a b:Nat},a < 4294967296->b < 4294967296->a*b<=18446744065119617025:=fun {a b} ha hb=>ay9 (cH7 (show a<=4294967295 by omega) (show b<=4294967295 by omega)) (by decide)
 have b1:=q (a:=x.toNat/4294967296) (b:=y.toNat/4294967296) (by omega) (by omega)
 have b2:=q (a:=x.toNat/4294967296) (b:=y.toNat%4294967296) (by omega) (by omega)
 have b3:=q (a:=x.toNat%4294967296) (b:=y.toNat/4294967296) (by omega) (by omega)
 have b4:=q (a:=x.toNat%4294967296) (b:=y.toNat%4294967296) (by omega) (by omega)
 unfold hiW;simp only[bK2,bC2,s32,m32,Nat.reducePow];rw[e];generalize (x.toNat/4294967296)*(y.toNat/4294967296)=A at*;generalize (x.toNat/4294967296)*(y.toNat%4294967296)=B at*;generalize (x.toNat%4294967296)*(y.toNat/4294967296)=C at*;generalize (x.toNat%4294967296)*(y.toNat%4294967296)=D at*;clear hx hy e m32 s32 q;rw[ar2 (a:=A) (by omega),ar2 (a:=B) (by omega),ar2 (a:=C) (by omega),ar2 (a:=D) (by omega),ar2 (a:=B+D/4294967296) (by omega)]
 omega
theorem cN3{G:Gh}{H:List AObj}{w:World}{x y z:AV}{vs:Array Value}(h:ay7 G H w [x,y,z] vs): ∃v u t,vs= #[v,u,t]/\Rel G H w x v/\Rel G H w y u/\Rel G H w z t:=by
 obtain⟨hs,hr⟩:=h;obtain⟨l⟩:=vs;match l,hs with
 |[v,u,t],_=>exact⟨v,u,t,rfl,hr 0 x v rfl rfl,hr 1 y u rfl rfl,hr 2 z t rfl rfl⟩
theorem di3(x y:W)(c:Nat)(H:List AObj)(hc:c<=1):o8 Tryz.prog 203 [wAV .u64 x,wAV .u64 y,.lit (.int .u64 (c:Int))] H (fun z H'=>z=.tup [wAV .u64 (BitVec.ofNat 64 (x.toNat+y.toNat+c)),.lit (.int .u64 (((x.toNat+y.toNat+c)/18446744073709551616:Nat):Int))]/\H'=H):=
 aC8 (e:=add64Entry) Tryz.func203 (by kernel_rfl) (by kernel_rfl) (by kernel_rfl) (by kernel_rfl) fun G w vs hi ha=>by
  obtain⟨v,u,t,rfl,hv,hu,ht⟩:=cN3 ha;rw[ab7 hv,ab7 hu,ab7 ht];refine⟨_,w,_,G,H,run_add64 _ _ _ (by omega) (by omega) (by omega) (by omega) w,hi,.refl _ _ _,?_,rfl,rfl⟩
  have e1:((x.toNat:Int)+(y.toNat:Int)+(c:Int))%18446744073709551616=((BitVec.ofNat 64 (x.toNat+y.toNat+c)).toNat:Int):=by
   rw[aC2];simp only[Nat.reducePow];omega
  have e2:((x.toNat:Int)+(y.toNat:Int)+(c:Int))/18446744073709551616=(((x.toNat+y.toNat+c)/18446744073709551616:Nat):Int):=by omega
  rw[e1,e2];refine .tup _ _ rfl fun j z v h1 h2=>?_
  match j,h1,h2 with
  |0,h1,h2=>cases h1;cases h2;exact .lit _
  |1,h1,h2=>cases h1;cases h2;exact .lit _
  |j+2,h1,_=>simp at h1
end Fe
end
section
namespace Fe
open Go V
def aF3(all:List Nat):List AV:=all.flatMap fun n=>[wAV .u64 (BitVec.ofNat 64 (n/18446744073709551616)),wAV .u64 (BitVec.ofNat 64 n)]
theorem eR1{k off:Nat}{sh:Shape}{cs:List AV}{hi lo:W}{H:List AObj}(x y:W)(hk:H[k]?=some (.cells sh cs))(ho:off+1 < cs.length)(h1:cs.getD off .any=wAV .u64 hi)(h2:cs.getD (off+1) .any=wAV .u64 lo):
  o8 Tryz.prog 165 [.mp k off,wAV .u64 x,wAV .u64 y] H (fun z H'=>z=.tup []/\H'=H.set k (.cells sh ((cs.set (off+1) (wAV .u64 (BitVec.ofNat 64 (lo.toNat+(x*y).toNat)))).set off (wAV .u64 (hi+(hiW x y+BitVec.ofNat 64 ((lo.toNat+(x*y).toNat)/18446744073709551616))))))):=by
 have hkl:=aa0 hk;have hM:=fun H=>b87 x y H
 have hA:=fun H=>di3 lo (x*y) 0 H (by omega)
 have hcw:(((lo.toNat+(x*y).toNat+0)/18446744073709551616:Nat):Int)=((BitVec.ofNat 64 ((lo.toNat+(x*y).toNat)/18446744073709551616)).toNat:Int):=by
  rw[aC2];have:=lo.isLt;have:=(x*y).isLt;simp only[Nat.reducePow];omega
 rw[hcw] at hA;have hgs: ∀z:AV,(cs.set (off+1) z).getD off .any=wAV .u64 hi:=fun z=>by
  rw[<-h1,List.getD,List.getD,ar4 (by omega)]
 refine y8 [] [] 37 Tryz.func165 ?_;repeat' first|simp -dsimp -implicitDefEqProofs (disch:=assumption) only[go_sem,hk,h1,h2,hgs,ar7]|refine o5 (hM _) ?_|refine o5 (hA _) ?_|refine vcA ?_ ?_|omega
 exact ae7 _ (Le.refl _) (by rw[List.length_set];exact xq0 _) ⟨rfl,rfl⟩
theorem dw8(all:List Nat):(aF3 all).length=2*all.length:=by
 unfold aF3;induction all with
 |nil=>rfl
 |cons n r ih=>rw[b04,List.length_append,ih,List.length_cons];simp only[List.length_cons,List.length_nil];omega
theorem ea6{all:List Nat}{j:Nat}(h:j < all.length):(aF3 all).getD (2*j) .any=wAV .u64 (BitVec.ofNat 64 (all.getD j 0/18446744073709551616)):=by
 induction all generalizing j with
 |nil=>cases h
 |cons n r ih=>
  cases j with
  |zero=>rfl
  |succ j=>exact ih (by simpa using h)
theorem ea5{all:List Nat}{j:Nat}(h:j < all.length):(aF3 all).getD (2*j+1) .any=wAV .u64 (BitVec.ofNat 64 (all.getD j 0)):=by
 induction all generalizing j with
 |nil=>cases h
 |cons n r ih=>
  cases j with
  |zero=>rfl
  |succ j=>exact ih (by simpa using h)
theorem ew7{all:List Nat}{j n:Nat}(h:j < all.length):((aF3 all).set (2*j+1) (wAV .u64 (BitVec.ofNat 64 n))).set (2*j) (wAV .u64 (BitVec.ofNat 64 (n/18446744073709551616)))=aF3 (all.set j n):=by
 induction all generalizing j with
 |nil=>cases h
 |cons m r ih=>
  cases j with
  |zero=>rfl
  |succ j=>exact congrArg (fun t=>wAV .u64 (BitVec.ofNat 64 (m/18446744073709551616))::wAV .u64 (BitVec.ofNat 64 m)::t) (ih (j:=j) (by simpa using h))
theorem eM4{n:Nat}(x y:W)(hn:n < 340282366920938463463374607431768211456):BitVec.ofNat 64 ((BitVec.ofNat 64 n).toNat+(x*y).toNat)=BitVec.ofNat 64 (ai5 n x y)/\BitVec.ofNat 64 (n/18446744073709551616)+(hiW x y+BitVec.ofNat 64 (((BitVec.ofNat 64 n).toNat+(x*y).toNat)/18446744073709551616))=BitVec.ofNat 64 (ai5 n x y/18446744073709551616):=by
 have h1:=cy8 x y;have hp:x.toNat*y.toNat < 340282366920938463463374607431768211456:=dd4 (a:=18446744073709551616) (b:=18446744073709551616) x.isLt y.isLt;unfold ai5;constructor
 ·apply bC1
  simp only[aC2,bC2,Nat.reducePow];generalize x.toNat*y.toNat=P at*;omega
 ·apply bC1
  simp only[aC2,bC2,bK2,h1,Nat.reducePow];generalize x.toNat*y.toNat=P at*;omega
theorem dv8{k:Nat}{sh:Shape}{all:List Nat}{H:List AObj}(x y:W)(j:Nat)(hk:H[k]?=some (.cells sh (aF3 all)))(hj:j < all.length)(ha:all.getD j 0 < 340282366920938463463374607431768211456):
  o8 Tryz.prog 165 [.mp k (2*j),wAV .u64 x,wAV .u64 y] H (fun z H'=>z=.tup []/\H'=H.set k (.cells sh (aF3 (all.set j (ai5 (all.getD j 0) x y))))):=by
 have h:=eR1 (off:=2*j) x y hk (by rw[dw8];omega) (ea6 hj) (ea5 hj)
 obtain⟨e1,e2⟩:=eM4 x y ha;rw[e1,e2,ew7 hj] at h;exact h
end Fe
end
section
namespace Fe
open Go V
theorem b57{x y:Nat}(t:Nat)(h:x < 2^t):x|||2^t*y=x+2^t*y:=by
 rw[Nat.or_comm,<-ci7 h,bJ9]
theorem a18{x y:W}(s t:Nat)(hs:s < 64)(ht:0 < t)(h:s+t=64):(x>>>s|||y<<<t).toNat=x.toNat/2^s+2^t*(y.toNat%2^s):=by
 have hx:x.toNat/2^s < 2^t:=by
  rw[cH4 (Nat.two_pow_pos s),<-bC4,bJ9,h];exact x.isLt
 have hy:(y<<<t).toNat=2^t*(y.toNat%2^s):=by
  have hp:(2:Nat)^64=2^t*2^s:=by rw[<-bC4,bJ9,h]
  rw[bC6,bC5,aZ1,hp,Nat.mul_mod_mul_left]
 rw[BitVec.toNat_or,bt7,aK5,hy,b57 t hx]
end Fe
end
section
namespace Fe
open Go V
theorem t5{l:List W}(h:l.length=5):(l.map (wAV .u64)).take 5=l.map (wAV .u64):=al2 (by rw[List.length_map];omega)
theorem aA9{l m:List W}(h:m.length=l.length):ag0 (l.map (wAV .u64)) 0 (m.map (wAV .u64))=m.map (wAV .u64):=by
 rw[aF0 _ _ _ (by simp[h])]
 simp[h]
theorem az9(l:List W):(af1 l).length=l.length:=by unfold af1;rw[bo1,bo1]
theorem db7(x y:W):IntKind.u64.wrap ((x.toNat:Int) - (y.toNat:Int))=((x - y).toNat:Int):=by
 rw[BitVec.toNat_sub];have:=x.isLt;have:=y.isLt;simp only[IntKind.wrap,IntKind.signed,IntKind.bits,Nat.reducePow] at*;simp
 omega
theorem ew9(x:W):IntKind.u64.wrap ((x.toNat:Int)+9007199254740988)=((x+9007199254740988).toNat:Int):=W64.db8 x 9007199254740988
theorem ew8(x:W):IntKind.u64.wrap ((x.toNat:Int) - 72)=((x - 72).toNat:Int):=db7 x 72
theorem a94(l m:List W)(H:List AObj)(hl:l.length=5)(hm:m.length=5):o8 Tryz.prog 161 [.agg (l.map (wAV .u64)),.agg (m.map (wAV .u64))] H (fun y H'=>y=.agg ((ae9 l m).map (wAV .u64))/\H'=H):=by
 refine y8 [2,1000005] [.cell 4 97] 29 Tryz.func161 ?_;repeat' simp -dsimp -implicitDefEqProofs only[go_sem,ad7,hl,hm]
 refine aa8 ab2 mixed [2,1000005] [2,3,4] (fun i:Nat=>i<=5) (fun i=>[(6,.lit (.int .i64 i))]) (fun i=>H++[.cells (.one 97) ((az0 (fun j=>l.getD j 0+9007199254740988 - m.getD j 0) l i).map (wAV .u64)),.cells (.one 97) [.lit (.int .u64 0),.lit (.int .u64 0),.lit (.int .u64 0),.lit (.int .u64 0),.lit (.int .u64 0)]]) (fun i=>5 - i) (by kernel_rfl) ?_ 0 (by omega) y9 (by rw[cA4])
 intro i hi;have hcl:=bu7 (fun j=>l.getD j 0+9007199254740988 - m.getD j 0) l i
 rw[hl] at hcl;by_cases h5:i < 5
 ·have hic:((i:Int) < 5)=True:=eq_true (by omega)
  have hu:=db6 (f:=fun j=>l.getD j 0+9007199254740988 - m.getD j 0) (l:=l) (i:=i) (by omega)
  have hn:=cL0 (f:=fun j=>l.getD j 0+9007199254740988 - m.getD j 0) (l:=l) (i:=i) (by omega)
  generalize az0 (fun j=>l.getD j 0+9007199254740988 - m.getD j 0) l i=u at*
  have hg:=ac9 (K:=.u64) (m:=u) (i:=i) (by omega)
  have hg2:=ac9 (K:=.u64) (m:=m) (i:=i) (by omega)
  rw[hu] at hg;have hgs: ∀x:AV,((u.map (wAV .u64)).set i x).getD i .any=x:=fun x=>by
   rw[List.getD,ay8 (by rw[List.length_map];omega)]
   rfl
  have hss: ∀x y:AV,((u.map (wAV .u64)).set i x).set i y=(u.map (wAV .u64)).set i y:=fun x y=>by rw[List.set_set]
  repeat' first|refine o6 ?_|simp -dsimp -implicitDefEqProofs (disch:=omega) only[go_sem,hic,hcl,hg,hg2,hm,hgs,hss,ew9,db7]|refine vcA ?_ ?_|omega
  refine again (i+1) ?_ ?_ ?_ y9
  ·omega
  ·omega
  ·rw[<-hn,ar1]
 ·obtain rfl:i=5:=by omega
  have hg:=ac9 (K:=.u64) (m:=az0 (fun j=>l.getD j 0+9007199254740988 - m.getD j 0) l 5) (i:=0) (by omega)
  have hc:=fun H=>bo0 ((az0 (fun j=>l.getD j 0+9007199254740988 - m.getD j 0) l 5).set 0 ((az0 (fun j=>l.getD j 0+9007199254740988 - m.getD j 0) l 5).getD 0 0 - 72)) H (by rw[List.length_set];exact hcl)
  have hpl:(ae9 l m).length=5:=by unfold ae9;rw[az9,List.length_set,hcl]
  have hq:af1 ((az0 (fun j=>l.getD j 0+9007199254740988 - m.getD j 0) l 5).set 0 ((az0 (fun j=>l.getD j 0+9007199254740988 - m.getD j 0) l 5).getD 0 0 - 72))=ae9 l m:=rfl
  rw[hq] at hc;generalize az0 (fun j=>l.getD j 0+9007199254740988 - m.getD j 0) l 5=u at*
  generalize ae9 l m=r at*;have has:=af4 hpl;have hsm: ∀x:W,(u.map (wAV .u64)).set 0 (wAV .u64 x)=(u.set 0 x).map (wAV .u64):=fun x=>by rw[ar1]
  have htu: ∀x,((u.set 0 x).map (wAV .u64)).take 5=(u.set 0 x).map (wAV .u64):=fun x=>t5 (by rw[List.length_set];exact hcl)
  repeat' first|refine o6 ?_|simp -dsimp -implicitDefEqProofs (disch:=omega) only[go_sem,ad7,hpl,hcl,hg,hsm,has,t5 hpl,htu,ew8]|refine o5 (hc _) ?_|fail
  exact aa5 (.agg (r.map (wAV .u64))) (Le.refl _) aV7 ⟨rfl,rfl⟩
theorem ec9(l m:List W)(n:Nat):(au2 l m n).length=5:=by
 induction n with
 |zero=>rfl
 |succ n ih=>rw[au2,bR0,List.length_set,ih]
theorem db5(n:Nat)(x y:W):ai5 n x y < 340282366920938463463374607431768211456:=a96 _ (by decide)
theorem c84{l:List Nat}{b:Nat}(h: ∀j,l.getD j 0 < b){i x:Nat}(hx:x < b)(j:Nat):(l.set i x).getD j 0 < b:=by
 have:=h j;rw[List.getD] at this⊢;rw[bf8];split
 ·split
  ·exact hx
  ·rename_i h1 h2
   subst h1;rw[av1 (by omega)] at this
   exact this
 ·exact this
theorem eL5(l m:List W)(n:Nat): ∀j,(au2 l m n).getD j 0 < 340282366920938463463374607431768211456:=by
 induction n with
 |zero=>
  intro j;have z:(0:Nat) < 340282366920938463463374607431768211456:=by decide
  match j with
  |0=>exact z
  |1=>exact z
  |2=>exact z
  |3=>exact z
  |4=>exact z
  |j+5=>exact z
 |succ n ih=>
  intro j;rw[au2,bR0];exact c84 ih (db5 _ _ _) j
theorem eu3(l m:List W){i k:Nat}(hk:k < 5)(h:i+k < 5):au2 l m (5*i+(k+1))=(au2 l m (5*i+k)).set (i+k) (ai5 ((au2 l m (5*i+k)).getD (i+k) 0) (l.getD i 0) (m.getD k 0)):=by
 show bR0 l m (5*i+k) (au2 l m (5*i+k))=_
 unfold bR0;rw[show (5*i+k)/5=i by omega,show (5*i+k)%5=k by omega,if_pos h,show (i+k)%5=i+k by omega]
theorem eu2(l m:List W){i k:Nat}(hi:i < 5)(hk:k < 5)(h: ¬i+k < 5):au2 l m (5*i+(k+1))=(au2 l m (5*i+k)).set (i+k - 5) (ai5 ((au2 l m (5*i+k)).getD (i+k - 5) 0) (l.getD i 0) (19*m.getD k 0)):=by
 show bR0 l m (5*i+k) (au2 l m (5*i+k))=_
 unfold bR0;rw[show (5*i+k)/5=i by omega,show (5*i+k)%5=k by omega,if_neg h,show (i+k)%5=i+k - 5 by omega]
def aM8(A:List Nat):Nat->List Nat
 |0=>A
 |i+1=>(aM8 A i).set i (bw0 A (ap1 A i).2 i)
theorem ck7(A:List Nat)(i:Nat):(aM8 A i).length=A.length:=by
 induction i with
 |zero=>rfl
 |succ i ih=>rw[aM8,List.length_set,ih]
theorem eM6(A:List Nat)(i:Nat): ∀j,i<=j->(aM8 A i).getD j 0=A.getD j 0:=by
 induction i with
 |zero=>intro j _;rfl
 |succ i ih=>
  intro j hj;rw[aM8,List.getD,ar4 (by omega)]
  exact ih j (by omega)
theorem dE9(A:List Nat)(i:Nat):(ap1 A i).1.length=5:=by
 induction i with
 |zero=>rfl
 |succ i ih=>rw[ap1,List.length_set,ih]
theorem eF4{n:Nat}(h:n < 340282366920938463463374607431768211456):BitVec.ofNat 64 (n/18446744073709551616)<<<13|||BitVec.ofNat 64 n>>>51=(BitVec.ofNat 64 (n/2251799813685248):W):=by
 apply bC1
 rw[BitVec.or_comm,a18 51 13 (by decide) (by decide) rfl]
 simp only[aC2,Nat.reducePow];omega
theorem dn2(x:W):IntKind.u64.wrap ((x.toNat:Int)*8192)=((x<<<13).toNat:Int):=by
 rw[bC6,bC5];simp[IntKind.wrap,IntKind.signed,IntKind.bits]
theorem av6(l m:List W)(H:List AObj)(hl:l.length=5)(hm:m.length=5):o8 Tryz.prog 112 [.agg (l.map (wAV .u64)),.agg (m.map (wAV .u64))] H (fun y H'=>y=.agg ((aa9 l m).map (wAV .u64))/\H'=H):=by
 have h19: ∀x:W,IntKind.u64.wrap (19*(x.toNat:Int))=((19*x).toNat:Int):=fun x=>by
  rw[bC2];show IntKind.u64.wrap (19*(x.toNat:Int))=((19*x.toNat%2^64:Nat):Int)
  simp[IntKind.wrap,IntKind.signed,IntKind.bits]
 have h51:=fun x:W=>(b47 x).symm
 have hat: ∀(o1 o2:AObj),(H++[o1,o2])[H.length+1]?=some o2:=fun o1 o2=>by rw[aE0];rfl
 have hst: ∀(o1 o2 x:AObj),(H++[o1,o2]).set (H.length+1) x=H++[o1,x]:=fun o1 o2 x=>by rw[bd5];rfl
 have hat3: ∀(o1 o2 o3:AObj),(H++[o1,o2,o3])[H.length+1]?=some o2:=fun o1 o2 o3=>by rw[aE0];rfl
 have hst3: ∀(o1 o2 o3 x:AObj),(H++[o1,o2,o3]).set (H.length+1) x=H++[o1,x,o3]:=fun o1 o2 o3 x=>by rw[bd5];rfl
 refine y8 [1000020] [.cell 4 97] 95 Tryz.func112 ?_;repeat' simp -dsimp -implicitDefEqProofs only[go_sem,ad7,hl,hm]
 refine aa8 ab2 mixed [1000020] [3,4,5,15] (fun i:Nat=>i<=5) (fun i=>[(16,.lit (.int .i64 i))]) (fun i=>H++[.cells (.one 97) [.lit (.int .u64 0),.lit (.int .u64 0),.lit (.int .u64 0),.lit (.int .u64 0),.lit (.int .u64 0)],.cells (.one 195) (aF3 (au2 l m (5*i)))]) (fun i=>5 - i) (by kernel_rfl) ?_ 0 (by omega) y9 rfl
 intro i hi;by_cases h5:i < 5
 ·have hic:((i:Int) < 5)=True:=eq_true (by omega)
  have hg:=ac9 (K:=.u64) (m:=l) (i:=i) (by omega)
  repeat' first|refine o6 ?_|simp -dsimp -implicitDefEqProofs only[go_sem,hic,hg,hl,hm,ad7]|refine vcA ?_ ?_|omega
  refine aa8 ab2 mixed [1000020] [3,4,5,6,7,15,16,17,18,19,20] (fun k:Nat=>k<=5) (fun k=>[(21,.lit (.int .i64 k))]) (fun k=>H++[.cells (.one 97) [.lit (.int .u64 0),.lit (.int .u64 0),.lit (.int .u64 0),.lit (.int .u64 0),.lit (.int .u64 0)],.cells (.one 195) (aF3 (au2 l m (5*i+k)))]) (fun k=>5 - k) (by kernel_rfl) ?_ 0 (by omega) y9 rfl
  intro k hk;have hal:=ec9 l m (5*i+k);have hlt:=eL5 l m (5*i+k);by_cases hk5:k < 5
  ·have hkc:((k:Int) < 5)=True:=eq_true (by omega)
   have hg2:=ac9 (K:=.u64) (m:=m) (i:=k) (by omega)
   by_cases hs:i+k < 5
   ·have hsc:((i:Int)+(k:Int) < 5)=True:=eq_true (by omega)
    have hik:((i:Int)+(k:Int)).toNat*2=2*(i+k):=by omega
    have hn:=eu3 l m hk5 hs;generalize au2 l m (5*i+k)=A at*;have hA:=fun o1=>dv8 (sh:=.one 195) (l.getD i 0) (m.getD k 0) (i+k) (hat o1 (.cells (.one 195) (aF3 A))) (by omega) (hlt _)
    rw[<-hn] at hA;repeat' first|refine o6 ?_|simp -dsimp -implicitDefEqProofs (disch:=omega) only[go_sem,hkc,hsc,hg2,hm,hik,hst]|refine o5 (hA _) ?_|refine vcA ?_ ?_|omega
    refine again (k+1) ?_ ?_ rfl y9
    ·omega
    ·omega
   ·have hsc:((i:Int)+(k:Int) < 5)=False:=eq_false (by omega)
    have hik:((i:Int)+(k:Int) - 5).toNat*2=2*(i+k - 5):=by omega
    have hn:=eu2 l m h5 hk5 hs;generalize au2 l m (5*i+k)=A at*;have hA:=fun o1=>dv8 (sh:=.one 195) (l.getD i 0) (19*m.getD k 0) (i+k - 5) (hat o1 (.cells (.one 195) (aF3 A))) (by omega) (hlt _)
    rw[<-hn] at hA;repeat' first|refine o6 ?_|simp -dsimp -implicitDefEqProofs (disch:=omega) only[go_sem,hkc,hsc,hg2,hm,hik,h19,hst]|refine o5 (hA _) ?_|refine vcA ?_ ?_|omega
    refine again (k+1) ?_ ?_ rfl y9
    ·omega
    ·omega
  ·obtain rfl:k=5:=by omega
   repeat' first|refine o6 ?_|simp -dsimp -implicitDefEqProofs (disch:=omega) only[go_sem]
   refine again (i+1) ?_ ?_ rfl y9
   ·omega
   ·omega
 ·obtain rfl:i=5:=by omega
  have hal:=ec9 l m 25;have hlt:=eL5 l m 25;have ht:aa9 l m=af1 (((ap1 (au2 l m 25) 5).1.set 0 ((ap1 (au2 l m 25) 5).1.getD 0 0+(BitVec.ofNat 64 ((ap1 (au2 l m 25) 5).2.toNat*19)&&&mW))).set 1 ((ap1 (au2 l m 25) 5).1.getD 1 0+BitVec.ofNat 64 ((ap1 (au2 l m 25) 5).2.toNat*19/2251799813685248))):=rfl;rw[ht];rw[show 5*5=25 from rfl]
  generalize au2 l m 25=A at*;repeat' first|refine o6 ?_|simp -dsimp -implicitDefEqProofs only[go_sem]
  refine aa8 ab2 mixed [1000020] [4,5,10] (fun i:Nat=>i<=5) (fun i=>[(47,.lit (.int .i64 i)),(11,wAV .u64 (ap1 A i).2)]) (fun i=>H++[.cells (.one 97) [.lit (.int .u64 0),.lit (.int .u64 0),.lit (.int .u64 0),.lit (.int .u64 0),.lit (.int .u64 0)],.cells (.one 195) (aF3 (aM8 A i)),.cells (.one 97) ((ap1 A i).1.map (wAV .u64))]) (fun i=>5 - i) (by kernel_rfl) ?_ 0 (by omega) y9 rfl
  intro i hi;have htl:=ck7 A i;have hol:=dE9 A i;rw[hal] at htl;by_cases hi5:i < 5
  ·have hic:((i:Int) < 5)=True:=eq_true (by omega)
   have hi2:(i:Int).toNat*2=2*i:=by omega
   have hi3:i*2=2*i:=by omega
   have hta:=eM6 A i i (xq0 _);have hn:aM8 A (i+1)=(aM8 A i).set i (bw0 A (ap1 A i).2 i):=rfl;have hn2:ap1 A (i+1)=((ap1 A i).1.set i (BitVec.ofNat 64 (bw0 A (ap1 A i).2 i)&&&mW),BitVec.ofNat 64 (bw0 A (ap1 A i).2 i/2251799813685248)):=rfl;have hol2:bw0 A (ap1 A i).2 i=ai5 (A.getD i 0) (ap1 A i).2 1:=rfl;have hol3:bw0 A (ap1 A i).2 i < 340282366920938463463374607431768211456:=db5 _ _ _;have hA:=fun o1 o3=>dv8 (sh:=.one 195) (ap1 A i).2 1 i (hat3 o1 (.cells (.one 195) (aF3 (aM8 A i))) o3) (by omega) (by rw[hta];exact hlt _)
   rw[hta,<-hol2,<-hn] at hA;have w1:(aF3 (aM8 A (i+1))).getD (2*i+0) .any=_:=ea6 (all:=aM8 A (i+1)) (j:=i) (by rw[ck7];omega)
   have w2:=ea5 (all:=aM8 A (i+1)) (j:=i) (by rw[ck7];omega)
   have hgt:(aM8 A (i+1)).getD i 0=bw0 A (ap1 A i).2 i:=by rw[hn,List.getD,ay8 (by omega)];rfl
   rw[hgt] at w1 w2;have hhl:=(eF4 hol3).trans (show BitVec.ofNat 64 (bw0 A (ap1 A i).2 i/2251799813685248)=(ap1 A (i+1)).2 by rw[hn2])
   have hcl:=dw8 (aM8 A (i+1));rw[ck7,hal] at hcl;generalize hT:aM8 A (i+1)=T at*;generalize bw0 A (ap1 A i).2 i=t at*;generalize ap1 A i=o at*;repeat' first|refine o6 ?_|simp -dsimp -implicitDefEqProofs (disch:=omega) only[go_sem,hic,hi2,hi3,hst3,hcl,w1,w2,hol,dn2,h51,cu7]|refine o5 (hA _ _) ?_|refine vcA ?_ ?_|omega
   rw[hhl];refine again (i+1) ?_ ?_ ?_ y9
   ·omega
   ·omega
   ·rw[hn2,hT,ar1]
  ·obtain rfl:i=5:=by omega
   generalize ap1 A 5=o at*;have hM: ∀H,o8 Tryz.prog 166 [wAV .u64 o.2,.lit (.int .u64 19)] H (fun z H'=>z=.tup [wAV .u64 (hiW o.2 19),wAV .u64 (o.2*19)]/\H'=H):=fun H=>b87 o.2 19 H
   have g0:=ac9 (K:=.u64) (m:=o.1) (i:=0) (by omega)
   have hsm: ∀(j:Nat) (q:List W) (x:W),(q.map (wAV .u64)).set j (wAV .u64 x)=(q.set j x).map (wAV .u64):=fun j q x=>by rw[ar1]
   have g1: ∀x,((o.1.set 0 x).map (wAV .u64)).getD 1 .any=wAV .u64 (o.1.getD 1 0):=fun x=>by
    rw[ac9 (by rw[List.length_set];omega),List.getD,ar4 (by omega)]
    rfl
   have hv0:o.2*19=BitVec.ofNat 64 (o.2.toNat*19):=by
    apply bC1
    rw[bC2,aC2];rfl
   have hv1:(o.2*19&&&mW)=(BitVec.ofNat 64 (o.2.toNat*19)&&&mW):=by rw[hv0]
   have hv2:hiW o.2 19<<<13|||(o.2*19)>>>51=BitVec.ofNat 64 (o.2.toNat*19/2251799813685248):=by
    have hh:hiW o.2 19=BitVec.ofNat 64 (o.2.toNat*19/18446744073709551616):=by
     apply bC1
     rw[cy8,aC2];have:=o.2.isLt;show o.2.toNat*19/_=_
     omega
    rw[hh,hv0];refine eF4 ?_;have:=o.2.isLt;omega
   have hcl:(af1 ((o.1.set 0 (o.1.getD 0 0+(BitVec.ofNat 64 (o.2.toNat*19)&&&mW))).set 1 (o.1.getD 1 0+BitVec.ofNat 64 (o.2.toNat*19/2251799813685248)))).length=5:=by rw[az9,List.length_set,List.length_set,hol]
   have hc:=fun H=>bo0 ((o.1.set 0 (o.1.getD 0 0+(BitVec.ofNat 64 (o.2.toNat*19)&&&mW))).set 1 (o.1.getD 1 0+BitVec.ofNat 64 (o.2.toNat*19/2251799813685248))) H (by rw[List.length_set,List.length_set,hol])
   have hll:((o.1.set 0 (o.1.getD 0 0+(BitVec.ofNat 64 (o.2.toNat*19)&&&mW))).set 1 (o.1.getD 1 0+BitVec.ofNat 64 (o.2.toNat*19/2251799813685248))).length=5:=by rw[List.length_set,List.length_set,hol]
   have has:=af4 hcl;have ht1:=t5 hcl;have ht2:=t5 hll;generalize af1 ((o.1.set 0 (o.1.getD 0 0+(BitVec.ofNat 64 (o.2.toNat*19)&&&mW))).set 1 (o.1.getD 1 0+BitVec.ofNat 64 (o.2.toNat*19/2251799813685248)))=r at*;repeat' first|refine o6 ?_|simp -dsimp -implicitDefEqProofs (disch:=omega) only[go_sem,hol,cu7,dn2,h51,g0,g1,hsm,hv1,hv2,ad7,hcl,has,ht1,ht2]|refine o5 (hM _) ?_|refine o5 (hc _) ?_|fail
   exact aa5 (.agg (r.map (wAV .u64))) (Le.refl _) aV7 ⟨rfl,rfl⟩
end Fe
end
section
namespace Fe
open Go V
def leN(n v:Nat):List UInt8:=(List.range n).map fun i=>UInt8.ofNat (v/256^i)
def leV:List UInt8->Nat
 |[]=>0
 |b::l=>b.toNat+256*leV l
theorem bi3(n v:Nat):(leN n v).length=n:=by simp[leN]
def bQ8(l:List W):Nat->W
 |0=>19
 |i+1=>(l.getD i 0+bQ8 l i)>>>51
def dT4(l:List W):List W:=(aj2 ((af1 l).set 0 ((af1 l).getD 0 0+19*bQ8 (af1 l) 5)) 5).1
def piece(x:W)(i k:Nat):UInt8:=UInt8.ofNat (if 8*k < 51*i%8 then(x<<<(51*i%8 - 8*k)).toNat else(x>>>(8*k - 51*i%8)).toNat)
def bG8(r:List W)(n:Nat)(o:List UInt8):List UInt8:=if 31 < 51*(n/8)/8+n%8 then o else o.set (51*(n/8)/8+n%8) (o.getD (51*(n/8)/8+n%8) 0|||piece (r.getD (n/8) 0) (n/8) (n%8))
def ao1(r:List W):Nat->List UInt8
 |0=>List.replicate 32 0
 |n+1=>bG8 r n (ao1 r n)
def al3(l:List W):List UInt8:=ao1 (dT4 l) 40
theorem bu8{x q:W}(hx:x.toNat < 1152921504606846976)(hq:q.toNat < 1048576):((x+q)>>>51).toNat=(x.toNat+q.toNat)/2251799813685248:=by
 rw[b47,aH4 (by omega)]
theorem eg1{l:List W}(h:Lim 1152921504606846976 l): ∃a b c d e,dT4 l=[a,b,c,d,e]/\a.toNat < 2251799813685248/\b.toNat < 2251799813685248/\c.toNat < 2251799813685248/\d.toNat < 2251799813685248/\e.toNat < 2251799813685248/\ag6 [a,b,c,d,e]=ag6 l%pF:=by
 obtain⟨hl,hv,hp⟩:=aX7 h;unfold dT4;rw[<-hv];clear hv;generalize af1 l=m at*;obtain⟨a,b,c,d,e,rfl,ha,hb,hc,hd,he⟩:=bW9 hl;have h19:(19:W).toNat=19:=rfl;have t1:=bu8 (x:=a) (q:=19) (by omega) (by omega)
 have t2:=bu8 (x:=b) (q:=(a+19)>>>51) (by omega) (by omega)
 have t3:=bu8 (x:=c) (q:=(b+(a+19)>>>51)>>>51) (by omega) (by omega)
 have t4:=bu8 (x:=d) (q:=(c+(b+(a+19)>>>51)>>>51)>>>51) (by omega) (by omega)
 have t5:=bu8 (x:=e) (q:=(d+(c+(b+(a+19)>>>51)>>>51)>>>51)>>>51) (by omega) (by omega)
 have hT:bQ8 [a,b,c,d,e] 5=(e+(d+(c+(b+(a+19)>>>51)>>>51)>>>51)>>>51)>>>51:=rfl;rw[hT];have hq:((e+(d+(c+(b+(a+19)>>>51)>>>51)>>>51)>>>51)>>>51).toNat=(ag6 [a,b,c,d,e]+19)/57896044618658097711785492504343953926634992332820282019728792003956564819968:=by
  simp only[ag6];omega
 clear t1 t2 t3 t4 t5 hT;generalize (e+(d+(c+(b+(a+19)>>>51)>>>51)>>>51)>>>51)>>>51=q at*;have hp2:pF=57896044618658097711785492504343953926634992332820282019728792003956564819949:=rfl;have hq1:q.toNat<=1:=by omega
 have hm:=b63 (x:=q) (by omega)
 have hs:=aH4 (x:=a) (y:=19*q) (by omega)
 have hS:([a,b,c,d,e].set 0 ([a,b,c,d,e].getD 0 0+19*q))=[a+19*q,b,c,d,e]:=rfl;rw[hS];have hP: ∃q1 q2 q3 q4 q5 x1 x2 x3 x4 x5:W,(aj2 [a+19*q,b,c,d,e] 5).1=[x1,x2,x3,x4,x5]/\x1.toNat+2251799813685248*q1.toNat=(a+19*q).toNat/\x1.toNat < 2251799813685248/\x2.toNat+2251799813685248*q2.toNat=b.toNat+q1.toNat/\x2.toNat < 2251799813685248/\x3.toNat+2251799813685248*q3.toNat=c.toNat+q2.toNat/\x3.toNat < 2251799813685248/\x4.toNat+2251799813685248*q4.toNat=d.toNat+q3.toNat/\x4.toNat < 2251799813685248/\x5.toNat+2251799813685248*q5.toNat=e.toNat+q4.toNat/\x5.toNat < 2251799813685248:=by
  have h0:(0:W).toNat=0:=rfl;obtain⟨a1,a2,a3⟩:=digit (x:=a+19*q) (q:=0) (by omega) (by decide)
  rw[h0] at a1;obtain⟨b1,b2,b3⟩:=digit (x:=b) (q:=(a+19*q+0)>>>51) (by omega) (by omega)
  obtain⟨c1,c2,c3⟩:=digit (x:=c) (q:=(b+(a+19*q+0)>>>51)>>>51) (by omega) (by omega)
  obtain⟨d1,d2,d3⟩:=digit (x:=d) (q:=(c+(b+(a+19*q+0)>>>51)>>>51)>>>51) (by omega) (by omega)
  obtain⟨e1,e2,e3⟩:=digit (x:=e) (q:=(d+(c+(b+(a+19*q+0)>>>51)>>>51)>>>51)>>>51) (by omega) (by omega)
  exact⟨_,_,_,_,_,_,_,_,_,_,rfl,a1,a2,b1,b2,c1,c2,d1,d2,e1,e2⟩
 obtain⟨q1,q2,q3,q4,q5,x1,x2,x3,x4,x5,h0,a1,a2,b1,b2,c1,c2,d1,d2,e1,e2⟩:=hP;refine⟨_,_,_,_,_,h0,a2,b2,c2,d2,e2,?_⟩;rw[hs,hm] at a1;have hV:ag6 [x1,x2,x3,x4,x5]+57896044618658097711785492504343953926634992332820282019728792003956564819968*q5.toNat=ag6 [a,b,c,d,e]+19*q.toNat:=by
  simp only[ag6];omega
 have hB:ag6 [x1,x2,x3,x4,x5] < 57896044618658097711785492504343953926634992332820282019728792003956564819968:=by
  simp only[ag6];omega
 generalize ag6 [x1,x2,x3,x4,x5]=V at*;generalize ag6 [a,b,c,d,e]=U at*;rw[hp2] at hp⊢;clear ha hb hc hd he hm hs a1 a2 b1 b2 c1 c2 d1 d2 e1 e2 h0 hS h19 hp2 hl;have hq5:q5.toNat=q.toNat:=by omega
 have hq2:q.toNat=0\/q.toNat=1:=by omega
 rcases hq2 with h|h<;>rw[h] at hq hV hq5<;>rw[hq5] at hV<;>omega
theorem ag2{x:W}{i k:Nat}(h:51*i%8<=8*k):(piece x i k).toNat=x.toNat/2^(8*k - 51*i%8)%256:=by
 unfold piece;rw[if_neg (by omega),bt7,aK5]
 simp
theorem b54{x:W}{i:Nat}(h:0 < 51*i%8):(piece x i 0).toNat=x.toNat*2^(51*i%8)%256:=by
 unfold piece;rw[if_pos (by omega),bC6,bC5]
 simp only[UInt8.toNat_ofNat',by5,a99];rw[cG8 _ (by decide)]
theorem bq6(a b:UInt8):(a|||b).toNat=a.toNat|||b.toNat:=UInt8.toNat_or a b
theorem zero_or(a:UInt8):0|||a=a:=by simp
theorem eh1(a b c d e:W):ao1 [a,b,c,d,e] 40=[(0|||piece a 0 0),(0|||piece a 0 1),(0|||piece a 0 2),(0|||piece a 0 3),(0|||piece a 0 4),(0|||piece a 0 5),((0|||piece a 0 6)|||piece b 1 0),((0|||piece a 0 7)|||piece b 1 1),(0|||piece b 1 2),(0|||piece b 1 3),(0|||piece b 1 4),(0|||piece b 1 5),((0|||piece b 1 6)|||piece c 2 0),((0|||piece b 1 7)|||piece c 2 1),(0|||piece c 2 2),(0|||piece c 2 3),(0|||piece c 2 4),(0|||piece c 2 5),(0|||piece c 2 6),((0|||piece c 2 7)|||piece d 3 0),(0|||piece d 3 1),(0|||piece d 3 2),(0|||piece d 3 3),(0|||piece d 3 4),(0|||piece d 3 5),((0|||piece d 3 6)|||piece e 4 0),((0|||piece d 3 7)|||piece e 4 1),(0|||piece e 4 2),(0|||piece e 4 3),(0|||piece e 4 4),(0|||piece e 4 5),(0|||piece e 4 6)]:=by kernel_rfl
theorem em3(v:Nat):leN 32 v=[UInt8.ofNat (v/256^0),UInt8.ofNat (v/256^1),UInt8.ofNat (v/256^2),UInt8.ofNat (v/256^3),UInt8.ofNat (v/256^4),UInt8.ofNat (v/256^5),UInt8.ofNat (v/256^6),UInt8.ofNat (v/256^7),UInt8.ofNat (v/256^8),UInt8.ofNat (v/256^9),UInt8.ofNat (v/256^10),UInt8.ofNat (v/256^11),UInt8.ofNat (v/256^12),UInt8.ofNat (v/256^13),UInt8.ofNat (v/256^14),UInt8.ofNat (v/256^15),UInt8.ofNat (v/256^16),UInt8.ofNat (v/256^17),UInt8.ofNat (v/256^18),UInt8.ofNat (v/256^19),UInt8.ofNat (v/256^20),UInt8.ofNat (v/256^21),UInt8.ofNat (v/256^22),UInt8.ofNat (v/256^23),UInt8.ofNat (v/256^24),UInt8.ofNat (v/256^25),UInt8.ofNat (v/256^26),UInt8.ofNat (v/256^27),UInt8.ofNat (v/256^28),UInt8.ofNat (v/256^29),UInt8.ofNat (v/256^30),UInt8.ofNat (v/256^31)]:=by kernel_rfl
theorem an3{a:UInt8}{n:Nat}(h:a.toNat=n%256):a=UInt8.ofNat n:=by
 apply aZ0.1
 rw[h];simp
theorem ag3{a R m:Nat}(ha:a < 2251799813685248):(a+2251799813685248*R)/(2251799813685248*m)=R/m:=by
 rw[<-bJ5,Nat.add_mul_div_left _ _ (by decide),bK5 ha,Nat.zero_add]
theorem eh0{a b c d e:W}(ha:a.toNat < 2251799813685248)(hb:b.toNat < 2251799813685248)(hc:c.toNat < 2251799813685248)(hd:d.toNat < 2251799813685248)(he:e.toNat < 2251799813685248):ao1 [a,b,c,d,e] 40=leN 32 (ag6 [a,b,c,d,e]):=by
 rw[eh1,em3];have hV:ag6 [a,b,c,d,e]=a.toNat+2251799813685248*(b.toNat+2251799813685248*(c.toNat+2251799813685248*(d.toNat+2251799813685248*e.toNat))):=by simp only[ag6];omega
 rw[hV];have g0:(0|||piece a 0 0)=UInt8.ofNat ((a.toNat+2251799813685248*(b.toNat+2251799813685248*(c.toNat+2251799813685248*(d.toNat+2251799813685248*e.toNat))))/256^0):=by
  apply an3
  have p0:=ag2 (x:=a) (i:=0) (k:=0) (by decide)
  simp only[Nat.reduceMul,Nat.reduceMod,Nat.reduceSub,Nat.reducePow] at p0;rw[zero_or];rw[p0];clear p0;rw[show (256:Nat)^0=1 from rfl]
  generalize c.toNat+2251799813685248*(d.toNat+2251799813685248*e.toNat)=R;all_goals omega
 have g1:(0|||piece a 0 1)=UInt8.ofNat ((a.toNat+2251799813685248*(b.toNat+2251799813685248*(c.toNat+2251799813685248*(d.toNat+2251799813685248*e.toNat))))/256^1):=by
  apply an3
  have p0:=ag2 (x:=a) (i:=0) (k:=1) (by decide)
  simp only[Nat.reduceMul,Nat.reduceMod,Nat.reduceSub,Nat.reducePow] at p0;rw[zero_or];rw[p0];clear p0;rw[show (256:Nat)^1=256 from rfl]
  generalize c.toNat+2251799813685248*(d.toNat+2251799813685248*e.toNat)=R;all_goals omega
 have g2:(0|||piece a 0 2)=UInt8.ofNat ((a.toNat+2251799813685248*(b.toNat+2251799813685248*(c.toNat+2251799813685248*(d.toNat+2251799813685248*e.toNat))))/256^2):=by
  apply an3
  have p0:=ag2 (x:=a) (i:=0) (k:=2) (by decide)
  simp only[Nat.reduceMul,Nat.reduceMod,Nat.reduceSub,Nat.reducePow] at p0;rw[zero_or];rw[p0];clear p0;rw[show (256:Nat)^2=65536 from rfl]
  generalize c.toNat+2251799813685248*(d.toNat+2251799813685248*e.toNat)=R;all_goals omega
 have g3:(0|||piece a 0 3)=UInt8.ofNat ((a.toNat+2251799813685248*(b.toNat+2251799813685248*(c.toNat+2251799813685248*(d.toNat+2251799813685248*e.toNat))))/256^3):=by
  apply an3
  have p0:=ag2 (x:=a) (i:=0) (k:=3) (by decide)
  simp only[Nat.reduceMul,Nat.reduceMod,Nat.reduceSub,Nat.reducePow] at p0;rw[zero_or];rw[p0];clear p0;rw[show (256:Nat)^3=16777216 from rfl]
  generalize c.toNat+2251799813685248*(d.toNat+2251799813685248*e.toNat)=R;all_goals omega
 have g4:(0|||piece a 0 4)=UInt8.ofNat ((a.toNat+2251799813685248*(b.toNat+2251799813685248*(c.toNat+2251799813685248*(d.toNat+2251799813685248*e.toNat))))/256^4):=by
  apply an3
  have p0:=ag2 (x:=a) (i:=0) (k:=4) (by decide)
  simp only[Nat.reduceMul,Nat.reduceMod,Nat.reduceSub,Nat.reducePow] at p0;rw[zero_or];rw[p0];clear p0;rw[show (256:Nat)^4=4294967296 from rfl]
  generalize c.toNat+2251799813685248*(d.toNat+2251799813685248*e.toNat)=R;all_goals omega
 have g5:(0|||piece a 0 5)=UInt8.ofNat ((a.toNat+2251799813685248*(b.toNat+2251799813685248*(c.toNat+2251799813685248*(d.toNat+2251799813685248*e.toNat))))/256^5):=by
  apply an3
  have p0:=ag2 (x:=a) (i:=0) (k:=5) (by decide)
  simp only[Nat.reduceMul,Nat.reduceMod,Nat.reduceSub,Nat.reducePow] at p0;rw[zero_or];rw[p0];clear p0;rw[show (256:Nat)^5=1099511627776 from rfl]
  generalize c.toNat+2251799813685248*(d.toNat+2251799813685248*e.toNat)=R;all_goals omega
 have g6:((0|||piece a 0 6)|||piece b 1 0)=UInt8.ofNat ((a.toNat+2251799813685248*(b.toNat+2251799813685248*(c.toNat+2251799813685248*(d.toNat+2251799813685248*e.toNat))))/256^6):=by
  apply an3
  have p0:=ag2 (x:=a) (i:=0) (k:=6) (by decide)
  have p1:=b54 (x:=b) (i:=1) (by decide)
  simp only[Nat.reduceMul,Nat.reduceMod,Nat.reduceSub,Nat.reducePow] at p0 p1;rw[zero_or,bq6];rw[p0];rw[p1];have z:b.toNat*8%256=2^3*(b.toNat%32):=by omega
  rw[z,b57 3 (by omega)]
  clear p0 p1;rw[show (256:Nat)^6=281474976710656 from rfl]
  generalize c.toNat+2251799813685248*(d.toNat+2251799813685248*e.toNat)=R;all_goals omega
 have g7:((0|||piece a 0 7)|||piece b 1 1)=UInt8.ofNat ((a.toNat+2251799813685248*(b.toNat+2251799813685248*(c.toNat+2251799813685248*(d.toNat+2251799813685248*e.toNat))))/256^7):=by
  apply an3
  have p0:=ag2 (x:=a) (i:=0) (k:=7) (by decide)
  have p1:=ag2 (x:=b) (i:=1) (k:=1) (by decide)
  simp only[Nat.reduceMul,Nat.reduceMod,Nat.reduceSub,Nat.reducePow] at p0 p1;rw[zero_or,bq6];rw[p0];rw[p1];have z:a.toNat/72057594037927936%256=0:=by omega
  rw[z,Nat.zero_or];clear p0 p1;rw[show (256:Nat)^7=2251799813685248*32 from rfl,ag3 ha]
  generalize d.toNat+2251799813685248*e.toNat=R;all_goals omega
 have g8:(0|||piece b 1 2)=UInt8.ofNat ((a.toNat+2251799813685248*(b.toNat+2251799813685248*(c.toNat+2251799813685248*(d.toNat+2251799813685248*e.toNat))))/256^8):=by
  apply an3
  have p0:=ag2 (x:=b) (i:=1) (k:=2) (by decide)
  simp only[Nat.reduceMul,Nat.reduceMod,Nat.reduceSub,Nat.reducePow] at p0;rw[zero_or];rw[p0];clear p0;rw[show (256:Nat)^8=2251799813685248*8192 from rfl,ag3 ha]
  generalize d.toNat+2251799813685248*e.toNat=R;all_goals omega
 have g9:(0|||piece b 1 3)=UInt8.ofNat ((a.toNat+2251799813685248*(b.toNat+2251799813685248*(c.toNat+2251799813685248*(d.toNat+2251799813685248*e.toNat))))/256^9):=by
  apply an3
  have p0:=ag2 (x:=b) (i:=1) (k:=3) (by decide)
  simp only[Nat.reduceMul,Nat.reduceMod,Nat.reduceSub,Nat.reducePow] at p0;rw[zero_or];rw[p0];clear p0;rw[show (256:Nat)^9=2251799813685248*2097152 from rfl,ag3 ha]
  generalize d.toNat+2251799813685248*e.toNat=R;all_goals omega
 have g10:(0|||piece b 1 4)=UInt8.ofNat ((a.toNat+2251799813685248*(b.toNat+2251799813685248*(c.toNat+2251799813685248*(d.toNat+2251799813685248*e.toNat))))/256^10):=by
  apply an3
  have p0:=ag2 (x:=b) (i:=1) (k:=4) (by decide)
  simp only[Nat.reduceMul,Nat.reduceMod,Nat.reduceSub,Nat.reducePow] at p0;rw[zero_or];rw[p0];clear p0;rw[show (256:Nat)^10=2251799813685248*536870912 from rfl,ag3 ha]
  generalize d.toNat+2251799813685248*e.toNat=R;all_goals omega
 have g11:(0|||piece b 1 5)=UInt8.ofNat ((a.toNat+2251799813685248*(b.toNat+2251799813685248*(c.toNat+2251799813685248*(d.toNat+2251799813685248*e.toNat))))/256^11):=by
  apply an3
  have p0:=ag2 (x:=b) (i:=1) (k:=5) (by decide)
  simp only[Nat.reduceMul,Nat.reduceMod,Nat.reduceSub,Nat.reducePow] at p0;rw[zero_or];rw[p0];clear p0;rw[show (256:Nat)^11=2251799813685248*137438953472 from rfl,ag3 ha]
  generalize d.toNat+2251799813685248*e.toNat=R;all_goals omega
 have g12:((0|||piece b 1 6)|||piece c 2 0)=UInt8.ofNat ((a.toNat+2251799813685248*(b.toNat+2251799813685248*(c.toNat+2251799813685248*(d.toNat+2251799813685248*e.toNat))))/256^12):=by
  apply an3
  have p0:=ag2 (x:=b) (i:=1) (k:=6) (by decide)
  have p1:=b54 (x:=c) (i:=2) (by decide)
  simp only[Nat.reduceMul,Nat.reduceMod,Nat.reduceSub,Nat.reducePow] at p0 p1;rw[zero_or,bq6];rw[p0];rw[p1];have z:c.toNat*64%256=2^6*(c.toNat%4):=by omega
  rw[z,b57 6 (by omega)]
  clear p0 p1;rw[show (256:Nat)^12=2251799813685248*35184372088832 from rfl,ag3 ha]
  generalize d.toNat+2251799813685248*e.toNat=R;all_goals omega
 have g13:((0|||piece b 1 7)|||piece c 2 1)=UInt8.ofNat ((a.toNat+2251799813685248*(b.toNat+2251799813685248*(c.toNat+2251799813685248*(d.toNat+2251799813685248*e.toNat))))/256^13):=by
  apply an3
  have p0:=ag2 (x:=b) (i:=1) (k:=7) (by decide)
  have p1:=ag2 (x:=c) (i:=2) (k:=1) (by decide)
  simp only[Nat.reduceMul,Nat.reduceMod,Nat.reduceSub,Nat.reducePow] at p0 p1;rw[zero_or,bq6];rw[p0];rw[p1];have z:b.toNat/9007199254740992%256=0:=by omega
  rw[z,Nat.zero_or];clear p0 p1;rw[show (256:Nat)^13=2251799813685248*(2251799813685248*4) from rfl,ag3 ha,ag3 hb]
  all_goals omega
 have g14:(0|||piece c 2 2)=UInt8.ofNat ((a.toNat+2251799813685248*(b.toNat+2251799813685248*(c.toNat+2251799813685248*(d.toNat+2251799813685248*e.toNat))))/256^14):=by
  apply an3
  have p0:=ag2 (x:=c) (i:=2) (k:=2) (by decide)
  simp only[Nat.reduceMul,Nat.reduceMod,Nat.reduceSub,Nat.reducePow] at p0;rw[zero_or];rw[p0];clear p0;rw[show (256:Nat)^14=2251799813685248*(2251799813685248*1024) from rfl,ag3 ha,ag3 hb]
  all_goals omega
 have g15:(0|||piece c 2 3)=UInt8.ofNat ((a.toNat+2251799813685248*(b.toNat+2251799813685248*(c.toNat+2251799813685248*(d.toNat+2251799813685248*e.toNat))))/256^15):=by
  apply an3
  have p0:=ag2 (x:=c) (i:=2) (k:=3) (by decide)
  simp only[Nat.reduceMul,Nat.reduceMod,Nat.reduceSub,Nat.reducePow] at p0;rw[zero_or];rw[p0];clear p0;rw[show (256:Nat)^15=2251799813685248*(2251799813685248*262144) from rfl,ag3 ha,ag3 hb]
  all_goals omega
 have g16:(0|||piece c 2 4)=UInt8.ofNat ((a.toNat+2251799813685248*(b.toNat+2251799813685248*(c.toNat+2251799813685248*(d.toNat+2251799813685248*e.toNat))))/256^16):=by
  apply an3
  have p0:=ag2 (x:=c) (i:=2) (k:=4) (by decide)
  simp only[Nat.reduceMul,Nat.reduceMod,Nat.reduceSub,Nat.reducePow] at p0;rw[zero_or];rw[p0];clear p0;rw[show (256:Nat)^16=2251799813685248*(2251799813685248*67108864) from rfl,ag3 ha,ag3 hb]
  all_goals omega
 have g17:(0|||piece c 2 5)=UInt8.ofNat ((a.toNat+2251799813685248*(b.toNat+2251799813685248*(c.toNat+2251799813685248*(d.toNat+2251799813685248*e.toNat))))/256^17):=by
  apply an3
  have p0:=ag2 (x:=c) (i:=2) (k:=5) (by decide)
  simp only[Nat.reduceMul,Nat.reduceMod,Nat.reduceSub,Nat.reducePow] at p0;rw[zero_or];rw[p0];clear p0;rw[show (256:Nat)^17=2251799813685248*(2251799813685248*17179869184) from rfl,ag3 ha,ag3 hb]
  all_goals omega
 have g18:(0|||piece c 2 6)=UInt8.ofNat ((a.toNat+2251799813685248*(b.toNat+2251799813685248*(c.toNat+2251799813685248*(d.toNat+2251799813685248*e.toNat))))/256^18):=by
  apply an3
  have p0:=ag2 (x:=c) (i:=2) (k:=6) (by decide)
  simp only[Nat.reduceMul,Nat.reduceMod,Nat.reduceSub,Nat.reducePow] at p0;rw[zero_or];rw[p0];clear p0;rw[show (256:Nat)^18=2251799813685248*(2251799813685248*4398046511104) from rfl,ag3 ha,ag3 hb]
  all_goals omega
 have g19:((0|||piece c 2 7)|||piece d 3 0)=UInt8.ofNat ((a.toNat+2251799813685248*(b.toNat+2251799813685248*(c.toNat+2251799813685248*(d.toNat+2251799813685248*e.toNat))))/256^19):=by
  apply an3
  have p0:=ag2 (x:=c) (i:=2) (k:=7) (by decide)
  have p1:=b54 (x:=d) (i:=3) (by decide)
  simp only[Nat.reduceMul,Nat.reduceMod,Nat.reduceSub,Nat.reducePow] at p0 p1;rw[zero_or,bq6];rw[p0];rw[p1];have z:d.toNat*2%256=2^1*(d.toNat%128):=by omega
  rw[z,b57 1 (by omega)]
  clear p0 p1;rw[show (256:Nat)^19=2251799813685248*(2251799813685248*1125899906842624) from rfl,ag3 ha,ag3 hb]
  all_goals omega
 have g20:(0|||piece d 3 1)=UInt8.ofNat ((a.toNat+2251799813685248*(b.toNat+2251799813685248*(c.toNat+2251799813685248*(d.toNat+2251799813685248*e.toNat))))/256^20):=by
  apply an3
  have p0:=ag2 (x:=d) (i:=3) (k:=1) (by decide)
  simp only[Nat.reduceMul,Nat.reduceMod,Nat.reduceSub,Nat.reducePow] at p0;rw[zero_or];rw[p0];clear p0;rw[show (256:Nat)^20=2251799813685248*(2251799813685248*(2251799813685248*128)) from rfl,ag3 ha,ag3 hb,ag3 hc]
  all_goals omega
 have g21:(0|||piece d 3 2)=UInt8.ofNat ((a.toNat+2251799813685248*(b.toNat+2251799813685248*(c.toNat+2251799813685248*(d.toNat+2251799813685248*e.toNat))))/256^21):=by
  apply an3
  have p0:=ag2 (x:=d) (i:=3) (k:=2) (by decide)
  simp only[Nat.reduceMul,Nat.reduceMod,Nat.reduceSub,Nat.reducePow] at p0;rw[zero_or];rw[p0];clear p0;rw[show (256:Nat)^21=2251799813685248*(2251799813685248*(2251799813685248*32768)) from rfl,ag3 ha,ag3 hb,ag3 hc]
  all_goals omega
 have g22:(0|||piece d 3 3)=UInt8.ofNat ((a.toNat+2251799813685248*(b.toNat+2251799813685248*(c.toNat+2251799813685248*(d.toNat+2251799813685248*e.toNat))))/256^22):=by
  apply an3
  have p0:=ag2 (x:=d) (i:=3) (k:=3) (by decide)
  simp only[Nat.reduceMul,Nat.reduceMod,Nat.reduceSub,Nat.reducePow] at p0;rw[zero_or];rw[p0];clear p0;rw[show (256:Nat)^22=2251799813685248*(2251799813685248*(2251799813685248*8388608)) from rfl,ag3 ha,ag3 hb,ag3 hc]
  all_goals omega
 have g23:(0|||piece d 3 4)=UInt8.ofNat ((a.toNat+2251799813685248*(b.toNat+2251799813685248*(c.toNat+2251799813685248*(d.toNat+2251799813685248*e.toNat))))/256^23):=by
  apply an3
  have p0:=ag2 (x:=d) (i:=3) (k:=4) (by decide)
  simp only[Nat.reduceMul,Nat.reduceMod,Nat.reduceSub,Nat.reducePow] at p0;rw[zero_or];rw[p0];clear p0;rw[show (256:Nat)^23=2251799813685248*(2251799813685248*(2251799813685248*2147483648)) from rfl,ag3 ha,ag3 hb,ag3 hc]
  all_goals omega
 have g24:(0|||piece d 3 5)=UInt8.ofNat ((a.toNat+2251799813685248*(b.toNat+2251799813685248*(c.toNat+2251799813685248*(d.toNat+2251799813685248*e.toNat))))/256^24):=by
  apply an3
  have p0:=ag2 (x:=d) (i:=3) (k:=5) (by decide)
  simp only[Nat.reduceMul,Nat.reduceMod,Nat.reduceSub,Nat.reducePow] at p0;rw[zero_or];rw[p0];clear p0;rw[show (256:Nat)^24=2251799813685248*(2251799813685248*(2251799813685248*549755813888)) from rfl,ag3 ha,ag3 hb,ag3 hc]
  all_goals omega
 have g25:((0|||piece d 3 6)|||piece e 4 0)=UInt8.ofNat ((a.toNat+2251799813685248*(b.toNat+2251799813685248*(c.toNat+2251799813685248*(d.toNat+2251799813685248*e.toNat))))/256^25):=by
  apply an3
  have p0:=ag2 (x:=d) (i:=3) (k:=6) (by decide)
  have p1:=b54 (x:=e) (i:=4) (by decide)
  simp only[Nat.reduceMul,Nat.reduceMod,Nat.reduceSub,Nat.reducePow] at p0 p1;rw[zero_or,bq6];rw[p0];rw[p1];have z:e.toNat*16%256=2^4*(e.toNat%16):=by omega
  rw[z,b57 4 (by omega)]
  clear p0 p1;rw[show (256:Nat)^25=2251799813685248*(2251799813685248*(2251799813685248*140737488355328)) from rfl,ag3 ha,ag3 hb,ag3 hc]
  all_goals omega
 have g26:((0|||piece d 3 7)|||piece e 4 1)=UInt8.ofNat ((a.toNat+2251799813685248*(b.toNat+2251799813685248*(c.toNat+2251799813685248*(d.toNat+2251799813685248*e.toNat))))/256^26):=by
  apply an3
  have p0:=ag2 (x:=d) (i:=3) (k:=7) (by decide)
  have p1:=ag2 (x:=e) (i:=4) (k:=1) (by decide)
  simp only[Nat.reduceMul,Nat.reduceMod,Nat.reduceSub,Nat.reducePow] at p0 p1;rw[zero_or,bq6];rw[p0];rw[p1];have z:d.toNat/36028797018963968%256=0:=by omega
  rw[z,Nat.zero_or];clear p0 p1;rw[show (256:Nat)^26=2251799813685248*(2251799813685248*(2251799813685248*(2251799813685248*16))) from rfl,ag3 ha,ag3 hb,ag3 hc,ag3 hd]
  all_goals omega
 have g27:(0|||piece e 4 2)=UInt8.ofNat ((a.toNat+2251799813685248*(b.toNat+2251799813685248*(c.toNat+2251799813685248*(d.toNat+2251799813685248*e.toNat))))/256^27):=by
  apply an3
  have p0:=ag2 (x:=e) (i:=4) (k:=2) (by decide)
  simp only[Nat.reduceMul,Nat.reduceMod,Nat.reduceSub,Nat.reducePow] at p0;rw[zero_or];rw[p0];clear p0;rw[show (256:Nat)^27=2251799813685248*(2251799813685248*(2251799813685248*(2251799813685248*4096))) from rfl,ag3 ha,ag3 hb,ag3 hc,ag3 hd]
  all_goals omega
 have g28:(0|||piece e 4 3)=UInt8.ofNat ((a.toNat+2251799813685248*(b.toNat+2251799813685248*(c.toNat+2251799813685248*(d.toNat+2251799813685248*e.toNat))))/256^28):=by
  apply an3
  have p0:=ag2 (x:=e) (i:=4) (k:=3) (by decide)
  simp only[Nat.reduceMul,Nat.reduceMod,Nat.reduceSub,Nat.reducePow] at p0;rw[zero_or];rw[p0];clear p0;rw[show (256:Nat)^28=2251799813685248*(2251799813685248*(2251799813685248*(2251799813685248*1048576))) from rfl,ag3 ha,ag3 hb,ag3 hc,ag3 hd]
  all_goals omega
 have g29:(0|||piece e 4 4)=UInt8.ofNat ((a.toNat+2251799813685248*(b.toNat+2251799813685248*(c.toNat+2251799813685248*(d.toNat+2251799813685248*e.toNat))))/256^29):=by
  apply an3
  have p0:=ag2 (x:=e) (i:=4) (k:=4) (by decide)
  simp only[Nat.reduceMul,Nat.reduceMod,Nat.reduceSub,Nat.reducePow] at p0;rw[zero_or];rw[p0];clear p0;rw[show (256:Nat)^29=2251799813685248*(2251799813685248*(2251799813685248*(2251799813685248*268435456))) from rfl,ag3 ha,ag3 hb,ag3 hc,ag3 hd]
  all_goals omega
 have g30:(0|||piece e 4 5)=UInt8.ofNat ((a.toNat+2251799813685248*(b.toNat+2251799813685248*(c.toNat+2251799813685248*(d.toNat+2251799813685248*e.toNat))))/256^30):=by
  apply an3
  have p0:=ag2 (x:=e) (i:=4) (k:=5) (by decide)
  simp only[Nat.reduceMul,Nat.reduceMod,Nat.reduceSub,Nat.reducePow] at p0;rw[zero_or];rw[p0];clear p0;rw[show (256:Nat)^30=2251799813685248*(2251799813685248*(2251799813685248*(2251799813685248*68719476736))) from rfl,ag3 ha,ag3 hb,ag3 hc,ag3 hd]
  all_goals omega
 have g31:(0|||piece e 4 6)=UInt8.ofNat ((a.toNat+2251799813685248*(b.toNat+2251799813685248*(c.toNat+2251799813685248*(d.toNat+2251799813685248*e.toNat))))/256^31):=by
  apply an3
  have p0:=ag2 (x:=e) (i:=4) (k:=6) (by decide)
  simp only[Nat.reduceMul,Nat.reduceMod,Nat.reduceSub,Nat.reducePow] at p0;rw[zero_or];rw[p0];clear p0;rw[show (256:Nat)^31=2251799813685248*(2251799813685248*(2251799813685248*(2251799813685248*17592186044416))) from rfl,ag3 ha,ag3 hb,ag3 hc,ag3 hd]
  all_goals omega
 rw[g0,g1,g2,g3,g4,g5,g6,g7,g8,g9,g10,g11,g12,g13,g14,g15,g16,g17,g18,g19,g20,g21,g22,g23,g24,g25,g26,g27,g28,g29,g30,g31]
theorem dN2{l:List W}(h:Lim 1152921504606846976 l):al3 l=leN 32 (ag6 l%pF):=by
 obtain⟨a,b,c,d,e,h0,ha,hb,hc,hd,he,hv⟩:=eg1 h;unfold al3;rw[h0,eh0 ha hb hc hd he,hv]
end Fe
end
section
namespace Fe
open Go V
def av7(b:List UInt8):Nat->List W
 |0=>[0,0,0,0]
 |i+1=>(av7 b i).set (i/8) ((av7 b i).getD (i/8) 0|||(BitVec.ofNat 64 (b.getD i 0).toNat<<<(8*(i%8))))
def limbs(w:List W):List W:=[w.getD 0 0&&&mW,(w.getD 0 0>>>51|||w.getD 1 0<<<13)&&&mW,(w.getD 1 0>>>38|||w.getD 2 0<<<26)&&&mW,(w.getD 2 0>>>25|||w.getD 3 0<<<39)&&&mW,w.getD 3 0>>>12]
def au7(b:List UInt8):List W:=af1 (limbs (av7 b 32))
def cj6(b0 b1 b2 b3 b4 b5 b6 b7:UInt8):W:=(((((((0|||BitVec.ofNat 64 b0.toNat<<<0)|||BitVec.ofNat 64 b1.toNat<<<8)|||BitVec.ofNat 64 b2.toNat<<<16)|||BitVec.ofNat 64 b3.toNat<<<24)|||BitVec.ofNat 64 b4.toNat<<<32)|||BitVec.ofNat 64 b5.toNat<<<40)|||BitVec.ofNat 64 b6.toNat<<<48)|||BitVec.ofNat 64 b7.toNat<<<56
theorem eN8{x:W}{b:UInt8}(t:Nat)(ht:t<=56)(h:x.toNat < 2^t):(x|||BitVec.ofNat 64 b.toNat<<<t).toNat=x.toNat+2^t*b.toNat/\x.toNat+2^t*b.toNat < 2^(t+8):=by
 have hb:b.toNat < 256:=b.toNat_lt;have hp:2^t*256=2^(t+8):=(bC4 2 t 8).symm;have hq:2^(t+8)<=2^64:=b08 (by decide) (by omega)
 have hlt:2^t*b.toNat+2^t<=2^t*256:=by
  have:=cG7 (2^t) (show b.toNat+1<=256 by omega)
  rw[bf1,Nat.mul_one] at this;exact this
 have hs:(BitVec.ofNat 64 b.toNat<<<t).toNat=2^t*b.toNat:=by
  rw[bC6,aC2,ar2 (aC3 hb (by decide)),bC5,aZ1,ar2 (by omega)]
 rw[BitVec.toNat_or,hs,b57 t h];exact⟨rfl,by omega⟩
def chain(x:W)(t:Nat):List UInt8->W
 |[]=>x
 |b::l=>chain (x|||BitVec.ofNat 64 b.toNat<<<t) (t+8) l
theorem dM5(l:List UInt8): ∀(x:W) (t:Nat),t+8*l.length<=64->x.toNat < 2^t->(chain x t l).toNat=x.toNat+2^t*leV l:=by
 induction l with
 |nil=>intro x t _ _;simp[chain,leV]
 |cons b l ih=>
  intro x t ht hx;rw[List.length_cons] at ht;obtain⟨e1,e2⟩:=eN8 (b:=b) t (by omega) hx
  rw[chain,ih _ _ (by omega) (by rw[e1];exact e2),e1,leV,bC4,bf1]
  have:2^t*2^8*leV l=2^t*(256*leV l):=by rw[bJ4]
  omega
theorem bz0(b0 b1 b2 b3 b4 b5 b6 b7:UInt8):(cj6 b0 b1 b2 b3 b4 b5 b6 b7).toNat=leV [b0,b1,b2,b3,b4,b5,b6,b7]:=by
 have h:=dM5 [b0,b1,b2,b3,b4,b5,b6,b7] 0 0 (by simp) (by decide)
 have z:(0:W).toNat=0:=rfl;rw[z,Nat.zero_add,bf2,bf4] at h;exact h
theorem w_all(b0 b1 b2 b3 b4 b5 b6 b7 b8 b9 b10 b11 b12 b13 b14 b15 b16 b17 b18 b19 b20 b21 b22 b23 b24 b25 b26 b27 b28 b29 b30 b31:UInt8):av7 [b0,b1,b2,b3,b4,b5,b6,b7,b8,b9,b10,b11,b12,b13,b14,b15,b16,b17,b18,b19,b20,b21,b22,b23,b24,b25,b26,b27,b28,b29,b30,b31] 32=[cj6 b0 b1 b2 b3 b4 b5 b6 b7,cj6 b8 b9 b10 b11 b12 b13 b14 b15,cj6 b16 b17 b18 b19 b20 b21 b22 b23,cj6 b24 b25 b26 b27 b28 b29 b30 b31]:=by kernel_rfl
theorem eE1{α:Type}{b:List α}(h:b.length=32): ∃b0 b1 b2 b3 b4 b5 b6 b7 b8 b9 b10 b11 b12 b13 b14 b15 b16 b17 b18 b19 b20 b21 b22 b23 b24 b25 b26 b27 b28 b29 b30 b31,b=[b0,b1,b2,b3,b4,b5,b6,b7,b8,b9,b10,b11,b12,b13,b14,b15,b16,b17,b18,b19,b20,b21,b22,b23,b24,b25,b26,b27,b28,b29,b30,b31]:=by
 match b,h with
 |[b0,b1,b2,b3,b4,b5,b6,b7,b8,b9,b10,b11,b12,b13,b14,b15,b16,b17,b18,b19,b20,b21,b22,b23,b24,b25,b26,b27,b28,b29,b30,b31],_=>exact⟨_,_,_,_,_,_,_,_,_,_,_,_,_,_,_,_,_,_,_,_,_,_,_,_,_,_,_,_,_,_,_,_,rfl⟩
theorem eE6(l:List UInt8):leV l < 256^l.length:=by
 induction l with
 |nil=>decide
 |cons b l ih=>
  have hb:b.toNat < 256:=b.toNat_lt;rw[leV,List.length_cons,aM5];omega
theorem cy6(l m:List UInt8):leV (l++m)=leV l+256^l.length*leV m:=by
 induction l with
 |nil=>simp[leV]
 |cons b l ih=>
  rw[List.cons_append,leV,leV,ih,List.length_cons,aM5,bf1,<-bJ4,aZ1 256 (256^l.length)];omega
theorem cA3{b:List UInt8}(h:b.length=32): ∃w0 w1 w2 w3:W,av7 b 32=[w0,w1,w2,w3]/\leV b=w0.toNat+18446744073709551616*(w1.toNat+18446744073709551616*(w2.toNat+18446744073709551616*w3.toNat)):=by
 obtain⟨b0,b1,b2,b3,b4,b5,b6,b7,b8,b9,b10,b11,b12,b13,b14,b15,b16,b17,b18,b19,b20,b21,b22,b23,b24,b25,b26,b27,b28,b29,b30,b31,rfl⟩:=eE1 h;refine⟨_,_,_,_,w_all _ _ _ _ _ _ _ _ _ _ _ _ _ _ _ _ _ _ _ _ _ _ _ _ _ _ _ _ _ _ _ _,?_⟩;rw[bz0,bz0,bz0,bz0];have a3:=cy6 [b16,b17,b18,b19,b20,b21,b22,b23] [b24,b25,b26,b27,b28,b29,b30,b31];have a2:=cy6 [b8,b9,b10,b11,b12,b13,b14,b15] [b16,b17,b18,b19,b20,b21,b22,b23,b24,b25,b26,b27,b28,b29,b30,b31];have a1:=cy6 [b0,b1,b2,b3,b4,b5,b6,b7] [b8,b9,b10,b11,b12,b13,b14,b15,b16,b17,b18,b19,b20,b21,b22,b23,b24,b25,b26,b27,b28,b29,b30,b31];simp only[List.cons_append,List.nil_append,List.length_cons,List.length_nil,Nat.reduceAdd,Nat.reducePow] at a1 a2 a3;rw[a1,a2,a3]
theorem cW0{b:List UInt8}(h:b.length=32):Lim 4503599627370496 (au7 b)/\ag6 (au7 b)%pF=leV b%pF:=by
 obtain⟨w0,w1,w2,w3,hw,hv⟩:=cA3 h;have l0:=w0.isLt;have l1:=w1.isLt;have l2:=w2.isLt;have l3:=w3.isLt;unfold au7;rw[hw];have hl:limbs [w0,w1,w2,w3]=[w0&&&mW,(w0>>>51|||w1<<<13)&&&mW,(w1>>>38|||w2<<<26)&&&mW,(w2>>>25|||w3<<<39)&&&mW,w3>>>12]:=rfl
 rw[hl];have x0:=by1 w0;have x1:=by1 (w0>>>51|||w1<<<13)
 have x2:=by1 (w1>>>38|||w2<<<26)
 have x3:=by1 (w2>>>25|||w3<<<39)
 have x4:(w3>>>12).toNat=w3.toNat/4096:=by rw[bt7,aK5]
 rw[a18 51 13 (by decide) (by decide) rfl] at x1
 rw[a18 38 26 (by decide) (by decide) rfl] at x2
 rw[a18 25 39 (by decide) (by decide) rfl] at x3
 simp only[Nat.reducePow] at x1 x2 x3 l0 l1 l2 l3;generalize w0&&&mW=y0 at*;generalize (w0>>>51|||w1<<<13)&&&mW=y1 at*
 generalize (w1>>>38|||w2<<<26)&&&mW=y2 at*
 generalize (w2>>>25|||w3<<<39)&&&mW=y3 at*
 generalize w3>>>12=y4 at*;have hc:=aX7 (bH1 (n:=1152921504606846976) (a:=y0) (b:=y1) (c:=y2) (d:=y3) (e:=y4) (by omega) (by omega) (by omega) (by omega) (by omega))
 refine⟨hc.1,?_⟩;rw[hc.2.1,hv];refine congrArg (fun n=>n%pF) ?_
 simp only[ag6];omega
end Fe
end
section
namespace Fe
open Go V
theorem ad8(l m:List W):(aa9 l m).length=5:=by unfold aa9;rw[az9,List.length_set,List.length_set,dE9]
theorem au0(l m:List W):(ae9 l m).length=l.length:=by unfold ae9;rw[az9,List.length_set,bu7]
theorem aF4(l m:List W):(ah4 l m).length=l.length:=by unfold ah4;rw[az9,bu7]
def zeroE:List W:=[0,0,0,0,0]
def ax8:List W:=[1,0,0,0,0]
theorem bd9{H M:List AObj}{l m:List W}(h:l=m):Done H (fun y H'=>y=AV.agg (m.map (wAV .u64))/\H'=H) (.agg (l.map (wAV .u64))) (H++M):=by
 subst h;exact aa5 _ (Le.refl _) aV7 ⟨rfl,rfl⟩
theorem aU2(l:List W)(H:List AObj)(hl:l.length=5):o8 Tryz.prog 159 [.agg (l.map (wAV .u64))] H (fun y H'=>y=.agg ((aa9 l l).map (wAV .u64))/\H'=H):=by
 have hc:=fun H=>av6 l l H hl hl
 have hr:=ad8 l l;generalize aa9 l l=r at*;refine y8 [] [.cell 2 97] 6 Tryz.func159 ?_;repeat' first|simp -dsimp -implicitDefEqProofs only[go_sem,ad7,hl,hr,af4 hr,t5 hr]|refine o5 (hc _) ?_|fail
 exact bd9 rfl
theorem bZ8(l:List W)(H:List AObj)(hl:l.length=5):o8 Tryz.prog 156 [.agg (l.map (wAV .u64))] H (fun y H'=>y=.agg ((ae9 zeroE l).map (wAV .u64))/\H'=H):=by
 have hc: ∀H,o8 Tryz.prog 161 [.agg [.lit (.int .u64 0),.lit (.int .u64 0),.lit (.int .u64 0),.lit (.int .u64 0),.lit (.int .u64 0)],.agg (l.map (wAV .u64))] H _:=fun H=>a94 zeroE l H rfl hl
 have hr:(ae9 zeroE l).length=5:=au0 zeroE l;generalize ae9 zeroE l=r at*;refine y8 [] [.cell 2 97] 6 Tryz.func156 ?_;repeat' first|simp -dsimp -implicitDefEqProofs only[go_sem,ad7,hl,hr,af4 hr,t5 hr]|refine o5 (hc _) ?_|fail
 exact bd9 rfl
theorem cK8(b:List UInt8)(i:Nat):(av7 b i).length=4:=by
 induction i with
 |zero=>rfl
 |succ i ih=>rw[av7,List.length_set,ih]
theorem ey0(b:UInt8)(n:Nat):IntKind.u64.wrap ((b.toNat:Int)*2^n)=((BitVec.ofNat 64 b.toNat<<<n).toNat:Int):=by
 have hb:b.toNat < 256:=b.toNat_lt;rw[bC6,aC2,ar2 (aC3 hb (by decide)),bC5]
 have:(b.toNat:Int)*2^n=((b.toNat*2^n:Nat):Int):=by simp
 rw[this];simp[IntKind.wrap,IntKind.signed,IntKind.bits]
theorem dn1(x:W)(n:Nat):IntKind.u64.wrap ((x.toNat:Int)*((2^n:Nat):Int))=((x<<<n).toNat:Int):=by
 rw[bC6,bC5];have:(x.toNat:Int)*((2^n:Nat):Int)=((x.toNat*2^n:Nat):Int):=by simp
 rw[this];simp[IntKind.wrap,IntKind.signed,IntKind.bits]
theorem dQ3(b:List UInt8)(H:List AObj)(hb:b.length=32):o8 Tryz.prog 228 [.agg (b.map o7)] H (fun y H'=>y=.agg ((au7 b).map (wAV .u64))/\H'=H):=by
 refine y8 [1000005] [.cell 2 97] 56 Tryz.func228 ?_;repeat' simp -dsimp -implicitDefEqProofs only[go_sem,ac1,hb]
 refine aa8 ab2 mixed [1000005] [2,3,6] (fun i:Nat=>i<=32) (fun i=>[(7,.lit (.int .i64 i))]) (fun i=>H++[.cells (.one 97) [.lit (.int .u64 0),.lit (.int .u64 0),.lit (.int .u64 0),.lit (.int .u64 0),.lit (.int .u64 0)],.cells (.one 182) ((av7 b i).map (wAV .u64))]) (fun i=>32 - i) (by kernel_rfl) ?_ 0 (by omega) y9 rfl
 intro i hi;have hwl:=cK8 b i;by_cases h:i < 32
 ·have hic:((i:Int) < 32)=True:=eq_true (by omega)
  have hn:av7 b (i+1)=(av7 b i).set (i/8) ((av7 b i).getD (i/8) 0|||(BitVec.ofNat 64 (b.getD i 0).toNat<<<(8*(i%8)))):=rfl
  have hg:=ac9 (K:=.u64) (m:=av7 b i) (i:=i/8) (by omega)
  generalize av7 b i=w at*;have e8:((i:Int)/8).toNat=i/8:=by omega
  have e9:(8*((i:Int)%8)).toNat=8*(i%8):=by omega
  repeat' first|refine o6 ?_|simp -dsimp -implicitDefEqProofs (disch:=omega) only[go_sem,hic,hwl,hb,hg,e8,e9,ey0]|refine vcA ?_ ?_|omega
  refine again (i+1) ?_ ?_ ?_ y9
  ·omega
  ·omega
  ·rw[hn,ar1]
 ·obtain rfl:i=32:=by omega
  have hf:au7 b=af1 (limbs (av7 b 32)):=rfl;rw[hf];generalize av7 b 32=w at*;have g0:=ac9 (K:=.u64) (m:=w) (i:=0) (by omega)
  have g1:=ac9 (K:=.u64) (m:=w) (i:=1) (by omega)
  have g2:=ac9 (K:=.u64) (m:=w) (i:=2) (by omega)
  have g3:=ac9 (K:=.u64) (m:=w) (i:=3) (by omega)
  have r51:=fun x:W=>(b47 x).symm
  have r38: ∀x:W,x.toNat/274877906944=(x>>>38).toNat:=fun x=>by rw[bt7,aK5]
  have r25: ∀x:W,x.toNat/33554432=(x>>>25).toNat:=fun x=>by rw[bt7,aK5]
  have r12: ∀x:W,x.toNat/4096=(x>>>12).toNat:=fun x=>by rw[bt7,aK5]
  have s26: ∀x:W,IntKind.u64.wrap ((x.toNat:Int)*67108864)=((x<<<26).toNat:Int):=fun x=>dn1 x 26
  have s39: ∀x:W,IntKind.u64.wrap ((x.toNat:Int)*549755813888)=((x<<<39).toNat:Int):=fun x=>dn1 x 39
  have hw:[wAV .u64 (w.getD 0 0&&&mW),wAV .u64 ((w.getD 0 0>>>51|||w.getD 1 0<<<13)&&&mW),wAV .u64 ((w.getD 1 0>>>38|||w.getD 2 0<<<26)&&&mW),wAV .u64 ((w.getD 2 0>>>25|||w.getD 3 0<<<39)&&&mW),wAV .u64 (w.getD 3 0>>>12)]=(limbs w).map (wAV .u64):=rfl
  have hc:=fun H=>bo0 (limbs w) H rfl
  have hr:(af1 (limbs w)).length=5:=az9 (limbs w);generalize af1 (limbs w)=r at*;rw[<-hw] at hc;repeat' first|refine o6 ?_|simp -dsimp -implicitDefEqProofs (disch:=omega) only[go_sem,hwl,g0,g1,g2,g3,r51,r38,r25,r12,dn2,s26,s39,cu7,ad7,hr,af4 hr,t5 hr]|refine o5 (hc _) ?_|fail
  exact bd9 rfl
end Fe
end
section
namespace Fe
open Go V
theorem dV2(r:List W)(n:Nat)(o:List UInt8):(bG8 r n o).length=o.length:=by
 unfold bG8;split
 ·rfl
 ·rw[List.length_set]
theorem ce3(r:List W)(n:Nat):(ao1 r n).length=32:=by
 induction n with
 |zero=>rfl
 |succ n ih=>rw[ao1,dV2,ih]
theorem aT9(l:List W):(al3 l).length=32:=ce3 _ _
theorem ck0(a b:UInt8):IntKind.u8.wrap (((BitVec.ofInt IntKind.u8.bits (a.toNat:Int)|||BitVec.ofInt IntKind.u8.bits (b.toNat:Int)).toNat:Nat):Int)=((a|||b).toNat:Int):=by
 show IntKind.u8.wrap (((BitVec.ofInt 8 (a.toNat:Int)|||BitVec.ofInt 8 (b.toNat:Int)).toNat:Nat):Int)=_
 have ha:BitVec.ofInt 8 (a.toNat:Int)=a.toBitVec:=by
  apply bC1
  simp
 have hb:BitVec.ofInt 8 (b.toNat:Int)=b.toBitVec:=by
  apply bC1
  simp
 rw[ha,hb];have:(a.toBitVec|||b.toBitVec).toNat=(a|||b).toNat:=rfl
 rw[this];have:=(a|||b).toNat_lt
 exact bk4 this
theorem cL1(x:W):IntKind.u8.wrap (x.toNat:Int)=((UInt8.ofNat x.toNat).toNat:Int):=by
 simp[IntKind.wrap,IntKind.signed,IntKind.bits]
theorem eS0(x:W)(n:Nat):IntKind.u64.wrap ((x.toNat:Int)*2^n)=((x<<<n).toNat:Int):=by
 have:=dn1 x n;simpa using this
theorem dn0(x:W)(n:Nat):(x.toNat:Int).fdiv (2^n)=((x>>>n).toNat:Int):=by
 rw[bt7,aK5,ao4 (ci5 (Int.pow_pos (by decide)))]
 have:((2:Int)^n)=((2^n:Nat):Int):=by simp
 rw[this,Int.toNat_natCast]
theorem bI9(l:List W)(H:List AObj)(hl:l.length=5):o8 Tryz.prog 113 [.agg (l.map (wAV .u64))] H (fun y H'=>y=.agg ((al3 l).map o7)/\H'=H):=by
 have hc:=fun H=>bo0 l H hl
 have hml:(af1 l).length=5:=by rw[az9,hl]
 have hb:al3 l=ao1 (aj2 ((af1 l).set 0 ((af1 l).getD 0 0+19*bQ8 (af1 l) 5)) 5).1 40:=rfl;rw[hb];generalize af1 l=m at*;have h51:=fun x:W=>(b47 x).symm
 have h19: ∀x:W,IntKind.u64.wrap (19*(x.toNat:Int))=((19*x).toNat:Int):=fun x=>by
  rw[bC2];show IntKind.u64.wrap (19*(x.toNat:Int))=((19*x.toNat%2^64:Nat):Int)
  simp[IntKind.wrap,IntKind.signed,IntKind.bits]
 have hsm: ∀(j:Nat) (q:List W) (x:W),(q.map (wAV .u64)).set j (wAV .u64 x)=(q.set j x).map (wAV .u64):=fun j q x=>by rw[ar1]
 have hz:(List.replicate 32 (AV.lit (.int .u8 0)))=(List.replicate 32 (0:UInt8)).map o7:=by rw[aY9];rfl
 refine y8 [1,1000029,1000030] [.cell 2 28] 95 Tryz.func113 ?_;repeat' first|simp -dsimp -implicitDefEqProofs only[go_sem,ad7,hl,hml,aA9 (hml.trans hl.symm),t5 hl]|refine o5 (hc _) ?_|fail
 refine aa8 ab2 mixed [1,1000029,1000030] [1,2] (fun i:Nat=>i<=5) (fun i=>[(15,.lit (.int .i64 i)),(3,wAV .u64 (bQ8 m i))]) (fun _=>H++[.cells (.one 97) (m.map (wAV .u64)),.cells (.one 28) (List.replicate 32 (.lit (.int .u8 0)))]) (fun i=>5 - i) (by kernel_rfl) ?_ 0 (by omega) y9 rfl
 intro i hi;by_cases h:i < 5
 ·have hic:((i:Int) < 5)=True:=eq_true (by omega)
  have hg:=ac9 (K:=.u64) (m:=m) (i:=i) (by omega)
  have hn:bQ8 m (i+1)=(m.getD i 0+bQ8 m i)>>>51:=rfl;repeat' first|refine o6 ?_|simp -dsimp -implicitDefEqProofs (disch:=omega) only[go_sem,hic,hml,hg,h51]|refine vcA ?_ ?_|omega
  rw[<-hn];refine again (i+1) ?_ ?_ rfl y9
  ·omega
  ·omega
 obtain rfl:i=5:=by omega
 have hg:=ac9 (K:=.u64) (m:=m) (i:=0) (by omega)
 have hcl:(m.set 0 (m.getD 0 0+19*bQ8 m 5)).length=5:=by rw[List.length_set,hml]
 generalize bQ8 m 5=q at*;repeat' first|refine o6 ?_|simp -dsimp -implicitDefEqProofs (disch:=omega) only[go_sem,hml,hg,h19,hsm]
 generalize m.set 0 (m.getD 0 0+19*q)=c at*;refine aa8 ab2 mixed [1,1000029,1000030] [1,2] (fun j:Nat=>j<=5) (fun j=>[(3,wAV .u64 (aj2 c j).2),(31,.lit (.int .i64 j))]) (fun j=>H++[.cells (.one 97) ((aj2 c j).1.map (wAV .u64)),.cells (.one 28) (List.replicate 32 (.lit (.int .u8 0)))]) (fun j=>5 - j) (by kernel_rfl) ?_ 0 (by omega) y9 rfl
 intro j hj;have hjl:=bY3 c j;rw[hcl] at hjl;by_cases h5:j < 5
 ·have hjc:((j:Int) < 5)=True:=eq_true (by omega)
  have hg:=ac9 (K:=.u64) (m:=(aj2 c j).1) (i:=j) (by omega)
  have hn:aj2 c (j+1)=((aj2 c j).1.set j (((aj2 c j).1.getD j 0+(aj2 c j).2)&&&mW),((aj2 c j).1.getD j 0+(aj2 c j).2)>>>51):=rfl;have hgs: ∀x:AV,(((aj2 c j).1.map (wAV .u64)).set j x).getD j .any=x:=fun x=>by
   rw[List.getD,ay8 (by rw[List.length_map];omega)]
   rfl
  repeat' first|refine o6 ?_|simp -dsimp -implicitDefEqProofs (disch:=omega) only[go_sem,hjc,hjl,hg,hgs,cu7,h51]|refine vcA ?_ ?_|omega
  refine again (j+1) ?_ ?_ ?_ y9
  ·omega
  ·omega
  ·rw[hn,ar1]
 obtain rfl:j=5:=by omega
 generalize (aj2 c 5).1=r at*;repeat' first|refine o6 ?_|simp -dsimp -implicitDefEqProofs only[go_sem,hjl,ad7,t5 hjl]
 refine aa8 ab2 mixed [1,1000029,1000030] [2,6,50] (fun i:Nat=>i<=5) (fun i=>[(51,.lit (.int .i64 i))]) (fun i=>H++[.cells (.one 97) (r.map (wAV .u64)),.cells (.one 28) (List.replicate 32 (.lit (.int .u8 0))),.cells (.one 28) ((ao1 r (8*i)).map o7)]) (fun i=>5 - i) (by kernel_rfl) ?_ 0 (by omega) y9 (by rw[show ao1 r (8*0)=List.replicate 32 0 from rfl,aY9];rfl)
 intro i hi;by_cases h5:i < 5
 ·have hic:((i:Int) < 5)=True:=eq_true (by omega)
  have hg:=ac9 (K:=.u64) (m:=r) (i:=i) (by omega)
  repeat' first|refine o6 ?_|simp -dsimp -implicitDefEqProofs (disch:=omega) only[go_sem,hic,hjl,hg]|refine vcA ?_ ?_|omega
  refine aa8 ab2 mixed [1,1000029,1000030] [2,6,7,8,9,50,51,52,53,54,55,56] (fun k:Nat=>k<=8/\51*i/8+k<=32) (fun k=>[(57,.lit (.int .i64 k))]) (fun k=>H++[.cells (.one 97) (r.map (wAV .u64)),.cells (.one 28) (List.replicate 32 (.lit (.int .u8 0))),.cells (.one 28) ((ao1 r (8*i+k)).map o7)]) (fun k=>8 - k) (by kernel_rfl) ?_ 0 (by omega) y9 rfl
  rintro k ⟨hk,hk2⟩
  have hol:=ce3 r (8*i+k);have hq:51*(i:Int)/8=((51*i/8:Nat):Int):=by omega
  have hr:51*(i:Int)%8=((51*i%8:Nat):Int):=by omega
  have hn:51*i/8+k<=31->k < 8->ao1 r (8*i+(k+1))=(ao1 r (8*i+k)).set (51*i/8+k) ((ao1 r (8*i+k)).getD (51*i/8+k) 0|||piece (r.getD i 0) i k):=fun h1 h2=>by
   show bG8 r (8*i+k) (ao1 r (8*i+k))=_
   unfold bG8;rw[show (8*i+k)/8=i by omega,show (8*i+k)%8=k by omega,if_neg (by omega)]
  have hend: ¬51*i/8+k<=31->k < 8->ao1 r (8*i+k)=ao1 r (8*(i+1)):=fun h1 h2=>by
   obtain rfl:i=4:=by omega
   obtain rfl:k=7:=by omega
   rfl
  have hpl:8*k < 51*i%8->piece (r.getD i 0) i k=UInt8.ofNat (r.getD i 0<<<(51*i%8 - 8*k)).toNat:=fun h=>by unfold piece;rw[if_pos h]
  have hpr: ¬8*k < 51*i%8->piece (r.getD i 0) i k=UInt8.ofNat (r.getD i 0>>>(8*k - 51*i%8)).toNat:=fun h=>by unfold piece;rw[if_neg h]
  have hsl:=eS0 (r.getD i 0) (51*i%8 - 8*k);have hsr:=dn0 (r.getD i 0) (8*k - 51*i%8);have hq2:51*i/8<=25:=by omega
  have hr2:51*i%8<=7:=by omega
  generalize 51*i/8=q at*;generalize 51*i%8=t at*;have hpt:((q:Int)+(k:Int)).toNat=q+k:=by omega
  by_cases hk8:k < 8
  ·have hkc:((k:Int) < 8)=True:=eq_true (by omega)
   by_cases hp:q+k<=31
   ·have hpc:((31:Int) < (q:Int)+(k:Int))=False:=eq_false (by omega)
    have hn:=hn hp hk8;have hsb: ∀(o:List UInt8) (x:UInt8),(o.map o7).set (q+k) (.lit (.int .u8 (x.toNat:Int)))=(o.set (q+k) x).map o7:=fun o x=>by rw[ar1];rfl
    by_cases hs:8*k < t
    ·have hsc:(8*(k:Int) - (t:Int) < 0)=True:=eq_true (by omega)
     have hst:(0 - (8*(k:Int) - (t:Int))).toNat=t - 8*k:=by omega
     rw[hpl hs] at hn;generalize ao1 r (8*i+k)=o at*;repeat' first|refine o6 ?_|simp -dsimp -implicitDefEqProofs (disch:=omega) only[go_sem,hkc,hpc,hsc,hol,hq,hr,hpt,hst,hsl,ck0,cL1,hsb]|refine vcA ?_ ?_|omega
     rw[<-hn];refine again (k+1) ?_ ?_ rfl y9
     ·omega
     ·exact⟨by omega,by omega⟩
    ·have hsc:(8*(k:Int) - (t:Int) < 0)=False:=eq_false (by omega)
     have hst:(8*(k:Int) - (t:Int)).toNat=8*k - t:=by omega
     have hs0:(0<=8*(k:Int) - (t:Int))=True:=eq_true (by omega)
     rw[hpr hs] at hn;generalize ao1 r (8*i+k)=o at*;repeat' first|refine o6 ?_|simp -dsimp -implicitDefEqProofs (disch:=omega) only[go_sem,hkc,hpc,hsc,hol,hq,hr,hpt,hst,hs0,hsr,ck0,cL1,hsb]|refine vcA ?_ ?_|omega
     rw[<-hn];refine again (k+1) ?_ ?_ rfl y9
     ·omega
     ·exact⟨by omega,by omega⟩
   ·have hpc:((31:Int) < (q:Int)+(k:Int))=True:=eq_true (by omega)
    have he:=hend hp hk8;generalize ao1 r (8*i+k)=o at*;subst he;repeat' first|refine o6 ?_|simp -dsimp -implicitDefEqProofs (disch:=omega) only[go_sem,hkc,hpc,hq]
    refine again (i+1) ?_ ?_ rfl y9
    ·omega
    ·omega
  ·obtain rfl:k=8:=by omega
   have he:ao1 r (8*i+8)=ao1 r (8*(i+1)):=by rw[bf1]
   rw[he];repeat' first|refine o6 ?_|simp -dsimp -implicitDefEqProofs (disch:=omega) only[go_sem]
   refine again (i+1) ?_ ?_ rfl y9
   ·omega
   ·omega
 ·obtain rfl:i=5:=by omega
  have hol:(ao1 r 40).length=32:=ce3 r 40;rw[show 8*5=40 from rfl]
  generalize ao1 r 40=o at*;have ha:ag0 (List.replicate 32 (AV.lit (.int .u8 0))) 0 (o.map o7)=o.map o7:=by
   rw[hz];exact as5 (by simp) hol
  repeat' first|refine o6 ?_|simp -dsimp -implicitDefEqProofs (disch:=(simp only[ll];omega)) only[go_sem,hol,ac1,ha]
  exact aa5 _ (Le.refl _) at1 ⟨rfl,rfl⟩
end Fe
end
section
namespace Fe
open Go V
def dq5(l:List Nat):List W:=l.map (BitVec.ofNat 64)
theorem b61:aV4 cQ0=ax8.map (wAV .u64):=rfl
def bp2(n:List W)(i:Nat):Bool:=decide (((n.getD (i/64) 0>>>(i%64))&&&1#64)=1#64)
def al4(e n:List W):Nat->List W
 |0=>ax8
 |j+1=>if bp2 n (255 - j)=true then aa9 (aa9 (al4 e n j) (al4 e n j)) e else aa9 (al4 e n j) (al4 e n j)
def al8(e n:List W):List W:=al4 e n 256
theorem dC1(e n:List W)(j:Nat):(al4 e n j).length=5:=by
 cases j with
 |zero=>rfl
 |succ j=>
  rw[al4];split<;>exact ad8 _ _
theorem ec8(x:W):IntKind.u64.wrap (((BitVec.ofInt IntKind.u64.bits (x.toNat:Int)&&&BitVec.ofInt IntKind.u64.bits 1).toNat:Nat):Int)=((x&&&1#64).toNat:Int):=by
 show IntKind.u64.wrap (((BitVec.ofInt 64 (x.toNat:Int)&&&1#64).toNat:Nat):Int)=_
 rw[as6,W64.bp5]
theorem et0{n:List W}{i:Nat}:((((n.getD (i/64) 0>>>(i%64))&&&1#64).toNat:Int)=1)=(bp2 n i=true):=by
 unfold bp2;rw[decide_eq_true_eq];apply propext
 constructor
 ·intro h
  apply bC1
  show _=1
  omega
 ·intro h
  rw[h];rfl
theorem c02(e n:List W)(H:List AObj)(he:e.length=5)(hn:n.length=4):o8 Tryz.prog 164 [.agg (e.map (wAV .u64)),.agg (n.map (wAV .u64))] H (fun y H'=>y=.agg ((al8 e n).map (wAV .u64))/\H'=H):=by
 have h1:ax8.length=5:=rfl;refine y8 [] [.cell 4 97] 27 Tryz.func164 ?_;repeat' simp -dsimp -implicitDefEqProofs only[go_sem,ad7,he,hn,b61,h1,af4 h1]
 refine aa8 ab2 mixed [] [2,3,4,5] (fun j:Nat=>j<=256) (fun j=>[(6,.lit (.int .i64 (255 - (j:Int))))]) (fun j=>H++[.cells (.one 97) [.lit (.int .u64 0),.lit (.int .u64 0),.lit (.int .u64 0),.lit (.int .u64 0),.lit (.int .u64 0)],.cells (.one 97) ((al4 e n j).map (wAV .u64))]) (fun j=>256 - j) (by kernel_rfl) ?_ 0 (by omega) y9 rfl
 intro j hj;have hrl:=dC1 e n j;have hend:al8 e n=al4 e n 256:=rfl;have hnx:al4 e n (j+1)=if bp2 n (255 - j)=true then aa9 (aa9 (al4 e n j) (al4 e n j)) e else aa9 (al4 e n j) (al4 e n j):=rfl
 by_cases h:j < 256
 ·have hjc:(0<=255 - (j:Int))=True:=eq_true (by omega)
  have hq:((255 - (j:Int))/64).toNat=(255 - j)/64:=by omega
  have hr:((255 - (j:Int))%64).toNat=(255 - j)%64:=by omega
  have hg:=ac9 (K:=.u64) (m:=n) (i:=(255 - j)/64) (by omega)
  have hb:=et0 (n:=n) (i:=255 - j);have hm1:(0<=(255 - (j:Int))%64)=True:=eq_true (by omega)
  have hs:255 - (j:Int) - 1=255 - ((j+1:Nat):Int):=by omega
  have ht:=ad8 (al4 e n j) (al4 e n j);have hc1:=fun H=>aU2 (al4 e n j) H hrl
  have hc2:=fun H=>av6 (aa9 (al4 e n j) (al4 e n j)) e H ht he
  have ht2:=ad8 (aa9 (al4 e n j) (al4 e n j)) e;have ha:=aA9 (l:=al4 e n j) (m:=aa9 (al4 e n j) (al4 e n j)) (by omega)
  have ha2:=aA9 (l:=aa9 (al4 e n j) (al4 e n j)) (m:=aa9 (aa9 (al4 e n j) (al4 e n j)) e) (by omega)
  generalize al4 e n j=r at*;generalize aa9 (aa9 r r) e=r2 at*;generalize aa9 r r=r1 at*;by_cases hbt:bp2 n (255 - j)=true
  ·rw[if_pos hbt] at hnx
   have hbc:=eq_true hbt;rw[hbc] at hb;repeat' first|refine o6 ?_|simp -dsimp -implicitDefEqProofs (disch:=omega) only[go_sem,hjc,hq,hr,hg,hn,hm1,dn0,ec8,hb,he,hrl,ht,ht2,ad7,t5 hrl,t5 ht,t5 ht2,ha,ha2]|refine o5 (hc1 _) ?_|refine⟨_,_,hc1 _,?_⟩|refine o5 (hc2 _) ?_|refine⟨_,_,hc2 _,?_⟩|refine vcA ?_ ?_|omega
   rw[hs,<-hnx];refine again (j+1) ?_ ?_ rfl y9
   ·omega
   ·omega
  ·rw[if_neg hbt] at hnx
   have hbc:=eq_false hbt;rw[hbc] at hb;repeat' first|refine o6 ?_|simp -dsimp -implicitDefEqProofs (disch:=omega) only[go_sem,hjc,hq,hr,hg,hn,hm1,dn0,ec8,hb,he,hrl,ht,ht2,ad7,t5 hrl,t5 ht,t5 ht2,ha,ha2]|refine o5 (hc1 _) ?_|refine⟨_,_,hc1 _,?_⟩|refine o5 (hc2 _) ?_|refine⟨_,_,hc2 _,?_⟩|refine vcA ?_ ?_|omega
   rw[hs,<-hnx];refine again (j+1) ?_ ?_ rfl y9
   ·omega
   ·omega
 ·obtain rfl:j=256:=by omega
  rw[hend];generalize al4 e n 256=r at*;repeat' first|refine o6 ?_|simp -dsimp -implicitDefEqProofs only[go_sem,ad7,hrl,t5 hrl,af4 hrl]
  exact bd9 rfl
def aF8:List W:=[18446744073709551595,18446744073709551615,18446744073709551615,9223372036854775807]
def aY2:List W:=[18446744073709551614,18446744073709551615,18446744073709551615,1152921504606846975]
def aX9:List W:=[1718705420411056,234908883556509,2233514472574048,2117202627021982,765476049583133]
theorem bb4(e n:List W):(al8 e n).length=5:=dC1 e n 256
theorem cv1(e:List W)(H:List AObj)(he:e.length=5):o8 Tryz.prog 111 [.agg (e.map (wAV .u64))] H (fun y H'=>y=.agg ((al8 e aF8).map (wAV .u64))/\H'=H):=by
 have hc: ∀H,o8 Tryz.prog 164 [.agg (e.map (wAV .u64)),.agg [.lit (.int .u64 18446744073709551595),.lit (.int .u64 18446744073709551615),.lit (.int .u64 18446744073709551615),.lit (.int .u64 9223372036854775807)]] H _:=fun H=>c02 e aF8 H he rfl
 have hr:=bb4 e aF8;generalize al8 e aF8=r at*;refine y8 [] [.cell 2 97] 6 Tryz.func111 ?_;repeat' first|simp -dsimp -implicitDefEqProofs only[go_sem,ad7,he,hr,af4 hr,t5 hr]|refine o5 (hc _) ?_|refine⟨_,_,hc _,?_⟩|fail
 exact bd9 rfl
def bD3(l:List W):Bool:=decide (((al3 l).getD 0 0&&&1)=1)
theorem bE8(a b:UInt8):IntKind.u8.wrap (((BitVec.ofInt IntKind.u8.bits (a.toNat:Int)&&&BitVec.ofInt IntKind.u8.bits (b.toNat:Int)).toNat:Nat):Int)=((a&&&b).toNat:Int):=by
 show IntKind.u8.wrap (((BitVec.ofInt 8 (a.toNat:Int)&&&BitVec.ofInt 8 (b.toNat:Int)).toNat:Nat):Int)=_
 have ha:BitVec.ofInt 8 (a.toNat:Int)=a.toBitVec:=by
  apply bC1
  simp
 have hb:BitVec.ofInt 8 (b.toNat:Int)=b.toBitVec:=by
  apply bC1
  simp
 rw[ha,hb];have:(a.toBitVec&&&b.toBitVec).toNat=(a&&&b).toNat:=rfl;rw[this];exact bk4 (a&&&b).toNat_lt
theorem cv4(a:UInt8):IntKind.u8.wrap (((BitVec.ofInt IntKind.u8.bits (a.toNat:Int)&&&BitVec.ofInt IntKind.u8.bits 1).toNat:Nat):Int)=((a&&&1).toNat:Int):=bE8 a 1
theorem cv3{a:UInt8}:((a.toNat:Int)=1)=(a=1):=by
 apply propext
 constructor
 ·intro h
  apply aZ0.1
  show _=1
  omega
 ·intro h
  rw[h];rfl
theorem ed0(l:List W)(H:List AObj)(hl:l.length=5):o8 Tryz.prog 114 [.agg (l.map (wAV .u64))] H (fun y H'=>y=.bool (bD3 l)/\H'=H):=by
 have hc:=fun H=>bI9 l H hl
 have hb:=aT9 l;unfold bD3;generalize al3 l=b at*;refine y8 [] [.tmp 2] 8 Tryz.func114 ?_;repeat' first|simp -dsimp -implicitDefEqProofs (disch:=omega) only[go_sem,ad7,hl,hb,cv4,cv3]|refine o5 (hc _) ?_|refine⟨_,_,hc _,?_⟩|fail
 exact o9 ⟨rfl,rfl⟩
theorem bZ7(l m:List W)(H:List AObj)(hl:l.length=5)(hm:m.length=5):o8 Tryz.prog 230 [.agg (l.map (wAV .u64)),.agg (m.map (wAV .u64))] H (fun y H'=>y=.bool (decide (al3 l=al3 m))/\H'=H):=by
 have hc:=fun H=>bI9 l H hl
 have hc2:=fun H=>bI9 m H hm
 have hb:=aT9 l;have hb2:=aT9 m;generalize al3 l=b at*;generalize al3 m=b2 at*;refine y8 [1000001,1000001002001] [.tmp 4] 10 Tryz.func230 ?_;repeat' first|refine o6 ?_|simp -dsimp -implicitDefEqProofs only[go_sem,ad7,hl,hm,hb,hb2]|refine o5 (hc _) ?_|refine⟨_,_,hc _,?_⟩|refine o5 (hc2 _) ?_|refine⟨_,_,hc2 _,?_⟩|refine vcA ?_ ?_
 exact o9 ⟨rfl,rfl⟩
def bm2(c:List W):List W:=if bD3 c=true then ae9 zeroE c else c
theorem d49{c:List W}(h:c.length=5):(bm2 c).length=5:=by
 unfold bm2;split
 ·exact au0 _ _
 ·exact h
def aK9(tn e:List W):Nat->List W->List W×Bool
 |0,_=>(zeroE,false)
 |n+1,c=>if al3 (aa9 c c)=al3 e then(bm2 c,true) else aK9 tn e n (aa9 c tn)
def aB2(e:List W):List W×Bool:=aK9 aX9 e 2 (al8 e aY2)
theorem cm3(tn e:List W): ∀(n:Nat) (c:List W),c.length=5->(aK9 tn e n c).1.length=5
 |0,_,_=>rfl
 |n+1,c,h=>by
  rw[aK9];split
  ·exact d49 h
  ·exact cm3 tn e n _ (ad8 _ _)
theorem cm1(e:List W):(aB2 e).1.length=5:=cm3 aX9 e 2 _ (bb4 _ _)
def bF4(p:List W×Bool):AV:=.tup [.agg (p.1.map (wAV .u64)),.bool p.2]
theorem bO6{m:Nat}{p:List W×Bool}:Low m (bF4 p):=ah9 (aa3 aV7 (aa3 (.lit _) ac4))
theorem d93(e:List W)(H:List AObj)(he:e.length=5):o8 Tryz.prog 229 [.agg (e.map (wAV .u64))] H (fun y H'=>y=bF4 (aB2 e)/\H'=H):=by
 have hc: ∀H,o8 Tryz.prog 164 [.agg (e.map (wAV .u64)),.agg [.lit (.int .u64 18446744073709551614),.lit (.int .u64 18446744073709551615),.lit (.int .u64 18446744073709551615),.lit (.int .u64 1152921504606846975)]] H _:=fun H=>c02 e aY2 H he rfl
 have hr:=bb4 e aY2;have hd:aB2 e=aK9 aX9 e 2 (al8 e aY2):=rfl;rw[hd];clear hd;have htl:aX9.length=5:=rfl;have htn:[AV.lit (.int .u64 1718705420411056),.lit (.int .u64 234908883556509),.lit (.int .u64 2233514472574048),.lit (.int .u64 2117202627021982),.lit (.int .u64 765476049583133)]=aX9.map (wAV .u64):=rfl;generalize aX9=tn at*;generalize al8 e aY2=r at*;generalize hR:aK9 tn e 2 r=R;refine y8 [1000005,1000005002001] [.cell 2 97,.tmp 3] 26 Tryz.func229 ?_;repeat' first|simp -dsimp -implicitDefEqProofs only[go_sem,ad7,he,hr,af4 hr,t5 hr,htn,htl,af4 htl]|refine o5 (hc _) ?_|refine⟨_,_,hc _,?_⟩|fail
 refine aa8 ab2 mixed [1000005,1000005002001] [] (fun x:Nat×List W=>x.1<=2/\x.2.length=5/\aK9 tn e (2 - x.1) x.2=R) (fun x=>[(10,.lit (.int .i64 x.1)),(1,.ip (.agg (e.map (wAV .u64)))),(2,.mp H.length 0),(4,.mp (H.length+1) 0),(5,.mp (H.length+2) 0)]) (fun x=>H++[.cells (.one 97) [AV.lit (.int .u64 0),AV.lit (.int .u64 0),AV.lit (.int .u64 0),AV.lit (.int .u64 0),AV.lit (.int .u64 0)],.cells (.one 97) (tn.map (wAV .u64)),.cells (.one 97) (x.2.map (wAV .u64))]) (fun x=>2 - x.1) (by kernel_rfl) ?_ (0,r) ⟨aP7 2,hr,hR⟩ y9 rfl
 rintro⟨i,c⟩ ⟨hi,hcl,hI⟩
 dsimp only at*;have hc1:=fun H=>aU2 c H hcl
 have hl1:=ad8 c c;have hc2:=fun H=>bZ7 (aa9 c c) e H hl1 he
 have hc3:=fun H=>ed0 c H hcl
 have hc4:=fun H=>bZ8 c H hcl
 have hl4:(ae9 zeroE c).length=5:=au0 _ _;have hc5:=fun H=>av6 c tn H hcl htl
 have hl5:=ad8 c tn;have ha4:=aA9 (l:=c) (m:=ae9 zeroE c) (by omega)
 have ha5:=aA9 (l:=c) (m:=aa9 c tn) (by omega)
 by_cases h:i < 2
 ·have hic:((i:Int) < 2)=True:=eq_true (by omega)
  obtain⟨k,hk⟩: ∃k,2 - i=k+1:=⟨1 - i,by omega⟩
  have hk2:k=2 - (i+1):=by omega
  rw[hk,aK9] at hI;unfold bm2 at hI;generalize aa9 c tn=c2 at*;generalize aa9 c c=cc at*;generalize ae9 zeroE c=mc at*;by_cases hs:al3 cc=al3 e
  ·rw[if_pos hs] at hI
   have hst:=decide_eq_true hs;rw[hst] at hc2;cases ho:bD3 c with
   |true=>
    rw[ho,if_pos rfl] at hI;rw[ho] at hc3;repeat' first|refine o6 ?_|simp -dsimp -implicitDefEqProofs only[go_sem,hic,hcl,hl1,hl4,he,ad7,t5 hcl,t5 hl1,t5 hl4,t5 htl,ha4,af4 hl4]|refine o5 (hc1 _) ?_|refine⟨_,_,hc1 _,?_⟩|refine o5 (hc2 _) ?_|refine⟨_,_,hc2 _,?_⟩|refine o5 (hc3 _) ?_|refine⟨_,_,hc3 _,?_⟩|refine o5 (hc4 _) ?_|refine⟨_,_,hc4 _,?_⟩|fail
    subst hI;exact aa5 (bF4 (mc,true)) (Le.refl _) bO6 ⟨rfl,rfl⟩
   |false=>
    rw[ho,if_neg (by decide)] at hI
    rw[ho] at hc3;repeat' first|refine o6 ?_|simp -dsimp -implicitDefEqProofs only[go_sem,hic,hcl,hl1,he,ad7,t5 hcl,t5 hl1,t5 htl,af4 hcl]|refine o5 (hc1 _) ?_|refine⟨_,_,hc1 _,?_⟩|refine o5 (hc2 _) ?_|refine⟨_,_,hc2 _,?_⟩|refine o5 (hc3 _) ?_|refine⟨_,_,hc3 _,?_⟩|fail
    subst hI;exact aa5 (bF4 (c,true)) (Le.refl _) bO6 ⟨rfl,rfl⟩
  ·rw[if_neg hs] at hI
   have hsf:=decide_eq_false hs;rw[hsf] at hc2;repeat' first|refine o6 ?_|simp -dsimp -implicitDefEqProofs (disch:=omega) only[go_sem,hic,hcl,hl1,hl5,he,htl,ad7,t5 hcl,t5 hl1,t5 hl5,t5 htl,ha5]|refine o5 (hc1 _) ?_|refine⟨_,_,hc1 _,?_⟩|refine o5 (hc2 _) ?_|refine⟨_,_,hc2 _,?_⟩|refine o5 (hc5 _) ?_|refine⟨_,_,hc5 _,?_⟩|fail
   refine again ((i+1,c2)) ?_ ?_ rfl y9
   ·dsimp only;omega
   ·exact⟨by dsimp only;omega,hl5,by dsimp only;rw[<-hk2];exact hI⟩
 ·obtain rfl:i=2:=by omega
  have hz:zeroE.length=5:=rfl;have hzz:[AV.lit (.int .u64 0),AV.lit (.int .u64 0),AV.lit (.int .u64 0),AV.lit (.int .u64 0),AV.lit (.int .u64 0)]=zeroE.map (wAV .u64):=rfl;repeat' first|refine o6 ?_|simp -dsimp -implicitDefEqProofs (disch:=(simp only[ll];omega)) only[go_sem,hcl,ad7,hz]
  subst hI;exact aa5 (bF4 (zeroE,false)) (Le.refl _) bO6 ⟨rfl,rfl⟩
theorem d94(b:List UInt8)(H:List AObj)(hb:b.length=32):o8 Tryz.prog 243 [.agg (b.map o7)] H (fun y H'=>y=.agg ((al3 (au7 b)).map o7)/\H'=H):=by
 have hc:=fun H=>dQ3 b H hb
 have hfl:(au7 b).length=5:=by unfold au7;rw[az9];rfl
 have hc2:=fun H=>bI9 (au7 b) H hfl
 have hbl:=aT9 (au7 b);generalize al3 (au7 b)=r at*;generalize au7 b=f at*;have hz:(List.replicate 32 (AV.lit (.int .u8 0)))=(List.replicate 32 (0:UInt8)).map o7:=by rw[aY9];rfl
 have ha:ag0 (List.replicate 32 (AV.lit (.int .u8 0))) 0 (r.map o7)=r.map o7:=by
  rw[hz];exact as5 (by simp) hbl
 refine y8 [] [.cell 2 28] 6 Tryz.func243 ?_;repeat' first|simp -dsimp -implicitDefEqProofs (disch:=(simp only[ll];omega)) only[go_sem,hb,hbl,ac1,ha]|refine o5 (hc _) ?_|refine⟨_,_,hc _,?_⟩|refine o5 (hc2 _) ?_|refine⟨_,_,hc2 _,?_⟩|fail
 exact aa5 _ (Le.refl _) at1 ⟨rfl,rfl⟩
theorem ea2(b:List UInt8)(H:List AObj)(hb:b.length=32):o8 Tryz.prog 227 [.agg (b.map o7)] H (fun y H'=>y=.bool (decide (al3 (au7 b)=b))/\H'=H):=by
 have hc:=fun H=>d94 b H hb
 have hbl:=aT9 (au7 b);generalize al3 (au7 b)=r at*;refine y8 [1000001,1000001002001] [.tmp 2] 7 Tryz.func227 ?_;repeat' first|refine o6 ?_|simp -dsimp -implicitDefEqProofs only[go_sem,hb,hbl,ac1]|refine o5 (hc _) ?_|refine⟨_,_,hc _,?_⟩|refine vcA ?_ ?_
 exact o9 ⟨rfl,rfl⟩
end Fe
end
section
namespace Sc
open Go V Fe
def ag7(x y:W)(c:Nat):W×Nat:=(BitVec.ofNat 64 (x.toNat+y.toNat+c),(x.toNat+y.toNat+c)/18446744073709551616)
def ao6(x y:W)(c:Nat):W×Nat:=(BitVec.ofNat 64 (x.toNat+18446744073709551616 - y.toNat - c),if x.toNat < y.toNat+c then 1 else 0)
def cq5(x:List W)(i:Nat)(s:List W×Nat):List W×Nat:=(s.1.set i (ao6 (s.1.getD i 0) (x.getD i 0) s.2).1,(ao6 (s.1.getD i 0) (x.getD i 0) s.2).2)
def aQ6(w x:List W):Nat->List W×Nat
 |0=>(w,0)
 |i+1=>cq5 x i (aQ6 w x i)
def ai2(w x:List W):List W×Nat:=aQ6 w x 4
def co7(x:List W)(i:Nat)(s:List W×Nat):List W×Nat:=(s.1.set i (ag7 (s.1.getD i 0) (x.getD i 0) s.2).1,(ag7 (s.1.getD i 0) (x.getD i 0) s.2).2)
def aQ4(w x:List W):Nat->List W×Nat
 |0=>(w,0)
 |i+1=>co7 x i (aQ4 w x i)
def al1(w x:List W):List W×Nat:=aQ4 w x 4
def ae8:List W:=dq5 bv9
def tailW:List W:=dq5 b44
def bq3(x y:W)(j:Nat)(s:List W×W):List W×W:=
 let lo:=ag7 (s.1.getD j 0) (x*y) 0
 let up:=ag7 lo.1 s.2 0
 (s.1.set j up.1,hiW x y+BitVec.ofNat 64 lo.2+BitVec.ofNat 64 up.2)
def ag5(x:W)(b:List W)(i:Nat)(out:List W):Nat->List W×W
 |0=>(out,0)
 |k+1=>bq3 x (b.getD k 0) (i+k) (ag5 x b i out k)
def bi0:List W:=[0,0,0,0,0,0,0,0]
def az8(a b:List W):Nat->List W
 |0=>bi0
 |i+1=>(ag5 (a.getD i 0) b i (az8 a b i) 4).1.set (i+4) (ag5 (a.getD i 0) b i (az8 a b i) 4).2
def aC5(a b:List W):List W:=az8 a b 4
def aJ2(l:List W):List W:=[l.getD 0 0,l.getD 1 0,l.getD 2 0,l.getD 3 0&&&1152921504606846975#64]
def ds5(l:List W)(i:Nat):W:=if i+4 < 8 then l.getD (i+3) 0>>>60|||l.getD (i+4) 0<<<4 else l.getD (i+3) 0>>>60
def bd4(l:List W):Nat->List W
 |0=>[0,0,0,0,0]
 |i+1=>(bd4 l i).set i (ds5 l i)
def av8(h:List W):Nat->List W
 |0=>bi0
 |i+1=>(ag5 (tailW.getD i 0) h i (av8 h i) 5).1.set (i+5) ((ag5 (tailW.getD i 0) h i (av8 h i) 5).1.getD (i+5) 0+(ag5 (tailW.getD i 0) h i (av8 h i) 5).2)
def aY7(l:List W):List W:=av8 (bd4 l 5) 2
def bL6(i:Nat)(sum low:List W):List W:=if i%2=0 then(al1 sum low).1 else(ai2 (al1 sum ae8).1 low).1
def aj1(l:List W):Nat->List W×List W
 |0=>([0,0,0,0],l)
 |i+1=>(bL6 i (aj1 l i).1 (aJ2 (aj1 l i).2),aY7 (aj1 l i).2)
def bd2:Nat->List W->List W
 |0,s=>s
 |n+1,s=>if(ai2 s ae8).2=1 then s else bd2 n (ai2 s ae8).1
def ap0(l:List W):List W:=bd2 16 (aj1 l 4).1
def aK1(w:List W):List W:=ap0 [w.getD 0 0,w.getD 1 0,w.getD 2 0,w.getD 3 0,0,0,0,0]
def b81(w:List W)(i:Nat):UInt8:=UInt8.ofNat (w.getD (i/8) 0>>>(8*(i%8))).toNat
def aI6(w:List W):Nat->List UInt8
 |0=>List.replicate 32 0
 |i+1=>(aI6 w i).set i (b81 w i)
def aU0(w:List W):List UInt8:=aI6 w 32
def ai9(b:List UInt8):List W:=av7 b 32
def bF7(a:List UInt8):List UInt8:=aU0 (ap0 (ai9 (a.take 32)++ai9 (a.drop 32)))
def bF5(a:List UInt8):Bool:=decide ((ai2 (ai9 a) ae8).2=1)
def ax1(a b c:List UInt8):List UInt8:=aU0 (aK1 (al1 (ap0 (aC5 (ai9 a) (ai9 b))) (aK1 (ai9 c))).1)
def aX6(a:List UInt8):List UInt8:=(a.set 0 (a.getD 0 0&&&248)).set 31 (a.getD 31 0&&&63|||64)
theorem bd1(w x:List W)(i:Nat):(aQ6 w x i).1.length=w.length:=by
 induction i with
 |zero=>rfl
 |succ i ih=>rw[aQ6,cq5,List.length_set,ih]
theorem bb7(w x:List W)(i:Nat):(aQ4 w x i).1.length=w.length:=by
 induction i with
 |zero=>rfl
 |succ i ih=>rw[aQ4,co7,List.length_set,ih]
theorem eD5(w x:List W)(i:Nat):(aQ6 w x i).2<=1:=by
 cases i with
 |zero=>exact aP7 1
 |succ i=>
  rw[aQ6,cq5,ao6];dsimp only;split<;>omega
theorem eL3(x y:W){c:Nat}(h:c<=1):(ag7 x y c).2<=1:=by
 have:=x.isLt;have:=y.isLt;unfold ag7;dsimp only;omega
theorem eT7(w x:List W)(i:Nat):(aQ4 w x i).2<=1:=by
 induction i with
 |zero=>exact aP7 1
 |succ i ih=>
  rw[aQ4,co7];exact eL3 _ _ ih
theorem q_len(x:W)(b:List W)(i:Nat)(out:List W)(k:Nat):(ag5 x b i out k).1.length=out.length:=by
 induction k with
 |zero=>rfl
 |succ k ih=>
  rw[ag5,bq3];dsimp only;rw[List.length_set,ih]
theorem bn0(a b:List W)(i:Nat):(az8 a b i).length=8:=by
 induction i with
 |zero=>rfl
 |succ i ih=>rw[az8,List.length_set,q_len,ih]
theorem dI5(l:List W)(i:Nat):(bd4 l i).length=5:=by
 induction i with
 |zero=>rfl
 |succ i ih=>rw[bd4,List.length_set,ih]
theorem bA9(h:List W)(i:Nat):(av8 h i).length=8:=by
 induction i with
 |zero=>rfl
 |succ i ih=>rw[av8,List.length_set,q_len,ih]
theorem aT6{l:List W}(hl:l.length=8)(i:Nat):(aj1 l i).1.length=4/\(aj1 l i).2.length=8:=by
 induction i with
 |zero=>exact⟨rfl,hl⟩
 |succ i ih=>
  rw[aj1];refine⟨?_,bA9 _ _⟩;show (bL6 i _ _).length=4
  unfold bL6 al1 ai2;split
  ·rw[bb7,ih.1]
  ·rw[bd1,bb7,ih.1]
theorem d18(n:Nat): ∀s:List W,s.length=4->(bd2 n s).length=4:=by
 induction n with
 |zero=>exact fun s h=>h
 |succ n ih=>
  intro s h;rw[bd2];split
  ·exact h
  ·exact ih _ (by unfold ai2;rw[bd1,h])
theorem bl3{l:List W}(hl:l.length=8):(ap0 l).length=4:=d18 _ _ (aT6 hl 4).1
theorem bw5(w:List W):(aK1 w).length=4:=bl3 rfl
theorem bQ7(w:List W)(i:Nat):(aI6 w i).length=32:=by
 induction i with
 |zero=>rfl
 |succ i ih=>rw[aI6,List.length_set,ih]
theorem be6(w:List W):(aU0 w).length=32:=bQ7 w 32
theorem aA4(b:List UInt8):(ai9 b).length=4:=cK8 b 32
def ae4:List W->Nat
 |[]=>0
 |x::l=>x.toNat+18446744073709551616*ae4 l
theorem bM0(x y:W){c:Nat}(h:c<=1):(ao6 x y c).1.toNat+y.toNat+c=x.toNat+18446744073709551616*(ao6 x y c).2:=by
 have:=x.isLt;have:=y.isLt;unfold ao6;dsimp only;rw[aC2];simp only[Nat.reducePow] at*;split<;>omega
theorem cL8(x y:W)(c:Nat):(ao6 x y c).2<=1:=by
 unfold ao6;dsimp only;split<;>omega
theorem aT0{w x:List W}(hw:w.length=4)(hx:x.length=4):ae4 (ai2 w x).1+ae4 x=ae4 w+115792089237316195423570985008687907853269984665640564039457584007913129639936*(ai2 w x).2:=by
 match w,hw,x,hx with
 |[a,b,c,d],_,[e,f,g,h],_=>
  have s1:=bM0 a e (c:=0) (by omega)
  have l1:=cL8 a e 0;have s2:=bM0 b f l1;have l2:=cL8 b f (ao6 a e 0).2;have s3:=bM0 c g l2;have l3:=cL8 c g (ao6 b f (ao6 a e 0).2).2;have s4:=bM0 d h l3;have hm:ai2 [a,b,c,d] [e,f,g,h]=([(ao6 a e 0).1,(ao6 b f (ao6 a e 0).2).1,(ao6 c g (ao6 b f (ao6 a e 0).2).2).1,(ao6 d h (ao6 c g (ao6 b f (ao6 a e 0).2).2).2).1],(ao6 d h (ao6 c g (ao6 b f (ao6 a e 0).2).2).2).2):=rfl;rw[hm];dsimp only;simp only[ae4];generalize ao6 d h (ao6 c g (ao6 b f (ao6 a e 0).2).2).2=p4 at*;generalize ao6 c g (ao6 b f (ao6 a e 0).2).2=p3 at*;generalize ao6 b f (ao6 a e 0).2=p2 at*;generalize ao6 a e 0=p1 at*;omega
theorem bs2{w:List W}(hw:w.length=4):ae4 w < 115792089237316195423570985008687907853269984665640564039457584007913129639936:=by
 match w,hw with
 |[a,b,c,d],_=>
  have:=a.isLt;have:=b.isLt;have:=c.isLt;have:=d.isLt;simp only[ae4];omega
theorem bz8:ae4 ae8=7237005577332262213973186563042994240857116359379907606001950938285454250989:=by kernel_rfl
theorem bI4(w x:List W):(ai2 w x).2<=1:=eD5 w x 4
theorem cD1{s:List W}{n:Nat}(hs:s.length=4)(h:ae4 s < (n+1)*7237005577332262213973186563042994240857116359379907606001950938285454250989)(hc: ¬(ai2 s ae8).2=1):ae4 (ai2 s ae8).1 < n*7237005577332262213973186563042994240857116359379907606001950938285454250989:=by
 have h1:=aT0 hs (x:=ae8) rfl;have h2:=bI4 s ae8;rw[bz8] at h1;have h3:(ai2 s ae8).2=0:=by omega
 rw[h3] at h1;rw[aD3] at h;omega
end Sc
end
section
namespace Sc
open Go V Fe
theorem cy3{m:Nat}{x:AV}(h:Low m x:=by(first|(first|exact .lit _|exact .str _|exact .any|exact af5|exact ah5|exact .mp _ _ (by omega)|exact .msl _ _ _ _ (by omega)|exact af6 (fun k e=>by cases e)|exact ae5 _|exact ak1|exact ak0|exact an0|exact am9 _)|(refine ah9 ?_;repeat(first|exact ac4|(refine aa3 ?_ ?_;focus(first|exact .lit _|exact .str _|exact .any|exact af5|exact ah5|exact .mp _ _ (by omega)|exact .msl _ _ _ _ (by omega)|exact af6 (fun k e=>by cases e)|exact ae5 _|exact ak1|exact ak0|exact an0|exact am9 _))))|(refine aB8 ?_;repeat(first|exact ac4|(refine aa3 ?_ ?_;focus(first|exact .lit _|exact .str _|exact .any|exact af5|exact ah5|exact .mp _ _ (by omega)|exact .msl _ _ _ _ (by omega)|exact af6 (fun k e=>by cases e)|exact ae5 _|exact ak1|exact ak0|exact an0|exact am9 _)))))):Low m x:=h
def sub64Entry:Array Value->Sem Value:=fun args=>do
 let (x,y,b)<-Extern.MathBitsCarry.three "Sub64" args
 pure (Extern.MathBitsCarry.pair ((x+Extern.MathBitsCarry.m64 - y - b)%Extern.MathBitsCarry.m64) (if x < y+b then 1 else 0))
theorem run_sub64{P:Program}(x y c:Nat)(hc:c<=1)(w:World):
  (sub64Entry #[.int .u64 (x:Int),.int .u64 (y:Int),.int .u64 (c:Int)]).run P w=.ok (.tuple #[.int .u64 (((x+18446744073709551616 - y - c)%18446744073709551616:Nat):Int),.int .u64 ((if x < y+c then 1 else 0:Nat):Int)]) w:=by
 have:c=0\/c=1:=by omega
 rcases this with rfl|rfl<;>rfl
theorem eu5(x y:W)(c:Nat)(H:List AObj)(hc:c<=1):o8 Tryz.prog 201 [wAV .u64 x,wAV .u64 y,.lit (.int .u64 (c:Int))] H (fun z H'=>z=.tup [wAV .u64 (ao6 x y c).1,.lit (.int .u64 (((ao6 x y c).2:Nat):Int))]/\H'=H):=
 aC8 (e:=sub64Entry) Tryz.func201 (by kernel_rfl) (by kernel_rfl) (by kernel_rfl) (by kernel_rfl) fun G w vs hi ha=>by
  obtain⟨v,u,t,rfl,hv,hu,ht⟩:=cN3 ha;rw[ab7 hv,ab7 hu,ab7 ht];refine⟨_,w,_,G,H,run_sub64 _ _ _ hc w,hi,.refl _ _ _,?_,rfl,rfl⟩;refine .tup _ _ rfl fun j z v h1 h2=>?_
  match j,h1,h2 with
  |0,h1,h2=>
   cases h1
   cases h2
   have:(((x.toNat+18446744073709551616 - y.toNat - c)%18446744073709551616:Nat):Int)=((ao6 x y c).1.toNat:Int):=by
    unfold ao6;dsimp only;rw[aC2]
   rw[this];exact .lit _
  |1,h1,h2=>cases h1;cases h2;exact .lit _
  |j+2,h1,_=>simp at h1
theorem bJ0(x y:W)(c:Nat)(H:List AObj)(hc:c<=1):o8 Tryz.prog 203 [wAV .u64 x,wAV .u64 y,.lit (.int .u64 (c:Int))] H (fun z H'=>z=.tup [wAV .u64 (ag7 x y c).1,.lit (.int .u64 (((ag7 x y c).2:Nat):Int))]/\H'=H):=di3 x y c H hc
def b55(p:List W×Nat):AV:=.tup [.agg (p.1.map (wAV .u64)),.bool (decide (p.2=1))]
theorem dG4{m:Nat}{p:List W×Nat}:Low m (b55 p):=ah9 (aa3 aV7 (aa3 (.lit _) ac4))
theorem t4{l:List W}(h:l.length=4):(l.map (wAV .u64)).take 4=l.map (wAV .u64):=al2 (by rw[List.length_map];omega)
theorem t8{l:List W}(h:l.length=8):(l.map (wAV .u64)).take 8=l.map (wAV .u64):=al2 (by rw[List.length_map];omega)
theorem ax6{m:List W}(h:m.length=4):ag0 [AV.lit (.int .u64 0),AV.lit (.int .u64 0),AV.lit (.int .u64 0),AV.lit (.int .u64 0)] 0 (m.map (wAV .u64))=m.map (wAV .u64):=aA9 (l:=[0,0,0,0]) h
theorem cz8{m:List W}(h:m.length=8):ag0 [AV.lit (.int .u64 0),AV.lit (.int .u64 0),AV.lit (.int .u64 0),AV.lit (.int .u64 0),AV.lit (.int .u64 0),AV.lit (.int .u64 0),AV.lit (.int .u64 0),AV.lit (.int .u64 0)] 0 (m.map (wAV .u64))=m.map (wAV .u64):=aA9 (l:=bi0) h
theorem cL2(x:W)(c:Nat):IntKind.u64.wrap ((x.toNat:Int)+(c:Int))=((x+BitVec.ofNat 64 c).toNat:Int):=by
 rw[bK2,aC2];have:(x.toNat:Int)+(c:Int)=((x.toNat+c:Nat):Int):=by simp
 rw[this];simp[IntKind.wrap,IntKind.signed,IntKind.bits]
theorem aN7{m:Nat}{l:List W}: ∀z∈l.map (wAV .u64),Low m z:=fun z hz=>by
 obtain⟨x,_,rfl⟩:=xq6.1 hz;exact .lit _
theorem en5{c:Nat}:((c:Int)=1)=(c=1):=by
 apply propext
 omega
theorem cx9(w x:List W)(H:List AObj)(hw:w.length=4)(hx:x.length=4):o8 Tryz.prog 153 [.agg (w.map (wAV .u64)),.agg (x.map (wAV .u64))] H (fun y H'=>y=b55 (ai2 w x)/\H'=H):=by
 have hd:ai2 w x=aQ6 w x 4:=rfl;rw[hd];refine y8 [2,1000005] [.cell 4 183,.tmp 5] 28 Tryz.func153 ?_;repeat' simp -dsimp -implicitDefEqProofs only[go_sem,ad7,hw,hx]
 refine aa8 ab2 mixed [2,1000005] [2,3,4,5] (fun i:Nat=>i<=4) (fun i=>[(8,.lit (.int .i64 i)),(6,.lit (.int .u64 (((aQ6 w x i).2:Nat):Int)))]) (fun i=>H++[.cells (.one 183) ((aQ6 w x i).1.map (wAV .u64)),.cells (.one 183) [AV.lit (.int .u64 0),AV.lit (.int .u64 0),AV.lit (.int .u64 0),AV.lit (.int .u64 0)]]) (fun i=>4 - i) (by kernel_rfl) ?_ 0 (by omega) y9 rfl
 intro i hi;have hl:=bd1 w x i;have hc1:=eD5 w x i;rw[hw] at hl;have hn:aQ6 w x (i+1)=cq5 x i (aQ6 w x i):=rfl;unfold cq5 at hn;by_cases h:i < 4
 ·have hic:((i:Int) < 4)=True:=eq_true (by omega)
  generalize aQ6 w x i=s at*;have hg:=ac9 (K:=.u64) (m:=s.1) (i:=i) (by omega)
  have hg2:=ac9 (K:=.u64) (m:=x) (i:=i) (by omega)
  have hS:=fun H=>eu5 (s.1.getD i 0) (x.getD i 0) s.2 H hc1
  generalize ao6 (s.1.getD i 0) (x.getD i 0) s.2=d at*;repeat' first|refine o6 ?_|simp -dsimp -implicitDefEqProofs (disch:=omega) only[go_sem,hic,hg,hg2,hl,hx]|refine o5 (hS _) ?_|refine⟨_,_,hS _,?_⟩|refine vcA ?_ ?_|omega
  rw[show d.2=(aQ6 w x (i+1)).2 by rw[hn]]
  refine again (i+1) ?_ ?_ ?_ y9
  ·omega
  ·omega
  ·rw[hn,ar1]
 ·obtain rfl:i=4:=by omega
  generalize aQ6 w x 4=s at*;repeat' first|refine o6 ?_|simp -dsimp -implicitDefEqProofs only[go_sem,hl,ad7,t4 hl,ax6 hl,en5]
  exact aa5 (b55 s) (Le.refl _) dG4 ⟨rfl,rfl⟩
def co6(p:List W×Nat):AV:=.tup [.agg (p.1.map (wAV .u64)),.lit (.int .u64 (p.2:Int))]
theorem dG6{m:Nat}{p:List W×Nat}:Low m (co6 p):=ah9 (aa3 aV7 (aa3 (.lit _) ac4))
theorem bG4(w x:List W)(H:List AObj)(hw:w.length=4)(hx:x.length=4):o8 Tryz.prog 188 [.agg (w.map (wAV .u64)),.agg (x.map (wAV .u64))] H (fun y H'=>y=co6 (al1 w x)/\H'=H):=by
 have hd:al1 w x=aQ4 w x 4:=rfl;rw[hd];refine y8 [2,1000005] [.cell 4 183,.tmp 5] 27 Tryz.func188 ?_;repeat' simp -dsimp -implicitDefEqProofs only[go_sem,ad7,hw,hx]
 refine aa8 ab2 mixed [2,1000005] [2,3,4,5] (fun i:Nat=>i<=4) (fun i=>[(8,.lit (.int .i64 i)),(6,.lit (.int .u64 (((aQ4 w x i).2:Nat):Int)))]) (fun i=>H++[.cells (.one 183) ((aQ4 w x i).1.map (wAV .u64)),.cells (.one 183) [AV.lit (.int .u64 0),AV.lit (.int .u64 0),AV.lit (.int .u64 0),AV.lit (.int .u64 0)]]) (fun i=>4 - i) (by kernel_rfl) ?_ 0 (by omega) y9 rfl
 intro i hi;have hl:=bb7 w x i;have hc1:=eT7 w x i;rw[hw] at hl;have hn:aQ4 w x (i+1)=co7 x i (aQ4 w x i):=rfl;unfold co7 at hn;by_cases h:i < 4
 ·have hic:((i:Int) < 4)=True:=eq_true (by omega)
  generalize aQ4 w x i=s at*;have hg:=ac9 (K:=.u64) (m:=s.1) (i:=i) (by omega)
  have hg2:=ac9 (K:=.u64) (m:=x) (i:=i) (by omega)
  have hS:=fun H=>bJ0 (s.1.getD i 0) (x.getD i 0) s.2 H hc1
  generalize ag7 (s.1.getD i 0) (x.getD i 0) s.2=d at*;repeat' first|refine o6 ?_|simp -dsimp -implicitDefEqProofs (disch:=omega) only[go_sem,hic,hg,hg2,hl,hx]|refine o5 (hS _) ?_|refine⟨_,_,hS _,?_⟩|refine vcA ?_ ?_|omega
  rw[show d.2=(aQ4 w x (i+1)).2 by rw[hn]]
  refine again (i+1) ?_ ?_ ?_ y9
  ·omega
  ·omega
  ·rw[hn,ar1]
 ·obtain rfl:i=4:=by omega
  generalize aQ4 w x 4=s at*;repeat' first|refine o6 ?_|simp -dsimp -implicitDefEqProofs only[go_sem,hl,ad7,t4 hl,ax6 hl]
  exact aa5 (co6 s) (Le.refl _) dG6 ⟨rfl,rfl⟩
theorem bH0{o:Own}(b:List UInt8)(H:List AObj)(hb:b.length=32):o8 Tryz.prog 152 [.sl o 1 (b.map o7)] H (fun y H'=>y=.agg ((ai9 b).map (wAV .u64))/\H'=H):=by
 refine y8 [1000005] [.cell 2 183] 27 Tryz.func152 ?_;repeat' simp -dsimp -implicitDefEqProofs only[go_sem,ac1,hb]
 refine aa8 ab2 mixed [1000005] [2,3,6,7] (fun i:Nat=>i<=32) (fun i=>[(8,.lit (.int .i64 i))]) (fun i=>H++[.cells (.one 183) [AV.lit (.int .u64 0),AV.lit (.int .u64 0),AV.lit (.int .u64 0),AV.lit (.int .u64 0)],.cells (.one 183) ((av7 b i).map (wAV .u64))]) (fun i=>32 - i) (by kernel_rfl) ?_ 0 (by omega) y9 rfl
 intro i hi;have hwl:=cK8 b i;by_cases h:i < 32
 ·have hic:((i:Int) < 32)=True:=eq_true (by omega)
  have hn:av7 b (i+1)=(av7 b i).set (i/8) ((av7 b i).getD (i/8) 0|||(BitVec.ofNat 64 (b.getD i 0).toNat<<<(8*(i%8)))):=rfl
  have hg:=ac9 (K:=.u64) (m:=av7 b i) (i:=i/8) (by omega)
  generalize av7 b i=w at*;have e8:((i:Int)/8).toNat=i/8:=by omega
  have e9:(8*((i:Int)%8)).toNat=8*(i%8):=by omega
  repeat' first|refine o6 ?_|simp -dsimp -implicitDefEqProofs (disch:=omega) only[go_sem,hic,hwl,hb,hg,e8,e9,ey0]|refine vcA ?_ ?_|omega
  refine again (i+1) ?_ ?_ ?_ y9
  ·omega
  ·omega
  ·rw[hn,ar1]
 ·obtain rfl:i=32:=by omega
  have hf:ai9 b=av7 b 32:=rfl;rw[hf];generalize av7 b 32=w at*;repeat' first|refine o6 ?_|simp -dsimp -implicitDefEqProofs only[go_sem,hwl,hb,ad7,ax6 hwl,t4 hwl]
  exact bd9 rfl
theorem cK6(w:List W)(H:List AObj)(hw:w.length=4):o8 Tryz.prog 190 [.agg (w.map (wAV .u64))] H (fun y H'=>y=.agg ((aU0 w).map o7)/\H'=H):=by
 have hz:(List.replicate 32 (AV.lit (.int .u8 0)))=(List.replicate 32 (0:UInt8)).map o7:=by rw[aY9];rfl
 refine y8 [] [.cell 2 28] 21 Tryz.func190 ?_;repeat' simp -dsimp -implicitDefEqProofs only[go_sem,ad7,hw]
 refine aa8 ab2 mixed [] [1,2,3] (fun i:Nat=>i<=32) (fun i=>[(5,.lit (.int .i64 i))]) (fun i=>H++[.cells (.one 28) (List.replicate 32 (.lit (.int .u8 0))),.cells (.one 28) ((aI6 w i).map o7)]) (fun i=>32 - i) (by kernel_rfl) ?_ 0 (by omega) y9 (by rw[show aI6 w 0=List.replicate 32 0 from rfl,<-hz])
 intro i hi;have hl:=bQ7 w i;by_cases h:i < 32
 ·have hic:((i:Int) < 32)=True:=eq_true (by omega)
  have hn:aI6 w (i+1)=(aI6 w i).set i (b81 w i):=rfl;have hy:b81 w i=UInt8.ofNat (w.getD (i/8) 0>>>(8*(i%8))).toNat:=rfl;have hg:=ac9 (K:=.u64) (m:=w) (i:=i/8) (by omega)
  generalize aI6 w i=b at*;have e8:((i:Int)/8).toNat=i/8:=by omega
  have e9:(8*((i:Int)%8)).toNat=8*(i%8):=by omega
  repeat' first|refine o6 ?_|simp -dsimp -implicitDefEqProofs (disch:=omega) only[go_sem,hic,hw,hl,hg,e8,e9,dn0,cL1]|refine vcA ?_ ?_|omega
  refine again (i+1) ?_ ?_ ?_ y9
  ·omega
  ·omega
  ·rw[hn,hy,ar1];rfl
 ·obtain rfl:i=32:=by omega
  have hf:aU0 w=aI6 w 32:=rfl;rw[hf];generalize aI6 w 32=b at*;have ha:ag0 (List.replicate 32 (AV.lit (.int .u8 0))) 0 (b.map o7)=b.map o7:=by
   rw[hz];exact as5 (by simp) hl
  repeat' first|refine o6 ?_|simp -dsimp -implicitDefEqProofs (disch:=(simp only[ll];omega)) only[go_sem,hl,ac1,ha]
  exact aa5 _ (Le.refl _) at1 ⟨rfl,rfl⟩
theorem dC6(a b:List W)(H:List AObj)(ha:a.length=4)(hb:b.length=4):o8 Tryz.prog 186 [.agg (a.map (wAV .u64)),.agg (b.map (wAV .u64))] H (fun y H'=>y=.agg ((aC5 a b).map (wAV .u64))/\H'=H):=by
 have hsm: ∀(j:Nat) (q:List W) (x:W),(q.map (wAV .u64)).set j (wAV .u64 x)=(q.set j x).map (wAV .u64):=fun j q x=>by rw[ar1]
 refine y8 [] [.cell 4 213] 71 Tryz.func186 ?_;repeat' simp -dsimp -implicitDefEqProofs only[go_sem,ad7,ha,hb]
 refine aa8 ab2 mixed [] [3,4,5,15] (fun i:Nat=>i<=4) (fun i=>[(16,.lit (.int .i64 i))]) (fun i=>H++[.cells (.one 213) [AV.lit (.int .u64 0),AV.lit (.int .u64 0),AV.lit (.int .u64 0),AV.lit (.int .u64 0),AV.lit (.int .u64 0),AV.lit (.int .u64 0),AV.lit (.int .u64 0),AV.lit (.int .u64 0)],.cells (.one 213) ((az8 a b i).map (wAV .u64))]) (fun i=>4 - i) (by kernel_rfl) ?_ 0 (by omega) y9 rfl
 intro i hi;have hpl:=bn0 a b i;have hn:az8 a b (i+1)=(ag5 (a.getD i 0) b i (az8 a b i) 4).1.set (i+4) (ag5 (a.getD i 0) b i (az8 a b i) 4).2:=rfl;by_cases h:i < 4
 ·have hic:((i:Int) < 4)=True:=eq_true (by omega)
  have hg:=ac9 (K:=.u64) (m:=a) (i:=i) (by omega)
  generalize az8 a b i=out at*;repeat' first|refine o6 ?_|simp -dsimp -implicitDefEqProofs only[go_sem,hic,ha,hb,hg,ad7,t4 hb]|refine vcA ?_ ?_|omega
  refine aa8 ab2 mixed [] [3,4,5,6,7,15,16,17,18,19,20] (fun k:Nat=>k<=4) (fun k=>[(21,.lit (.int .i64 k)),(8,wAV .u64 (ag5 (a.getD i 0) b i out k).2)]) (fun k=>H++[.cells (.one 213) [AV.lit (.int .u64 0),AV.lit (.int .u64 0),AV.lit (.int .u64 0),AV.lit (.int .u64 0),AV.lit (.int .u64 0),AV.lit (.int .u64 0),AV.lit (.int .u64 0),AV.lit (.int .u64 0)],.cells (.one 213) ((ag5 (a.getD i 0) b i out k).1.map (wAV .u64))]) (fun k=>4 - k) (by kernel_rfl) ?_ 0 (by omega) y9 rfl
  intro k hk;have hql:=q_len (a.getD i 0) b i out k;rw[hpl] at hql;have hqn:ag5 (a.getD i 0) b i out (k+1)=bq3 (a.getD i 0) (b.getD k 0) (i+k) (ag5 (a.getD i 0) b i out k):=rfl;unfold bq3 at hqn;dsimp only at hqn;by_cases h4:k < 4
  ·have hkc:((k:Int) < 4)=True:=eq_true (by omega)
   have hg2:=ac9 (K:=.u64) (m:=b) (i:=k) (by omega)
   have hik:((i:Int)+(k:Int)).toNat=i+k:=by omega
   generalize ag5 (a.getD i 0) b i out k=s at*;have hgs:=ac9 (K:=.u64) (m:=s.1) (i:=i+k) (by omega)
   have hgx: ∀x:W,((s.1.set (i+k) x).map (wAV .u64)).getD (i+k) .any=wAV .u64 x:=fun x=>by
    rw[ac9 (by rw[List.length_set];omega),List.getD,ay8 (by omega)]
    rfl
   have hM:=fun H=>b87 (a.getD i 0) (b.getD k 0) H
   have hA1: ∀H,o8 Tryz.prog 203 [wAV .u64 (s.1.getD (i+k) 0),wAV .u64 (a.getD i 0*b.getD k 0),.lit (.int .u64 0)] H _:=fun H=>bJ0 (s.1.getD (i+k) 0) (a.getD i 0*b.getD k 0) 0 H (by omega)
   generalize hlo:ag7 (s.1.getD (i+k) 0) (a.getD i 0*b.getD k 0) 0=lo at*;have hA2: ∀H,o8 Tryz.prog 203 [wAV .u64 lo.1,wAV .u64 s.2,.lit (.int .u64 0)] H _:=fun H=>bJ0 lo.1 s.2 0 H (by omega)
   generalize hup:ag7 lo.1 s.2 0=up at*;repeat' first|refine o6 ?_|simp -dsimp -implicitDefEqProofs (disch:=omega) only[go_sem,hkc,ha,hb,hg2,hik,hgs,hgx,hsm,hql,cL2]|refine o5 (hM _) ?_|refine⟨_,_,hM _,?_⟩|refine o5 (hA1 _) ?_|refine⟨_,_,hA1 _,?_⟩|refine o5 (hA2 _) ?_|refine⟨_,_,hA2 _,?_⟩|refine vcA ?_ ?_|omega
   rw[show hiW (a.getD i 0) (b.getD k 0)+BitVec.ofNat 64 lo.2+BitVec.ofNat 64 up.2=(ag5 (a.getD i 0) b i out (k+1)).2 by rw[hqn]]
   refine again (k+1) ?_ ?_ ?_ y9
   ·omega
   ·omega
   ·rw[hqn]
  ·obtain rfl:k=4:=by omega
   have hi4:((i:Int)+4).toNat=i+4:=by omega
   generalize ag5 (a.getD i 0) b i out 4=s at*;repeat' first|refine o6 ?_|simp -dsimp -implicitDefEqProofs (disch:=omega) only[go_sem,hi4,hql,hsm]|refine vcA ?_ ?_|omega
   rw[<-hn];refine again (i+1) ?_ ?_ rfl y9
   ·omega
   ·omega
 ·obtain rfl:i=4:=by omega
  have hf:aC5 a b=az8 a b 4:=rfl;rw[hf];generalize az8 a b 4=r at*;repeat' first|refine o6 ?_|simp -dsimp -implicitDefEqProofs only[go_sem,hpl,ad7,cz8 hpl,t8 hpl]
  exact bd9 rfl
def cs4(p:List W×List W):AV:=.tup [.agg (p.1.map (wAV .u64)),.agg (p.2.map (wAV .u64))]
theorem dr3{m:Nat}{p:List W×List W}:Low m (cs4 p):=ah9 (aa3 aV7 (aa3 aV7 ac4))
theorem de4(l:List W):(aJ2 l).length=4:=rfl
theorem d08(l:List W):(aY7 l).length=8:=bA9 _ 2
theorem d41(l:List W)(H:List AObj)(hl:l.length=8):o8 Tryz.prog 220 [.agg (l.map (wAV .u64))] H (fun y H'=>y=cs4 (aJ2 l,aY7 l)/\H'=H):=by
 have hsm: ∀(j:Nat) (q:List W) (x:W),(q.map (wAV .u64)).set j (wAV .u64 x)=(q.set j x).map (wAV .u64):=fun j q x=>by rw[ar1]
 have g0:=ac9 (K:=.u64) (m:=l) (i:=0) (by omega)
 have g1:=ac9 (K:=.u64) (m:=l) (i:=1) (by omega)
 have g2:=ac9 (K:=.u64) (m:=l) (i:=2) (by omega)
 have g3:=ac9 (K:=.u64) (m:=l) (i:=3) (by omega)
 have hlw:[wAV .u64 (l.getD 0 0),wAV .u64 (l.getD 1 0),wAV .u64 (l.getD 2 0),wAV .u64 (l.getD 3 0&&&1152921504606846975#64)]=(aJ2 l).map (wAV .u64):=rfl;have a60: ∀x:W,IntKind.u64.wrap (((BitVec.ofInt IntKind.u64.bits (x.toNat:Int)&&&BitVec.ofInt IntKind.u64.bits 1152921504606846975).toNat:Nat):Int)=((x&&&1152921504606846975#64).toNat:Int):=fun x=>by
  show IntKind.u64.wrap (((BitVec.ofInt 64 (x.toNat:Int)&&&1152921504606846975#64).toNat:Nat):Int)=_
  rw[as6,W64.bp5]
 have hll:=de4 l;have r60: ∀x:W,x.toNat/1152921504606846976=(x>>>60).toNat:=fun x=>by rw[bt7,aK5]
 have s4: ∀x:W,IntKind.u64.wrap ((x.toNat:Int)*16)=((x<<<4).toNat:Int):=fun x=>dn1 x 4
 refine y8 [1000008,1000025,1000025001002] [.cell 2 183,.cell 3 213] 109 Tryz.func220 ?_;repeat' simp -dsimp -implicitDefEqProofs (disch:=omega) only[go_sem,ad7,hl,g0,g1,g2,g3,a60,hlw,hll,ax6 hll,t4 hll]
 generalize aJ2 l=lw at*;refine aa8 ab2 mixed [1000008,1000025,1000025001002] [1,2,3,4] (fun i:Nat=>i<=5) (fun i=>[(25,.lit (.int .i64 i))]) (fun i=>H++[.cells (.one 183) (lw.map (wAV .u64)),.cells (.one 213) [AV.lit (.int .u64 0),AV.lit (.int .u64 0),AV.lit (.int .u64 0),AV.lit (.int .u64 0),AV.lit (.int .u64 0),AV.lit (.int .u64 0),AV.lit (.int .u64 0),AV.lit (.int .u64 0)],.cells (.one 96) ((bd4 l i).map (wAV .u64))]) (fun i=>5 - i) (by kernel_rfl) ?_ 0 (by omega) y9 rfl
 intro i hi;have hhl:=dI5 l i;by_cases h:i < 5
 ·have hic:((i:Int) < 5)=True:=eq_true (by omega)
  have hn:bd4 l (i+1)=(bd4 l i).set i (ds5 l i):=rfl;have e3:((i:Int)+3).toNat=i+3:=by omega
  have e4:((i:Int)+4).toNat=i+4:=by omega
  have gi:=ac9 (K:=.u64) (m:=l) (i:=i+3) (by omega)
  generalize bd4 l i=q at*;unfold ds5 at hn;have hgx: ∀x:W,((q.set i x).map (wAV .u64)).getD i .any=wAV .u64 x:=fun x=>by
   rw[ac9 (by rw[List.length_set];omega),List.getD,ay8 (by omega)]
   rfl
  have hss: ∀x y:W,(q.set i x).set i y=q.set i y:=fun x y=>by rw[List.set_set]
  by_cases h8:i+4 < 8
  ·have h8c:((i:Int)+4 < 8)=True:=eq_true (by omega)
   have gi4:=ac9 (K:=.u64) (m:=l) (i:=i+4) (by omega)
   rw[if_pos h8] at hn;repeat' first|refine o6 ?_|simp -dsimp -implicitDefEqProofs (disch:=omega) only[go_sem,hic,h8c,e3,e4,gi,gi4,hl,hhl,r60,s4,hsm,hgx,hss]|refine vcA ?_ ?_|omega
   rw[<-hn];refine again (i+1) ?_ ?_ rfl y9
   ·omega
   ·omega
  ·have h8c:((i:Int)+4 < 8)=False:=eq_false (by omega)
   rw[if_neg h8] at hn;repeat' first|refine o6 ?_|simp -dsimp -implicitDefEqProofs (disch:=omega) only[go_sem,hic,h8c,e3,e4,gi,hl,hhl,r60,s4,hsm,hgx,hss]|refine vcA ?_ ?_|omega
   rw[<-hn];refine again (i+1) ?_ ?_ rfl y9
   ·omega
   ·omega
 ·obtain rfl:i=5:=by omega
  have htn:aV4 b44=tailW.map (wAV .u64):=rfl;have htl:tailW.length=2:=rfl;have hls:aY7 l=av8 (bd4 l 5) 2:=rfl;rw[hls];generalize bd4 l 5=hh at*;repeat' first|refine o6 ?_|simp -dsimp -implicitDefEqProofs only[go_sem,hhl,ad7,htn,htl]
  refine aa8 ab2 mixed [1000008,1000025,1000025001002] [2,3,4,49] (fun i:Nat=>i<=2) (fun i=>[(50,.lit (.int .i64 i))]) (fun i=>H++[.cells (.one 183) (lw.map (wAV .u64)),.cells (.one 213) ((av8 hh i).map (wAV .u64)),.cells (.one 96) (hh.map (wAV .u64))]) (fun i=>2 - i) (by kernel_rfl) ?_ 0 (by omega) y9 rfl
  intro i hi;have hpl:=bA9 hh i;have hn:av8 hh (i+1)=(ag5 (tailW.getD i 0) hh i (av8 hh i) 5).1.set (i+5) ((ag5 (tailW.getD i 0) hh i (av8 hh i) 5).1.getD (i+5) 0+(ag5 (tailW.getD i 0) hh i (av8 hh i) 5).2):=rfl;by_cases h:i < 2
  ·have hic:((i:Int) < 2)=True:=eq_true (by omega)
   have hg:=ac9 (K:=.u64) (m:=tailW) (i:=i) (by omega)
   generalize av8 hh i=out at*;generalize tailW.getD i 0=tw at*;generalize tailW=tl at*;repeat' first|refine o6 ?_|simp -dsimp -implicitDefEqProofs only[go_sem,hic,htl,hhl,hg,ad7,t5 hhl]|refine vcA ?_ ?_|omega
   refine aa8 ab2 mixed [1000008,1000025,1000025001002] [2,3,4,6,7,49,50,51,52,53,54] (fun k:Nat=>k<=5) (fun k=>[(55,.lit (.int .i64 k)),(8,wAV .u64 (ag5 tw hh i out k).2)]) (fun k=>H++[.cells (.one 183) (lw.map (wAV .u64)),.cells (.one 213) ((ag5 tw hh i out k).1.map (wAV .u64)),.cells (.one 96) (hh.map (wAV .u64))]) (fun k=>5 - k) (by kernel_rfl) ?_ 0 (by omega) y9 rfl
   intro k hk;have hql:=q_len tw hh i out k;rw[hpl] at hql;have hqn:ag5 tw hh i out (k+1)=bq3 tw (hh.getD k 0) (i+k) (ag5 tw hh i out k):=rfl;unfold bq3 at hqn;dsimp only at hqn;by_cases h4:k < 5
   ·have hkc:((k:Int) < 5)=True:=eq_true (by omega)
    have hg2:=ac9 (K:=.u64) (m:=hh) (i:=k) (by omega)
    have hik:((i:Int)+(k:Int)).toNat=i+k:=by omega
    generalize ag5 tw hh i out k=s at*;have hgs:=ac9 (K:=.u64) (m:=s.1) (i:=i+k) (by omega)
    have hgx: ∀x:W,((s.1.set (i+k) x).map (wAV .u64)).getD (i+k) .any=wAV .u64 x:=fun x=>by
     rw[ac9 (by rw[List.length_set];omega),List.getD,ay8 (by omega)]
     rfl
    have hM:=fun H=>b87 tw (hh.getD k 0) H
    have hA1: ∀H,o8 Tryz.prog 203 [wAV .u64 (s.1.getD (i+k) 0),wAV .u64 (tw*hh.getD k 0),.lit (.int .u64 0)] H _:=fun H=>bJ0 (s.1.getD (i+k) 0) (tw*hh.getD k 0) 0 H (by omega)
    generalize hlo:ag7 (s.1.getD (i+k) 0) (tw*hh.getD k 0) 0=lo at*;have hA2: ∀H,o8 Tryz.prog 203 [wAV .u64 lo.1,wAV .u64 s.2,.lit (.int .u64 0)] H _:=fun H=>bJ0 lo.1 s.2 0 H (by omega)
    generalize hup:ag7 lo.1 s.2 0=up at*;repeat' first|refine o6 ?_|simp -dsimp -implicitDefEqProofs (disch:=omega) only[go_sem,hkc,hhl,hg2,hik,hgs,hgx,hsm,hql,cL2]|refine o5 (hM _) ?_|refine⟨_,_,hM _,?_⟩|refine o5 (hA1 _) ?_|refine⟨_,_,hA1 _,?_⟩|refine o5 (hA2 _) ?_|refine⟨_,_,hA2 _,?_⟩|refine vcA ?_ ?_|omega
    rw[show hiW tw (hh.getD k 0)+BitVec.ofNat 64 lo.2+BitVec.ofNat 64 up.2=(ag5 tw hh i out (k+1)).2 by rw[hqn]]
    refine again (k+1) ?_ ?_ ?_ y9
    ·omega
    ·omega
    ·rw[hqn]
   ·obtain rfl:k=5:=by omega
    have hi5:((i:Int)+5).toNat=i+5:=by omega
    generalize ag5 tw hh i out 5=s at*;have hgs:=ac9 (K:=.u64) (m:=s.1) (i:=i+5) (by omega)
    repeat' first|refine o6 ?_|simp -dsimp -implicitDefEqProofs (disch:=omega) only[go_sem,hi5,hql,hsm,hgs]|refine vcA ?_ ?_|omega
    rw[<-hn];refine again (i+1) ?_ ?_ rfl y9
    ·omega
    ·omega
  ·obtain rfl:i=2:=by omega
   generalize av8 hh 2=r at*;have has:=aA9 (l:=lw) (m:=lw) rfl;have hbs:=aA9 (l:=r) (m:=r) rfl;repeat' first|refine o6 ?_|simp -dsimp -implicitDefEqProofs only[go_sem,hpl,hll,ad7,t4 hll,t8 hpl,has,hbs]
   exact aa5 (cs4 (lw,r)) (Le.refl _) dr3 ⟨rfl,rfl⟩
theorem bV1(l:List W)(H:List AObj)(hl:l.length=8):o8 Tryz.prog 187 [.agg (l.map (wAV .u64))] H (fun y H'=>y=.agg ((ap0 l).map (wAV .u64))/\H'=H):=by
 have hord:aV4 bv9=ae8.map (wAV .u64):=rfl;have hol:ae8.length=4:=rfl;have hR:ap0 l=bd2 16 (aj1 l 4).1:=rfl;refine y8 [1] [.cell 2 183] 48 Tryz.func187 ?_;repeat' simp -dsimp -implicitDefEqProofs only[go_sem,ad7,hl]
 refine aa8 ab2 mixed [1] [1,2,3] (fun i:Nat=>i<=4) (fun i=>[(9,.lit (.int .i64 i)),(4,.bool (decide (i%2=0)))]) (fun i=>H++[.cells (.one 213) ((aj1 l i).2.map (wAV .u64)),.cells (.one 183) [AV.lit (.int .u64 0),AV.lit (.int .u64 0),AV.lit (.int .u64 0),AV.lit (.int .u64 0)],.cells (.one 183) ((aj1 l i).1.map (wAV .u64))]) (fun i=>4 - i) (by kernel_rfl) ?_ 0 (by omega) y9 rfl
 intro i hi;obtain⟨hs1,hs2⟩:=aT6 hl i;have hn:aj1 l (i+1)=(bL6 i (aj1 l i).1 (aJ2 (aj1 l i).2),aY7 (aj1 l i).2):=rfl;unfold bL6 at hn;by_cases h:i < 4
 ·have hic:((i:Int) < 4)=True:=eq_true (by omega)
  generalize aj1 l i=s at*;have hF:=fun H=>d41 s.2 H hs2
  unfold cs4 at hF;have hll:=de4 s.2;have hel:=d08 s.2;generalize aJ2 s.2=lw at*;generalize aY7 s.2=ls at*;have hP:=fun H=>bG4 s.1 lw H hs1 hll
  have hP2:=fun H=>bG4 s.1 ae8 H hs1 hol
  have hpl:(al1 s.1 lw).1.length=4:=by unfold al1;rw[bb7,hs1]
  have hpl2:(al1 s.1 ae8).1.length=4:=by unfold al1;rw[bb7,hs1]
  have hM:=fun H=>cx9 (al1 s.1 ae8).1 lw H hpl2 hll
  have hml:(ai2 (al1 s.1 ae8).1 lw).1.length=4:=by unfold ai2;rw[bd1,hpl2]
  unfold co6 at hP hP2;unfold b55 at hM;generalize ai2 (al1 s.1 ae8).1 lw=m at*;generalize al1 s.1 lw=p at*;generalize al1 s.1 ae8=q at*;generalize ae8=ord at*;have ha1:=aA9 (l:=s.2) (m:=ls) (by omega)
  have ha2:=aA9 (l:=s.1) (m:=p.1) (by omega)
  have ha3:=aA9 (l:=s.1) (m:=q.1) (by omega)
  have ha4:=aA9 (l:=q.1) (m:=m.1) (by omega)
  by_cases h2:i%2=0
  ·have hd:=decide_eq_true h2
   have hd2:decide ((i+1)%2=0)=false:=decide_eq_false (by omega)
   rw[if_pos h2] at hn;rw[hd];repeat' first|refine o6 ?_|simp -dsimp -implicitDefEqProofs (disch:=omega) only[go_sem,hic,ad7,hs1,hs2,hll,hel,hpl,t4 hs1,t4 hll,t8 hs2,t8 hel,t4 hpl,ax6 hll,cz8 hel,ha1,ha2]|refine o5 (hF _) ?_|refine⟨_,_,hF _,?_⟩|refine o5 (hP _) ?_|refine⟨_,_,hP _,?_⟩|fail
   rw[<-hd2];refine an7 (H.length+3) ([.cells (.one 183) (lw.map (wAV .u64)),.cells (.one 213) (ls.map (wAV .u64))]) (i+1) ?_ ?_ ?_ ?_ ?_ (by repeat(first|exact ah0|(refine ag1 ?_ ?_;focus exact cy3))) ?_ y9
   ·omega
   ·omega
   ·rw[hn];simp
   ·simp
   ·simp
   ·exact a15 fun o ho sh cs e=>by
     simp only[xq8,aK4,or_false] at ho;rcases ho with rfl|rfl|rfl<;>cases e
     ·exact aN7
     ·exact aN7 (l:=[0,0,0,0])
     ·exact aN7
  ·have hd:=decide_eq_false h2
   have hd2:decide ((i+1)%2=0)=true:=decide_eq_true (by omega)
   rw[if_neg h2] at hn;rw[hd];repeat' first|refine o6 ?_|simp -dsimp -implicitDefEqProofs (disch:=omega) only[go_sem,hic,ad7,hord,hs1,hs2,hll,hel,hpl2,hml,hol,t4 hs1,t4 hll,t8 hs2,t8 hel,t4 hpl2,t4 hml,ax6 hll,cz8 hel,ha1,ha3,ha4]|refine o5 (hF _) ?_|refine⟨_,_,hF _,?_⟩|refine o5 (hP2 _) ?_|refine⟨_,_,hP2 _,?_⟩|refine o5 (hM _) ?_|refine⟨_,_,hM _,?_⟩|fail
   rw[<-hd2];refine an7 (H.length+3) ([.cells (.one 183) (lw.map (wAV .u64)),.cells (.one 213) (ls.map (wAV .u64))]) (i+1) ?_ ?_ ?_ ?_ ?_ (by repeat(first|exact ah0|(refine ag1 ?_ ?_;focus exact cy3))) ?_ y9
   ·omega
   ·omega
   ·rw[hn];simp
   ·simp
   ·simp
   ·exact a15 fun o ho sh cs e=>by
     simp only[xq8,aK4,or_false] at ho;rcases ho with rfl|rfl|rfl<;>cases e
     ·exact aN7
     ·exact aN7 (l:=[0,0,0,0])
     ·exact aN7
 ·obtain rfl:i=4:=by omega
  rw[hR];generalize hx:(aj1 l 4).1=sm at*;generalize (aj1 l 4).2=rest at*;have hvl:=bs2 hs1;repeat' first|refine o6 ?_|simp -dsimp -implicitDefEqProofs only[go_sem]
  generalize hRR:bd2 16 sm=R at*;refine aa8 ab2 mixed [1] [2,3] (fun x:Nat×List W=>x.2.length=4/\ae4 x.2 < x.1*7237005577332262213973186563042994240857116359379907606001950938285454250989/\bd2 x.1 x.2=R) (fun x=>[]) (fun x=>H++[.cells (.one 213) (rest.map (wAV .u64)),.cells (.one 183) [AV.lit (.int .u64 0),AV.lit (.int .u64 0),AV.lit (.int .u64 0),AV.lit (.int .u64 0)],.cells (.one 183) (x.2.map (wAV .u64))]) (fun x=>x.1) (by kernel_rfl) ?_ (16,sm) ⟨hs1,by dsimp only;omega,hRR⟩ y9 rfl
  rintro⟨n,s⟩ ⟨hsl,hv,hI⟩
  dsimp only at*;obtain⟨k,rfl⟩: ∃k,n=k+1:=⟨n - 1,by
   cases n with
   |zero=>omega
   |succ n=>rfl⟩
  rw[bd2] at hI;have hM:=fun H=>cx9 s ae8 H hsl hol
  have hml:(ai2 s ae8).1.length=4:=by unfold ai2;rw[bd1,hsl]
  have hst:=cD1 (n:=k) hsl hv;unfold b55 at hM;generalize ai2 s ae8=p at*;generalize ae8=ord at*;have ha:=aA9 (l:=s) (m:=p.1) (by omega)
  by_cases hb:p.2=1
  ·rw[if_pos hb] at hI
   subst hI;have hd:=decide_eq_true hb;rw[hd] at hM;repeat' first|refine o6 ?_|simp -dsimp -implicitDefEqProofs only[go_sem,hord,ad7,hsl,hml,hol,t4 hsl,t4 hml,t4 hol,ax6 hml,ax6 hsl]|refine o5 (hM _) ?_|refine⟨_,_,hM _,?_⟩|fail
   exact bd9 rfl
  ·rw[if_neg hb] at hI
   have hst:=hst hb;have hd:=decide_eq_false hb;rw[hd] at hM;repeat' first|refine o6 ?_|simp -dsimp -implicitDefEqProofs only[go_sem,hord,ad7,hsl,hml,hol,t4 hsl,t4 hml,t4 hol,ax6 hml,ax6 hsl,ha]|refine o5 (hM _) ?_|refine⟨_,_,hM _,?_⟩|fail
   refine an7 (H.length+3) ([.cells (.one 183) (p.1.map (wAV .u64))]) ((k,p.1)) ?_ ?_ ?_ ?_ ?_ (by repeat(first|exact ah0|(refine ag1 ?_ ?_;focus exact cy3))) ?_ y9
   ·dsimp only;omega
   ·exact⟨hml,hst,hI⟩
   ·simp
   ·simp
   ·simp
   ·exact a15 fun o ho sh cs e=>by
     simp only[xq8,aK4,or_false] at ho;rcases ho with rfl|rfl|rfl<;>cases e
     ·exact aN7
     ·exact aN7 (l:=[0,0,0,0])
     ·exact aN7
end Sc
end
section
namespace Sc
open Go V Fe
theorem dG9(w:List W)(H:List AObj)(hw:w.length=4):o8 Tryz.prog 189 [.agg (w.map (wAV .u64))] H (fun y H'=>y=.agg ((aK1 w).map (wAV .u64))/\H'=H):=by
 have g0:=ac9 (K:=.u64) (m:=w) (i:=0) (by omega)
 have g1:=ac9 (K:=.u64) (m:=w) (i:=1) (by omega)
 have g2:=ac9 (K:=.u64) (m:=w) (i:=2) (by omega)
 have g3:=ac9 (K:=.u64) (m:=w) (i:=3) (by omega)
 have hc: ∀H,o8 Tryz.prog 187 [.agg [wAV .u64 (w.getD 0 0),wAV .u64 (w.getD 1 0),wAV .u64 (w.getD 2 0),wAV .u64 (w.getD 3 0),.lit (.int .u64 0),.lit (.int .u64 0),.lit (.int .u64 0),.lit (.int .u64 0)]] H _:=fun H=>bV1 [w.getD 0 0,w.getD 1 0,w.getD 2 0,w.getD 3 0,0,0,0,0] H rfl
 have hd:aK1 w=ap0 [w.getD 0 0,w.getD 1 0,w.getD 2 0,w.getD 3 0,0,0,0,0]:=rfl;have hr:=bw5 w;rw[<-hd] at hc;clear hd;generalize aK1 w=r at*;refine y8 [] [.cell 2 183] 13 Tryz.func189 ?_;repeat' first|simp -dsimp -implicitDefEqProofs (disch:=omega) only[go_sem,ad7,hw,g0,g1,g2,g3,hr,ax6 hr,t4 hr]|refine o5 (hc _) ?_|refine⟨_,hc _,?_⟩|refine⟨_,_,hc _,?_⟩|fail
 exact bd9 rfl
theorem d92(a:List UInt8)(H:List AObj)(ha:a.length=32):o8 Tryz.prog 103 [.agg (a.map o7)] H (fun y H'=>y=.bool (bF5 a)/\H'=H):=by
 have hord:aV4 bv9=ae8.map (wAV .u64):=rfl;have hol:ae8.length=4:=rfl;have hl:=aA4 a;have hc:=fun H=>bH0 (o:=.sh) a H ha
 have hm:=fun H=>cx9 (ai9 a) ae8 H hl hol
 have hml:(ai2 (ai9 a) ae8).1.length=4:=by unfold ai2;rw[bd1,hl]
 unfold bF5;unfold b55 at hm;generalize ai2 (ai9 a) ae8=p at*;generalize ai9 a=w at*;generalize ae8=ord at*;refine y8 [2000007,2000009,1000001,1000001001007,1000001002007,1000001003007] [.tmp 2] 13 Tryz.func103 ?_;repeat' first|refine o6 ?_|simp -dsimp -implicitDefEqProofs (disch:=(simp only[ll];omega)) only[go_sem,ac1,ad7,ha,hl,hol,hml,hord,t4 hol,t4 hml,ax6 hml]|refine o5 (hc _) ?_|refine⟨_,hc _,?_⟩|refine⟨_,_,hc _,?_⟩|refine o5 (hm _) ?_|refine⟨_,hm _,?_⟩|refine⟨_,_,hm _,?_⟩|refine vcA ?_ ?_
 exact aa5 _ (Le.refl _) (.lit _) ⟨rfl,rfl⟩
theorem dP6(a:List UInt8)(H:List AObj)(ha:a.length=64):o8 Tryz.prog 158 [.agg (a.map o7)] H (fun y H'=>y=.agg ((bF7 a).map o7)/\H'=H):=by
 have hc1:=fun H=>bH0 (o:=.sh) (a.take 32) H (by rw[List.length_take];omega)
 have hc2:=fun H=>bH0 (o:=.sh) (a.drop 32) H (by rw[List.length_drop];omega)
 have l1:=aA4 (a.take 32);have l2:=aA4 (a.drop 32);have hd:bF7 a=aU0 (ap0 (ai9 (a.take 32)++ai9 (a.drop 32))):=rfl;rw[hd];clear hd;generalize ai9 (a.take 32)=x at*;generalize ai9 (a.drop 32)=y at*;have hR:=fun H=>bV1 (x++y) H (by rw[List.length_append];omega)
 have hRl:=bl3 (l:=x++y) (by rw[List.length_append];omega)
 have hB:=fun H=>cK6 (ap0 (x++y)) H hRl
 have hBl:=be6 (ap0 (x++y));generalize aU0 (ap0 (x++y))=b at*;generalize ap0 (x++y)=r at*;have hxy:[wAV .u64 (x.getD 0 0),wAV .u64 (x.getD 1 0),wAV .u64 (x.getD 2 0),wAV .u64 (x.getD 3 0),wAV .u64 (y.getD 0 0),wAV .u64 (y.getD 1 0),wAV .u64 (y.getD 2 0),wAV .u64 (y.getD 3 0)]=(x++y).map (wAV .u64):=by
  match x,l1,y,l2 with
  |[_,_,_,_],_,[_,_,_,_],_=>rfl
 have g0:=ac9 (K:=.u64) (m:=x) (i:=0) (by omega)
 have g1:=ac9 (K:=.u64) (m:=x) (i:=1) (by omega)
 have g2:=ac9 (K:=.u64) (m:=x) (i:=2) (by omega)
 have g3:=ac9 (K:=.u64) (m:=x) (i:=3) (by omega)
 have f0:=ac9 (K:=.u64) (m:=y) (i:=0) (by omega)
 have f1:=ac9 (K:=.u64) (m:=y) (i:=1) (by omega)
 have f2:=ac9 (K:=.u64) (m:=y) (i:=2) (by omega)
 have f3:=ac9 (K:=.u64) (m:=y) (i:=3) (by omega)
 have hz:(List.replicate 32 (AV.lit (.int .u8 0)))=(List.replicate 32 (0:UInt8)).map o7:=by rw[aY9];rfl
 have hba:ag0 (List.replicate 32 (AV.lit (.int .u8 0))) 0 (b.map o7)=b.map o7:=by
  rw[hz];exact as5 (by simp) hBl
 rw[<-hxy] at hR;refine aw8 ab2 mixed [] 1 (rs:=[.cell 2 28]) (n:=28) Tryz.func158 rfl rfl rfl rfl (nlb rfl) (by kernel_rfl) ?_
 repeat' simp -dsimp -implicitDefEqProofs only[go_sem,ac1,ad7,ha]
 refine cY9 ab2 mixed [] 183 4 2 (by kernel_rfl) ?_
 repeat' first|refine o6 ?_|simp -dsimp -implicitDefEqProofs (disch:=first|omega|simp only[ll];omega) only[go_sem,ac1,ad7,ha,aP8,ar7,l1,l2,ax6 l1,ax6 l2,g0,g1,g2,g3,f0,f1,f2,f3,hBl,hba]|refine o5 (fun _ _ _=>hc1 _) ?_|refine⟨_,fun _ _ _=>hc1 _,?_⟩|refine⟨_,_,fun _ _ _=>hc1 _,?_⟩|refine o5 (fun _ _ _=>hc2 _) ?_|refine⟨_,fun _ _ _=>hc2 _,?_⟩|refine⟨_,_,fun _ _ _=>hc2 _,?_⟩|refine o5 (hR _) ?_|refine⟨_,hR _,?_⟩|refine⟨_,_,hR _,?_⟩|refine o5 (hB _) ?_|refine⟨_,hB _,?_⟩|refine⟨_,_,hB _,?_⟩|fail
 exact aa5 _ (Le.refl _) at1 ⟨rfl,rfl⟩
theorem d95(a b c:List UInt8)(H:List AObj)(ha:a.length=32)(hb:b.length=32)(hc:c.length=32):o8 Tryz.prog 142 [.agg (a.map o7),.agg (b.map o7),.agg (c.map o7)] H (fun y H'=>y=.agg ((ax1 a b c).map o7)/\H'=H):=by
 have h1:=fun H=>bH0 (o:=.sh) a H ha
 have h2:=fun H=>bH0 (o:=.sh) b H hb
 have h3:=fun H=>bH0 (o:=.sh) c H hc
 have l1:=aA4 a;have l2:=aA4 b;have l3:=aA4 c;have hd:ax1 a b c=aU0 (aK1 (al1 (ap0 (aC5 (ai9 a) (ai9 b))) (aK1 (ai9 c))).1):=rfl;rw[hd];clear hd;generalize ai9 a=x at*;generalize ai9 b=y at*;generalize ai9 c=z at*;have h4:=fun H=>dC6 x y H l1 l2
 have l4:(aC5 x y).length=8:=bn0 x y 4;generalize aC5 x y=p at*;have h5:=fun H=>bV1 p H l4
 have l5:=bl3 l4;generalize ap0 p=r at*;have h6:=fun H=>dG9 z H l3
 have l6:=bw5 z;generalize aK1 z=u at*;have h7:=fun H=>bG4 r u H l5 l6
 have l7:(al1 r u).1.length=4:=by unfold al1;rw[bb7,l5]
 unfold co6 at h7;generalize al1 r u=s at*;have h8:=fun H=>dG9 s.1 H l7
 have l8:=bw5 s.1;generalize aK1 s.1=v at*;have h9:=fun H=>cK6 v H l8
 have l9:=be6 v;generalize aU0 v=o at*;have hz:(List.replicate 32 (AV.lit (.int .u8 0)))=(List.replicate 32 (0:UInt8)).map o7:=by rw[aY9];rfl
 have hba:ag0 (List.replicate 32 (AV.lit (.int .u8 0))) 0 (o.map o7)=o.map o7:=by
  rw[hz];exact as5 (by simp) l9
 refine y8 [2000011,2000013,2000014,2000015,2000019,2000020,2000021,1000001,1000001001006,1000001003006,1000001004006,1000001005006,1000002,1000002000008,1000002002008,1000002003008,1000002004008] [.cell 6 28] 27 Tryz.func142 ?_;repeat' first|refine o6 ?_|simp -dsimp -implicitDefEqProofs (disch:=(simp only[ll];omega)) only[go_sem,ac1,ad7,ha,hb,hc,l5,l7,l9,t4 l5,t4 l7,ax6 l5,ax6 l7,hba]|refine o5 (h1 _) ?_|refine⟨_,h1 _,?_⟩|refine⟨_,_,h1 _,?_⟩|refine o5 (h2 _) ?_|refine⟨_,h2 _,?_⟩|refine⟨_,_,h2 _,?_⟩|refine o5 (h3 _) ?_|refine⟨_,h3 _,?_⟩|refine⟨_,_,h3 _,?_⟩|refine o5 (h4 _) ?_|refine⟨_,h4 _,?_⟩|refine⟨_,_,h4 _,?_⟩|refine o5 (h5 _) ?_|refine⟨_,h5 _,?_⟩|refine⟨_,_,h5 _,?_⟩|refine o5 (h6 _) ?_|refine⟨_,h6 _,?_⟩|refine⟨_,_,h6 _,?_⟩|refine o5 (h7 _) ?_|refine⟨_,h7 _,?_⟩|refine⟨_,_,h7 _,?_⟩|refine o5 (h8 _) ?_|refine⟨_,h8 _,?_⟩|refine⟨_,_,h8 _,?_⟩|refine o5 (h9 _) ?_|refine⟨_,h9 _,?_⟩|refine⟨_,_,h9 _,?_⟩|refine vcA ?_ ?_
 exact aa5 _ (Le.refl _) at1 ⟨rfl,rfl⟩
theorem ev5(a:List UInt8)(H:List AObj)(ha:a.length=32):o8 Tryz.prog 67 [.agg (a.map o7)] H (fun y H'=>y=.agg ((aX6 a).map o7)/\H'=H):=by
 have hz:(List.replicate 32 (AV.lit (.int .u8 0)))=(List.replicate 32 (0:UInt8)).map o7:=by rw[aY9];rfl
 have a1: ∀x:UInt8,IntKind.u8.wrap (((BitVec.ofInt IntKind.u8.bits (x.toNat:Int)&&&BitVec.ofInt IntKind.u8.bits 248).toNat:Nat):Int)=((x&&&248).toNat:Int):=fun x=>bE8 x 248
 have a2: ∀x:UInt8,IntKind.u8.wrap (((BitVec.ofInt IntKind.u8.bits (x.toNat:Int)&&&BitVec.ofInt IntKind.u8.bits 63).toNat:Nat):Int)=((x&&&63).toNat:Int):=fun x=>bE8 x 63
 have a3: ∀x:UInt8,IntKind.u8.wrap (((BitVec.ofInt IntKind.u8.bits (x.toNat:Int)|||BitVec.ofInt IntKind.u8.bits 64).toNat:Nat):Int)=((x|||64).toNat:Int):=fun x=>ck0 x 64
 have hsb: ∀(j:Nat) (o:List UInt8) (x:UInt8),(o.map o7).set j (.lit (.int .u8 (x.toNat:Int)))=(o.set j x).map o7:=fun j o x=>by rw[ar1];rfl
 have hg: ∀x:UInt8,((a.set 0 x).map o7).getD 31 .any=.lit (.int .u8 ((a.getD 31 0).toNat:Int)):=fun x=>by
  rw[List.getD,ak8,ar4 (by omega),List.getD,xq1 (show 31 < a.length by omega)]
  rfl
 have hcl:(aX6 a).length=32:=by unfold aX6;rw[List.length_set,List.length_set,ha]
 have hcb:(a.set 0 (a.getD 0 0&&&248)).set 31 (a.getD 31 0&&&63|||64)=aX6 a:=rfl
 have hba:ag0 (List.replicate 32 (AV.lit (.int .u8 0))) 0 ((aX6 a).map o7)=(aX6 a).map o7:=by
  rw[hz];exact as5 (by simp) hcl
 refine y8 [1] [.cell 2 28] 13 Tryz.func67 ?_;repeat' first|simp -dsimp -implicitDefEqProofs (disch:=first|omega|simp only[ll];omega) only[go_sem,ac1,ha,a1,a2,a3,hsb,hg,hcb,hcl,hba]
 exact aa5 _ (Le.refl _) at1 ⟨rfl,rfl⟩
end Sc
end
section
namespace Cu
open Go V Fe
def pX(p:List W):List W:=p.take 5
def pY(p:List W):List W:=(p.drop 5).take 5
def pZ(p:List W):List W:=(p.drop 10).take 5
def pT(p:List W):List W:=(p.drop 15).take 5
def aD7:List W:=dq5 b58
def ay0(x y:List W):List W:=x++(y++(ax8++aa9 x y))
def ax4(e f g h:List W):List W:=aa9 e f++(aa9 g h++(aa9 f g++aa9 e h))
def aW8:List W:=ah4 aD7 aD7
def b84:List W:=[1738742601995546,1146398526822698,2070867633025821,562264141797630,587772402128613]
def b83:List W:=[1801439850948184,1351079888211148,450359962737049,900719925474099,1801439850948198]
def be7:List W:=ay0 b84 b83
def bk0:List W:=ay0 zeroE ax8
def aP(p q:List W):List W:=aa9 (ae9 (pY p) (pX p)) (ae9 (pY q) (pX q))
def bP(p q:List W):List W:=aa9 (ah4 (pY p) (pX p)) (ah4 (pY q) (pX q))
def cP(p q:List W):List W:=aa9 (aa9 (pT p) (pT q)) aW8
def dP(p q:List W):List W:=ah4 (aa9 (pZ p) (pZ q)) (aa9 (pZ p) (pZ q))
def bb6(p q:List W):List W:=ax4 (ae9 (bP p q) (aP p q)) (ae9 (dP p q) (cP p q)) (ah4 (dP p q) (cP p q)) (ah4 (bP p q) (aP p q))
def sqF(x:List W):List W:=aa9 x x
def eI4(x y z:List W):List W:=
 ax4 (ae9 (ah4 (sqF x) (sqF y)) (sqF (ah4 x y))) (ah4 (ah4 (sqF z) (sqF z)) (ae9 (sqF x) (sqF y))) (ae9 (sqF x) (sqF y)) (ah4 (sqF x) (sqF y))
def aC7(q:List W):List W:=eI4 (pX q) (pY q) (pZ q)
def aJ6(k:List UInt8)(i:Nat):Bool:=decide (((k.getD (i/8) 0>>>UInt8.ofNat (i%8))&&&1)=1)
def aB6(p:List W)(k:List UInt8):Nat->List W
 |0=>bk0
 |j+1=>if aJ6 k (255 - j)=true then bb6 (aC7 ((aB6 p k j).take 15)) p else aC7 ((aB6 p k j).take 15)
def aV5(p:List W)(k:List UInt8):List W:=aB6 p k 256
def bv2(out:List UInt8)(odd:Bool):List UInt8:=if odd=true then out.set 31 (out.getD 31 0|||128) else out
def aA7(q:List W):List UInt8:=bv2 (al3 (aa9 (pY q) (al8 (pZ q) aF8))) (bD3 (aa9 (pX q) (al8 (pZ q) aF8)))
theorem aJ4{x y:List W}(hx:x.length=5)(hy:y.length=5):(ay0 x y).length=20:=by
 unfold ay0;rw[List.length_append,List.length_append,List.length_append,ad8,hx,hy];rfl
theorem be0(e f g h:List W):(ax4 e f g h).length=20:=by
 unfold ax4;rw[List.length_append,List.length_append,List.length_append,ad8,ad8,ad8,ad8]
theorem bz7(p q:List W):(bb6 p q).length=20:=be0 _ _ _ _
theorem cc0(q:List W):(aC7 q).length=20:=be0 _ _ _ _
theorem bS7:bk0.length=20:=aJ4 rfl rfl
theorem bY8:be7.length=20:=aJ4 rfl rfl
theorem cC6(p:List W)(k:List UInt8)(j:Nat):(aB6 p k j).length=20:=by
 cases j with
 |zero=>exact bS7
 |succ j=>
  rw[aB6];split
  ·exact bz7 _ _
  ·exact cc0 _
theorem ce7(p:List W)(k:List UInt8):(aV5 p k).length=20:=cC6 p k 256
theorem cl6(out:List UInt8)(odd:Bool):(bv2 out odd).length=out.length:=by
 unfold bv2;split
 ·rw[List.length_set]
 ·rfl
theorem br9(q:List W):(aA7 q).length=32:=by unfold aA7;rw[cl6,aT9]
theorem bV7{p:List W}(h:15<=p.length):(pX p).length=5:=by unfold pX;rw[List.length_take];omega
theorem bG7{p:List W}(h:15<=p.length):(pY p).length=5:=by unfold pY;rw[List.length_take,List.length_drop];omega
theorem bG6{p:List W}(h:15<=p.length):(pZ p).length=5:=by unfold pZ;rw[List.length_take,List.length_drop];omega
theorem dD0{p:List W}(h:20<=p.length):(pT p).length=5:=by unfold pT;rw[List.length_take,List.length_drop];omega
end Cu
end
section
namespace Cu
open Go V Fe
theorem bm7{l:List W}{n:Nat}:(l.map (wAV .u64)).take n=(l.take n).map (wAV .u64):=b07.symm
theorem bX9{l:List W}{n:Nat}:(l.map (wAV .u64)).drop n=(l.drop n).map (wAV .u64):=List.map_drop.symm
theorem cR3:aV4 b58=aD7.map (wAV .u64):=rfl
def aQ9:List W->Nat->List W->List W
 |cs,_,[]=>cs
 |cs,off,x::r=>aQ9 (cs.set off x) (off+1) r
theorem am6: ∀(m l:List W) (k:Nat),ag0 (l.map (wAV .u64)) k (m.map (wAV .u64))=(aQ9 l k m).map (wAV .u64)
 |[],_,_=>rfl
 |x::r,l,k=>by
  rw[List.map_cons,ag0,aQ9,<-am6 r,ar1]
theorem bo4: ∀(m l:List W) (k:Nat),(aQ9 l k m).length=l.length
 |[],_,_=>rfl
 |x::r,l,k=>by rw[aQ9,bo4 r,List.length_set]
theorem bQ9: ∀(zs cs:List W) (off:Nat),off+zs.length<=cs.length->aQ9 cs off zs=cs.take off++zs++cs.drop (off+zs.length)
 |[],cs,off,_=>by simp[aQ9]
 |x::r,cs,off,h=>by
  rw[List.length_cons] at h;rw[aQ9,bQ9 r _ _ (by rw[List.length_set];omega)]
  have e1:(cs.set off x).take (off+1)=cs.take off++[x]:=by
   rw[ci8,List.take_set_of_le (by omega),ay8 (by omega)]
   rfl
  rw[e1,List.drop_set_of_lt (by omega),List.length_cons,show off+(r.length+1)=off+1+r.length by omega]
  simp
theorem an6{l m:List W}(h:m.length=l.length):aQ9 l 0 m=m:=by
 rw[bQ9 _ _ _ (by omega)]
 simp[h]
theorem aN1{n:Nat}:List.replicate n (AV.lit (.int .u64 0))=(List.replicate n (0:W)).map (wAV .u64):=by
 rw[aY9];rfl
theorem dT7{x y z:List W}(hx:x.length=5)(hy:y.length=5)(hz:z.length=5):aQ9 (aQ9 (aQ9 (List.replicate 15 0) 0 x) 5 y) 10 z=x++(y++z):=by
 match x,hx,y,hy,z,hz with
 |[_,_,_,_,_],_,[_,_,_,_,_],_,[_,_,_,_,_],_=>rfl
theorem ez3{q t:List W}(hq:q.length=15)(ht:t.length=5):aQ9 (aQ9 (List.replicate 20 0) 0 q) 15 t=q++t:=by
 rw[bQ9 t _ _ (by rw[bo4,List.length_replicate];omega),bQ9 q _ _ (by rw[List.length_replicate];omega)]
 simp[hq,ht]
theorem aL6{l:List W}:(l.map (wAV .u64)).length=l.length:=List.length_map _
theorem aX4{H M:List AObj}{l m:List W}(h:l=m):Done H (fun y H'=>y=AV.agg (m.map (wAV .u64))/\H'=H) (.agg (l.map (wAV .u64))) (H++M):=by
 subst h;exact aa5 _ (Le.refl _) aV7 ⟨rfl,rfl⟩
theorem cs7(x y:List W)(H:List AObj)(hx:x.length=5)(hy:y.length=5):o8 Tryz.prog 107 [.agg (x.map (wAV .u64)),.agg (y.map (wAV .u64))] H (fun r H'=>r=.agg ((ay0 x y).map (wAV .u64))/\H'=H):=by
 have hc:=fun H=>av6 x y H hx hy
 have hl:=ad8 x y;have h1:ax8.length=5:=rfl;have hq:(x++(y++ax8)).length=15:=by rw[List.length_append,List.length_append,hx,hy];rfl
 have hr:ay0 x y=(x++(y++ax8))++aa9 x y:=by unfold ay0;simp
 have hrl:(ay0 x y).length=20:=aJ4 hx hy;have p3:=dT7 hx hy h1;have p4:=ez3 hq hl;rw[<-hr] at p4;have hs:=an6 (l:=List.replicate 20 0) (m:=ay0 x y) (by rw[List.length_replicate];exact hrl)
 generalize ay0 x y=r at*;generalize x++(y++ax8)=q at*;generalize aa9 x y=t at*;refine y8 [2000011,1000001] [.cell 4 101] 13 Tryz.func107 ?_;repeat' first|refine o6 ?_|simp -dsimp -implicitDefEqProofs (disch:=(simp only[ll];omega)) only[go_sem,ad7,hx,hy,hl,h1,b61,aN1,am6,bo4,List.length_replicate,aL6,p3,p4,hq,hrl,hs]|refine o5 (hc _) ?_|refine⟨_,hc _,?_⟩|refine⟨_,_,hc _,?_⟩|fail
 exact aX4 rfl
theorem cY0(e f g h:List W)(H:List AObj)(he:e.length=5)(hf:f.length=5)(hg:g.length=5)(hh:h.length=5):o8 Tryz.prog 162 [.agg (e.map (wAV .u64)),.agg (f.map (wAV .u64)),.agg (g.map (wAV .u64)),.agg (h.map (wAV .u64))] H (fun r H'=>r=.agg ((ax4 e f g h).map (wAV .u64))/\H'=H):=by
 have c1:=fun H=>av6 e f H he hf
 have c2:=fun H=>av6 g h H hg hh
 have c3:=fun H=>av6 f g H hf hg
 have c4:=fun H=>av6 e h H he hh
 have l1:=ad8 e f;have l2:=ad8 g h;have l3:=ad8 f g;have l4:=ad8 e h;have hq:(aa9 e f++(aa9 g h++aa9 f g)).length=15:=by rw[List.length_append,List.length_append,l1,l2,l3]
 have hr:ax4 e f g h=(aa9 e f++(aa9 g h++aa9 f g))++aa9 e h:=by unfold ax4;simp
 have hrl:(ax4 e f g h).length=20:=be0 _ _ _ _;have p3:=dT7 l1 l2 l3;have p4:=ez3 hq l4;rw[<-hr] at p4;have hs:=an6 (l:=List.replicate 20 0) (m:=ax4 e f g h) (by rw[List.length_replicate];exact hrl)
 clear hr;generalize ax4 e f g h=r at*;generalize aa9 e f++(aa9 g h++aa9 f g)=q at*;generalize aa9 e f=t1 at*;generalize aa9 g h=t2 at*;generalize aa9 f g=t3 at*;generalize aa9 e h=t4 at*;refine y8 [2000011,2000014,2000017,2000021,1000001] [.cell 8 101] 23 Tryz.func162 ?_;repeat' first|refine o6 ?_|simp -dsimp -implicitDefEqProofs (disch:=(simp only[ll];omega)) only[go_sem,ad7,he,hf,hg,hh,l1,l2,l3,l4,aN1,am6,bo4,List.length_replicate,aL6,p3,p4,hq,hrl,hs]|refine o5 (c1 _) ?_|refine⟨_,c1 _,?_⟩|refine⟨_,_,c1 _,?_⟩|refine o5 (c2 _) ?_|refine⟨_,c2 _,?_⟩|refine⟨_,_,c2 _,?_⟩|refine o5 (c3 _) ?_|refine⟨_,c3 _,?_⟩|refine⟨_,_,c3 _,?_⟩|refine o5 (c4 _) ?_|refine⟨_,c4 _,?_⟩|refine⟨_,_,c4 _,?_⟩|fail
 exact aX4 rfl
theorem cQ1:aD7.length=5:=rfl
theorem cA5:aW8.length=5:=by unfold aW8;rw[aF4];rfl
theorem ef1(H:List AObj):o8 Tryz.prog 163 [] H (fun r H'=>r=.agg (aW8.map (wAV .u64))/\H'=H):=by
 have hl:=cQ1;have hc:=fun H=>aU3 aD7 aD7 H hl hl
 have ht:=cA5;have hd:ah4 aD7 aD7=aW8:=rfl;rw[hd] at hc;have hn:=cR3;clear hd;generalize aW8=t at*;generalize aD7=o at*;refine y8 [] [.cell 0 97] 4 Tryz.func163 ?_;repeat' first|simp -dsimp -implicitDefEqProofs only[go_sem,ad7,hl,ht,hn,t5 ht,af4 ht]|refine o5 (hc _) ?_|refine⟨_,hc _,?_⟩|refine⟨_,_,hc _,?_⟩|fail
 exact aX4 rfl
theorem ev6(H:List AObj):o8 Tryz.prog 108 [] H (fun r H'=>r=.agg (bk0.map (wAV .u64))/\H'=H):=by
 have h1:ax8.length=5:=rfl;have hc: ∀H,o8 Tryz.prog 107 [.agg [AV.lit (.int .u64 0),AV.lit (.int .u64 0),AV.lit (.int .u64 0),AV.lit (.int .u64 0),AV.lit (.int .u64 0)],.agg (ax8.map (wAV .u64))] H _:=fun H=>cs7 zeroE ax8 H rfl rfl
 have hd:ay0 zeroE ax8=bk0:=rfl;rw[hd] at hc;have hl:=bS7;have hs:=an6 (l:=List.replicate 20 0) (m:=bk0) (by rw[List.length_replicate];exact hl)
 have hn:=b61;clear hd;generalize bk0=z at*;generalize ax8=o at*;refine y8 [] [.cell 0 101] 4 Tryz.func108 ?_;repeat' first|simp -dsimp -implicitDefEqProofs (disch:=(simp only[ll];omega)) only[go_sem,ad7,h1,hn,hl,aN1,am6,hs,aL6]|refine o5 (hc _) ?_|refine⟨_,hc _,?_⟩|refine⟨_,_,hc _,?_⟩|fail
 exact aX4 rfl
theorem dN9(H:List AObj):o8 Tryz.prog 63 [] H (fun r H'=>r=.agg (be7.map (wAV .u64))/\H'=H):=by
 have hc: ∀H,o8 Tryz.prog 107 [.agg [.lit (.int .u64 1738742601995546),.lit (.int .u64 1146398526822698),.lit (.int .u64 2070867633025821),.lit (.int .u64 562264141797630),.lit (.int .u64 587772402128613)],.agg [.lit (.int .u64 1801439850948184),.lit (.int .u64 1351079888211148),.lit (.int .u64 450359962737049),.lit (.int .u64 900719925474099),.lit (.int .u64 1801439850948198)]] H _:=fun H=>cs7 b84 b83 H rfl rfl
 have hd:ay0 b84 b83=be7:=rfl;rw[hd] at hc;have hl:=bY8;have hs:=an6 (l:=List.replicate 20 0) (m:=be7) (by rw[List.length_replicate];exact hl)
 clear hd;generalize be7=z at*;refine y8 [] [.cell 0 101] 4 Tryz.func63 ?_;repeat' first|simp -dsimp -implicitDefEqProofs (disch:=(simp only[ll];omega)) only[go_sem,ad7,hl,aN1,am6,hs,aL6]|refine o5 (hc _) ?_|refine⟨_,hc _,?_⟩|refine⟨_,_,hc _,?_⟩|fail
 exact aX4 rfl
theorem tX{p:List W}:(p.take 15).take 5=pX p:=by rw[bJ3];rfl
theorem tY{p:List W}:((p.take 15).drop 5).take 5=pY p:=by rw[b03,bJ3];rfl
theorem tZ{p:List W}:((p.take 15).drop 10).take 5=pZ p:=by rw[b03,bJ3];rfl
theorem tT{p:List W}(h:p.length=20):p.drop 15=pT p:=by
 unfold pT;rw[al2 (by rw[List.length_drop];omega)]
theorem bG4(p q:List W)(H:List AObj)(hp:p.length=20)(hq:q.length=20):o8 Tryz.prog 110 [.agg (p.map (wAV .u64)),.agg (q.map (wAV .u64))] H (fun r H'=>r=.agg ((bb6 p q).map (wAV .u64))/\H'=H):=by
 have px:=bV7 (p:=p) (by omega)
 have py:=bG7 (p:=p) (by omega)
 have pz:=bG6 (p:=p) (by omega)
 have pt:=dD0 (p:=p) (by omega)
 have qx:=bV7 (p:=q) (by omega)
 have qy:=bG7 (p:=q) (by omega)
 have qz:=bG6 (p:=q) (by omega)
 have qt:=dD0 (p:=q) (by omega)
 have c1:=fun H=>a94 (pY p) (pX p) H py px
 have c2:=fun H=>a94 (pY q) (pX q) H qy qx
 have l1:=(au0 (pY p) (pX p)).trans py;have l2:=(au0 (pY q) (pX q)).trans qy;have c3:=fun H=>av6 (ae9 (pY p) (pX p)) (ae9 (pY q) (pX q)) H l1 l2
 have l3:=ad8 (ae9 (pY p) (pX p)) (ae9 (pY q) (pX q));have c4:=fun H=>aU3 (pY p) (pX p) H py px
 have c5:=fun H=>aU3 (pY q) (pX q) H qy qx
 have l4:=(aF4 (pY p) (pX p)).trans py;have l5:=(aF4 (pY q) (pX q)).trans qy;have c6:=fun H=>av6 (ah4 (pY p) (pX p)) (ah4 (pY q) (pX q)) H l4 l5
 have l6:=ad8 (ah4 (pY p) (pX p)) (ah4 (pY q) (pX q));have c7:=fun H=>av6 (pT p) (pT q) H pt qt
 have l7:=ad8 (pT p) (pT q);have c8:=ef1;have l8:=cA5;have c9:=fun H=>av6 (aa9 (pT p) (pT q)) aW8 H l7 l8
 have l9:=ad8 (aa9 (pT p) (pT q)) aW8;have c10:=fun H=>av6 (pZ p) (pZ q) H pz qz
 have l10:=ad8 (pZ p) (pZ q);have c11:=fun H=>aU3 (aa9 (pZ p) (pZ q)) (aa9 (pZ p) (pZ q)) H l10 l10
 have l11:=(aF4 (aa9 (pZ p) (pZ q)) (aa9 (pZ p) (pZ q))).trans l10;unfold bb6 aP bP cP dP;generalize ae9 (pY p) (pX p)=x1 at*;generalize ae9 (pY q) (pX q)=x2 at*;generalize ah4 (pY p) (pX p)=x4 at*;generalize ah4 (pY q) (pX q)=x5 at*;generalize aa9 (pT p) (pT q)=x7 at*;generalize aW8=x8 at*;generalize aa9 (pZ p) (pZ q)=x10 at*;generalize aa9 x1 x2=a at*;generalize aa9 x4 x5=b at*;generalize aa9 x7 x8=c at*;generalize ah4 x10 x10=d at*;have c12:=fun H=>a94 b a H l6 l3
 have l12:=(au0 b a).trans l6;have c13:=fun H=>a94 d c H l11 l9
 have l13:=(au0 d c).trans l11;have c14:=fun H=>aU3 d c H l11 l9
 have l14:=(aF4 d c).trans l11;have c15:=fun H=>aU3 b a H l6 l3
 have l15:=(aF4 b a).trans l6;generalize ae9 b a=e at*;generalize ae9 d c=f at*;generalize ah4 d c=g at*;generalize ah4 b a=h at*;have c16:=fun H=>cY0 e f g h H l12 l13 l14 l15
 have l16:=be0 e f g h;generalize ax4 e f g h=r at*;have hs:=an6 (l:=List.replicate 20 0) (m:=r) (by rw[List.length_replicate];exact l16)
 have ha:=aA9 (l:=x10) (m:=d) (by omega)
 refine y8 [2000015,2000022,2000023,2000030,2000037,2000038,2000058,2000061,2000064,2000067,2000068,1000001,1000001002015,1000001005015,1000001006015,1000001009015,1000001012015,1000001013015,1000001014015,1000002,1000002002015,1000002005015,1000002006015,1000002009015,1000002012015,1000002013015,1000002014015,1000006] [.cell 4 101] 69 Tryz.func110 ?_
 repeat' first|refine o6 ?_|simp -dsimp -implicitDefEqProofs (disch:=omega) only[go_sem,ad7,hp,hq,bm7,bX9,tX,tY,tZ,tT hp,tT hq,px,py,pz,pt,qx,qy,qz,qt,l1,l2,l3,l4,l5,l6,l7,l8,l9,l10,l11,l12,l13,l14,l15,l16,af4 l3,af4 l6,af4 l9,af4 l10,ha,aN1,am6,hs,aL6]|refine o5 (c1 _) ?_|refine⟨_,c1 _,?_⟩|refine⟨_,_,c1 _,?_⟩|refine o5 (c2 _) ?_|refine⟨_,c2 _,?_⟩|refine⟨_,_,c2 _,?_⟩|refine o5 (c3 _) ?_|refine⟨_,c3 _,?_⟩|refine⟨_,_,c3 _,?_⟩|refine o5 (c4 _) ?_|refine⟨_,c4 _,?_⟩|refine⟨_,_,c4 _,?_⟩|refine o5 (c5 _) ?_|refine⟨_,c5 _,?_⟩|refine⟨_,_,c5 _,?_⟩|refine o5 (c6 _) ?_|refine⟨_,c6 _,?_⟩|refine⟨_,_,c6 _,?_⟩|refine o5 (c7 _) ?_|refine⟨_,c7 _,?_⟩|refine⟨_,_,c7 _,?_⟩|refine o5 (c8 _) ?_|refine⟨_,c8 _,?_⟩|refine⟨_,_,c8 _,?_⟩|refine o5 (c9 _) ?_|refine⟨_,c9 _,?_⟩|refine⟨_,_,c9 _,?_⟩|refine o5 (c10 _) ?_|refine⟨_,c10 _,?_⟩|refine⟨_,_,c10 _,?_⟩|refine o5 (c11 _) ?_|refine⟨_,c11 _,?_⟩|refine⟨_,_,c11 _,?_⟩|refine o5 (c12 _) ?_|refine⟨_,c12 _,?_⟩|refine⟨_,_,c12 _,?_⟩|refine o5 (c13 _) ?_|refine⟨_,c13 _,?_⟩|refine⟨_,_,c13 _,?_⟩|refine o5 (c14 _) ?_|refine⟨_,c14 _,?_⟩|refine⟨_,_,c14 _,?_⟩|refine o5 (c15 _) ?_|refine⟨_,c15 _,?_⟩|refine⟨_,_,c15 _,?_⟩|refine o5 (c16 _) ?_|refine⟨_,c16 _,?_⟩|refine⟨_,_,c16 _,?_⟩|refine vcA ?_ ?_
 exact aX4 rfl
theorem dM2(q:List W)(H:List AObj)(hq:q.length=15):o8 Tryz.prog 109 [.agg (q.map (wAV .u64))] H (fun r H'=>r=.agg ((aC7 q).map (wAV .u64))/\H'=H):=by
 have qx:=bV7 (p:=q) (by omega)
 have qy:=bG7 (p:=q) (by omega)
 have qz:=bG6 (p:=q) (by omega)
 have eX:q.take 5=pX q:=rfl;have eY:(q.drop 5).take 5=pY q:=rfl;have eZ:(q.drop 10).take 5=pZ q:=rfl;have eZ2:q.drop 10=pZ q:=by
  unfold pZ;rw[al2 (by rw[List.length_drop];omega)]
 unfold aC7;generalize pX q=x at*;generalize pY q=y at*;generalize pZ q=z at*;have c1:=fun H=>aU2 x H qx
 have c2:=fun H=>aU2 y H qy
 have c3:=fun H=>aU2 z H qz
 have l1:=ad8 x x;have l2:=ad8 y y;have l3:=ad8 z z;unfold eI4 sqF;generalize aa9 x x=a at*;generalize aa9 y y=b at*;generalize aa9 z z=c0 at*;have c4:=fun H=>aU3 c0 c0 H l3 l3
 have l4:=(aF4 c0 c0).trans l3;have c5:=fun H=>aU3 a b H l1 l2
 have l5:=(aF4 a b).trans l1;have c6:=fun H=>aU3 x y H qx qy
 have l6:=(aF4 x y).trans qx;have c8:=fun H=>a94 a b H l1 l2
 have l8:=(au0 a b).trans l1;generalize ah4 c0 c0=c at*;generalize ah4 a b=h at*;generalize ah4 x y=s at*;generalize ae9 a b=g at*;have c7:=fun H=>aU2 s H l6
 have l7:=ad8 s s;generalize aa9 s s=ss at*;have c9:=fun H=>a94 h ss H l5 l7
 have l9:=(au0 h ss).trans l5;have c10:=fun H=>aU3 c g H l4 l8
 have l10:=(aF4 c g).trans l4;generalize ae9 h ss=e at*;generalize ah4 c g=f at*;have c11:=fun H=>cY0 e f g h H l9 l10 l8 l5
 have l11:=be0 e f g h;generalize ax4 e f g h=r at*;have hs:=an6 (l:=List.replicate 20 0) (m:=r) (by rw[List.length_replicate];exact l11)
 have ha:=aA9 (l:=c0) (m:=c) (by omega)
 refine aw8 ab2 mixed [2000029,2000030,2000031,2000038,2000041,1000004,1000004000008,1000004002008,1000004004008,1000004005008,1000004006008,1000004007008,1000006] 1 (rs:=[.cell 2 101]) (n:=42) Tryz.func109 rfl rfl rfl rfl (nlb rfl) (by kernel_rfl) ?_
 repeat' simp -dsimp -implicitDefEqProofs only[go_sem,ad7,hq]
 refine cY9 ab2 mixed [2000029,2000030,2000031,2000038,2000041,1000004,1000004000008,1000004002008,1000004004008,1000004005008,1000004006008,1000004007008,1000006] 97 9 3 (by kernel_rfl) ?_
 repeat' first|refine o6 ?_|simp -dsimp -implicitDefEqProofs (disch:=omega) only[go_sem,ad7,hq,bm7,bX9,eX,eY,eZ,eZ2,qx,qy,qz,l1,l2,l3,l4,l5,l6,l7,l8,l9,l10,l11,af4 l1,af4 l2,af4 l3,af4 l5,af4 l8,af4 l9,ha,aN1,am6,hs,aL6,aP8,ar7]|refine o5 (fun _ _ _=>c1 _) ?_|refine⟨_,fun _ _ _=>c1 _,?_⟩|refine⟨_,_,fun _ _ _=>c1 _,?_⟩|refine o5 (fun _ _ _=>c2 _) ?_|refine⟨_,fun _ _ _=>c2 _,?_⟩|refine⟨_,_,fun _ _ _=>c2 _,?_⟩|refine o5 (fun _ _ _=>c3 _) ?_|refine⟨_,fun _ _ _=>c3 _,?_⟩|refine⟨_,_,fun _ _ _=>c3 _,?_⟩|refine o5 (c4 _) ?_|refine⟨_,c4 _,?_⟩|refine⟨_,_,c4 _,?_⟩|refine o5 (c5 _) ?_|refine⟨_,c5 _,?_⟩|refine⟨_,_,c5 _,?_⟩|refine o5 (c6 _) ?_|refine⟨_,c6 _,?_⟩|refine⟨_,_,c6 _,?_⟩|refine o5 (c7 _) ?_|refine⟨_,c7 _,?_⟩|refine⟨_,_,c7 _,?_⟩|refine o5 (c8 _) ?_|refine⟨_,c8 _,?_⟩|refine⟨_,_,c8 _,?_⟩|refine o5 (c9 _) ?_|refine⟨_,c9 _,?_⟩|refine⟨_,_,c9 _,?_⟩|refine o5 (c10 _) ?_|refine⟨_,c10 _,?_⟩|refine⟨_,_,c10 _,?_⟩|refine o5 (c11 _) ?_|refine⟨_,c11 _,?_⟩|refine⟨_,_,c11 _,?_⟩|refine vcA ?_ ?_
 exact aX4 rfl
end Cu
end
section
namespace Cu
open Go V Fe
theorem eM8{x:UInt8}{n:Nat}(h:n < 8):(x.toNat:Int).fdiv (2^n)=((x>>>UInt8.ofNat n).toNat:Int):=by
 rw[ao4 (ci5 (Int.pow_pos (by decide)))]
 have:((2:Int)^n)=((2^n:Nat):Int):=by simp
 rw[this,Int.toNat_natCast,UInt8.toNat_shiftRight];congr 1
 rw[aK5];congr 2
 simp
 omega
theorem d78{k:List UInt8}{i:Nat}:((k.getD (i/8) 0>>>UInt8.ofNat (i%8))&&&1=1)=(aJ6 k i=true):=by
 unfold aJ6;rw[decide_eq_true_eq]
theorem cS0(p:List W)(k:List UInt8)(H:List AObj)(hp:p.length=20)(hk:k.length=32):o8 Tryz.prog 64 [.agg (p.map (wAV .u64)),.agg (k.map o7)] H (fun r H'=>r=.agg ((aV5 p k).map (wAV .u64))/\H'=H):=by
 have hz:=bS7;have cz:=ev6;have hs0:=an6 (l:=List.replicate 20 0) (m:=bk0) (by rw[List.length_replicate];exact hz)
 have hM:aV5 p k=aB6 p k 256:=rfl;have h0:bk0=aB6 p k 0:=rfl;refine y8 [] [.cell 4 101] 28 Tryz.func64 ?_;repeat' first|simp -dsimp -implicitDefEqProofs only[go_sem,ad7,ac1,hp,hk,hz,aN1,am6,hs0,aL6]|refine o5 (cz _) ?_|refine⟨_,_,cz _,?_⟩|fail
 rw[h0];refine aa8 ab2 mixed [] [] (fun j:Nat=>j<=256) (fun j=>[(6,.lit (.int .i64 (255 - (j:Int)))),(2,.ip (.agg (p.map (wAV .u64)))),(3,.ip (.agg (k.map o7))),(4,.mp H.length 0),(5,.mp (H.length+1) 0)]) (fun j=>H++[.cells (.one 101) ((List.replicate 20 (0:W)).map (wAV .u64)),.cells (.one 101) ((aB6 p k j).map (wAV .u64))]) (fun j=>256 - j) (by kernel_rfl) ?_ 0 (by omega) y9 rfl
 intro j hj;have hml:=cC6 p k j;have hnx:aB6 p k (j+1)=if aJ6 k (255 - j)=true then bb6 (aC7 ((aB6 p k j).take 15)) p else aC7 ((aB6 p k j).take 15):=rfl
 by_cases h:j < 256
 ·have hjc:(0<=255 - (j:Int))=True:=eq_true (by omega)
  have hq:((255 - (j:Int))/8).toNat=(255 - j)/8:=by omega
  have hr:((255 - (j:Int))%8).toNat=(255 - j)%8:=by omega
  have hsh:=eM8 (x:=k.getD ((255 - j)/8) 0) (n:=(255 - j)%8) (by omega)
  have hb:=d78 (k:=k) (i:=255 - j);have hm1:(0<=(255 - (j:Int))%8)=True:=eq_true (by omega)
  have hs:255 - (j:Int) - 1=255 - ((j+1:Nat):Int):=by omega
  generalize aB6 p k j=m at*;have ht:(m.take 15).length=15:=by rw[List.length_take];omega
  have c1:=fun H=>dM2 (m.take 15) H ht
  have l1:=cc0 (m.take 15);have t1:(List.map (wAV .u64) m).take 15=(m.take 15).map (wAV .u64):=bm7;generalize aC7 (m.take 15)=d at*;generalize m.take 15=mt at*;have c2:=fun H=>bG4 d p H l1 hp
  have l2:=bz7 d p;generalize bb6 d p=s at*;have ha:=an6 (l:=m) (m:=d) (by omega)
  have ha2:=an6 (l:=d) (m:=s) (by omega)
  by_cases hbt:aJ6 k (255 - j)=true
  ·rw[if_pos hbt] at hnx
   have hbc:=eq_true hbt;rw[hbc] at hb;repeat' first|refine o6 ?_|simp -dsimp -implicitDefEqProofs (disch:=first|omega|simp only[ll];omega) only[go_sem,hjc,hq,hr,hk,hm1,hsh,cv4,cv3,hb,hp,hml,ht,l1,l2,ad7,ac1,t1,am6,ha,ha2,aL6]|refine o5 (c1 _) ?_|refine⟨_,_,c1 _,?_⟩|refine o5 (c2 _) ?_|refine⟨_,_,c2 _,?_⟩|refine vcA ?_ ?_|omega
   rw[hs,<-hnx];refine again (j+1) ?_ ?_ rfl y9
   ·omega
   ·omega
  ·rw[if_neg hbt] at hnx
   have hbc:=eq_false hbt;rw[hbc] at hb;repeat' first|refine o6 ?_|simp -dsimp -implicitDefEqProofs (disch:=omega) only[go_sem,hjc,hq,hr,hk,hm1,hsh,cv4,cv3,hb,hp,hml,ht,l1,l2,ad7,ac1,t1,am6,ha,ha2,aL6]|refine o5 (c1 _) ?_|refine⟨_,_,c1 _,?_⟩|refine o5 (c2 _) ?_|refine⟨_,_,c2 _,?_⟩|refine vcA ?_ ?_|omega
   rw[hs,<-hnx];refine again (j+1) ?_ ?_ rfl y9
   ·omega
   ·omega
 ·obtain rfl:j=256:=by omega
  rw[hM];generalize aB6 p k 256=r at*;have hs:=an6 (l:=List.replicate 20 0) (m:=r) (by rw[List.length_replicate];exact hml)
  repeat' first|refine o6 ?_|simp -dsimp -implicitDefEqProofs (disch:=(simp only[ll];omega)) only[go_sem,ad7,hml,am6,hs,aL6,List.length_replicate]
  exact aX4 rfl
theorem eN9(x:UInt8):IntKind.u8.wrap (((BitVec.ofInt IntKind.u8.bits (x.toNat:Int)|||BitVec.ofInt IntKind.u8.bits 128).toNat:Nat):Int)=((x|||128).toNat:Int):=ck0 x 128
theorem bZ1(x:UInt8):IntKind.u8.wrap (((BitVec.ofInt IntKind.u8.bits (x.toNat:Int)&&&BitVec.ofInt IntKind.u8.bits 128).toNat:Nat):Int)=((x&&&128).toNat:Int):=bE8 x 128
theorem bZ2(x:UInt8):IntKind.u8.wrap (((BitVec.ofInt IntKind.u8.bits (x.toNat:Int)&&&BitVec.ofInt IntKind.u8.bits 127).toNat:Nat):Int)=((x&&&127).toNat:Int):=bE8 x 127
theorem b49{j:Nat}{o:List UInt8}{x:UInt8}:(o.map o7).set j (.lit (.int .u8 (x.toNat:Int)))=(o.set j x).map o7:=by rw[ar1];rfl
theorem db3:(List.replicate 32 (AV.lit (.int .u8 0)))=(List.replicate 32 (0:UInt8)).map o7:=by rw[aY9];rfl
theorem aj7{o:List UInt8}(h:o.length=32):ag0 (List.replicate 32 (AV.lit (.int .u8 0))) 0 (o.map o7)=o.map o7:=by
 rw[db3];exact as5 (by simp) h
theorem cO9(q:List W)(H:List AObj)(hq:q.length=15):o8 Tryz.prog 65 [.agg (q.map (wAV .u64))] H (fun r H'=>r=.agg ((aA7 q).map o7)/\H'=H):=by
 have qx:=bV7 (p:=q) (by omega)
 have qy:=bG7 (p:=q) (by omega)
 have qz:=bG6 (p:=q) (by omega)
 have eX:q.take 5=pX q:=rfl;have eY:(q.drop 5).take 5=pY q:=rfl;have eZ2:q.drop 10=pZ q:=by
  unfold pZ;rw[al2 (by rw[List.length_drop];omega)]
 unfold aA7;generalize pX q=x at*;generalize pY q=y at*;generalize pZ q=z at*;have c1:=fun H=>cv1 z H qz
 have l1:=bb4 z aF8;generalize al8 z aF8=ov at*;have c2:=fun H=>av6 y ov H qy l1
 have l2:=ad8 y ov;have c3:=fun H=>av6 x ov H qx l1
 have l3:=ad8 x ov;generalize aa9 y ov=yo at*;generalize aa9 x ov=xo at*;have c4:=fun H=>bI9 yo H l2
 have l4:=aT9 yo;have c5:=fun H=>ed0 xo H l3
 generalize al3 yo=b at*;unfold bv2;cases ho:bD3 xo with
 |true=>
  rw[if_pos rfl];rw[ho] at c5;have hl:(b.set 31 (b.getD 31 0|||128)).length=32:=by rw[List.length_set,l4]
  refine y8 [] [.cell 2 28] 23 Tryz.func65 ?_;repeat' first|refine o6 ?_|simp -dsimp -implicitDefEqProofs (disch:=first|omega|simp only[ll];omega) only[go_sem,ad7,ac1,hq,bm7,bX9,eX,eY,eZ2,qx,qy,qz,l1,l2,l3,l4,af4 l1,aj7 l4,eN9,b49,hl,aj7 hl]|refine o5 (c1 _) ?_|refine⟨_,_,c1 _,?_⟩|refine o5 (c2 _) ?_|refine⟨_,_,c2 _,?_⟩|refine o5 (c3 _) ?_|refine⟨_,_,c3 _,?_⟩|refine o5 (c4 _) ?_|refine⟨_,_,c4 _,?_⟩|refine o5 (c5 _) ?_|refine⟨_,_,c5 _,?_⟩|fail
  exact aa5 _ (Le.refl _) at1 ⟨rfl,rfl⟩
 |false=>
  rw[if_neg (by decide)]
  rw[ho] at c5;refine y8 [] [.cell 2 28] 23 Tryz.func65 ?_;repeat' first|refine o6 ?_|simp -dsimp -implicitDefEqProofs (disch:=first|omega|simp only[ll];omega) only[go_sem,ad7,ac1,hq,bm7,bX9,eX,eY,eZ2,qx,qy,qz,l1,l2,l3,l4,af4 l1,aj7 l4]|refine o5 (c1 _) ?_|refine⟨_,_,c1 _,?_⟩|refine o5 (c2 _) ?_|refine⟨_,_,c2 _,?_⟩|refine o5 (c3 _) ?_|refine⟨_,_,c3 _,?_⟩|refine o5 (c4 _) ?_|refine⟨_,_,c4 _,?_⟩|refine o5 (c5 _) ?_|refine⟨_,_,c5 _,?_⟩|fail
  exact aa5 _ (Le.refl _) at1 ⟨rfl,rfl⟩
def aF6(b:List UInt8):List UInt8:=b.set 31 (b.getD 31 0&&&127)
def bk8(b:List UInt8):Bool:=decide (¬(b.getD 31 0&&&128)=0)
def xSq(y:List W):List W:=aa9 (ae9 (sqF y) ax8) (al8 (ah4 (aa9 (sqF y) aD7) ax8) aF8)
def aw4:List W:=List.replicate 20 0
def b46(odd:Bool)(r:List W×Bool)(y:List W):List W×Bool:=
 if r.2=true then(if odd=true then(if al3 r.1=al3 zeroE then(aw4,false) else(ay0 (ae9 zeroE r.1) y,true)) else(ay0 r.1 y,true)) else(aw4,false)
def aI1(b:List UInt8):List W×Bool:=
 if al3 (au7 (aF6 b))=aF6 b then b46 (bk8 b) (aB2 (xSq (au7 (aF6 b)))) (au7 (aF6 b)) else(aw4,false)
def co5(p:List W×Bool):AV:=.tup [.agg (p.1.map (wAV .u64)),.bool p.2]
theorem dG5{m:Nat}{p:List W×Bool}:Low m (co5 p):=ah9 (aa3 aV7 (aa3 (.lit _) ac4))
theorem bI0{H M:List AObj}{p:List W×Bool}{l:List W}{b:Bool}(h:(l,b)=p):Done H (fun y H'=>y=co5 p/\H'=H) (.tup [.agg (l.map (wAV .u64)),.bool b]) (H++M):=by
 subst h;exact aa5 (co5 (l,b)) (Le.refl _) dG5 ⟨rfl,rfl⟩
theorem cW4(b:List UInt8):(au7 b).length=5:=by unfold au7;rw[az9];rfl
theorem dA2(odd:Bool)(r:List W×Bool)(y:List W)(hr:r.1.length=5)(hy:y.length=5):(b46 odd r y).1.length=20:=by
 unfold b46;repeat' split
 ·rfl
 ·exact aJ4 (au0 _ _) hy
 ·exact aJ4 hr hy
 ·rfl
theorem dB8(b:List UInt8):(aI1 b).1.length=20:=by
 unfold aI1;split
 ·exact dA2 _ _ _ (cm1 _) (cW4 _)
 ·rfl
theorem bE7{x:UInt8}:((x.toNat:Int)=0)=(x=0):=by
 apply propext
 constructor
 ·intro h
  apply aZ0.1
  show _=0
  omega
 ·intro h
  rw[h];rfl
theorem ey8(b:List UInt8)(H:List AObj)(hb:b.length=32):o8 Tryz.prog 202 [.agg (b.map o7)] H (fun r H'=>r=co5 (aI1 b)/\H'=H):=by
 have hlb:(aF6 b).length=32:=by unfold aF6;rw[List.length_set,hb]
 have elb:b.set 31 (b.getD 31 0&&&127)=aF6 b:=rfl;have esg:(¬(b.getD 31 0&&&128)=0)=(bk8 b=true):=by unfold bk8;rw[decide_eq_true_eq]
 have hn0:aw4.length=20:=rfl;have hn1:List.replicate 20 (0:W)=aw4:=rfl;have hns:=an6 (l:=aw4) (m:=aw4) rfl;unfold aI1;generalize aF6 b=lb at*;generalize bk8 b=sg at*;have c1:=fun H=>ea2 lb H hlb
 by_cases hr:al3 (au7 lb)=lb
 ·rw[if_pos hr]
  rw[decide_eq_true hr] at c1;clear hr;have l1:=cW4 lb;have c2:=fun H=>dQ3 lb H hlb
  have ho:ax8.length=5:=rfl;have hc5:=cQ1;have en1:=b61;have en2:=cR3;have c10: ∀l:List W,l.length=5-> ∀H,o8 Tryz.prog 230 [.agg (l.map (wAV .u64)),.agg [AV.lit (.int .u64 0),AV.lit (.int .u64 0),AV.lit (.int .u64 0),AV.lit (.int .u64 0),AV.lit (.int .u64 0)]] H (fun y H'=>y=.bool (decide (al3 l=al3 zeroE))/\H'=H):=fun l hl H=>bZ7 l zeroE H hl rfl
  unfold xSq sqF;generalize au7 lb=y at*;generalize ax8=one at*;generalize aD7=once at*;have c3:=fun H=>aU2 y H l1
  have l3:=ad8 y y;generalize aa9 y y=yy at*;have c4:=fun H=>a94 yy one H l3 ho
  have l4:=(au0 yy one).trans l3;have c5:=fun H=>av6 yy once H l3 hc5
  have l5:=ad8 yy once;generalize ae9 yy one=m1 at*;generalize aa9 yy once=t1 at*;have c6:=fun H=>aU3 t1 one H l5 ho
  have l6:=(aF4 t1 one).trans l5;generalize ah4 t1 one=s1 at*;have c7:=fun H=>cv1 s1 H l6
  have l7:=bb4 s1 aF8;generalize al8 s1 aF8=iv at*;have c8:=fun H=>av6 m1 iv H l4 l7
  have l8:=ad8 m1 iv;generalize aa9 m1 iv=x0 at*;have c9:=fun H=>d93 x0 H l8
  have l9:=cm1 x0;unfold bF4 at c9;generalize aB2 x0=rt at*;obtain⟨x,k⟩:=rt;dsimp only at*;have c11:=c10 x l9;have c12:=fun H=>bZ8 x H l9
  have l12:(ae9 zeroE x).length=5:=au0 _ _;unfold b46;dsimp only;generalize ae9 zeroE x=nx at*;generalize al3 zeroE=zb at*;clear c10;have a12:=aA9 (l:=x) (m:=nx) (by omega)
  cases hk:k with
  |false=>
   rw[hk] at c9;rw[if_neg (by decide)]
   generalize aw4=n0 at*;refine y8 [1,2000028,2000031,2000033,2000034,2000035,2000036,1000007,1000007000014,1000007001014,1000007002014,1000007003014,1000007004014,1000007005014,1000007006014,1000007007014,1000007008014,1000007009014,1000007010014] [.cell 2 101,.tmp 3] 56 Tryz.func202 ?_;repeat' first|refine o6 ?_|simp -dsimp -implicitDefEqProofs (disch:=first|omega|simp only[ll];omega) only[go_sem,ad7,ac1,hb,hlb,bZ1,bZ2,b49,elb,bE7,esg,aN1,am6,hn0,hn1,hns,aL6,en1,en2,ho,hc5,l1,l3,l4,l5,l6,l7,l8,l9,af4 l1,af4 l3,af4 l9]|refine o5 (c1 _) ?_|refine⟨_,_,c1 _,?_⟩|refine o5 (c2 _) ?_|refine⟨_,_,c2 _,?_⟩|refine o5 (c3 _) ?_|refine⟨_,_,c3 _,?_⟩|refine o5 (c4 _) ?_|refine⟨_,_,c4 _,?_⟩|refine o5 (c5 _) ?_|refine⟨_,_,c5 _,?_⟩|refine o5 (c6 _) ?_|refine⟨_,_,c6 _,?_⟩|refine o5 (c7 _) ?_|refine⟨_,_,c7 _,?_⟩|refine o5 (c8 _) ?_|refine⟨_,_,c8 _,?_⟩|refine o5 (c9 _) ?_|refine⟨_,_,c9 _,?_⟩|refine vcA ?_ ?_
   exact bI0 rfl
  |true=>
   rw[hk] at c9;rw[if_pos rfl];cases sg with
   |false=>
    rw[if_neg (by decide)]
    have c13:=fun H=>cs7 x y H l9 l1
    have l13:=aJ4 l9 l1;have a13:=an6 (l:=aw4) (m:=ay0 x y) (by rw[l13,hn0])
    generalize ay0 x y=fp at*;generalize aw4=n0 at*;refine y8 [1,2000028,2000031,2000033,2000034,2000035,2000036,1000007,1000007000014,1000007001014,1000007002014,1000007003014,1000007004014,1000007005014,1000007006014,1000007007014,1000007008014,1000007009014,1000007010014] [.cell 2 101,.tmp 3] 56 Tryz.func202 ?_;repeat' first|refine o6 ?_|simp -dsimp -implicitDefEqProofs (disch:=first|omega|simp only[ll];omega) only[go_sem,ad7,ac1,hb,hlb,bZ1,bZ2,b49,elb,bE7,esg,aN1,am6,hn0,hn1,hns,aL6,en1,en2,ho,hc5,l1,l3,l4,l5,l6,l7,l8,l9,l13,a13,af4 l1,af4 l3,af4 l9]|refine o5 (c1 _) ?_|refine⟨_,_,c1 _,?_⟩|refine o5 (c2 _) ?_|refine⟨_,_,c2 _,?_⟩|refine o5 (c3 _) ?_|refine⟨_,_,c3 _,?_⟩|refine o5 (c4 _) ?_|refine⟨_,_,c4 _,?_⟩|refine o5 (c5 _) ?_|refine⟨_,_,c5 _,?_⟩|refine o5 (c6 _) ?_|refine⟨_,_,c6 _,?_⟩|refine o5 (c7 _) ?_|refine⟨_,_,c7 _,?_⟩|refine o5 (c8 _) ?_|refine⟨_,_,c8 _,?_⟩|refine o5 (c9 _) ?_|refine⟨_,_,c9 _,?_⟩|refine o5 (c13 _) ?_|refine⟨_,_,c13 _,?_⟩|refine vcA ?_ ?_
    exact bI0 rfl
   |true=>
    rw[if_pos rfl];by_cases hz:al3 x=zb
    ·rw[if_pos hz]
     rw[decide_eq_true hz] at c11;generalize aw4=n0 at*;refine y8 [1,2000028,2000031,2000033,2000034,2000035,2000036,1000007,1000007000014,1000007001014,1000007002014,1000007003014,1000007004014,1000007005014,1000007006014,1000007007014,1000007008014,1000007009014,1000007010014] [.cell 2 101,.tmp 3] 56 Tryz.func202 ?_;repeat' first|refine o6 ?_|simp -dsimp -implicitDefEqProofs (disch:=first|omega|simp only[ll];omega) only[go_sem,ad7,ac1,hb,hlb,bZ1,bZ2,b49,elb,bE7,esg,aN1,am6,hn0,hn1,hns,aL6,en1,en2,ho,hc5,l1,l3,l4,l5,l6,l7,l8,l9,af4 l1,af4 l3,af4 l9]|refine o5 (c1 _) ?_|refine⟨_,_,c1 _,?_⟩|refine o5 (c2 _) ?_|refine⟨_,_,c2 _,?_⟩|refine o5 (c3 _) ?_|refine⟨_,_,c3 _,?_⟩|refine o5 (c4 _) ?_|refine⟨_,_,c4 _,?_⟩|refine o5 (c5 _) ?_|refine⟨_,_,c5 _,?_⟩|refine o5 (c6 _) ?_|refine⟨_,_,c6 _,?_⟩|refine o5 (c7 _) ?_|refine⟨_,_,c7 _,?_⟩|refine o5 (c8 _) ?_|refine⟨_,_,c8 _,?_⟩|refine o5 (c9 _) ?_|refine⟨_,_,c9 _,?_⟩|refine o5 (c11 _) ?_|refine⟨_,_,c11 _,?_⟩|refine vcA ?_ ?_
     exact bI0 rfl
    ·rw[if_neg hz]
     rw[decide_eq_false hz] at c11;have c13:=fun H=>cs7 nx y H l12 l1
     have l13:=aJ4 l12 l1;have a13:=an6 (l:=aw4) (m:=ay0 nx y) (by rw[l13,hn0])
     generalize ay0 nx y=fp at*;generalize aw4=n0 at*;refine y8 [1,2000028,2000031,2000033,2000034,2000035,2000036,1000007,1000007000014,1000007001014,1000007002014,1000007003014,1000007004014,1000007005014,1000007006014,1000007007014,1000007008014,1000007009014,1000007010014] [.cell 2 101,.tmp 3] 56 Tryz.func202 ?_;repeat' first|refine o6 ?_|simp -dsimp -implicitDefEqProofs (disch:=first|omega|simp only[ll];omega) only[go_sem,ad7,ac1,hb,hlb,bZ1,bZ2,b49,elb,bE7,esg,aN1,am6,hn0,hn1,hns,aL6,en1,en2,ho,hc5,l1,l3,l4,l5,l6,l7,l8,l9,l12,l13,a12,a13,af4 l1,af4 l3,af4 l9]|refine o5 (c1 _) ?_|refine⟨_,_,c1 _,?_⟩|refine o5 (c2 _) ?_|refine⟨_,_,c2 _,?_⟩|refine o5 (c3 _) ?_|refine⟨_,_,c3 _,?_⟩|refine o5 (c4 _) ?_|refine⟨_,_,c4 _,?_⟩|refine o5 (c5 _) ?_|refine⟨_,_,c5 _,?_⟩|refine o5 (c6 _) ?_|refine⟨_,_,c6 _,?_⟩|refine o5 (c7 _) ?_|refine⟨_,_,c7 _,?_⟩|refine o5 (c8 _) ?_|refine⟨_,_,c8 _,?_⟩|refine o5 (c9 _) ?_|refine⟨_,_,c9 _,?_⟩|refine o5 (c11 _) ?_|refine⟨_,_,c11 _,?_⟩|refine o5 (c12 _) ?_|refine⟨_,_,c12 _,?_⟩|refine o5 (c13 _) ?_|refine⟨_,_,c13 _,?_⟩|refine vcA ?_ ?_
     exact bI0 rfl
 ·rw[if_neg hr]
  rw[decide_eq_false hr] at c1;clear hr;generalize aw4=n0 at*;refine y8 [1,2000028,2000031,2000033,2000034,2000035,2000036,1000007,1000007000014,1000007001014,1000007002014,1000007003014,1000007004014,1000007005014,1000007006014,1000007007014,1000007008014,1000007009014,1000007010014] [.cell 2 101,.tmp 3] 56 Tryz.func202 ?_;repeat' first|refine o6 ?_|simp -dsimp -implicitDefEqProofs (disch:=first|omega|simp only[ll];omega) only[go_sem,ad7,ac1,hb,hlb,bZ1,bZ2,b49,elb,bE7,esg,aN1,am6,hn0,hn1,hns,aL6]|refine o5 (c1 _) ?_|refine⟨_,_,c1 _,?_⟩|fail
  exact bI0 rfl
end Cu
end
section
namespace Cu
open Go V Fe
def aG9(k:List UInt8):List UInt8:=aA7 ((aV5 be7 k).take 15)
theorem bo2(k:List UInt8):(aG9 k).length=32:=br9 _
theorem c27(k:List UInt8)(H:List AObj)(hk:k.length=32):o8 Tryz.prog 35 [.agg (k.map o7)] H (fun r H'=>r=.agg ((aG9 k).map o7)/\H'=H):=by
 have c1:=dN9;have l1:=bY8;unfold aG9;generalize be7=p at*;have c2:=fun H=>cS0 p k H l1 hk
 have l2:=ce7 p k;generalize aV5 p k=m at*;have l3:(m.take 15).length=15:=by rw[List.length_take];omega
 have t3:(m.map (wAV .u64)).take 15=(m.take 15).map (wAV .u64):=bm7;have c4:=fun H=>cO9 (m.take 15) H l3
 have l4:=br9 (m.take 15);generalize aA7 (m.take 15)=b at*;generalize m.take 15=q at*;refine y8 [2000003,2000005,2000007,1000001] [.cell 2 28] 8 Tryz.func35 ?_;repeat' first|refine o6 ?_|simp -dsimp -implicitDefEqProofs (disch:=(simp only[ll];omega)) only[go_sem,ad7,ac1,hk,l1,l2,l3,l4,t3,aL6,aj7 l4]|refine o5 (c1 _) ?_|refine⟨_,_,c1 _,?_⟩|refine o5 (c2 _) ?_|refine⟨_,_,c2 _,?_⟩|refine o5 (c4 _) ?_|refine⟨_,_,c4 _,?_⟩|fail
 exact aa5 _ (Le.refl _) at1 ⟨rfl,rfl⟩
def aQ8(mk:List W->List W)(b:List UInt8):List UInt8×Int:=if(aI1 b).2=true then(aA7 (mk (aI1 b).1),0) else(List.replicate 32 0,1)
def bo9(p:List UInt8×Int):AV:=.tup [.agg (p.1.map o7),.lit (.int .i64 p.2)]
theorem bO7{m:Nat}{p:List UInt8×Int}:Low m (bo9 p):=ah9 (aa3 at1 (aa3 (.lit _) ac4))
theorem t20{l:List W}(h:l.length=20):(l.map (wAV .u64)).take 20=l.map (wAV .u64):=al2 (by rw[List.length_map];omega)
theorem cg5{n i:Nat}{x:AV}(h:i < n):(List.replicate n x).getD i .any=x:=by simp[List.getD,h]
theorem ch0{l:List W}(h:l.length=20):ag0 (List.replicate 20 (AV.lit (.int .u64 0))) 0 (l.map (wAV .u64))=l.map (wAV .u64):=by
 rw[aN1,am6,an6 (by rw[List.length_replicate];exact h)]
theorem d85{l:List W}(h:l.length=20):ag0 [AV.lit (.int .u64 0),AV.lit (.int .u64 0),AV.lit (.int .u64 0),AV.lit (.int .u64 0),AV.lit (.int .u64 0),AV.lit (.int .u64 0),AV.lit (.int .u64 0),AV.lit (.int .u64 0),AV.lit (.int .u64 0),AV.lit (.int .u64 0),AV.lit (.int .u64 0),AV.lit (.int .u64 0),AV.lit (.int .u64 0),AV.lit (.int .u64 0),AV.lit (.int .u64 0),AV.lit (.int .u64 0),AV.lit (.int .u64 0),AV.lit (.int .u64 0),AV.lit (.int .u64 0),AV.lit (.int .u64 0)] 0 (l.map (wAV .u64))=l.map (wAV .u64):=ch0 h
def dr2(p:List W):Nat->AV
 |0=>.sl .full 0 []
 |_+1=>.sl .sh 20 [.agg (p.map (wAV .u64))]
theorem el6{m i:Nat}{p:List W}:Low m (dr2 p i):=by
 cases i with
 |zero=>exact af6 (fun k e=>by cases e)
 |succ i=>
  refine .sl _ _ _ (fun k e=>by cases e) fun x hx=>?_
  simp only[aa1,b04,List.flatMap_nil,List.append_nil,AV.flat] at hx;obtain⟨c,_,rfl⟩:=xq6.1 hx;exact .lit _
theorem el5{m:Nat}{b:List UInt8}:Low m (.sl .full 32 [.agg (b.map o7)]):=by
 refine .sl _ _ _ (fun k e=>by cases e) fun x hx=>?_
 simp only[aa1,b04,List.flatMap_nil,List.append_nil,AV.flat] at hx;obtain⟨c,_,rfl⟩:=xq6.1 hx;exact .lit _
theorem dM0{g:FuncId}{fs cs:List AV}(mk:List W->List W)(hfn: ∀m,Low m (.fn (.func g) fs cs))(hl: ∀l:List W,l.length=20->(mk l).length=15)(hmk: ∀(l:List W) H,l.length=20->o8 Tryz.prog g (fs++AV.sl .sh 20 [.agg (l.map (wAV .u64))]::cs) H (fun y H'=>y=.agg ((mk l).map (wAV .u64))/\H'=H))
  (b:List UInt8) (H:List AObj) (hb:b.length=32):o8 Tryz.prog 154 [.fn (.func g) fs cs,.sl .full 32 [.agg (b.map o7)]] H (fun r H'=>r=bo9 (aQ8 mk b)/\H'=H):=by
 have c1:=fun H=>ey8 b H hb
 have l1:=dB8 b;unfold aQ8;unfold co5 at c1;generalize aI1 b=p at*;have z1:(List.replicate 32 (0:UInt8)).length=32:=List.length_replicate;have z2:=as5 z1 z1;have z3:((List.replicate 32 (0:UInt8)).map o7).take 32=(List.replicate 32 (0:UInt8)).map o7:=al2 (by simp)
 have zb:=db3;refine y8 [] [.cell 4 28,.tmp 5] 34 Tryz.func154 ?_;repeat' simp -dsimp -implicitDefEqProofs only[go_sem,ac1,hb]
 refine aa8 ab2 mixed [] [] (fun i:Nat=>i<=1/\(i=1->p.2=true)) (fun i=>[(13,.lit (.int .i64 i)),(6,dr2 p.1 i),(0,.fn (.func g) fs cs),(4,.mp H.length 0),(11,.sl .full 32 [.agg (b.map o7)]),(12,.int .i64 1)]) (fun i=>H++[.cells (.one 28) (List.replicate 32 (.lit (.int .u8 0)))]) (fun i=>1 - i) (by kernel_rfl) ?_ 0 ⟨by omega,fun h=>by omega⟩ y9 rfl
 rintro i ⟨hi,hp⟩
 have hi:i<=1:=hi;by_cases h:i=0
 ·subst h
  have e0:dr2 p.1 0=.sl .full 0 []:=rfl;rw[e0];cases hk:p.2 with
  |true=>
   rw[hk] at c1;repeat' first|refine o6 ?_|simp -dsimp -implicitDefEqProofs (disch:=first|omega|simp only[ll];omega) only[go_sem,ac1,hb,l1,ad7,aL6,ch0 l1,t20 l1,cg5,d85 l1]|refine o5 (c1 _) ?_|refine⟨_,_,c1 _,?_⟩|fail
   rw[show (H++[AObj.cells (.one 28) (List.replicate 32 (.lit (.int .u8 0))),.cells (.one 28) (b.map o7),.cells (.one 101) (p.1.map (wAV .u64)),.grow 20 1 none])=(H++[AObj.cells (.one 28) (List.replicate 32 (.lit (.int .u8 0)))])++[.cells (.one 28) (b.map o7),.cells (.one 101) (p.1.map (wAV .u64)),.grow 20 1 none] by simp]
   refine a90 1 (by omega) ⟨by omega,fun _=>rfl⟩ (by repeat(first|exact ah0|(refine ag1 ?_ ?_;focus(first|exact .lit _|exact el6|exact hfn _|exact .mp _ _ (by simp)|exact el5)))) y9
  |false=>
   rw[hk] at c1;rw[if_neg (by decide)]
   have z4:=as5 z1 hb;have z5:(b.map o7).take 32=b.map o7:=al2 (by simp;omega)
   repeat' first|refine o6 ?_|simp -dsimp -implicitDefEqProofs (disch:=omega) only[go_sem,zb,ac1,hb,l1,ad7,aL6,ch0 l1,z1,z2,z3,z4,z5]|refine o5 (c1 _) ?_|refine⟨_,_,c1 _,?_⟩|fail
   exact aa5 (bo9 (List.replicate 32 0,1)) (Le.refl _) bO7 ⟨rfl,rfl⟩
 ·obtain rfl:i=1:=by omega
  have hk:p.2=true:=hp rfl;have e1:dr2 p.1 1=.sl .sh 20 [.agg (p.1.map (wAV .u64))]:=rfl;rw[e1];have c2:=fun H=>hmk p.1 H l1
  have l2:=hl p.1 l1;have hd:(if p.2=true then(aA7 (mk p.1),(0:Int)) else(List.replicate 32 0,1))=(aA7 (mk p.1),0):=if_pos hk
  rw[hd];generalize mk p.1=q at*;have c3:=fun H=>cO9 q H l2
  have l3:=br9 q;generalize aA7 q=r at*;have z6:=as5 z1 l3;have z7:(r.map o7).take 32=r.map o7:=al2 (by simp;omega)
  repeat' first|refine o6 ?_|simp -dsimp -implicitDefEqProofs only[go_sem,zb,z6,z7,l3,ac1]|refine o5 (c2 _) ?_|refine⟨_,_,c2 _,?_⟩|refine o5 (c3 _) ?_|refine⟨_,_,c3 _,?_⟩|fail
  exact aa5 (bo9 (r,0)) (Le.refl _) bO7 ⟨rfl,rfl⟩
theorem bB5(mk:List W->List W)(b:List UInt8):(aQ8 mk b).1.length=32:=by
 unfold aQ8;split
 ·exact br9 _
 ·exact List.length_replicate
def bc4(p:List W):List W:=ae9 zeroE (pX p)++(pY p++pZ p)
def bo6(b:List UInt8):List UInt8×Int:=aQ8 bc4 b
def bo7(a b:List UInt8)(p:List W):List W:=(bb6 (aV5 p a) (aV5 be7 b)).take 15
def bw4(a p b:List UInt8):List UInt8×Int:=aQ8 (bo7 a b) p
theorem eC2(p:List W)(H:List AObj)(hp:p.length=20):o8 Tryz.prog 155 ([]++AV.sl .sh 20 [.agg (p.map (wAV .u64))]::[]) H (fun y H'=>y=.agg ((bc4 p).map (wAV .u64))/\H'=H):=by
 have px:=bV7 (p:=p) (by omega)
 have py:=bG7 (p:=p) (by omega)
 have pz:=bG6 (p:=p) (by omega)
 have c1:=fun H=>bZ8 (pX p) H px
 have l1:(ae9 zeroE (pX p)).length=5:=au0 _ _;unfold bc4;have e1:=tX (p:=p);have e2:=tY (p:=p);have e3:=tZ (p:=p);generalize ae9 zeroE (pX p)=nx at*;have p3:=dT7 l1 py pz;have lq:(nx++(pY p++pZ p)).length=15:=by rw[List.length_append,List.length_append,l1,py,pz]
 have hs:=an6 (l:=List.replicate 15 0) (m:=nx++(pY p++pZ p)) (by rw[List.length_replicate];exact lq)
 refine y8 [2000008,1000001] [.cell 2 99] 20 Tryz.func155 ?_;repeat' first|refine o6 ?_|simp -dsimp -implicitDefEqProofs (disch:=omega) only[go_sem,ad7,hp,bm7,bX9,e1,e2,e3,px,py,pz,l1,aN1,am6,bo4,p3,lq,hs,aL6,List.length_replicate]|refine o5 (c1 _) ?_|refine⟨_,_,c1 _,?_⟩|fail
 exact aX4 rfl
theorem eD3(a b:List UInt8)(p:List W)(H:List AObj)(ha:a.length=32)(hb:b.length=32)(hp:p.length=20):o8 Tryz.prog 157 ([]++AV.sl .sh 20 [.agg (p.map (wAV .u64))]::[.ip (.agg (a.map o7)),.ip (.agg (b.map o7))]) H (fun y H'=>y=.agg ((bo7 a b p).map (wAV .u64))/\H'=H):=by
 have c1:=fun H=>cS0 p a H hp ha
 have l1:=ce7 p a;have c2:=dN9;have l2:=bY8;unfold bo7;generalize be7=bp at*;have c3:=fun H=>cS0 bp b H l2 hb
 have l3:=ce7 bp b;generalize aV5 p a=m at*;generalize aV5 bp b=n at*;have c4:=fun H=>bG4 m n H l1 l3
 have l4:=bz7 m n;generalize bb6 m n=s at*;have l5:(s.take 15).length=15:=by rw[List.length_take];omega
 have t5:(s.map (wAV .u64)).take 15=(s.take 15).map (wAV .u64):=bm7;generalize s.take 15=q at*;have hs:=an6 (l:=List.replicate 15 0) (m:=q) (by rw[List.length_replicate];exact l5)
 refine y8 [2000009,2000010,2000012,2000013,1000001] [.cell 4 99] 15 Tryz.func157 ?_;repeat' first|refine o6 ?_|simp -dsimp -implicitDefEqProofs (disch:=first|omega|simp only[ll];omega) only[go_sem,ad7,ac1,hp,ha,hb,l1,l2,l3,l4,l5,t5,t20 hp,aN1,am6,hs,aL6]|refine o5 (c1 _) ?_|refine⟨_,_,c1 _,?_⟩|refine o5 (c2 _) ?_|refine⟨_,_,c2 _,?_⟩|refine o5 (c3 _) ?_|refine⟨_,_,c3 _,?_⟩|refine o5 (c4 _) ?_|refine⟨_,_,c4 _,?_⟩|fail
 exact aX4 rfl
theorem dZ5{p:List W}(h:p.length=20):(bc4 p).length=15:=by
 unfold bc4;rw[List.length_append,List.length_append,au0,bG7 (by omega),bG6 (by omega)]
 rfl
theorem dZ9(a b:List UInt8)(p:List W):(bo7 a b p).length=15:=by
 unfold bo7;rw[List.length_take,bz7];rfl
theorem t32{l:List UInt8}(h:l.length=32):(l.map o7).take 32=l.map o7:=al2 (by rw[List.length_map];omega)
theorem cZ2{l:List UInt8}(h:l.length=32):ag0 [AV.lit (.int .u8 0),AV.lit (.int .u8 0),AV.lit (.int .u8 0),AV.lit (.int .u8 0),AV.lit (.int .u8 0),AV.lit (.int .u8 0),AV.lit (.int .u8 0),AV.lit (.int .u8 0),AV.lit (.int .u8 0),AV.lit (.int .u8 0),AV.lit (.int .u8 0),AV.lit (.int .u8 0),AV.lit (.int .u8 0),AV.lit (.int .u8 0),AV.lit (.int .u8 0),AV.lit (.int .u8 0),AV.lit (.int .u8 0),AV.lit (.int .u8 0),AV.lit (.int .u8 0),AV.lit (.int .u8 0),AV.lit (.int .u8 0),AV.lit (.int .u8 0),AV.lit (.int .u8 0),AV.lit (.int .u8 0),AV.lit (.int .u8 0),AV.lit (.int .u8 0),AV.lit (.int .u8 0),AV.lit (.int .u8 0),AV.lit (.int .u8 0),AV.lit (.int .u8 0),AV.lit (.int .u8 0),AV.lit (.int .u8 0)] 0 (l.map o7)=l.map o7:=aj7 h
theorem ej9{f:FuncId}(m:Nat):Low m (.fn (.func f) [] []):=.fn _ _ _ (fun x hx=>by cases hx) (fun x hx=>by cases hx)
theorem ek5{f:FuncId}{a b:List UInt8}(m:Nat):Low m (.fn (.func f) [] [.ip (.agg (a.map o7)),.ip (.agg (b.map o7))]):=.fn _ _ _ (fun x hx=>by cases hx) fun x hx=>by
 simp only[xq8,aK4,or_false] at hx;have hl: ∀l:List UInt8,Low m (.ip (.agg (l.map o7))):=fun l=>.ip _ fun x hx=>by
  obtain⟨c,_,rfl⟩:=xq6.1 hx;exact .lit _
 rcases hx with rfl|rfl
 ·exact hl a
 ·exact hl b
theorem eR4(b:List UInt8)(H:List AObj)(hb:b.length=32):o8 Tryz.prog 104 [.agg (b.map o7)] H (fun r H'=>r=bo9 (bo6 b)/\H'=H):=by
 have c1:=fun H=>dM0 bc4 ej9 (fun l hl=>dZ5 hl) (fun l H hl=>eC2 l H hl) b H hb
 have l1:=bB5 bc4 b;unfold bo6;unfold bo9 at*;generalize aQ8 bc4 b=p at*;refine y8 [] [.cell 2 28,.tmp 3] 9 Tryz.func104 ?_;repeat' first|simp -dsimp -implicitDefEqProofs (disch:=first|omega|simp only[ll];omega) only[go_sem,ac1,hb,l1,aj7 l1,cg5,cZ2 hb,t32 hb]|refine o5 (c1 _) ?_|refine⟨_,_,c1 _,?_⟩|fail
 exact aa5 (bo9 p) (Le.refl _) bO7 ⟨rfl,rfl⟩
theorem eR5(a p b:List UInt8)(H:List AObj)(ha:a.length=32)(hp:p.length=32)(hb:b.length=32):o8 Tryz.prog 105 [.agg (a.map o7),.agg (p.map o7),.agg (b.map o7)] H (fun r H'=>r=bo9 (bw4 a p b)/\H'=H):=by
 have c1:=fun H=>dM0 (bo7 a b) ek5 (fun l _=>dZ9 a b l) (fun l H hl=>eD3 a b l H ha hb hl) p H hp
 have l1:=bB5 (bo7 a b) p;unfold bw4;unfold bo9 at*;generalize aQ8 (bo7 a b) p=r at*;refine y8 [] [.cell 6 28,.tmp 7] 14 Tryz.func105 ?_;repeat' first|simp -dsimp -implicitDefEqProofs (disch:=first|omega|simp only[ll];omega) only[go_sem,ac1,ha,hp,hb,l1,aj7 l1,cg5,cZ2 hp,t32 hp]|refine o5 (c1 _) ?_|refine⟨_,_,c1 _,?_⟩|fail
 exact aa5 (bo9 r) (Le.refl _) bO7 ⟨rfl,rfl⟩
end Cu
end
section
namespace Ed
open Go V
theorem c06(n:Nat)(H:List AObj)(hn:n<=100000000):o8 Tryz.prog 172 [.lit (.int .i64 (n:Int))] H (fun y H'=>y=.mrow H.length n/\H'=H++[.cells (.prow 1) (List.replicate n .any)]):=
 aC8 (e:=Extern.BytealgMakeNoZero.makeNoZero Tryz.f172.params #[64]) Tryz.func172 (by kernel_rfl) (by kernel_rfl) (by kernel_rfl) (by kernel_rfl) fun G w vs hi ha=>by
  obtain⟨v,rfl,hv⟩:=cN4 ha;rw[ab7 hv];obtain⟨cs,hr,hc,_⟩:=Lib.run_makeNoZero w Tryz.f172.params 64 5 Tryz.underlying64 n (by omega)
  obtain⟨h1,h2,h3,h4⟩:=aI3 hi (More.refl w).drew.drew rfl (cs:=List.replicate n .any) (arr:=cs) ⟨by simpa using hc,fun j x v ex _=>by
   have:=bC3 ex;rw[List.mem_replicate] at this;rw[this.2];exact .any _⟩ 5 (0,0) (.inr rfl) (.prow 1) cs.size ⟨by decide,by simp,rfl⟩
  refine⟨_,_,_,_,_,hr,h1,h2,?_,rfl,rfl⟩;have:=Rel.mrow (G:=ag8 G H w.heap.size cs.size) (H:=H++[.cells (.prow 1) (List.replicate n .any)]) (w:=w.drew.drew.alloc (.cells cs 5)) H.length n (.cells (.prow 1) (List.replicate n .any)) (by simp) rfl (by rw[h4];exact hc)
  rw[h3,h4] at this;exact this
abbrev Part:=Own×List UInt8
def bG5(p:Part):AV:=.sl p.1 1 (p.2.map o7)
def au1(ps:List Part):List UInt8:=ps.flatMap (·.2)
def aq7(ps:List Part)(i:Nat):List UInt8:=au1 (ps.take i)
theorem bq9{ps:List Part}{i:Nat}(h:i < ps.length):aq7 ps (i+1)=aq7 ps i++(ps.getD i (.sh,[])).2:=by
 unfold aq7 au1;rw[bf3 h,ci1,List.getD,xq1 h];simp
theorem cD2(ps:List Part):aq7 ps ps.length=au1 ps:=by unfold aq7;rw[bf9]
theorem bi5(ps:List Part)(i:Nat):(aq7 ps i).length<=(au1 ps).length:=by
 unfold aq7 au1;conv=>rhs;rw[<-bJ6 i ps]
 rw[ci1,List.length_append];omega
theorem cx5{ps:List Part}{i:Nat}(h:i < ps.length):(ps.map bG5).getD i .any=.sl (ps.getD i (.sh,[])).1 1 ((ps.getD i (.sh,[])).2.map o7):=by
 simp[List.getD,xq1 h,bG5]
def aV9(ps:List Part)(i:Nat):List AV:=(aq7 ps i).map o7++List.replicate ((au1 ps).length - (aq7 ps i).length) .any
theorem cD3(ps:List Part)(i:Nat):(aV9 ps i).length=(au1 ps).length:=by
 have:=bi5 ps i;unfold aV9;rw[List.length_append,List.length_map,List.length_replicate];omega
theorem dH9{ps:List Part}{i:Nat}(h:i < ps.length):ag0 (aV9 ps i) (aq7 ps i).length ((ps.getD i (.sh,[])).2.map o7)=aV9 ps (i+1):=by
 have h1:=bq9 h;have h2:=bi5 ps (i+1);rw[aF0 _ _ _ (by rw[cD3,List.length_map];rw[h1,List.length_append] at h2;omega)]
 unfold aV9;rw[h1,List.length_append,b34,by9 (by simp),al2 (by simp),List.length_map,List.drop_append,bg0 (by simp)]
 simp
 omega
theorem dL0:aa1 []=[]:=rfl
theorem as_nil{cs:List AV}{k:Nat}:ag0 cs k []=cs:=rfl
theorem cF2{o:Own}(ps:List Part)(H:List AObj)(h2:2<=ps.length)(h3:ps.length<=1000)(hl:(au1 ps).length<=1000000):o8 Tryz.prog 123 [.sl o 1 (ps.map bG5),.sl .full 0 []] H (fun y H'=>y=.sl .sh 1 ((au1 ps).map o7)/\H'=H):=by
 have n0:((ps.length:Int)=0)=False:=eq_false (by omega)
 have n1:((ps.length:Int)=1)=False:=eq_false (by omega)
 have hm:(ps.map bG5).length=ps.length:=List.length_map _;refine y8 [] [.tmp 4] 92 Tryz.func123 ?_;repeat' first|refine o6 ?_|simp -dsimp -implicitDefEqProofs only[go_sem,n0,n1,hm]
 refine aa8 ab2 mixed [] [0,1,4,42,43] (fun i:Nat=>i<=ps.length) (fun i=>[(44,.lit (.int .i64 i)),(5,.lit (.int .i64 (((aq7 ps i).length:Nat):Int)))]) (fun _=>H) (fun i=>ps.length - i) (by kernel_rfl) ?_ 0 (by omega) y9 rfl
 intro i hi;by_cases h:i < ps.length
 ·have hic:((i:Int) < (ps.length:Int))=True:=eq_true (by omega)
  have hp:=cx5 h;have hn:=bq9 h;have hj:=bi5 ps (i+1);have hj2:=congrArg List.length hn;rw[List.length_append] at hj2;generalize (ps.getD i (.sh,[]))=q at*;have hov:(9223372036854775807 - ((aq7 ps i).length:Int) < (q.2.length:Int))=False:=eq_false (by omega)
  repeat' first|refine o6 ?_|simp -dsimp -implicitDefEqProofs (disch:=omega) only[go_sem,hic,hm,hp,hov]
  rw[show ((aq7 ps i).length:Int)+(q.2.length:Int)=(((aq7 ps (i+1)).length:Nat):Int) by omega]
  refine again (i+1) ?_ ?_ rfl y9
  ·omega
  ·omega
 ·obtain rfl:i=ps.length:=by omega
  rw[cD2];have cM:=fun H=>c06 (au1 ps).length H (by omega)
  have hp0:=cx5 (ps:=ps) (i:=0) (by omega)
  have hn0:=bq9 (ps:=ps) (i:=0) (by omega)
  have hz0:aq7 ps 0=[]:=rfl;rw[hz0,List.nil_append] at hn0;have hl1:=bi5 ps 1;have hlr:(List.replicate (au1 ps).length AV.any).length=(au1 ps).length:=List.length_replicate;rw[<-hn0] at hp0;have ha0:ag0 (List.replicate (au1 ps).length AV.any) 0 ((aq7 ps 1).map o7)=aV9 ps 1:=by
   unfold aV9;rw[aF0 _ _ _ (by rw[List.length_map,List.length_replicate];omega)]
   simp
  have hg0:((1:Int)<=(ps.length:Int))=True:=eq_true (by omega)
  have hq:(ps.length:Int) - 1=((ps.length - 1:Nat):Int):=by omega
  have hm1:((ps.map bG5).drop 1).length=ps.length - 1:=by rw[List.length_drop,List.length_map]
  have hmin:min (au1 ps).length (aq7 ps 1).length=(aq7 ps 1).length:=by omega
  have htk:((aq7 ps 1).map o7).take (aq7 ps 1).length=(aq7 ps 1).map o7:=al2 (by simp)
  repeat' first|refine o6 ?_|simp -dsimp -implicitDefEqProofs (disch:=omega) only[go_sem,hm,hp0,hlr,ha0,hg0,hm1,hmin,htk]|refine o5 (cM _) ?_|refine vcA ?_ ?_|omega|refine ac8 fun _=>?_
  refine aa8 ab2 mixed [] [1,4,8,70,71] (fun j:Nat=>j<=ps.length - 1) (fun j=>[(72,.lit (.int .i64 j)),(9,.lit (.int .i64 (((aq7 ps (j+1)).length:Nat):Int)))]) (fun j=>H++[.cells (.prow 1) (aV9 ps (j+1))]) (fun j=>ps.length - 1 - j) (by kernel_rfl) ?_ 0 (by omega) y9 rfl
  intro j hj;by_cases h:j < ps.length - 1
  ·have hic:((j:Int) < ((ps.length - 1:Nat):Int))=True:=eq_true (by omega)
   have hp:((ps.map bG5).drop 1).getD j .any=.sl (ps.getD (j+1) (.sh,[])).1 1 ((ps.getD (j+1) (.sh,[])).2.map o7):=by
    rw[<-cx5 (by omega),List.getD,aP9,bJ9 1 j,List.getD]
   have hn:=bq9 (ps:=ps) (i:=j+1) (by omega)
   have hl:=bi5 ps (j+1);have hl2:=bi5 ps (j+1+1);have hll:=congrArg List.length hn;rw[List.length_append] at hll;have hC:=dH9 (ps:=ps) (i:=j+1) (by omega)
   have hCl:(aV9 ps (j+1)).length=(au1 ps).length:=cD3 ps (j+1);generalize (ps.getD (j+1) (.sh,[]))=q at*;generalize hN2:aq7 ps (j+1+1)=N2 at*;generalize hC2:aV9 ps (j+1+1)=C2 at*;have hmin:min ((au1 ps).length - (aq7 ps (j+1)).length) q.2.length=q.2.length:=by omega
   have htk:(q.2.map o7).take q.2.length=q.2.map o7:=al2 (by simp)
   have hsum:((aq7 ps (j+1)).length:Int)+(q.2.length:Int)=((N2.length:Nat):Int):=by omega
   by_cases he:(au1 ps).length=(aq7 ps (j+1)).length
   ·have hec:(((au1 ps).length:Int)=((aq7 ps (j+1)).length:Int))=True:=eq_true (by omega)
    have hq0:q.2=[]:=aR5 (by omega)
    rw[hq0] at hC;have hC0:aV9 ps (j+1)=C2:=hC;rw[hC0] at hCl⊢;repeat' first|refine o6 ?_|simp -dsimp -implicitDefEqProofs (disch:=omega) only[go_sem,hic,hm1,hp,hec,hCl,hq0,hmin,htk,List.map_nil,List.take_nil,Int.add_zero,dL0,as_nil]|refine vcA ?_ ?_|omega
    rw[show ((aq7 ps (j+1)).length:Int)=((N2.length:Nat):Int) by rw[hq0] at hll;simp at hll;omega]
    subst hN2;subst hC2;refine again (j+1) ?_ ?_ rfl y9
    ·omega
    ·omega
   ·have hec:(((au1 ps).length:Int)=((aq7 ps (j+1)).length:Int))=False:=eq_false (by omega)
    repeat' first|refine o6 ?_|simp -dsimp -implicitDefEqProofs (disch:=omega) only[go_sem,hic,hm1,hp,hec,hCl,hmin,htk,hC,hsum,Int.add_zero,dL0,as_nil]|refine vcA ?_ ?_|omega
    subst hN2;subst hC2;refine again (j+1) ?_ ?_ rfl y9
    ·omega
    ·omega
  ·obtain rfl:j=ps.length - 1:=by omega
   have hall:aV9 ps (ps.length - 1+1)=(au1 ps).map o7:=by
    rw[Nat.sub_add_cancel (by omega)]
    unfold aV9;rw[cD2,ap6];simp
   rw[hall];repeat' first|refine o6 ?_|simp -dsimp -implicitDefEqProofs only[go_sem,hm1]|refine vcA ?_ ?_|omega|refine ac8 fun _=>?_
   refine bx3 (.sl .sh 1 ((au1 ps).map o7)) (.msl _ _ _ _ _ (.prow 1) ((au1 ps).map o7) _ (xq0 _) (by simp) (by simp) (fun x hx=>by obtain⟨c,_,rfl⟩:=xq6.1 hx;exact⟨rfl,rfl⟩) (by rw[an5 o7 (fun _=>rfl)];simp) fun j c y e1 e2=>?_) ⟨rfl,rfl⟩
   rw[an5 o7 (fun _=>rfl)] at e2
   rw[Nat.zero_add] at e1;rw[e1] at e2;cases e2
   refine .low _ ?_;obtain⟨c,_,rfl⟩:=xq6.1 (bC3 e1);exact .lit _
end Ed
end
section
namespace Ed
open Go V Fe Sc Cu
def au3(seed:List UInt8):List UInt8:=aX6 ((aA1 seed).take 32)
def aL2(seed:List UInt8):List UInt8:=(aA1 seed).drop 32
def ax0(m:List UInt8):List UInt8:=bF7 (aA1 m)
def al9(seed:List UInt8):List UInt8:=aG9 (au3 seed)
def bn3(seed m:List UInt8):List UInt8:=ax0 (aL2 seed++m)
def au6(seed m:List UInt8):List UInt8:=
 aG9 (bn3 seed m)++ax1 (ax0 (aG9 (bn3 seed m)++(al9 seed++m))) (au3 seed) (bn3 seed m)
def aM7(key m sig:List UInt8):Bool:=
 bF5 (sig.drop 32)&&(decide ((bo6 key).2=0)&&(decide ((bw4 (ax0 (sig.take 32++(key++m))) (bo6 key).1 (sig.drop 32)).2=0)&&decide ((bw4 (ax0 (sig.take 32++(key++m))) (bo6 key).1 (sig.drop 32)).1=sig.take 32)))
theorem cE4{a:List UInt8}(h:a.length=32):(aX6 a).length=32:=by unfold aX6;rw[List.length_set,List.length_set,h]
theorem aD6(seed:List UInt8):(au3 seed).length=32:=cE4 (by rw[List.length_take,ba4];rfl)
theorem do5(seed:List UInt8):(aL2 seed).length=32:=by unfold aL2;rw[List.length_drop,ba4]
theorem b99(a:List UInt8):(bF7 a).length=32:=be6 _
theorem bO3(a b c:List UInt8):(ax1 a b c).length=32:=be6 _
theorem bb9(m:List UInt8):(ax0 m).length=32:=b99 _
theorem bM4(seed m:List UInt8):(au6 seed m).length=64:=by
 unfold au6;rw[List.length_append,bo2,bO3]
def aB1(seed:List UInt8):List AV:=(au3 seed).map o7++[.sl .sh 1 ((aL2 seed).map o7)]
theorem ed3{l:List UInt8}(h:l.length=32):ag0 [AV.lit (.int .u8 0),AV.lit (.int .u8 0),AV.lit (.int .u8 0),AV.lit (.int .u8 0),AV.lit (.int .u8 0),AV.lit (.int .u8 0),AV.lit (.int .u8 0),AV.lit (.int .u8 0),AV.lit (.int .u8 0),AV.lit (.int .u8 0),AV.lit (.int .u8 0),AV.lit (.int .u8 0),AV.lit (.int .u8 0),AV.lit (.int .u8 0),AV.lit (.int .u8 0),AV.lit (.int .u8 0),AV.lit (.int .u8 0),AV.lit (.int .u8 0),AV.lit (.int .u8 0),AV.lit (.int .u8 0),AV.lit (.int .u8 0),AV.lit (.int .u8 0),AV.lit (.int .u8 0),AV.lit (.int .u8 0),AV.lit (.int .u8 0),AV.lit (.int .u8 0),AV.lit (.int .u8 0),AV.lit (.int .u8 0),AV.lit (.int .u8 0),AV.lit (.int .u8 0),AV.lit (.int .u8 0),AV.lit (.int .u8 0),AV.sl .full 0 []] 0 (l.map o7)=l.map o7++[AV.sl .full 0 []]:=by
 rw[aF0 _ _ _ (by simp[h])]
 simp[h]
theorem ed1{l:List UInt8}{x y:AV}(h:l.length=32):(l.map o7++[x]).set 32 y=l.map o7++[y]:=by
 rw[aD2 _ _ (by simp[h])]
 simp[h]
theorem ed4{l:List UInt8}{x:AV}(h:l.length=32):ag0 [AV.lit (.int .u8 0),AV.lit (.int .u8 0),AV.lit (.int .u8 0),AV.lit (.int .u8 0),AV.lit (.int .u8 0),AV.lit (.int .u8 0),AV.lit (.int .u8 0),AV.lit (.int .u8 0),AV.lit (.int .u8 0),AV.lit (.int .u8 0),AV.lit (.int .u8 0),AV.lit (.int .u8 0),AV.lit (.int .u8 0),AV.lit (.int .u8 0),AV.lit (.int .u8 0),AV.lit (.int .u8 0),AV.lit (.int .u8 0),AV.lit (.int .u8 0),AV.lit (.int .u8 0),AV.lit (.int .u8 0),AV.lit (.int .u8 0),AV.lit (.int .u8 0),AV.lit (.int .u8 0),AV.lit (.int .u8 0),AV.lit (.int .u8 0),AV.lit (.int .u8 0),AV.lit (.int .u8 0),AV.lit (.int .u8 0),AV.lit (.int .u8 0),AV.lit (.int .u8 0),AV.lit (.int .u8 0),AV.lit (.int .u8 0),AV.sl .full 0 []] 0 (l.map o7++[x])=l.map o7++[x]:=bo3 (by simp[h])
theorem dB2{l:List UInt8}{o:Own}{m:List UInt8}(_:l.length=32):(l.map o7++[AV.sl o 1 (m.map o7)]).all AV.scalar=true:=by
 rw[List.all_append,ac1];rfl
theorem ec0{l:List UInt8}{x:AV}(h:l.length=32):(l.map o7++[x]).length=33:=by simp[h]
theorem ex2{l:List UInt8}{x:AV}(h:l.length=32):(l.map o7++[x]).take 33=l.map o7++[x]:=al2 (by simp[h])
theorem el3{m:Nat}{l p:List UInt8}:Low m (.agg (l.map o7++[.sl .sh 1 (p.map o7)])):=.agg _ fun x hx=>by
 rcases aR3.1 hx with h|h
 ·obtain⟨c,_,rfl⟩:=xq6.1 h
  exact .lit _
 ·simp only[xq8,aK4,or_false] at h
  subst h;exact af5
theorem cX2(seed:List UInt8)(H:List AObj)(hs:seed.length=32):o8 Tryz.prog 36 [.agg (seed.map o7)] H (fun y H'=>y=.agg (aB1 seed)/\H'=H):=by
 have c1:=fun H=>W64.cF0 (a:=.sl .full 1 [.sl .sh 1 (seed.map o7)]) H (l:=seed) (by omega) (fun H=>dQ0 (o:=.full) (o2:=.sh) seed H (by omega))
 have l1:=ba4 seed;unfold aB1 au3 aL2;generalize aA1 seed=h at*;have ht:(h.take 32).length=32:=by rw[List.length_take];omega
 have c2:=fun H=>ev5 (h.take 32) H ht
 have l2:=cE4 ht;refine aw8 ab2 mixed [1000002] 2 (rs:=[.cell 2 66]) (n:=13) Tryz.func36 rfl rfl rfl rfl (nlb rfl) (by kernel_rfl) ?_
 repeat' first|simp -dsimp -implicitDefEqProofs (disch:=first|omega|simp only[ll];omega) only[go_sem,ac1,hs,l1]|refine o5 (c1 _) ?_|refine⟨_,_,c1 _,?_⟩|fail
 refine aG2 3 (H.length+1) rfl (by rw[aE0];rfl) ?_
 refine aE1 ab2 mixed [1000002] (by kernel_rfl) ?_
 have t1:((h.map o7).take 32)=(h.take 32).map o7:=b07.symm;generalize aX6 (h.take 32)=sc at*;have z1:=ed3 l2;have z2:=ed4 (x:=.sl .sh 1 ((h.drop 32).map o7)) l2;repeat' first|refine o6 ?_|simp -dsimp -implicitDefEqProofs (disch:=first|omega|simp only[ll];omega) only[go_sem,ac1,hs,l1,l2,t1,t32 ht,z1,ed1 l2,z2,dB2 l2,ec0 l2,ex2 l2]|refine o5 (c2 _) ?_|refine⟨_,_,c2 _,?_⟩|fail
 exact aa5 _ (Le.refl _) el3 ⟨rfl,rfl⟩
theorem bl0(seed:List UInt8):(aB1 seed).length=33:=ec0 (aD6 seed)
theorem b94(seed:List UInt8):(aB1 seed).all AV.scalar=true:=dB2 (aD6 seed)
theorem bU9(seed:List UInt8):(aB1 seed).take 32=(au3 seed).map o7:=by
 unfold aB1;rw[by9 (by simp[aD6]),al2 (by simp[aD6])]
theorem dn4(seed:List UInt8):(aB1 seed).getD 32 .any=.sl .sh 1 ((aL2 seed).map o7):=by
 unfold aB1;rw[List.getD,xq7 (by simp[aD6])]
 simp[aD6]
theorem c04(seed:List UInt8)(H:List AObj)(hs:seed.length=32):o8 Tryz.prog 13 [.agg (seed.map o7)] H (fun y H'=>y=.agg ((al9 seed).map o7)/\H'=H):=by
 have c1:=fun H=>cX2 seed H hs
 have c2:=fun H=>c27 (au3 seed) H (aD6 seed)
 have l2:=bo2 (au3 seed);have k1:=bl0 seed;have k2:=b94 seed;have k3:=bU9 seed;unfold al9;generalize aG9 (au3 seed)=r at*;generalize aB1 seed=sc at*;refine y8 [] [.cell 2 28] 7 Tryz.func13 ?_;repeat' first|simp -dsimp -implicitDefEqProofs (disch:=(simp only[ll];omega)) only[go_sem,ac1,hs,k1,k2,k3,l2,aj7 l2]|refine o5 (c1 _) ?_|refine⟨_,_,c1 _,?_⟩|refine o5 (c2 _) ?_|refine⟨_,_,c2 _,?_⟩|fail
 exact aa5 _ (Le.refl _) at1 ⟨rfl,rfl⟩
theorem dH8(a b:Part):au1 [a,b]=a.2++b.2:=by simp[au1]
theorem dH7(a b c:Part):au1 [a,b,c]=a.2++(b.2++c.2):=by simp[au1]
theorem bO0{a:AV}{l:List UInt8}(H:List AObj)(hl:l.length<=1000000)(hJ: ∀H,o8 Tryz.prog 123 [a,.sl .full 0 []] H (fun y H'=>y=.sl .sh 1 (l.map o7)/\H'=H)):o8 Tryz.prog 106 [a] H (fun y H'=>y=.agg ((ax0 l).map o7)/\H'=H):=by
 have c1:=fun H=>W64.cF0 H hl hJ
 have l1:=ba4 l;unfold ax0;generalize aA1 l=h at*;have c2:=fun H=>dP6 h H l1
 have l2:=b99 h;generalize bF7 h=r at*;refine y8 [] [.cell 2 28] 6 Tryz.func106 ?_;repeat' first|simp -dsimp -implicitDefEqProofs (disch:=(simp only[ll];omega)) only[go_sem,ac1,l1,l2,aj7 l2]|refine o5 (c1 _) ?_|refine⟨_,_,c1 _,?_⟩|refine o5 (c2 _) ?_|refine⟨_,_,c2 _,?_⟩|fail
 exact aa5 _ (Le.refl _) at1 ⟨rfl,rfl⟩
end Ed
end
end Go.Proofs.YtpplfhfoljjipaaGreatDoor
