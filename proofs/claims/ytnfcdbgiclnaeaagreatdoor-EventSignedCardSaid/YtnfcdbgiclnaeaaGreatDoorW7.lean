/- Numbers modulo the order: the program's. -/
import Derived.Test.YtnfcdbgiclnaeaaGreatDoorW6
import Derived.Lib.MakeNoZero
import Derived.Shelf.Strings.Search3
set_option linter.unusedVariables false
set_option linter.unusedSimpArgs false
set_option maxRecDepth 10000
set_option maxHeartbeats 4000000
namespace Go.Proofs.YtnfcdbgiclnaeaaGreatDoor
section
namespace Sc
open Go V Fe
theorem cj9{m:Nat}{x:AV}(h:Low m x:=by(first|(first|exact .lit _|exact .str _|exact .any|exact ae4|exact ag3|exact .mp _ _ (by omega)|exact .msl _ _ _ _ (by omega)|exact ae6 (fun k e=>by cases e)|exact ad4 _|exact ai5|exact ai4|exact al2|exact al1 _)|(refine ag8 ?_;repeat(first|exact ab6|(refine aa2 ?_ ?_;focus(first|exact .lit _|exact .str _|exact .any|exact ae4|exact ag3|exact .mp _ _ (by omega)|exact .msl _ _ _ _ (by omega)|exact ae6 (fun k e=>by cases e)|exact ad4 _|exact ai5|exact ai4|exact al2|exact al1 _))))|(refine ay0 ?_;repeat(first|exact ab6|(refine aa2 ?_ ?_;focus(first|exact .lit _|exact .str _|exact .any|exact ae4|exact ag3|exact .mp _ _ (by omega)|exact .msl _ _ _ _ (by omega)|exact ae6 (fun k e=>by cases e)|exact ad4 _|exact ai5|exact ai4|exact al2|exact al1 _)))))):Low m x:=h
def sub64Entry:Array Value->Sem Value:=fun args=>do
 let (x,y,b)<-Extern.MathBitsCarry.three "Sub64" args
 pure (Extern.MathBitsCarry.pair ((x+Extern.MathBitsCarry.m64 - y - b)%Extern.MathBitsCarry.m64) (if x < y+b then 1 else 0))
theorem run_sub64{P:Program}(x y c:Nat)(hc:c<=1)(w:World):
  (sub64Entry #[.int .u64 (x:Int),.int .u64 (y:Int),.int .u64 (c:Int)]).run P w=.ok (.tuple #[.int .u64 (((x+18446744073709551616 - y - c)%18446744073709551616:Nat):Int),.int .u64 ((if x < y+c then 1 else 0:Nat):Int)]) w:=by
 have:c=0\/c=1:=by omega
 rcases this with rfl|rfl<;>rfl
theorem d80(x y:W)(c:Nat)(H:List AObj)(hc:c<=1):o9 Tryz.prog 198 [wAV .u64 x,wAV .u64 y,.lit (.int .u64 (c:Int))] H (fun z H'=>z=.tup [wAV .u64 (an1 x y c).1,.lit (.int .u64 (((an1 x y c).2:Nat):Int))]/\H'=H):=
 ay9 (e:=sub64Entry) Tryz.func198 (by kernel_rfl) (by kernel_rfl) (by kernel_rfl) (by kernel_rfl) fun G w vs hi ha=>by
  obtain⟨v,u,t,rfl,hv,hu,ht⟩:=cA0 ha;rw[ab1 hv,ab1 hu,ab1 ht];refine⟨_,w,_,G,H,run_sub64 _ _ _ hc w,hi,.refl _ _ _,?_,rfl,rfl⟩;refine .tup _ _ rfl fun j z v h1 h2=>?_
  match j,h1,h2 with
  |0,h1,h2=>
   cases h1
   cases h2
   have:(((x.toNat+18446744073709551616 - y.toNat - c)%18446744073709551616:Nat):Int)=((an1 x y c).1.toNat:Int):=by
    unfold an1;dsimp only;rw[aA8]
   rw[this];exact .lit _
  |1,h1,h2=>cases h1;cases h2;exact .lit _
  |j+2,h1,_=>simp at h1
theorem bz1(x y:W)(c:Nat)(H:List AObj)(hc:c<=1):o9 Tryz.prog 200 [wAV .u64 x,wAV .u64 y,.lit (.int .u64 (c:Int))] H (fun z H'=>z=.tup [wAV .u64 (ba8 x y c).1,.lit (.int .u64 (((ba8 x y c).2:Nat):Int))]/\H'=H):=cY9 x y c H hc
def bQ0(p:List W×Nat):AV:=.tup [.agg (p.1.map (wAV .u64)),.bool (decide (p.2=1))]
theorem dp0{m:Nat}{p:List W×Nat}:Low m (bQ0 p):=ag8 (aa2 aP3 (aa2 (.lit _) ab6))
theorem t4{l:List W}(h:l.length=4):(l.map (wAV .u64)).take 4=l.map (wAV .u64):=ak5 (by rw[List.length_map];omega)
theorem t8{l:List W}(h:l.length=8):(l.map (wAV .u64)).take 8=l.map (wAV .u64):=ak5 (by rw[List.length_map];omega)
theorem au8{m:List W}(h:m.length=4):af0 [AV.lit (.int .u64 0),AV.lit (.int .u64 0),AV.lit (.int .u64 0),AV.lit (.int .u64 0)] 0 (m.map (wAV .u64))=m.map (wAV .u64):=ax7 (l:=[0,0,0,0]) h
theorem cl8{m:List W}(h:m.length=8):af0 [AV.lit (.int .u64 0),AV.lit (.int .u64 0),AV.lit (.int .u64 0),AV.lit (.int .u64 0),AV.lit (.int .u64 0),AV.lit (.int .u64 0),AV.lit (.int .u64 0),AV.lit (.int .u64 0)] 0 (m.map (wAV .u64))=m.map (wAV .u64):=ax7 (l:=cj4) h
theorem cy0(x:W)(c:Nat):IntKind.u64.wrap ((x.toNat:Int)+(c:Int))=((x+BitVec.ofNat 64 c).toNat:Int):=by
 rw[bO3,aA8];have:(x.toNat:Int)+(c:Int)=((x.toNat+c:Nat):Int):=by simp
 rw[this];simp[IntKind.wrap,IntKind.signed,IntKind.bits]
theorem aJ3{m:Nat}{l:List W}: ∀z∈l.map (wAV .u64),Low m z:=fun z hz=>by
 obtain⟨x,_,rfl⟩:=xq9.1 hz;exact .lit _
theorem d22{c:Nat}:((c:Int)=1)=(c=1):=by
 apply propext
 omega
theorem cj6(w x:List W)(H:List AObj)(hw:w.length=4)(hx:x.length=4):o9 Tryz.prog 147 [.agg (w.map (wAV .u64)),.agg (x.map (wAV .u64))] H (fun y H'=>y=bQ0 (ao3 w x)/\H'=H):=by
 have hd:ao3 w x=aL6 w x 4:=rfl;rw[hd];refine y7 [2,1000005] [.cell 4 172,.tmp 5] 28 Tryz.func147 rfl rfl rfl rfl (nlb rfl) (by kernel_rfl) ?_
 repeat' first|refine o6 ?_|simp -dsimp -implicitDefEqProofs (disch:=first|assumption|omega|simp only[ll];omega) only[go_sem,ac4,hw,hx]|refine vcJ ?_ ?_<;>intro _|refine vcA ?_ ?_;focus(repeat'(first|omega|assumption|refine vcA ?_ ?_);done)|omega|refine o7 (fun _=>?_)
 refine aa5 aa7 mixed [2,1000005] [2,3,4,5] (fun i:Nat=>i<=4) (fun i=>[(8,.lit (.int .i64 i)),(6,.lit (.int .u64 (((aL6 w x i).2:Nat):Int)))]) (fun i=>H++[.cells (.one 172) ((aL6 w x i).1.map (wAV .u64)),.cells (.one 172) [AV.lit (.int .u64 0),AV.lit (.int .u64 0),AV.lit (.int .u64 0),AV.lit (.int .u64 0)]]) (fun i=>4 - i) (by kernel_rfl) ?_ 0 (by omega) y8 rfl
 intro i hi;have hl:=bx3 w x i;have hc1:=eg4 w x i;rw[hw] at hl;have hn:aL6 w x (i+1)=ca5 x i (aL6 w x i):=rfl;unfold ca5 at hn;by_cases h:i < 4
 ·have hic:((i:Int) < 4)=True:=eq_true (by omega)
  generalize aL6 w x i=s at*;have hg:=ac1 (K:=.u64) (m:=s.1) (i:=i) (by omega)
  have hg2:=ac1 (K:=.u64) (m:=x) (i:=i) (by omega)
  have hS:=fun H=>d80 (s.1.getD i 0) (x.getD i 0) s.2 H hc1
  generalize an1 (s.1.getD i 0) (x.getD i 0) s.2=d at*;repeat' first|refine o6 ?_|simp -dsimp -implicitDefEqProofs (disch:=first|assumption|omega|simp only[ll];omega) only[go_sem,hic,hg,hg2,hl,hx]|refine o5 (hS _) ?_|refine⟨_,_,hS _,?_⟩|refine vcJ ?_ ?_<;>intro _|refine vcA ?_ ?_;focus(repeat'(first|omega|assumption|refine vcA ?_ ?_);done)|omega|refine o7 (fun _=>?_)
  rw[show d.2=(aL6 w x (i+1)).2 by rw[hn]]
  refine again (i+1) ?_ ?_ ?_ y8
  ·omega
  ·omega
  ·rw[hn,ao7]
 ·obtain rfl:i=4:=by omega
  generalize aL6 w x 4=s at*;repeat' first|refine o6 ?_|simp -dsimp -implicitDefEqProofs (disch:=first|assumption|omega|simp only[ll];omega) only[go_sem,hl,ac4,t4 hl,au8 hl,d22]|refine vcJ ?_ ?_<;>intro _|refine vcA ?_ ?_;focus(repeat'(first|omega|assumption|refine vcA ?_ ?_);done)|omega|refine o7 (fun _=>?_)
  exact aa3 (bQ0 s) (Le.refl _) dp0 ⟨rfl,rfl⟩
def b90(p:List W×Nat):AV:=.tup [.agg (p.1.map (wAV .u64)),.lit (.int .u64 (p.2:Int))]
theorem dp2{m:Nat}{p:List W×Nat}:Low m (b90 p):=ag8 (aa2 aP3 (aa2 (.lit _) ab6))
theorem bw4(w x:List W)(H:List AObj)(hw:w.length=4)(hx:x.length=4):o9 Tryz.prog 187 [.agg (w.map (wAV .u64)),.agg (x.map (wAV .u64))] H (fun y H'=>y=b90 (az6 w x)/\H'=H):=by
 have hd:az6 w x=aL4 w x 4:=rfl;rw[hd];refine y7 [2,1000005] [.cell 4 172,.tmp 5] 27 Tryz.func187 rfl rfl rfl rfl (nlb rfl) (by kernel_rfl) ?_
 repeat' first|refine o6 ?_|simp -dsimp -implicitDefEqProofs (disch:=first|assumption|omega|simp only[ll];omega) only[go_sem,ac4,hw,hx]|refine vcJ ?_ ?_<;>intro _|refine vcA ?_ ?_;focus(repeat'(first|omega|assumption|refine vcA ?_ ?_);done)|omega|refine o7 (fun _=>?_)
 refine aa5 aa7 mixed [2,1000005] [2,3,4,5] (fun i:Nat=>i<=4) (fun i=>[(8,.lit (.int .i64 i)),(6,.lit (.int .u64 (((aL4 w x i).2:Nat):Int)))]) (fun i=>H++[.cells (.one 172) ((aL4 w x i).1.map (wAV .u64)),.cells (.one 172) [AV.lit (.int .u64 0),AV.lit (.int .u64 0),AV.lit (.int .u64 0),AV.lit (.int .u64 0)]]) (fun i=>4 - i) (by kernel_rfl) ?_ 0 (by omega) y8 rfl
 intro i hi;have hl:=bw8 w x i;have hc1:=ev2 w x i;rw[hw] at hl;have hn:aL4 w x (i+1)=b91 x i (aL4 w x i):=rfl;unfold b91 at hn;by_cases h:i < 4
 ·have hic:((i:Int) < 4)=True:=eq_true (by omega)
  generalize aL4 w x i=s at*;have hg:=ac1 (K:=.u64) (m:=s.1) (i:=i) (by omega)
  have hg2:=ac1 (K:=.u64) (m:=x) (i:=i) (by omega)
  have hS:=fun H=>bz1 (s.1.getD i 0) (x.getD i 0) s.2 H hc1
  generalize ba8 (s.1.getD i 0) (x.getD i 0) s.2=d at*;repeat' first|refine o6 ?_|simp -dsimp -implicitDefEqProofs (disch:=first|assumption|omega|simp only[ll];omega) only[go_sem,hic,hg,hg2,hl,hx]|refine o5 (hS _) ?_|refine⟨_,_,hS _,?_⟩|refine vcJ ?_ ?_<;>intro _|refine vcA ?_ ?_;focus(repeat'(first|omega|assumption|refine vcA ?_ ?_);done)|omega|refine o7 (fun _=>?_)
  rw[show d.2=(aL4 w x (i+1)).2 by rw[hn]]
  refine again (i+1) ?_ ?_ ?_ y8
  ·omega
  ·omega
  ·rw[hn,ao7]
 ·obtain rfl:i=4:=by omega
  generalize aL4 w x 4=s at*;repeat' first|refine o6 ?_|simp -dsimp -implicitDefEqProofs (disch:=first|assumption|omega|simp only[ll];omega) only[go_sem,hl,ac4,t4 hl,au8 hl]|refine vcJ ?_ ?_<;>intro _|refine vcA ?_ ?_;focus(repeat'(first|omega|assumption|refine vcA ?_ ?_);done)|omega|refine o7 (fun _=>?_)
  exact aa3 (b90 s) (Le.refl _) dp2 ⟨rfl,rfl⟩
theorem bx5{o:Own}(b:List UInt8)(H:List AObj)(hb:b.length=32):o9 Tryz.prog 146 [.sl o 1 (b.map o8)] H (fun y H'=>y=.agg ((at6 b).map (wAV .u64))/\H'=H):=by
 refine y7 [1000005] [.cell 2 172] 27 Tryz.func146 rfl rfl rfl rfl (nlb rfl) (by kernel_rfl) ?_
 repeat' first|refine o6 ?_|simp -dsimp -implicitDefEqProofs (disch:=first|assumption|omega|simp only[ll];omega) only[go_sem,ab2,hb]|refine vcJ ?_ ?_<;>intro _|refine vcA ?_ ?_;focus(repeat'(first|omega|assumption|refine vcA ?_ ?_);done)|omega|refine o7 (fun _=>?_)
 refine aa5 aa7 mixed [1000005] [2,3,6,7] (fun i:Nat=>i<=32) (fun i=>[(8,.lit (.int .i64 i))]) (fun i=>H++[.cells (.one 172) [AV.lit (.int .u64 0),AV.lit (.int .u64 0),AV.lit (.int .u64 0),AV.lit (.int .u64 0)],.cells (.one 172) ((as4 b i).map (wAV .u64))]) (fun i=>32 - i) (by kernel_rfl) ?_ 0 (by omega) y8 rfl
 intro i hi;have hwl:=cx6 b i;by_cases h:i < 32
 ·have hic:((i:Int) < 32)=True:=eq_true (by omega)
  have hn:as4 b (i+1)=(as4 b i).set (i/8) ((as4 b i).getD (i/8) 0|||(BitVec.ofNat 64 (b.getD i 0).toNat<<<(8*(i%8)))):=rfl
  have hg:=ac1 (K:=.u64) (m:=as4 b i) (i:=i/8) (by omega)
  generalize as4 b i=w at*;have e8:((i:Int)/8).toNat=i/8:=by omega
  have e9:(8*((i:Int)%8)).toNat=8*(i%8):=by omega
  repeat' first|refine o6 ?_|simp -dsimp -implicitDefEqProofs (disch:=first|assumption|omega|simp only[ll];omega) only[go_sem,hic,hwl,hb,hg,e8,e9,eb2]|refine vcJ ?_ ?_<;>intro _|refine vcA ?_ ?_;focus(repeat'(first|omega|assumption|refine vcA ?_ ?_);done)|omega|refine o7 (fun _=>?_)
  refine again (i+1) ?_ ?_ ?_ y8
  ·omega
  ·omega
  ·rw[hn,ao7]
 ·obtain rfl:i=32:=by omega
  have hf:at6 b=as4 b 32:=rfl;rw[hf];generalize as4 b 32=w at*;repeat' first|refine o6 ?_|simp -dsimp -implicitDefEqProofs (disch:=first|assumption|omega|simp only[ll];omega) only[go_sem,hwl,hb,ac4,au8 hwl,t4 hwl]|refine vcJ ?_ ?_<;>intro _|refine vcA ?_ ?_;focus(repeat'(first|omega|assumption|refine vcA ?_ ?_);done)|omega|refine o7 (fun _=>?_)
  exact aY3 rfl
theorem cx4(w:List W)(H:List AObj)(hw:w.length=4):o9 Tryz.prog 189 [.agg (w.map (wAV .u64))] H (fun y H'=>y=.agg ((aY8 w).map o8)/\H'=H):=by
 have hz:(List.replicate 32 (AV.lit (.int .u8 0)))=(List.replicate 32 (0:UInt8)).map o8:=by rw[aS6];rfl
 refine y7 [] [.cell 2 28] 21 Tryz.func189 rfl rfl rfl rfl (nlb rfl) (by kernel_rfl) ?_
 repeat' first|refine o6 ?_|simp -dsimp -implicitDefEqProofs (disch:=first|assumption|omega|simp only[ll];omega) only[go_sem,ac4,hw]|refine vcJ ?_ ?_<;>intro _|refine vcA ?_ ?_;focus(repeat'(first|omega|assumption|refine vcA ?_ ?_);done)|omega|refine o7 (fun _=>?_)
 refine aa5 aa7 mixed [] [1,2,3] (fun i:Nat=>i<=32) (fun i=>[(5,.lit (.int .i64 i))]) (fun i=>H++[.cells (.one 28) (List.replicate 32 (.lit (.int .u8 0))),.cells (.one 28) ((aO2 w i).map o8)]) (fun i=>32 - i) (by kernel_rfl) ?_ 0 (by omega) y8 (by rw[show aO2 w 0=List.replicate 32 0 from rfl,<-hz])
 intro i hi;have hl:=cd9 w i;by_cases h:i < 32
 ·have hic:((i:Int) < 32)=True:=eq_true (by omega)
  have hn:aO2 w (i+1)=(aO2 w i).set i (de5 w i):=rfl;have hy:de5 w i=UInt8.ofNat (w.getD (i/8) 0>>>(8*(i%8))).toNat:=rfl;have hg:=ac1 (K:=.u64) (m:=w) (i:=i/8) (by omega)
  generalize aO2 w i=b at*;have e8:((i:Int)/8).toNat=i/8:=by omega
  have e9:(8*((i:Int)%8)).toNat=8*(i%8):=by omega
  repeat' first|refine o6 ?_|simp -dsimp -implicitDefEqProofs (disch:=first|assumption|omega|simp only[ll];omega) only[go_sem,hic,hw,hl,hg,e8,e9,c63,cx9]|refine vcJ ?_ ?_<;>intro _|refine vcA ?_ ?_;focus(repeat'(first|omega|assumption|refine vcA ?_ ?_);done)|omega|refine o7 (fun _=>?_)
  refine again (i+1) ?_ ?_ ?_ y8
  ·omega
  ·omega
  ·rw[hn,hy,ao7];rfl
 ·obtain rfl:i=32:=by omega
  have hf:aY8 w=aO2 w 32:=rfl;rw[hf];generalize aO2 w 32=b at*;have ha:af0 (List.replicate 32 (AV.lit (.int .u8 0))) 0 (b.map o8)=b.map o8:=by
   rw[hz];exact ap9 (by simp) hl
  repeat' first|refine o6 ?_|simp -dsimp -implicitDefEqProofs (disch:=first|assumption|omega|simp only[ll];omega) only[go_sem,hl,ab2,ha]|refine vcJ ?_ ?_<;>intro _|refine vcA ?_ ?_;focus(repeat'(first|omega|assumption|refine vcA ?_ ?_);done)|omega|refine o7 (fun _=>?_)
  exact aa3 _ (Le.refl _) aq5 ⟨rfl,rfl⟩
theorem dl3(a b:List W)(H:List AObj)(ha:a.length=4)(hb:b.length=4):o9 Tryz.prog 185 [.agg (a.map (wAV .u64)),.agg (b.map (wAV .u64))] H (fun y H'=>y=.agg ((a15 a b).map (wAV .u64))/\H'=H):=by
 have hsm: ∀(j:Nat) (q:List W) (x:W),(q.map (wAV .u64)).set j (wAV .u64 x)=(q.set j x).map (wAV .u64):=fun j q x=>by rw[ao7]
 refine y7 [] [.cell 4 212] 71 Tryz.func185 rfl rfl rfl rfl (nlb rfl) (by kernel_rfl) ?_
 repeat' first|refine o6 ?_|simp -dsimp -implicitDefEqProofs (disch:=first|assumption|omega|simp only[ll];omega) only[go_sem,ac4,ha,hb]|refine vcJ ?_ ?_<;>intro _|refine vcA ?_ ?_;focus(repeat'(first|omega|assumption|refine vcA ?_ ?_);done)|omega|refine o7 (fun _=>?_)
 refine aa5 aa7 mixed [] [3,4,5,15] (fun i:Nat=>i<=4) (fun i=>[(16,.lit (.int .i64 i))]) (fun i=>H++[.cells (.one 212) [AV.lit (.int .u64 0),AV.lit (.int .u64 0),AV.lit (.int .u64 0),AV.lit (.int .u64 0),AV.lit (.int .u64 0),AV.lit (.int .u64 0),AV.lit (.int .u64 0),AV.lit (.int .u64 0)],.cells (.one 212) ((aS0 a b i).map (wAV .u64))]) (fun i=>4 - i) (by kernel_rfl) ?_ 0 (by omega) y8 rfl
 intro i hi;have hpl:=cn9 a b i;have hn:aS0 a b (i+1)=(ap8 (a.getD i 0) b i (aS0 a b i) 4).1.set (i+4) (ap8 (a.getD i 0) b i (aS0 a b i) 4).2:=rfl;by_cases h:i < 4
 ·have hic:((i:Int) < 4)=True:=eq_true (by omega)
  have hg:=ac1 (K:=.u64) (m:=a) (i:=i) (by omega)
  generalize aS0 a b i=out at*;repeat' first|refine o6 ?_|simp -dsimp -implicitDefEqProofs (disch:=first|assumption|omega|simp only[ll];omega) only[go_sem,hic,ha,hb,hg,ac4,t4 hb]|refine vcJ ?_ ?_<;>intro _|refine vcA ?_ ?_;focus(repeat'(first|omega|assumption|refine vcA ?_ ?_);done)|omega|refine o7 (fun _=>?_)
  refine aa5 aa7 mixed [] [3,4,5,6,7,15,16,17,18,19,20] (fun k:Nat=>k<=4) (fun k=>[(21,.lit (.int .i64 k)),(8,wAV .u64 (ap8 (a.getD i 0) b i out k).2)]) (fun k=>H++[.cells (.one 212) [AV.lit (.int .u64 0),AV.lit (.int .u64 0),AV.lit (.int .u64 0),AV.lit (.int .u64 0),AV.lit (.int .u64 0),AV.lit (.int .u64 0),AV.lit (.int .u64 0),AV.lit (.int .u64 0)],.cells (.one 212) ((ap8 (a.getD i 0) b i out k).1.map (wAV .u64))]) (fun k=>4 - k) (by kernel_rfl) ?_ 0 (by omega) y8 rfl
  intro k hk;have hql:=q_len (a.getD i 0) b i out k;rw[hpl] at hql;have hqn:ap8 (a.getD i 0) b i out (k+1)=bP5 (a.getD i 0) (b.getD k 0) (i+k) (ap8 (a.getD i 0) b i out k):=rfl;unfold bP5 at hqn;dsimp only at hqn;by_cases h4:k < 4
  ·have hkc:((k:Int) < 4)=True:=eq_true (by omega)
   have hg2:=ac1 (K:=.u64) (m:=b) (i:=k) (by omega)
   have hik:((i:Int)+(k:Int)).toNat=i+k:=by omega
   generalize ap8 (a.getD i 0) b i out k=s at*;have hgs:=ac1 (K:=.u64) (m:=s.1) (i:=i+k) (by omega)
   have hgx: ∀x:W,((s.1.set (i+k) x).map (wAV .u64)).getD (i+k) .any=wAV .u64 x:=fun x=>by
    rw[ac1 (by rw[List.length_set];omega),List.getD,ay5 (by omega)]
    rfl
   have hM:=fun H=>bT0 (a.getD i 0) (b.getD k 0) H
   have hA1: ∀H,o9 Tryz.prog 200 [wAV .u64 (s.1.getD (i+k) 0),wAV .u64 (a.getD i 0*b.getD k 0),.lit (.int .u64 0)] H _:=fun H=>bz1 (s.1.getD (i+k) 0) (a.getD i 0*b.getD k 0) 0 H (by omega)
   generalize hlo:ba8 (s.1.getD (i+k) 0) (a.getD i 0*b.getD k 0) 0=lo at*;have hA2: ∀H,o9 Tryz.prog 200 [wAV .u64 lo.1,wAV .u64 s.2,.lit (.int .u64 0)] H _:=fun H=>bz1 lo.1 s.2 0 H (by omega)
   generalize hup:ba8 lo.1 s.2 0=up at*;repeat' first|refine o6 ?_|simp -dsimp -implicitDefEqProofs (disch:=first|assumption|omega|simp only[ll];omega) only[go_sem,hkc,ha,hb,hg2,hik,hgs,hgx,hsm,hql,cy0]|refine o5 (hM _) ?_|refine⟨_,_,hM _,?_⟩|refine o5 (hA1 _) ?_|refine⟨_,_,hA1 _,?_⟩|refine o5 (hA2 _) ?_|refine⟨_,_,hA2 _,?_⟩|refine vcJ ?_ ?_<;>intro _|refine vcA ?_ ?_;focus(repeat'(first|omega|assumption|refine vcA ?_ ?_);done)|omega|refine o7 (fun _=>?_)
   rw[show hiW (a.getD i 0) (b.getD k 0)+BitVec.ofNat 64 lo.2+BitVec.ofNat 64 up.2=(ap8 (a.getD i 0) b i out (k+1)).2 by rw[hqn]]
   refine again (k+1) ?_ ?_ ?_ y8
   ·omega
   ·omega
   ·rw[hqn]
  ·obtain rfl:k=4:=by omega
   have hi4:((i:Int)+4).toNat=i+4:=by omega
   generalize ap8 (a.getD i 0) b i out 4=s at*;repeat' first|refine o6 ?_|simp -dsimp -implicitDefEqProofs (disch:=first|assumption|omega|simp only[ll];omega) only[go_sem,hi4,hql,hsm]|refine vcJ ?_ ?_<;>intro _|refine vcA ?_ ?_;focus(repeat'(first|omega|assumption|refine vcA ?_ ?_);done)|omega|refine o7 (fun _=>?_)
   rw[<-hn];refine again (i+1) ?_ ?_ rfl y8
   ·omega
   ·omega
 ·obtain rfl:i=4:=by omega
  have hf:a15 a b=aS0 a b 4:=rfl;rw[hf];generalize aS0 a b 4=r at*;repeat' first|refine o6 ?_|simp -dsimp -implicitDefEqProofs (disch:=first|assumption|omega|simp only[ll];omega) only[go_sem,hpl,ac4,cl8 hpl,t8 hpl]|refine vcJ ?_ ?_<;>intro _|refine vcA ?_ ?_;focus(repeat'(first|omega|assumption|refine vcA ?_ ?_);done)|omega|refine o7 (fun _=>?_)
  exact aY3 rfl
def cc3(p:List W×List W):AV:=.tup [.agg (p.1.map (wAV .u64)),.agg (p.2.map (wAV .u64))]
theorem db3{m:Nat}{p:List W×List W}:Low m (cc3 p):=ag8 (aa2 aP3 (aa2 aP3 ab6))
theorem cU9(l:List W):(bY8 l).length=4:=rfl
theorem dH7(l:List W):(bR3 l).length=8:=bL6 _ 2
theorem dK7(l:List W)(H:List AObj)(hl:l.length=8):o9 Tryz.prog 219 [.agg (l.map (wAV .u64))] H (fun y H'=>y=cc3 (bY8 l,bR3 l)/\H'=H):=by
 have hsm: ∀(j:Nat) (q:List W) (x:W),(q.map (wAV .u64)).set j (wAV .u64 x)=(q.set j x).map (wAV .u64):=fun j q x=>by rw[ao7]
 have g0:=ac1 (K:=.u64) (m:=l) (i:=0) (by omega)
 have g1:=ac1 (K:=.u64) (m:=l) (i:=1) (by omega)
 have g2:=ac1 (K:=.u64) (m:=l) (i:=2) (by omega)
 have g3:=ac1 (K:=.u64) (m:=l) (i:=3) (by omega)
 have hlw:[wAV .u64 (l.getD 0 0),wAV .u64 (l.getD 1 0),wAV .u64 (l.getD 2 0),wAV .u64 (l.getD 3 0&&&1152921504606846975#64)]=(bY8 l).map (wAV .u64):=rfl;have a60: ∀x:W,IntKind.u64.wrap (((BitVec.ofInt IntKind.u64.bits (x.toNat:Int)&&&BitVec.ofInt IntKind.u64.bits 1152921504606846975).toNat:Nat):Int)=((x&&&1152921504606846975#64).toNat:Int):=fun x=>by
  show IntKind.u64.wrap (((BitVec.ofInt 64 (x.toNat:Int)&&&1152921504606846975#64).toNat:Nat):Int)=_
  rw[aq0,W64.bh6]
 have hll:=cU9 l;have r60: ∀x:W,x.toNat/1152921504606846976=(x>>>60).toNat:=fun x=>by rw[bz3,aM1]
 have s4: ∀x:W,IntKind.u64.wrap ((x.toNat:Int)*16)=((x<<<4).toNat:Int):=fun x=>c65 x 4
 refine y7 [1000008,1000025,1000025001002] [.cell 2 172,.cell 3 212] 109 Tryz.func219 rfl rfl rfl rfl (nlb rfl) (by kernel_rfl) ?_
 repeat' first|refine o6 ?_|simp -dsimp -implicitDefEqProofs (disch:=first|assumption|omega|simp only[ll];omega) only[go_sem,ac4,hl,g0,g1,g2,g3,a60,hlw,hll,au8 hll,t4 hll]|refine vcJ ?_ ?_<;>intro _|refine vcA ?_ ?_;focus(repeat'(first|omega|assumption|refine vcA ?_ ?_);done)|omega|refine o7 (fun _=>?_)
 generalize bY8 l=lw at*;refine aa5 aa7 mixed [1000008,1000025,1000025001002] [1,2,3,4] (fun i:Nat=>i<=5) (fun i=>[(25,.lit (.int .i64 i))]) (fun i=>H++[.cells (.one 172) (lw.map (wAV .u64)),.cells (.one 212) [AV.lit (.int .u64 0),AV.lit (.int .u64 0),AV.lit (.int .u64 0),AV.lit (.int .u64 0),AV.lit (.int .u64 0),AV.lit (.int .u64 0),AV.lit (.int .u64 0),AV.lit (.int .u64 0)],.cells (.one 93) ((bd7 l i).map (wAV .u64))]) (fun i=>5 - i) (by kernel_rfl) ?_ 0 (by omega) y8 rfl
 intro i hi;have hhl:=dr3 l i;by_cases h:i < 5
 ·have hic:((i:Int) < 5)=True:=eq_true (by omega)
  have hn:bd7 l (i+1)=(bd7 l i).set i (dc1 l i):=rfl;have e3:((i:Int)+3).toNat=i+3:=by omega
  have e4:((i:Int)+4).toNat=i+4:=by omega
  have gi:=ac1 (K:=.u64) (m:=l) (i:=i+3) (by omega)
  generalize bd7 l i=q at*;unfold dc1 at hn;have hgx: ∀x:W,((q.set i x).map (wAV .u64)).getD i .any=wAV .u64 x:=fun x=>by
   rw[ac1 (by rw[List.length_set];omega),List.getD,ay5 (by omega)]
   rfl
  have hss: ∀x y:W,(q.set i x).set i y=q.set i y:=fun x y=>by rw[List.set_set]
  by_cases h8:i+4 < 8
  ·have h8c:((i:Int)+4 < 8)=True:=eq_true (by omega)
   have gi4:=ac1 (K:=.u64) (m:=l) (i:=i+4) (by omega)
   rw[if_pos h8] at hn;repeat' first|refine o6 ?_|simp -dsimp -implicitDefEqProofs (disch:=first|assumption|omega|simp only[ll];omega) only[go_sem,hic,h8c,e3,e4,gi,gi4,hl,hhl,r60,s4,hsm,hgx,hss]|refine vcJ ?_ ?_<;>intro _|refine vcA ?_ ?_;focus(repeat'(first|omega|assumption|refine vcA ?_ ?_);done)|omega|refine o7 (fun _=>?_)
   rw[<-hn];refine again (i+1) ?_ ?_ rfl y8
   ·omega
   ·omega
  ·have h8c:((i:Int)+4 < 8)=False:=eq_false (by omega)
   rw[if_neg h8] at hn;repeat' first|refine o6 ?_|simp -dsimp -implicitDefEqProofs (disch:=first|assumption|omega|simp only[ll];omega) only[go_sem,hic,h8c,e3,e4,gi,hl,hhl,r60,s4,hsm,hgx,hss]|refine vcJ ?_ ?_<;>intro _|refine vcA ?_ ?_;focus(repeat'(first|omega|assumption|refine vcA ?_ ?_);done)|omega|refine o7 (fun _=>?_)
   rw[<-hn];refine again (i+1) ?_ ?_ rfl y8
   ·omega
   ·omega
 ·obtain rfl:i=5:=by omega
  have htn:aP1 bO9=tailW.map (wAV .u64):=rfl;have htl:tailW.length=2:=rfl;have hls:bR3 l=aL8 (bd7 l 5) 2:=rfl;rw[hls];generalize bd7 l 5=hh at*;repeat' first|refine o6 ?_|simp -dsimp -implicitDefEqProofs (disch:=first|assumption|omega|simp only[ll];omega) only[go_sem,hhl,ac4,htn,htl]|refine vcJ ?_ ?_<;>intro _|refine vcA ?_ ?_;focus(repeat'(first|omega|assumption|refine vcA ?_ ?_);done)|omega|refine o7 (fun _=>?_)
  refine aa5 aa7 mixed [1000008,1000025,1000025001002] [2,3,4,49] (fun i:Nat=>i<=2) (fun i=>[(50,.lit (.int .i64 i))]) (fun i=>H++[.cells (.one 172) (lw.map (wAV .u64)),.cells (.one 212) ((aL8 hh i).map (wAV .u64)),.cells (.one 93) (hh.map (wAV .u64))]) (fun i=>2 - i) (by kernel_rfl) ?_ 0 (by omega) y8 rfl
  intro i hi;have hpl:=bL6 hh i;have hn:aL8 hh (i+1)=(ap8 (tailW.getD i 0) hh i (aL8 hh i) 5).1.set (i+5) ((ap8 (tailW.getD i 0) hh i (aL8 hh i) 5).1.getD (i+5) 0+(ap8 (tailW.getD i 0) hh i (aL8 hh i) 5).2):=rfl;by_cases h:i < 2
  ·have hic:((i:Int) < 2)=True:=eq_true (by omega)
   have hg:=ac1 (K:=.u64) (m:=tailW) (i:=i) (by omega)
   generalize aL8 hh i=out at*;generalize tailW.getD i 0=tw at*;generalize tailW=tl at*;repeat' first|refine o6 ?_|simp -dsimp -implicitDefEqProofs (disch:=first|assumption|omega|simp only[ll];omega) only[go_sem,hic,htl,hhl,hg,ac4,t5 hhl]|refine vcJ ?_ ?_<;>intro _|refine vcA ?_ ?_;focus(repeat'(first|omega|assumption|refine vcA ?_ ?_);done)|omega|refine o7 (fun _=>?_)
   refine aa5 aa7 mixed [1000008,1000025,1000025001002] [2,3,4,6,7,49,50,51,52,53,54] (fun k:Nat=>k<=5) (fun k=>[(55,.lit (.int .i64 k)),(8,wAV .u64 (ap8 tw hh i out k).2)]) (fun k=>H++[.cells (.one 172) (lw.map (wAV .u64)),.cells (.one 212) ((ap8 tw hh i out k).1.map (wAV .u64)),.cells (.one 93) (hh.map (wAV .u64))]) (fun k=>5 - k) (by kernel_rfl) ?_ 0 (by omega) y8 rfl
   intro k hk;have hql:=q_len tw hh i out k;rw[hpl] at hql;have hqn:ap8 tw hh i out (k+1)=bP5 tw (hh.getD k 0) (i+k) (ap8 tw hh i out k):=rfl;unfold bP5 at hqn;dsimp only at hqn;by_cases h4:k < 5
   ·have hkc:((k:Int) < 5)=True:=eq_true (by omega)
    have hg2:=ac1 (K:=.u64) (m:=hh) (i:=k) (by omega)
    have hik:((i:Int)+(k:Int)).toNat=i+k:=by omega
    generalize ap8 tw hh i out k=s at*;have hgs:=ac1 (K:=.u64) (m:=s.1) (i:=i+k) (by omega)
    have hgx: ∀x:W,((s.1.set (i+k) x).map (wAV .u64)).getD (i+k) .any=wAV .u64 x:=fun x=>by
     rw[ac1 (by rw[List.length_set];omega),List.getD,ay5 (by omega)]
     rfl
    have hM:=fun H=>bT0 tw (hh.getD k 0) H
    have hA1: ∀H,o9 Tryz.prog 200 [wAV .u64 (s.1.getD (i+k) 0),wAV .u64 (tw*hh.getD k 0),.lit (.int .u64 0)] H _:=fun H=>bz1 (s.1.getD (i+k) 0) (tw*hh.getD k 0) 0 H (by omega)
    generalize hlo:ba8 (s.1.getD (i+k) 0) (tw*hh.getD k 0) 0=lo at*;have hA2: ∀H,o9 Tryz.prog 200 [wAV .u64 lo.1,wAV .u64 s.2,.lit (.int .u64 0)] H _:=fun H=>bz1 lo.1 s.2 0 H (by omega)
    generalize hup:ba8 lo.1 s.2 0=up at*;repeat' first|refine o6 ?_|simp -dsimp -implicitDefEqProofs (disch:=first|assumption|omega|simp only[ll];omega) only[go_sem,hkc,hhl,hg2,hik,hgs,hgx,hsm,hql,cy0]|refine o5 (hM _) ?_|refine⟨_,_,hM _,?_⟩|refine o5 (hA1 _) ?_|refine⟨_,_,hA1 _,?_⟩|refine o5 (hA2 _) ?_|refine⟨_,_,hA2 _,?_⟩|refine vcJ ?_ ?_<;>intro _|refine vcA ?_ ?_;focus(repeat'(first|omega|assumption|refine vcA ?_ ?_);done)|omega|refine o7 (fun _=>?_)
    rw[show hiW tw (hh.getD k 0)+BitVec.ofNat 64 lo.2+BitVec.ofNat 64 up.2=(ap8 tw hh i out (k+1)).2 by rw[hqn]]
    refine again (k+1) ?_ ?_ ?_ y8
    ·omega
    ·omega
    ·rw[hqn]
   ·obtain rfl:k=5:=by omega
    have hi5:((i:Int)+5).toNat=i+5:=by omega
    generalize ap8 tw hh i out 5=s at*;have hgs:=ac1 (K:=.u64) (m:=s.1) (i:=i+5) (by omega)
    repeat' first|refine o6 ?_|simp -dsimp -implicitDefEqProofs (disch:=first|assumption|omega|simp only[ll];omega) only[go_sem,hi5,hql,hsm,hgs]|refine vcJ ?_ ?_<;>intro _|refine vcA ?_ ?_;focus(repeat'(first|omega|assumption|refine vcA ?_ ?_);done)|omega|refine o7 (fun _=>?_)
    rw[<-hn];refine again (i+1) ?_ ?_ rfl y8
    ·omega
    ·omega
  ·obtain rfl:i=2:=by omega
   generalize aL8 hh 2=r at*;have has:=ax7 (l:=lw) (m:=lw) rfl;have hbs:=ax7 (l:=r) (m:=r) rfl;repeat' first|refine o6 ?_|simp -dsimp -implicitDefEqProofs (disch:=first|assumption|omega|simp only[ll];omega) only[go_sem,hpl,hll,ac4,t4 hll,t8 hpl,has,hbs]|refine vcJ ?_ ?_<;>intro _|refine vcA ?_ ?_;focus(repeat'(first|omega|assumption|refine vcA ?_ ?_);done)|omega|refine o7 (fun _=>?_)
   exact aa3 (cc3 (lw,r)) (Le.refl _) db3 ⟨rfl,rfl⟩
theorem bI9(l:List W)(H:List AObj)(hl:l.length=8):o9 Tryz.prog 186 [.agg (l.map (wAV .u64))] H (fun y H'=>y=.agg ((as9 l).map (wAV .u64))/\H'=H):=by
 have hord:aP1 bn6=ak7.map (wAV .u64):=rfl;have hol:ak7.length=4:=rfl;have hR:as9 l=br1 16 (ax4 l 4).1:=rfl;refine y7 [1] [.cell 2 172] 48 Tryz.func186 rfl rfl rfl rfl (nlb rfl) (by kernel_rfl) ?_
 repeat' first|refine o6 ?_|simp -dsimp -implicitDefEqProofs (disch:=first|assumption|omega|simp only[ll];omega) only[go_sem,ac4,hl]|refine vcJ ?_ ?_<;>intro _|refine vcA ?_ ?_;focus(repeat'(first|omega|assumption|refine vcA ?_ ?_);done)|omega|refine o7 (fun _=>?_)
 refine aa5 aa7 mixed [1] [1,2,3] (fun i:Nat=>i<=4) (fun i=>[(9,.lit (.int .i64 i)),(4,.bool (decide (i%2=0)))]) (fun i=>H++[.cells (.one 212) ((ax4 l i).2.map (wAV .u64)),.cells (.one 172) [AV.lit (.int .u64 0),AV.lit (.int .u64 0),AV.lit (.int .u64 0),AV.lit (.int .u64 0)],.cells (.one 172) ((ax4 l i).1.map (wAV .u64))]) (fun i=>4 - i) (by kernel_rfl) ?_ 0 (by omega) y8 rfl
 intro i hi;obtain⟨hs1,hs2⟩:=cq3 hl i;have hn:ax4 l (i+1)=(b54 i (ax4 l i).1 (bY8 (ax4 l i).2),bR3 (ax4 l i).2):=rfl;unfold b54 at hn;by_cases h:i < 4
 ·have hic:((i:Int) < 4)=True:=eq_true (by omega)
  generalize ax4 l i=s at*;have hF:=fun H=>dK7 s.2 H hs2
  unfold cc3 at hF;have hll:=cU9 s.2;have hel:=dH7 s.2;generalize bY8 s.2=lw at*;generalize bR3 s.2=ls at*;have hP:=fun H=>bw4 s.1 lw H hs1 hll
  have hP2:=fun H=>bw4 s.1 ak7 H hs1 hol
  have hpl:(az6 s.1 lw).1.length=4:=by unfold az6;rw[bw8,hs1]
  have hpl2:(az6 s.1 ak7).1.length=4:=by unfold az6;rw[bw8,hs1]
  have hM:=fun H=>cj6 (az6 s.1 ak7).1 lw H hpl2 hll
  have hml:(ao3 (az6 s.1 ak7).1 lw).1.length=4:=by unfold ao3;rw[bx3,hpl2]
  unfold b90 at hP hP2;unfold bQ0 at hM;generalize ao3 (az6 s.1 ak7).1 lw=m at*;generalize az6 s.1 lw=p at*;generalize az6 s.1 ak7=q at*;generalize ak7=ord at*;have ha1:=ax7 (l:=s.2) (m:=ls) (by omega)
  have ha2:=ax7 (l:=s.1) (m:=p.1) (by omega)
  have ha3:=ax7 (l:=s.1) (m:=q.1) (by omega)
  have ha4:=ax7 (l:=q.1) (m:=m.1) (by omega)
  by_cases h2:i%2=0
  ·have hd:=decide_eq_true h2
   have hd2:decide ((i+1)%2=0)=false:=decide_eq_false (by omega)
   rw[if_pos h2] at hn;rw[hd];repeat' first|refine o6 ?_|simp -dsimp -implicitDefEqProofs (disch:=first|assumption|omega|simp only[ll];omega) only[go_sem,hic,ac4,hs1,hs2,hll,hel,hpl,t4 hs1,t4 hll,t8 hs2,t8 hel,t4 hpl,au8 hll,cl8 hel,ha1,ha2]|refine o5 (hF _) ?_|refine⟨_,_,hF _,?_⟩|refine o5 (hP _) ?_|refine⟨_,_,hP _,?_⟩|refine vcJ ?_ ?_<;>intro _|refine vcA ?_ ?_;focus(repeat'(first|omega|assumption|refine vcA ?_ ?_);done)|omega|refine o7 (fun _=>?_)
   rw[<-hd2];refine am1 (H.length+3) ([.cells (.one 172) (lw.map (wAV .u64)),.cells (.one 212) (ls.map (wAV .u64))]) (i+1) ?_ ?_ ?_ ?_ ?_ (by repeat(first|exact af9|(refine af1 ?_ ?_;focus exact cj9))) ?_ y8
   ·omega
   ·omega
   ·rw[hn];simp
   ·simp
   ·simp
   ·exact aU7 fun o ho sh cs e=>by
     simp only[ai9,aG2,or_false] at ho;rcases ho with rfl|rfl|rfl<;>cases e
     ·exact aJ3
     ·exact aJ3 (l:=[0,0,0,0])
     ·exact aJ3
  ·have hd:=decide_eq_false h2
   have hd2:decide ((i+1)%2=0)=true:=decide_eq_true (by omega)
   rw[if_neg h2] at hn;rw[hd];repeat' first|refine o6 ?_|simp -dsimp -implicitDefEqProofs (disch:=first|assumption|omega|simp only[ll];omega) only[go_sem,hic,ac4,hord,hs1,hs2,hll,hel,hpl2,hml,hol,t4 hs1,t4 hll,t8 hs2,t8 hel,t4 hpl2,t4 hml,au8 hll,cl8 hel,ha1,ha3,ha4]|refine o5 (hF _) ?_|refine⟨_,_,hF _,?_⟩|refine o5 (hP2 _) ?_|refine⟨_,_,hP2 _,?_⟩|refine o5 (hM _) ?_|refine⟨_,_,hM _,?_⟩|refine vcJ ?_ ?_<;>intro _|refine vcA ?_ ?_;focus(repeat'(first|omega|assumption|refine vcA ?_ ?_);done)|omega|refine o7 (fun _=>?_)
   rw[<-hd2];refine am1 (H.length+3) ([.cells (.one 172) (lw.map (wAV .u64)),.cells (.one 212) (ls.map (wAV .u64))]) (i+1) ?_ ?_ ?_ ?_ ?_ (by repeat(first|exact af9|(refine af1 ?_ ?_;focus exact cj9))) ?_ y8
   ·omega
   ·omega
   ·rw[hn];simp
   ·simp
   ·simp
   ·exact aU7 fun o ho sh cs e=>by
     simp only[ai9,aG2,or_false] at ho;rcases ho with rfl|rfl|rfl<;>cases e
     ·exact aJ3
     ·exact aJ3 (l:=[0,0,0,0])
     ·exact aJ3
 ·obtain rfl:i=4:=by omega
  rw[hR];generalize hx:(ax4 l 4).1=sm at*;generalize (ax4 l 4).2=rest at*;have hvl:=dT9 hs1;repeat' first|refine o6 ?_|simp -dsimp -implicitDefEqProofs (disch:=first|assumption|omega|simp only[ll];omega) only[go_sem]|refine vcJ ?_ ?_<;>intro _|refine vcA ?_ ?_;focus(repeat'(first|omega|assumption|refine vcA ?_ ?_);done)|omega|refine o7 (fun _=>?_)
  generalize hRR:br1 16 sm=R at*;refine aa5 aa7 mixed [1] [2,3] (fun x:Nat×List W=>x.2.length=4/\bm3 x.2 < x.1*7237005577332262213973186563042994240857116359379907606001950938285454250989/\br1 x.1 x.2=R) (fun x=>[]) (fun x=>H++[.cells (.one 212) (rest.map (wAV .u64)),.cells (.one 172) [AV.lit (.int .u64 0),AV.lit (.int .u64 0),AV.lit (.int .u64 0),AV.lit (.int .u64 0)],.cells (.one 172) (x.2.map (wAV .u64))]) (fun x=>x.1) (by kernel_rfl) ?_ (16,sm) ⟨hs1,by dsimp only;omega,hRR⟩ y8 rfl
  rintro⟨n,s⟩ ⟨hsl,hv,hI⟩
  dsimp only at*;obtain⟨k,rfl⟩: ∃k,n=k+1:=⟨n - 1,by
   cases n with
   |zero=>omega
   |succ n=>rfl⟩
  rw[br1] at hI;have hM:=fun H=>cj6 s ak7 H hsl hol
  have hml:(ao3 s ak7).1.length=4:=by unfold ao3;rw[bx3,hsl]
  have hst:=dp9 (n:=k) hsl hv;unfold bQ0 at hM;generalize ao3 s ak7=p at*;generalize ak7=ord at*;have ha:=ax7 (l:=s) (m:=p.1) (by omega)
  by_cases hb:p.2=1
  ·rw[if_pos hb] at hI
   subst hI;have hd:=decide_eq_true hb;rw[hd] at hM;repeat' first|refine o6 ?_|simp -dsimp -implicitDefEqProofs (disch:=first|assumption|omega|simp only[ll];omega) only[go_sem,hord,ac4,hsl,hml,hol,t4 hsl,t4 hml,t4 hol,au8 hml,au8 hsl]|refine o5 (hM _) ?_|refine⟨_,_,hM _,?_⟩|refine vcJ ?_ ?_<;>intro _|refine vcA ?_ ?_;focus(repeat'(first|omega|assumption|refine vcA ?_ ?_);done)|omega|refine o7 (fun _=>?_)
   exact aY3 rfl
  ·rw[if_neg hb] at hI
   have hst:=hst hb;have hd:=decide_eq_false hb;rw[hd] at hM;repeat' first|refine o6 ?_|simp -dsimp -implicitDefEqProofs (disch:=first|assumption|omega|simp only[ll];omega) only[go_sem,hord,ac4,hsl,hml,hol,t4 hsl,t4 hml,t4 hol,au8 hml,au8 hsl,ha]|refine o5 (hM _) ?_|refine⟨_,_,hM _,?_⟩|refine vcJ ?_ ?_<;>intro _|refine vcA ?_ ?_;focus(repeat'(first|omega|assumption|refine vcA ?_ ?_);done)|omega|refine o7 (fun _=>?_)
   refine am1 (H.length+3) ([.cells (.one 172) (p.1.map (wAV .u64))]) ((k,p.1)) ?_ ?_ ?_ ?_ ?_ (by repeat(first|exact af9|(refine af1 ?_ ?_;focus exact cj9))) ?_ y8
   ·dsimp only;omega
   ·exact⟨hml,hst,hI⟩
   ·simp
   ·simp
   ·simp
   ·exact aU7 fun o ho sh cs e=>by
     simp only[ai9,aG2,or_false] at ho;rcases ho with rfl|rfl|rfl<;>cases e
     ·exact aJ3
     ·exact aJ3 (l:=[0,0,0,0])
     ·exact aJ3
end Sc
end
section
namespace Sc
open Go V Fe
theorem dp6(w:List W)(H:List AObj)(hw:w.length=4):o9 Tryz.prog 188 [.agg (w.map (wAV .u64))] H (fun y H'=>y=.agg ((bd4 w).map (wAV .u64))/\H'=H):=by
 have g0:=ac1 (K:=.u64) (m:=w) (i:=0) (by omega)
 have g1:=ac1 (K:=.u64) (m:=w) (i:=1) (by omega)
 have g2:=ac1 (K:=.u64) (m:=w) (i:=2) (by omega)
 have g3:=ac1 (K:=.u64) (m:=w) (i:=3) (by omega)
 have hc: ∀H,o9 Tryz.prog 186 [.agg [wAV .u64 (w.getD 0 0),wAV .u64 (w.getD 1 0),wAV .u64 (w.getD 2 0),wAV .u64 (w.getD 3 0),.lit (.int .u64 0),.lit (.int .u64 0),.lit (.int .u64 0),.lit (.int .u64 0)]] H _:=fun H=>bI9 [w.getD 0 0,w.getD 1 0,w.getD 2 0,w.getD 3 0,0,0,0,0] H rfl
 have hd:bd4 w=as9 [w.getD 0 0,w.getD 1 0,w.getD 2 0,w.getD 3 0,0,0,0,0]:=rfl;have hr:=bZ0 w;rw[<-hd] at hc;clear hd;generalize bd4 w=r at*;refine y7 [] [.cell 2 172] 13 Tryz.func188 rfl rfl rfl rfl (nlb rfl) (by kernel_rfl) ?_
 repeat' first|refine o6 ?_|simp -dsimp -implicitDefEqProofs (disch:=first|assumption|omega|simp only[ll];omega) only[go_sem,ac4,hw,g0,g1,g2,g3,hr,au8 hr,t4 hr]|refine o5 (hc _) ?_|refine⟨_,hc _,?_⟩|refine⟨_,_,hc _,?_⟩|refine vcJ ?_ ?_<;>intro _|refine vcA ?_ ?_;focus(repeat'(first|omega|assumption|refine vcA ?_ ?_);done)|omega|refine o7 (fun _=>?_)
 exact aY3 rfl
theorem dP8(a:List UInt8)(H:List AObj)(ha:a.length=32):o9 Tryz.prog 94 [.agg (a.map o8)] H (fun y H'=>y=.bool (b74 a)/\H'=H):=by
 have hord:aP1 bn6=ak7.map (wAV .u64):=rfl;have hol:ak7.length=4:=rfl;have hl:=aU8 a;have hc:=fun H=>bx5 (o:=.sh) a H ha
 have hm:=fun H=>cj6 (at6 a) ak7 H hl hol
 have hml:(ao3 (at6 a) ak7).1.length=4:=by unfold ao3;rw[bx3,hl]
 unfold b74;unfold bQ0 at hm;generalize ao3 (at6 a) ak7=p at*;generalize at6 a=w at*;generalize ak7=ord at*;refine y7 [2000007,2000009,1000001,1000001001007,1000001002007,1000001003007] [.tmp 2] 13 Tryz.func94 rfl rfl rfl rfl (nlb rfl) (by kernel_rfl) ?_
 repeat' first|refine o6 ?_|simp -dsimp -implicitDefEqProofs (disch:=first|assumption|omega|simp only[ll];omega) only[go_sem,ab2,ac4,ha,hl,hol,hml,hord,t4 hol,t4 hml,au8 hml]|refine o5 (hc _) ?_|refine⟨_,hc _,?_⟩|refine⟨_,_,hc _,?_⟩|refine o5 (hm _) ?_|refine⟨_,hm _,?_⟩|refine⟨_,_,hm _,?_⟩|refine vcJ ?_ ?_<;>intro _|refine vcA ?_ ?_;focus(repeat'(first|omega|assumption|refine vcA ?_ ?_);done)|omega|refine o7 (fun _=>?_)
 exact aa3 _ (Le.refl _) (.lit _) ⟨rfl,rfl⟩
theorem dx7(a:List UInt8)(H:List AObj)(ha:a.length=64):o9 Tryz.prog 152 [.agg (a.map o8)] H (fun y H'=>y=.agg ((bv8 a).map o8)/\H'=H):=by
 have hc1:=fun H=>bx5 (o:=.sh) (a.take 32) H (by rw[List.length_take];omega)
 have hc2:=fun H=>bx5 (o:=.sh) (a.drop 32) H (by rw[List.length_drop];omega)
 have l1:=aU8 (a.take 32);have l2:=aU8 (a.drop 32);have hd:bv8 a=aY8 (as9 (at6 (a.take 32)++at6 (a.drop 32))):=rfl;rw[hd];clear hd;generalize at6 (a.take 32)=x at*;generalize at6 (a.drop 32)=y at*;have hR:=fun H=>bI9 (x++y) H (by rw[List.length_append];omega)
 have hRl:=bt2 (l:=x++y) (by rw[List.length_append];omega)
 have hB:=fun H=>cx4 (as9 (x++y)) H hRl
 have hBl:=bj4 (as9 (x++y));generalize aY8 (as9 (x++y))=b at*;generalize as9 (x++y)=r at*;have hxy:[wAV .u64 (x.getD 0 0),wAV .u64 (x.getD 1 0),wAV .u64 (x.getD 2 0),wAV .u64 (x.getD 3 0),wAV .u64 (y.getD 0 0),wAV .u64 (y.getD 1 0),wAV .u64 (y.getD 2 0),wAV .u64 (y.getD 3 0)]=(x++y).map (wAV .u64):=by
  match x,l1,y,l2 with
  |[_,_,_,_],_,[_,_,_,_],_=>rfl
 have g0:=ac1 (K:=.u64) (m:=x) (i:=0) (by omega)
 have g1:=ac1 (K:=.u64) (m:=x) (i:=1) (by omega)
 have g2:=ac1 (K:=.u64) (m:=x) (i:=2) (by omega)
 have g3:=ac1 (K:=.u64) (m:=x) (i:=3) (by omega)
 have f0:=ac1 (K:=.u64) (m:=y) (i:=0) (by omega)
 have f1:=ac1 (K:=.u64) (m:=y) (i:=1) (by omega)
 have f2:=ac1 (K:=.u64) (m:=y) (i:=2) (by omega)
 have f3:=ac1 (K:=.u64) (m:=y) (i:=3) (by omega)
 have hz:(List.replicate 32 (AV.lit (.int .u8 0)))=(List.replicate 32 (0:UInt8)).map o8:=by rw[aS6];rfl
 have hba:af0 (List.replicate 32 (AV.lit (.int .u8 0))) 0 (b.map o8)=b.map o8:=by
  rw[hz];exact ap9 (by simp) hBl
 rw[<-hxy] at hR;refine au3 aa7 mixed [] 1 (rs:=[.cell 2 28]) (n:=28) Tryz.func152 rfl rfl rfl rfl (nlb rfl) (by kernel_rfl) ?_
 repeat' first|refine o6 ?_|simp -dsimp -implicitDefEqProofs (disch:=first|assumption|omega|simp only[ll];omega) only[go_sem,ab2,ac4,ha]|refine vcJ ?_ ?_<;>intro _|refine vcA ?_ ?_;focus(repeat'(first|omega|assumption|refine vcA ?_ ?_);done)|omega|refine o7 (fun _=>?_)
 refine cK1 aa7 mixed [] 172 4 2 (by kernel_rfl) ?_
 repeat' first|refine o6 ?_|simp -dsimp -implicitDefEqProofs (disch:=first|assumption|omega|simp only[ll];omega) only[go_sem,ab2,ac4,ha,aZ7,av1,l1,l2,au8 l1,au8 l2,g0,g1,g2,g3,f0,f1,f2,f3,hBl,hba]|refine o5 (fun _ _ _=>hc1 _) ?_|refine⟨_,fun _ _ _=>hc1 _,?_⟩|refine⟨_,_,fun _ _ _=>hc1 _,?_⟩|refine o5 (fun _ _ _=>hc2 _) ?_|refine⟨_,fun _ _ _=>hc2 _,?_⟩|refine⟨_,_,fun _ _ _=>hc2 _,?_⟩|refine o5 (hR _) ?_|refine⟨_,hR _,?_⟩|refine⟨_,_,hR _,?_⟩|refine o5 (hB _) ?_|refine⟨_,hB _,?_⟩|refine⟨_,_,hB _,?_⟩|refine vcJ ?_ ?_<;>intro _|refine vcA ?_ ?_;focus(repeat'(first|omega|assumption|refine vcA ?_ ?_);done)|omega|refine o7 (fun _=>?_)
 exact aa3 _ (Le.refl _) aq5 ⟨rfl,rfl⟩
theorem dQ1(a b c:List UInt8)(H:List AObj)(ha:a.length=32)(hb:b.length=32)(hc:c.length=32):o9 Tryz.prog 141 [.agg (a.map o8),.agg (b.map o8),.agg (c.map o8)] H (fun y H'=>y=.agg ((bk3 a b c).map o8)/\H'=H):=by
 have h1:=fun H=>bx5 (o:=.sh) a H ha
 have h2:=fun H=>bx5 (o:=.sh) b H hb
 have h3:=fun H=>bx5 (o:=.sh) c H hc
 have l1:=aU8 a;have l2:=aU8 b;have l3:=aU8 c;have hd:bk3 a b c=aY8 (bd4 (az6 (as9 (a15 (at6 a) (at6 b))) (bd4 (at6 c))).1):=rfl;rw[hd];clear hd;generalize at6 a=x at*;generalize at6 b=y at*;generalize at6 c=z at*;have h4:=fun H=>dl3 x y H l1 l2
 have l4:(a15 x y).length=8:=cn9 x y 4;generalize a15 x y=p at*;have h5:=fun H=>bI9 p H l4
 have l5:=bt2 l4;generalize as9 p=r at*;have h6:=fun H=>dp6 z H l3
 have l6:=bZ0 z;generalize bd4 z=u at*;have h7:=fun H=>bw4 r u H l5 l6
 have l7:(az6 r u).1.length=4:=by unfold az6;rw[bw8,l5]
 unfold b90 at h7;generalize az6 r u=s at*;have h8:=fun H=>dp6 s.1 H l7
 have l8:=bZ0 s.1;generalize bd4 s.1=v at*;have h9:=fun H=>cx4 v H l8
 have l9:=bj4 v;generalize aY8 v=o at*;have hz:(List.replicate 32 (AV.lit (.int .u8 0)))=(List.replicate 32 (0:UInt8)).map o8:=by rw[aS6];rfl
 have hba:af0 (List.replicate 32 (AV.lit (.int .u8 0))) 0 (o.map o8)=o.map o8:=by
  rw[hz];exact ap9 (by simp) l9
 refine y7 [2000011,2000013,2000014,2000015,2000019,2000020,2000021,1000001,1000001001006,1000001003006,1000001004006,1000001005006,1000002,1000002000008,1000002002008,1000002003008,1000002004008] [.cell 6 28] 27 Tryz.func141 rfl rfl rfl rfl (nlb rfl) (by kernel_rfl) ?_
 repeat' first|refine o6 ?_|simp -dsimp -implicitDefEqProofs (disch:=first|assumption|omega|simp only[ll];omega) only[go_sem,ab2,ac4,ha,hb,hc,l5,l7,l9,t4 l5,t4 l7,au8 l5,au8 l7,hba]|refine o5 (h1 _) ?_|refine⟨_,h1 _,?_⟩|refine⟨_,_,h1 _,?_⟩|refine o5 (h2 _) ?_|refine⟨_,h2 _,?_⟩|refine⟨_,_,h2 _,?_⟩|refine o5 (h3 _) ?_|refine⟨_,h3 _,?_⟩|refine⟨_,_,h3 _,?_⟩|refine o5 (h4 _) ?_|refine⟨_,h4 _,?_⟩|refine⟨_,_,h4 _,?_⟩|refine o5 (h5 _) ?_|refine⟨_,h5 _,?_⟩|refine⟨_,_,h5 _,?_⟩|refine o5 (h6 _) ?_|refine⟨_,h6 _,?_⟩|refine⟨_,_,h6 _,?_⟩|refine o5 (h7 _) ?_|refine⟨_,h7 _,?_⟩|refine⟨_,_,h7 _,?_⟩|refine o5 (h8 _) ?_|refine⟨_,h8 _,?_⟩|refine⟨_,_,h8 _,?_⟩|refine o5 (h9 _) ?_|refine⟨_,h9 _,?_⟩|refine⟨_,_,h9 _,?_⟩|refine vcJ ?_ ?_<;>intro _|refine vcA ?_ ?_;focus(repeat'(first|omega|assumption|refine vcA ?_ ?_);done)|omega|refine o7 (fun _=>?_)
 exact aa3 _ (Le.refl _) aq5 ⟨rfl,rfl⟩
theorem d88(a:List UInt8)(H:List AObj)(ha:a.length=32):o9 Tryz.prog 61 [.agg (a.map o8)] H (fun y H'=>y=.agg ((aR4 a).map o8)/\H'=H):=by
 have hz:(List.replicate 32 (AV.lit (.int .u8 0)))=(List.replicate 32 (0:UInt8)).map o8:=by rw[aS6];rfl
 have a1: ∀x:UInt8,IntKind.u8.wrap (((BitVec.ofInt IntKind.u8.bits (x.toNat:Int)&&&BitVec.ofInt IntKind.u8.bits 248).toNat:Nat):Int)=((x&&&248).toNat:Int):=fun x=>bv0 x 248
 have a2: ∀x:UInt8,IntKind.u8.wrap (((BitVec.ofInt IntKind.u8.bits (x.toNat:Int)&&&BitVec.ofInt IntKind.u8.bits 63).toNat:Nat):Int)=((x&&&63).toNat:Int):=fun x=>bv0 x 63
 have a3: ∀x:UInt8,IntKind.u8.wrap (((BitVec.ofInt IntKind.u8.bits (x.toNat:Int)|||BitVec.ofInt IntKind.u8.bits 64).toNat:Nat):Int)=((x|||64).toNat:Int):=fun x=>b52 x 64
 have hsb: ∀(j:Nat) (o:List UInt8) (x:UInt8),(o.map o8).set j (.lit (.int .u8 (x.toNat:Int)))=(o.set j x).map o8:=fun j o x=>by rw[ao7];rfl
 have hg: ∀x:UInt8,((a.set 0 x).map o8).getD 31 .any=.lit (.int .u8 ((a.getD 31 0).toNat:Int)):=fun x=>by
  rw[List.getD,ak6,ar5 (by omega),List.getD,xq1 (show 31 < a.length by omega)]
  rfl
 have hcl:(aR4 a).length=32:=by unfold aR4;rw[List.length_set,List.length_set,ha]
 have hcb:(a.set 0 (a.getD 0 0&&&248)).set 31 (a.getD 31 0&&&63|||64)=aR4 a:=rfl
 have hba:af0 (List.replicate 32 (AV.lit (.int .u8 0))) 0 ((aR4 a).map o8)=(aR4 a).map o8:=by
  rw[hz];exact ap9 (by simp) hcl
 refine y7 [1] [.cell 2 28] 13 Tryz.func61 rfl rfl rfl rfl (nlb rfl) (by kernel_rfl) ?_
 repeat' first|refine o6 ?_|simp -dsimp -implicitDefEqProofs (disch:=first|assumption|omega|simp only[ll];omega) only[go_sem,ab2,ha,a1,a2,a3,hsb,hg,hcb,hcl,hba]|refine vcJ ?_ ?_<;>intro _|refine vcA ?_ ?_;focus(repeat'(first|omega|assumption|refine vcA ?_ ?_);done)|omega|refine o7 (fun _=>?_)
 exact aa3 _ (Le.refl _) aq5 ⟨rfl,rfl⟩
end Sc
end
section
namespace Cu
open Go V Fe
def pX(p:List W):List W:=p.take 5
def pY(p:List W):List W:=(p.drop 5).take 5
def pZ(p:List W):List W:=(p.drop 10).take 5
def pT(p:List W):List W:=(p.drop 15).take 5
def aP0:List W:=da8 bQ3
def ay2(x y:List W):List W:=x++(y++(aH1++aa8 x y))
def ay3(e f g h:List W):List W:=aa8 e f++(aa8 g h++(aa8 f g++aa8 e h))
def aQ4:List W:=aj1 aP0 aP0
def ce3:List W:=[1738742601995546,1146398526822698,2070867633025821,562264141797630,587772402128613]
def ce2:List W:=[1801439850948184,1351079888211148,450359962737049,900719925474099,1801439850948198]
def be0:List W:=ay2 ce3 ce2
def bh3:List W:=ay2 zeroE aH1
def aP(p q:List W):List W:=aa8 (ae5 (pY p) (pX p)) (ae5 (pY q) (pX q))
def bP(p q:List W):List W:=aa8 (aj1 (pY p) (pX p)) (aj1 (pY q) (pX q))
def cP(p q:List W):List W:=aa8 (aa8 (pT p) (pT q)) aQ4
def dP(p q:List W):List W:=aj1 (aa8 (pZ p) (pZ q)) (aa8 (pZ p) (pZ q))
def bc7(p q:List W):List W:=ay3 (ae5 (bP p q) (aP p q)) (ae5 (dP p q) (cP p q)) (aj1 (dP p q) (cP p q)) (aj1 (bP p q) (aP p q))
def sqF(x:List W):List W:=aa8 x x
def ek6(x y z:List W):List W:=
 ay3 (ae5 (aj1 (sqF x) (sqF y)) (sqF (aj1 x y))) (aj1 (aj1 (sqF z) (sqF z)) (ae5 (sqF x) (sqF y))) (ae5 (sqF x) (sqF y)) (aj1 (sqF x) (sqF y))
def aB5(q:List W):List W:=ek6 (pX q) (pY q) (pZ q)
def ba5(k:List UInt8)(i:Nat):Bool:=decide (((k.getD (i/8) 0>>>UInt8.ofNat (i%8))&&&1)=1)
def aC3(p:List W)(k:List UInt8):Nat->List W
 |0=>bh3
 |j+1=>if ba5 k (255 - j)=true then bc7 (aB5 ((aC3 p k j).take 15)) p else aB5 ((aC3 p k j).take 15)
def aS2(p:List W)(k:List UInt8):List W:=aC3 p k 256
def bI6(out:List UInt8)(odd:Bool):List UInt8:=if odd=true then out.set 31 (out.getD 31 0|||128) else out
def aE8(q:List W):List UInt8:=bI6 (ak2 (aa8 (pY q) (aw2 (pZ q) aT3))) (bJ5 (aa8 (pX q) (aw2 (pZ q) aT3)))
theorem aF5{x y:List W}(hx:x.length=5)(hy:y.length=5):(ay2 x y).length=20:=by
 unfold ay2;rw[List.length_append,List.length_append,List.length_append,ac8,hx,hy];rfl
theorem aY4(e f g h:List W):(ay3 e f g h).length=20:=by
 unfold ay3;rw[List.length_append,List.length_append,List.length_append,ac8,ac8,ac8,ac8]
theorem bq6(p q:List W):(bc7 p q).length=20:=aY4 _ _ _ _
theorem bV2(q:List W):(aB5 q).length=20:=aY4 _ _ _ _
theorem bG5:bh3.length=20:=aF5 rfl rfl
theorem bN1:be0.length=20:=aF5 rfl rfl
theorem co6(p:List W)(k:List UInt8)(j:Nat):(aC3 p k j).length=20:=by
 cases j with
 |zero=>exact bG5
 |succ j=>
  rw[aC3];split
  ·exact bq6 _ _
  ·exact bV2 _
theorem bY5(p:List W)(k:List UInt8):(aS2 p k).length=20:=co6 p k 256
theorem c69(out:List UInt8)(odd:Bool):(bI6 out odd).length=out.length:=by
 unfold bI6;split
 ·rw[List.length_set]
 ·rfl
theorem bj5(q:List W):(aE8 q).length=32:=by unfold aE8;rw[c69,aO1]
theorem bJ3{p:List W}(h:15<=p.length):(pX p).length=5:=by unfold pX;rw[List.length_take];omega
theorem bw7{p:List W}(h:15<=p.length):(pY p).length=5:=by unfold pY;rw[List.length_take,List.length_drop];omega
theorem bw6{p:List W}(h:15<=p.length):(pZ p).length=5:=by unfold pZ;rw[List.length_take,List.length_drop];omega
theorem dl7{p:List W}(h:20<=p.length):(pT p).length=5:=by unfold pT;rw[List.length_take,List.length_drop];omega
end Cu
end
section
namespace Cu
open Go V Fe
theorem be6{l:List W}{n:Nat}:(l.map (wAV .u64)).take n=(l.take n).map (wAV .u64):=cf8.symm
theorem bM1{l:List W}{n:Nat}:(l.map (wAV .u64)).drop n=(l.drop n).map (wAV .u64):=List.map_drop.symm
theorem cE0:aP1 bQ3=aP0.map (wAV .u64):=rfl
def aL9:List W->Nat->List W->List W
 |cs,_,[]=>cs
 |cs,off,x::r=>aL9 (cs.set off x) (off+1) r
theorem ak9: ∀(m l:List W) (k:Nat),af0 (l.map (wAV .u64)) k (m.map (wAV .u64))=(aL9 l k m).map (wAV .u64)
 |[],_,_=>rfl
 |x::r,l,k=>by
  rw[List.map_cons,af0,aL9,<-ak9 r,ao7]
theorem bg1: ∀(m l:List W) (k:Nat),(aL9 l k m).length=l.length
 |[],_,_=>rfl
 |x::r,l,k=>by rw[aL9,bg1 r,List.length_set]
theorem bF2: ∀(zs cs:List W) (off:Nat),off+zs.length<=cs.length->aL9 cs off zs=cs.take off++zs++cs.drop (off+zs.length)
 |[],cs,off,_=>by simp[aL9]
 |x::r,cs,off,h=>by
  rw[List.length_cons] at h;rw[aL9,bF2 r _ _ (by rw[List.length_set];omega)]
  have e1:(cs.set off x).take (off+1)=cs.take off++[x]:=by
   rw[b40,List.take_set_of_le (by omega),ay5 (by omega)]
   rfl
  rw[e1,List.drop_set_of_lt (by omega),List.length_cons,show off+(r.length+1)=off+1+r.length by omega]
  simp
theorem am0{l m:List W}(h:m.length=l.length):aL9 l 0 m=m:=by
 rw[bF2 _ _ _ (by omega)]
 simp[h]
theorem aI5{n:Nat}:List.replicate n (AV.lit (.int .u64 0))=(List.replicate n (0:W)).map (wAV .u64):=by
 rw[aS6];rfl
theorem dB4{x y z:List W}(hx:x.length=5)(hy:y.length=5)(hz:z.length=5):aL9 (aL9 (aL9 (List.replicate 15 0) 0 x) 5 y) 10 z=x++(y++z):=by
 match x,hx,y,hy,z,hz with
 |[_,_,_,_,_],_,[_,_,_,_,_],_,[_,_,_,_,_],_=>rfl
theorem ec9{q t:List W}(hq:q.length=15)(ht:t.length=5):aL9 (aL9 (List.replicate 20 0) 0 q) 15 t=q++t:=by
 rw[bF2 t _ _ (by rw[bg1,List.length_replicate];omega),bF2 q _ _ (by rw[List.length_replicate];omega)]
 simp[hq,ht]
theorem aH3{l:List W}:(l.map (wAV .u64)).length=l.length:=List.length_map _
theorem aR3{H M:List AObj}{l m:List W}(h:l=m):Done H (fun y H'=>y=AV.agg (m.map (wAV .u64))/\H'=H) (.agg (l.map (wAV .u64))) (H++M):=by
 subst h;exact aa3 _ (Le.refl _) aP3 ⟨rfl,rfl⟩
theorem cc6(x y:List W)(H:List AObj)(hx:x.length=5)(hy:y.length=5):o9 Tryz.prog 98 [.agg (x.map (wAV .u64)),.agg (y.map (wAV .u64))] H (fun r H'=>r=.agg ((ay2 x y).map (wAV .u64))/\H'=H):=by
 have hc:=fun H=>as3 x y H hx hy
 have hl:=ac8 x y;have h1:aH1.length=5:=rfl;have hq:(x++(y++aH1)).length=15:=by rw[List.length_append,List.length_append,hx,hy];rfl
 have hr:ay2 x y=(x++(y++aH1))++aa8 x y:=by unfold ay2;simp
 have hrl:(ay2 x y).length=20:=aF5 hx hy;have p3:=dB4 hx hy h1;have p4:=ec9 hq hl;rw[<-hr] at p4;have hs:=am0 (l:=List.replicate 20 0) (m:=ay2 x y) (by rw[List.length_replicate];exact hrl)
 generalize ay2 x y=r at*;generalize x++(y++aH1)=q at*;generalize aa8 x y=t at*;refine y7 [2000011,1000001] [.cell 4 98] 13 Tryz.func98 rfl rfl rfl rfl (nlb rfl) (by kernel_rfl) ?_
 repeat' first|refine o6 ?_|simp -dsimp -implicitDefEqProofs (disch:=first|assumption|omega|simp only[ll];omega) only[go_sem,ac4,hx,hy,hl,h1,bQ5,aI5,ak9,bg1,List.length_replicate,aH3,p3,p4,hq,hrl,hs]|refine o5 (hc _) ?_|refine⟨_,hc _,?_⟩|refine⟨_,_,hc _,?_⟩|refine vcJ ?_ ?_<;>intro _|refine vcA ?_ ?_;focus(repeat'(first|omega|assumption|refine vcA ?_ ?_);done)|omega|refine o7 (fun _=>?_)
 exact aR3 rfl
theorem cJ4(e f g h:List W)(H:List AObj)(he:e.length=5)(hf:f.length=5)(hg:g.length=5)(hh:h.length=5):o9 Tryz.prog 156 [.agg (e.map (wAV .u64)),.agg (f.map (wAV .u64)),.agg (g.map (wAV .u64)),.agg (h.map (wAV .u64))] H (fun r H'=>r=.agg ((ay3 e f g h).map (wAV .u64))/\H'=H):=by
 have c1:=fun H=>as3 e f H he hf
 have c2:=fun H=>as3 g h H hg hh
 have c3:=fun H=>as3 f g H hf hg
 have c4:=fun H=>as3 e h H he hh
 have l1:=ac8 e f;have l2:=ac8 g h;have l3:=ac8 f g;have l4:=ac8 e h;have hq:(aa8 e f++(aa8 g h++aa8 f g)).length=15:=by rw[List.length_append,List.length_append,l1,l2,l3]
 have hr:ay3 e f g h=(aa8 e f++(aa8 g h++aa8 f g))++aa8 e h:=by unfold ay3;simp
 have hrl:(ay3 e f g h).length=20:=aY4 _ _ _ _;have p3:=dB4 l1 l2 l3;have p4:=ec9 hq l4;rw[<-hr] at p4;have hs:=am0 (l:=List.replicate 20 0) (m:=ay3 e f g h) (by rw[List.length_replicate];exact hrl)
 clear hr;generalize ay3 e f g h=r at*;generalize aa8 e f++(aa8 g h++aa8 f g)=q at*;generalize aa8 e f=t1 at*;generalize aa8 g h=t2 at*;generalize aa8 f g=t3 at*;generalize aa8 e h=t4 at*;refine y7 [2000011,2000014,2000017,2000021,1000001] [.cell 8 98] 23 Tryz.func156 rfl rfl rfl rfl (nlb rfl) (by kernel_rfl) ?_
 repeat' first|refine o6 ?_|simp -dsimp -implicitDefEqProofs (disch:=first|assumption|omega|simp only[ll];omega) only[go_sem,ac4,he,hf,hg,hh,l1,l2,l3,l4,aI5,ak9,bg1,List.length_replicate,aH3,p3,p4,hq,hrl,hs]|refine o5 (c1 _) ?_|refine⟨_,c1 _,?_⟩|refine⟨_,_,c1 _,?_⟩|refine o5 (c2 _) ?_|refine⟨_,c2 _,?_⟩|refine⟨_,_,c2 _,?_⟩|refine o5 (c3 _) ?_|refine⟨_,c3 _,?_⟩|refine⟨_,_,c3 _,?_⟩|refine o5 (c4 _) ?_|refine⟨_,c4 _,?_⟩|refine⟨_,_,c4 _,?_⟩|refine vcJ ?_ ?_<;>intro _|refine vcA ?_ ?_;focus(repeat'(first|omega|assumption|refine vcA ?_ ?_);done)|omega|refine o7 (fun _=>?_)
 exact aR3 rfl
theorem cC8:aP0.length=5:=rfl
theorem cm5:aQ4.length=5:=by unfold aQ4;rw[aB1];rfl
theorem dU7(H:List AObj):o9 Tryz.prog 157 [] H (fun r H'=>r=.agg (aQ4.map (wAV .u64))/\H'=H):=by
 have hl:=cC8;have hc:=fun H=>aO5 aP0 aP0 H hl hl
 have ht:=cm5;have hd:aj1 aP0 aP0=aQ4:=rfl;rw[hd] at hc;have hn:=cE0;clear hd;generalize aQ4=t at*;generalize aP0=o at*;refine y7 [] [.cell 0 94] 4 Tryz.func157 rfl rfl rfl rfl (nlb rfl) (by kernel_rfl) ?_
 repeat' first|refine o6 ?_|simp -dsimp -implicitDefEqProofs (disch:=first|assumption|omega|simp only[ll];omega) only[go_sem,ac4,hl,ht,hn,t5 ht,ae3 ht]|refine o5 (hc _) ?_|refine⟨_,hc _,?_⟩|refine⟨_,_,hc _,?_⟩|refine vcJ ?_ ?_<;>intro _|refine vcA ?_ ?_;focus(repeat'(first|omega|assumption|refine vcA ?_ ?_);done)|omega|refine o7 (fun _=>?_)
 exact aR3 rfl
theorem d89(H:List AObj):o9 Tryz.prog 99 [] H (fun r H'=>r=.agg (bh3.map (wAV .u64))/\H'=H):=by
 have h1:aH1.length=5:=rfl;have hc: ∀H,o9 Tryz.prog 98 [.agg [AV.lit (.int .u64 0),AV.lit (.int .u64 0),AV.lit (.int .u64 0),AV.lit (.int .u64 0),AV.lit (.int .u64 0)],.agg (aH1.map (wAV .u64))] H _:=fun H=>cc6 zeroE aH1 H rfl rfl
 have hd:ay2 zeroE aH1=bh3:=rfl;rw[hd] at hc;have hl:=bG5;have hs:=am0 (l:=List.replicate 20 0) (m:=bh3) (by rw[List.length_replicate];exact hl)
 have hn:=bQ5;clear hd;generalize bh3=z at*;generalize aH1=o at*;refine y7 [] [.cell 0 98] 4 Tryz.func99 rfl rfl rfl rfl (nlb rfl) (by kernel_rfl) ?_
 repeat' first|refine o6 ?_|simp -dsimp -implicitDefEqProofs (disch:=first|assumption|omega|simp only[ll];omega) only[go_sem,ac4,h1,hn,hl,aI5,ak9,hs,aH3]|refine o5 (hc _) ?_|refine⟨_,hc _,?_⟩|refine⟨_,_,hc _,?_⟩|refine vcJ ?_ ?_<;>intro _|refine vcA ?_ ?_;focus(repeat'(first|omega|assumption|refine vcA ?_ ?_);done)|omega|refine o7 (fun _=>?_)
 exact aR3 rfl
theorem dw1(H:List AObj):o9 Tryz.prog 57 [] H (fun r H'=>r=.agg (be0.map (wAV .u64))/\H'=H):=by
 have hc: ∀H,o9 Tryz.prog 98 [.agg [.lit (.int .u64 1738742601995546),.lit (.int .u64 1146398526822698),.lit (.int .u64 2070867633025821),.lit (.int .u64 562264141797630),.lit (.int .u64 587772402128613)],.agg [.lit (.int .u64 1801439850948184),.lit (.int .u64 1351079888211148),.lit (.int .u64 450359962737049),.lit (.int .u64 900719925474099),.lit (.int .u64 1801439850948198)]] H _:=fun H=>cc6 ce3 ce2 H rfl rfl
 have hd:ay2 ce3 ce2=be0:=rfl;rw[hd] at hc;have hl:=bN1;have hs:=am0 (l:=List.replicate 20 0) (m:=be0) (by rw[List.length_replicate];exact hl)
 clear hd;generalize be0=z at*;refine y7 [] [.cell 0 98] 4 Tryz.func57 rfl rfl rfl rfl (nlb rfl) (by kernel_rfl) ?_
 repeat' first|refine o6 ?_|simp -dsimp -implicitDefEqProofs (disch:=first|assumption|omega|simp only[ll];omega) only[go_sem,ac4,hl,aI5,ak9,hs,aH3]|refine o5 (hc _) ?_|refine⟨_,hc _,?_⟩|refine⟨_,_,hc _,?_⟩|refine vcJ ?_ ?_<;>intro _|refine vcA ?_ ?_;focus(repeat'(first|omega|assumption|refine vcA ?_ ?_);done)|omega|refine o7 (fun _=>?_)
 exact aR3 rfl
theorem tX{p:List W}:(p.take 15).take 5=pX p:=by rw[bO0];rfl
theorem tY{p:List W}:((p.take 15).drop 5).take 5=pY p:=by rw[ct8,bO0];rfl
theorem tZ{p:List W}:((p.take 15).drop 10).take 5=pZ p:=by rw[ct8,bO0];rfl
theorem tT{p:List W}(h:p.length=20):p.drop 15=pT p:=by
 unfold pT;rw[ak5 (by rw[List.length_drop];omega)]
theorem bw4(p q:List W)(H:List AObj)(hp:p.length=20)(hq:q.length=20):o9 Tryz.prog 101 [.agg (p.map (wAV .u64)),.agg (q.map (wAV .u64))] H (fun r H'=>r=.agg ((bc7 p q).map (wAV .u64))/\H'=H):=by
 have px:=bJ3 (p:=p) (by omega)
 have py:=bw7 (p:=p) (by omega)
 have pz:=bw6 (p:=p) (by omega)
 have pt:=dl7 (p:=p) (by omega)
 have qx:=bJ3 (p:=q) (by omega)
 have qy:=bw7 (p:=q) (by omega)
 have qz:=bw6 (p:=q) (by omega)
 have qt:=dl7 (p:=q) (by omega)
 have c1:=fun H=>aV5 (pY p) (pX p) H py px
 have c2:=fun H=>aV5 (pY q) (pX q) H qy qx
 have l1:=(aq7 (pY p) (pX p)).trans py;have l2:=(aq7 (pY q) (pX q)).trans qy;have c3:=fun H=>as3 (ae5 (pY p) (pX p)) (ae5 (pY q) (pX q)) H l1 l2
 have l3:=ac8 (ae5 (pY p) (pX p)) (ae5 (pY q) (pX q));have c4:=fun H=>aO5 (pY p) (pX p) H py px
 have c5:=fun H=>aO5 (pY q) (pX q) H qy qx
 have l4:=(aB1 (pY p) (pX p)).trans py;have l5:=(aB1 (pY q) (pX q)).trans qy;have c6:=fun H=>as3 (aj1 (pY p) (pX p)) (aj1 (pY q) (pX q)) H l4 l5
 have l6:=ac8 (aj1 (pY p) (pX p)) (aj1 (pY q) (pX q));have c7:=fun H=>as3 (pT p) (pT q) H pt qt
 have l7:=ac8 (pT p) (pT q);have c8:=dU7;have l8:=cm5;have c9:=fun H=>as3 (aa8 (pT p) (pT q)) aQ4 H l7 l8
 have l9:=ac8 (aa8 (pT p) (pT q)) aQ4;have c10:=fun H=>as3 (pZ p) (pZ q) H pz qz
 have l10:=ac8 (pZ p) (pZ q);have c11:=fun H=>aO5 (aa8 (pZ p) (pZ q)) (aa8 (pZ p) (pZ q)) H l10 l10
 have l11:=(aB1 (aa8 (pZ p) (pZ q)) (aa8 (pZ p) (pZ q))).trans l10;unfold bc7 aP bP cP dP;generalize ae5 (pY p) (pX p)=x1 at*;generalize ae5 (pY q) (pX q)=x2 at*;generalize aj1 (pY p) (pX p)=x4 at*;generalize aj1 (pY q) (pX q)=x5 at*;generalize aa8 (pT p) (pT q)=x7 at*;generalize aQ4=x8 at*;generalize aa8 (pZ p) (pZ q)=x10 at*;generalize aa8 x1 x2=a at*;generalize aa8 x4 x5=b at*;generalize aa8 x7 x8=c at*;generalize aj1 x10 x10=d at*;have c12:=fun H=>aV5 b a H l6 l3
 have l12:=(aq7 b a).trans l6;have c13:=fun H=>aV5 d c H l11 l9
 have l13:=(aq7 d c).trans l11;have c14:=fun H=>aO5 d c H l11 l9
 have l14:=(aB1 d c).trans l11;have c15:=fun H=>aO5 b a H l6 l3
 have l15:=(aB1 b a).trans l6;generalize ae5 b a=e at*;generalize ae5 d c=f at*;generalize aj1 d c=g at*;generalize aj1 b a=h at*;have c16:=fun H=>cJ4 e f g h H l12 l13 l14 l15
 have l16:=aY4 e f g h;generalize ay3 e f g h=r at*;have hs:=am0 (l:=List.replicate 20 0) (m:=r) (by rw[List.length_replicate];exact l16)
 have ha:=ax7 (l:=x10) (m:=d) (by omega)
 refine y7 [2000015,2000022,2000023,2000030,2000037,2000038,2000058,2000061,2000064,2000067,2000068,1000001,1000001002015,1000001005015,1000001006015,1000001009015,1000001012015,1000001013015,1000001014015,1000002,1000002002015,1000002005015,1000002006015,1000002009015,1000002012015,1000002013015,1000002014015,1000006] [.cell 4 98] 69 Tryz.func101 rfl rfl rfl rfl (nlb rfl) (by kernel_rfl) ?_
 repeat' first|refine o6 ?_|simp -dsimp -implicitDefEqProofs (disch:=first|assumption|omega|simp only[ll];omega) only[go_sem,ac4,hp,hq,be6,bM1,tX,tY,tZ,tT hp,tT hq,px,py,pz,pt,qx,qy,qz,qt,l1,l2,l3,l4,l5,l6,l7,l8,l9,l10,l11,l12,l13,l14,l15,l16,ae3 l3,ae3 l6,ae3 l9,ae3 l10,ha,aI5,ak9,hs,aH3]|refine o5 (c1 _) ?_|refine⟨_,c1 _,?_⟩|refine⟨_,_,c1 _,?_⟩|refine o5 (c2 _) ?_|refine⟨_,c2 _,?_⟩|refine⟨_,_,c2 _,?_⟩|refine o5 (c3 _) ?_|refine⟨_,c3 _,?_⟩|refine⟨_,_,c3 _,?_⟩|refine o5 (c4 _) ?_|refine⟨_,c4 _,?_⟩|refine⟨_,_,c4 _,?_⟩|refine o5 (c5 _) ?_|refine⟨_,c5 _,?_⟩|refine⟨_,_,c5 _,?_⟩|refine o5 (c6 _) ?_|refine⟨_,c6 _,?_⟩|refine⟨_,_,c6 _,?_⟩|refine o5 (c7 _) ?_|refine⟨_,c7 _,?_⟩|refine⟨_,_,c7 _,?_⟩|refine o5 (c8 _) ?_|refine⟨_,c8 _,?_⟩|refine⟨_,_,c8 _,?_⟩|refine o5 (c9 _) ?_|refine⟨_,c9 _,?_⟩|refine⟨_,_,c9 _,?_⟩|refine o5 (c10 _) ?_|refine⟨_,c10 _,?_⟩|refine⟨_,_,c10 _,?_⟩|refine o5 (c11 _) ?_|refine⟨_,c11 _,?_⟩|refine⟨_,_,c11 _,?_⟩|refine o5 (c12 _) ?_|refine⟨_,c12 _,?_⟩|refine⟨_,_,c12 _,?_⟩|refine o5 (c13 _) ?_|refine⟨_,c13 _,?_⟩|refine⟨_,_,c13 _,?_⟩|refine o5 (c14 _) ?_|refine⟨_,c14 _,?_⟩|refine⟨_,_,c14 _,?_⟩|refine o5 (c15 _) ?_|refine⟨_,c15 _,?_⟩|refine⟨_,_,c15 _,?_⟩|refine o5 (c16 _) ?_|refine⟨_,c16 _,?_⟩|refine⟨_,_,c16 _,?_⟩|refine vcJ ?_ ?_<;>intro _|refine vcA ?_ ?_;focus(repeat'(first|omega|assumption|refine vcA ?_ ?_);done)|omega|refine o7 (fun _=>?_)
 exact aR3 rfl
theorem du8(q:List W)(H:List AObj)(hq:q.length=15):o9 Tryz.prog 100 [.agg (q.map (wAV .u64))] H (fun r H'=>r=.agg ((aB5 q).map (wAV .u64))/\H'=H):=by
 have qx:=bJ3 (p:=q) (by omega)
 have qy:=bw7 (p:=q) (by omega)
 have qz:=bw6 (p:=q) (by omega)
 have eX:q.take 5=pX q:=rfl;have eY:(q.drop 5).take 5=pY q:=rfl;have eZ:(q.drop 10).take 5=pZ q:=rfl;have eZ2:q.drop 10=pZ q:=by
  unfold pZ;rw[ak5 (by rw[List.length_drop];omega)]
 unfold aB5;generalize pX q=x at*;generalize pY q=y at*;generalize pZ q=z at*;have c1:=fun H=>aO4 x H qx
 have c2:=fun H=>aO4 y H qy
 have c3:=fun H=>aO4 z H qz
 have l1:=ac8 x x;have l2:=ac8 y y;have l3:=ac8 z z;unfold ek6 sqF;generalize aa8 x x=a at*;generalize aa8 y y=b at*;generalize aa8 z z=c0 at*;have c4:=fun H=>aO5 c0 c0 H l3 l3
 have l4:=(aB1 c0 c0).trans l3;have c5:=fun H=>aO5 a b H l1 l2
 have l5:=(aB1 a b).trans l1;have c6:=fun H=>aO5 x y H qx qy
 have l6:=(aB1 x y).trans qx;have c8:=fun H=>aV5 a b H l1 l2
 have l8:=(aq7 a b).trans l1;generalize aj1 c0 c0=c at*;generalize aj1 a b=h at*;generalize aj1 x y=s at*;generalize ae5 a b=g at*;have c7:=fun H=>aO4 s H l6
 have l7:=ac8 s s;generalize aa8 s s=ss at*;have c9:=fun H=>aV5 h ss H l5 l7
 have l9:=(aq7 h ss).trans l5;have c10:=fun H=>aO5 c g H l4 l8
 have l10:=(aB1 c g).trans l4;generalize ae5 h ss=e at*;generalize aj1 c g=f at*;have c11:=fun H=>cJ4 e f g h H l9 l10 l8 l5
 have l11:=aY4 e f g h;generalize ay3 e f g h=r at*;have hs:=am0 (l:=List.replicate 20 0) (m:=r) (by rw[List.length_replicate];exact l11)
 have ha:=ax7 (l:=c0) (m:=c) (by omega)
 refine au3 aa7 mixed [2000029,2000030,2000031,2000038,2000041,1000004,1000004000008,1000004002008,1000004004008,1000004005008,1000004006008,1000004007008,1000006] 1 (rs:=[.cell 2 98]) (n:=42) Tryz.func100 rfl rfl rfl rfl (nlb rfl) (by kernel_rfl) ?_
 repeat' first|refine o6 ?_|simp -dsimp -implicitDefEqProofs (disch:=first|assumption|omega|simp only[ll];omega) only[go_sem,ac4,hq]|refine vcJ ?_ ?_<;>intro _|refine vcA ?_ ?_;focus(repeat'(first|omega|assumption|refine vcA ?_ ?_);done)|omega|refine o7 (fun _=>?_)
 refine cK1 aa7 mixed [2000029,2000030,2000031,2000038,2000041,1000004,1000004000008,1000004002008,1000004004008,1000004005008,1000004006008,1000004007008,1000006] 94 9 3 (by kernel_rfl) ?_
 repeat' first|refine o6 ?_|simp -dsimp -implicitDefEqProofs (disch:=first|assumption|omega|simp only[ll];omega) only[go_sem,ac4,hq,be6,bM1,eX,eY,eZ,eZ2,qx,qy,qz,l1,l2,l3,l4,l5,l6,l7,l8,l9,l10,l11,ae3 l1,ae3 l2,ae3 l3,ae3 l5,ae3 l8,ae3 l9,ha,aI5,ak9,hs,aH3,aZ7,av1]|refine o5 (fun _ _ _=>c1 _) ?_|refine⟨_,fun _ _ _=>c1 _,?_⟩|refine⟨_,_,fun _ _ _=>c1 _,?_⟩|refine o5 (fun _ _ _=>c2 _) ?_|refine⟨_,fun _ _ _=>c2 _,?_⟩|refine⟨_,_,fun _ _ _=>c2 _,?_⟩|refine o5 (fun _ _ _=>c3 _) ?_|refine⟨_,fun _ _ _=>c3 _,?_⟩|refine⟨_,_,fun _ _ _=>c3 _,?_⟩|refine o5 (c4 _) ?_|refine⟨_,c4 _,?_⟩|refine⟨_,_,c4 _,?_⟩|refine o5 (c5 _) ?_|refine⟨_,c5 _,?_⟩|refine⟨_,_,c5 _,?_⟩|refine o5 (c6 _) ?_|refine⟨_,c6 _,?_⟩|refine⟨_,_,c6 _,?_⟩|refine o5 (c7 _) ?_|refine⟨_,c7 _,?_⟩|refine⟨_,_,c7 _,?_⟩|refine o5 (c8 _) ?_|refine⟨_,c8 _,?_⟩|refine⟨_,_,c8 _,?_⟩|refine o5 (c9 _) ?_|refine⟨_,c9 _,?_⟩|refine⟨_,_,c9 _,?_⟩|refine o5 (c10 _) ?_|refine⟨_,c10 _,?_⟩|refine⟨_,_,c10 _,?_⟩|refine o5 (c11 _) ?_|refine⟨_,c11 _,?_⟩|refine⟨_,_,c11 _,?_⟩|refine vcJ ?_ ?_<;>intro _|refine vcA ?_ ?_;focus(repeat'(first|omega|assumption|refine vcA ?_ ?_);done)|omega|refine o7 (fun _=>?_)
 exact aR3 rfl
end Cu
end
section
namespace Cu
open Go V Fe
theorem ep2{x:UInt8}{n:Nat}(h:n < 8):(x.toNat:Int).fdiv (2^n)=((x>>>UInt8.ofNat n).toNat:Int):=by
 rw[an0 (b37 (Int.pow_pos (by decide)))]
 have:((2:Int)^n)=((2^n:Nat):Int):=by simp
 rw[this,Int.toNat_natCast,UInt8.toNat_shiftRight];congr 1
 rw[aM1];congr 2
 simp
 omega
theorem dO4{k:List UInt8}{i:Nat}:((k.getD (i/8) 0>>>UInt8.ofNat (i%8))&&&1=1)=(ba5 k i=true):=by
 unfold ba5;rw[decide_eq_true_eq]
theorem cE7(p:List W)(k:List UInt8)(H:List AObj)(hp:p.length=20)(hk:k.length=32):o9 Tryz.prog 58 [.agg (p.map (wAV .u64)),.agg (k.map o8)] H (fun r H'=>r=.agg ((aS2 p k).map (wAV .u64))/\H'=H):=by
 have hz:=bG5;have cz:=d89;have hs0:=am0 (l:=List.replicate 20 0) (m:=bh3) (by rw[List.length_replicate];exact hz)
 have hM:aS2 p k=aC3 p k 256:=rfl;have h0:bh3=aC3 p k 0:=rfl;refine y7 [] [.cell 4 98] 28 Tryz.func58 rfl rfl rfl rfl (nlb rfl) (by kernel_rfl) ?_
 repeat' first|refine o6 ?_|simp -dsimp -implicitDefEqProofs (disch:=first|assumption|omega|simp only[ll];omega) only[go_sem,ac4,ab2,hp,hk,hz,aI5,ak9,hs0,aH3]|refine o5 (cz _) ?_|refine⟨_,_,cz _,?_⟩|refine vcJ ?_ ?_<;>intro _|refine vcA ?_ ?_;focus(repeat'(first|omega|assumption|refine vcA ?_ ?_);done)|omega|refine o7 (fun _=>?_)
 rw[h0];refine aa5 aa7 mixed [] [] (fun j:Nat=>j<=256) (fun j=>[(6,.lit (.int .i64 (255 - (j:Int)))),(2,.ip (.agg (p.map (wAV .u64)))),(3,.ip (.agg (k.map o8))),(4,.mp H.length 0),(5,.mp (H.length+1) 0)]) (fun j=>H++[.cells (.one 98) ((List.replicate 20 (0:W)).map (wAV .u64)),.cells (.one 98) ((aC3 p k j).map (wAV .u64))]) (fun j=>256 - j) (by kernel_rfl) ?_ 0 (by omega) y8 rfl
 intro j hj;have hml:=co6 p k j;have hnx:aC3 p k (j+1)=if ba5 k (255 - j)=true then bc7 (aB5 ((aC3 p k j).take 15)) p else aB5 ((aC3 p k j).take 15):=rfl
 by_cases h:j < 256
 ·have hjc:(0<=255 - (j:Int))=True:=eq_true (by omega)
  have hq:((255 - (j:Int))/8).toNat=(255 - j)/8:=by omega
  have hr:((255 - (j:Int))%8).toNat=(255 - j)%8:=by omega
  have hsh:=ep2 (x:=k.getD ((255 - j)/8) 0) (n:=(255 - j)%8) (by omega)
  have hb:=dO4 (k:=k) (i:=255 - j);have hm1:(0<=(255 - (j:Int))%8)=True:=eq_true (by omega)
  have hs:255 - (j:Int) - 1=255 - ((j+1:Nat):Int):=by omega
  generalize aC3 p k j=m at*;have ht:(m.take 15).length=15:=by rw[List.length_take];omega
  have c1:=fun H=>du8 (m.take 15) H ht
  have l1:=bV2 (m.take 15);have t1:(List.map (wAV .u64) m).take 15=(m.take 15).map (wAV .u64):=be6;generalize aB5 (m.take 15)=d at*;generalize m.take 15=mt at*;have c2:=fun H=>bw4 d p H l1 hp
  have l2:=bq6 d p;generalize bc7 d p=s at*;have ha:=am0 (l:=m) (m:=d) (by omega)
  have ha2:=am0 (l:=d) (m:=s) (by omega)
  by_cases hbt:ba5 k (255 - j)=true
  ·rw[if_pos hbt] at hnx
   have hbc:=eq_true hbt;rw[hbc] at hb;repeat' first|refine o6 ?_|simp -dsimp -implicitDefEqProofs (disch:=first|assumption|omega|simp only[ll];omega) only[go_sem,hjc,hq,hr,hk,hm1,hsh,cg9,cg8,hb,hp,hml,ht,l1,l2,ac4,ab2,t1,ak9,ha,ha2,aH3]|refine o5 (c1 _) ?_|refine⟨_,_,c1 _,?_⟩|refine o5 (c2 _) ?_|refine⟨_,_,c2 _,?_⟩|refine vcJ ?_ ?_<;>intro _|refine vcA ?_ ?_;focus(repeat'(first|omega|assumption|refine vcA ?_ ?_);done)|omega|refine o7 (fun _=>?_)
   rw[hs,<-hnx];refine again (j+1) ?_ ?_ rfl y8
   ·omega
   ·omega
  ·rw[if_neg hbt] at hnx
   have hbc:=eq_false hbt;rw[hbc] at hb;repeat' first|refine o6 ?_|simp -dsimp -implicitDefEqProofs (disch:=first|assumption|omega|simp only[ll];omega) only[go_sem,hjc,hq,hr,hk,hm1,hsh,cg9,cg8,hb,hp,hml,ht,l1,l2,ac4,ab2,t1,ak9,ha,ha2,aH3]|refine o5 (c1 _) ?_|refine⟨_,_,c1 _,?_⟩|refine o5 (c2 _) ?_|refine⟨_,_,c2 _,?_⟩|refine vcJ ?_ ?_<;>intro _|refine vcA ?_ ?_;focus(repeat'(first|omega|assumption|refine vcA ?_ ?_);done)|omega|refine o7 (fun _=>?_)
   rw[hs,<-hnx];refine again (j+1) ?_ ?_ rfl y8
   ·omega
   ·omega
 ·obtain rfl:j=256:=by omega
  rw[hM];generalize aC3 p k 256=r at*;have hs:=am0 (l:=List.replicate 20 0) (m:=r) (by rw[List.length_replicate];exact hml)
  repeat' first|refine o6 ?_|simp -dsimp -implicitDefEqProofs (disch:=first|assumption|omega|simp only[ll];omega) only[go_sem,ac4,hml,ak9,hs,aH3,List.length_replicate]|refine vcJ ?_ ?_<;>intro _|refine vcA ?_ ?_;focus(repeat'(first|omega|assumption|refine vcA ?_ ?_);done)|omega|refine o7 (fun _=>?_)
  exact aR3 rfl
theorem ep7(x:UInt8):IntKind.u8.wrap (((BitVec.ofInt IntKind.u8.bits (x.toNat:Int)|||BitVec.ofInt IntKind.u8.bits 128).toNat:Nat):Int)=((x|||128).toNat:Int):=b52 x 128
theorem bN4(x:UInt8):IntKind.u8.wrap (((BitVec.ofInt IntKind.u8.bits (x.toNat:Int)&&&BitVec.ofInt IntKind.u8.bits 128).toNat:Nat):Int)=((x&&&128).toNat:Int):=bv0 x 128
theorem bN5(x:UInt8):IntKind.u8.wrap (((BitVec.ofInt IntKind.u8.bits (x.toNat:Int)&&&BitVec.ofInt IntKind.u8.bits 127).toNat:Nat):Int)=((x&&&127).toNat:Int):=bv0 x 127
theorem bP2{j:Nat}{o:List UInt8}{x:UInt8}:(o.map o8).set j (.lit (.int .u8 (x.toNat:Int)))=(o.set j x).map o8:=by rw[ao7];rfl
theorem cS1:(List.replicate 32 (AV.lit (.int .u8 0)))=(List.replicate 32 (0:UInt8)).map o8:=by rw[aS6];rfl
theorem ai1{o:List UInt8}(h:o.length=32):af0 (List.replicate 32 (AV.lit (.int .u8 0))) 0 (o.map o8)=o.map o8:=by
 rw[cS1];exact ap9 (by simp) h
theorem cB4(q:List W)(H:List AObj)(hq:q.length=15):o9 Tryz.prog 59 [.agg (q.map (wAV .u64))] H (fun r H'=>r=.agg ((aE8 q).map o8)/\H'=H):=by
 have qx:=bJ3 (p:=q) (by omega)
 have qy:=bw7 (p:=q) (by omega)
 have qz:=bw6 (p:=q) (by omega)
 have eX:q.take 5=pX q:=rfl;have eY:(q.drop 5).take 5=pY q:=rfl;have eZ2:q.drop 10=pZ q:=by
  unfold pZ;rw[ak5 (by rw[List.length_drop];omega)]
 unfold aE8;generalize pX q=x at*;generalize pY q=y at*;generalize pZ q=z at*;have c1:=fun H=>cf4 z H qz
 have l1:=aX0 z aT3;generalize aw2 z aT3=ov at*;have c2:=fun H=>as3 y ov H qy l1
 have l2:=ac8 y ov;have c3:=fun H=>as3 x ov H qx l1
 have l3:=ac8 x ov;generalize aa8 y ov=yo at*;generalize aa8 x ov=xo at*;have c4:=fun H=>bz0 yo H l2
 have l4:=aO1 yo;have c5:=fun H=>dS7 xo H l3
 generalize ak2 yo=b at*;unfold bI6;cases ho:bJ5 xo with
 |true=>
  rw[if_pos rfl];rw[ho] at c5;have hl:(b.set 31 (b.getD 31 0|||128)).length=32:=by rw[List.length_set,l4]
  refine y7 [] [.cell 2 28] 23 Tryz.func59 rfl rfl rfl rfl (nlb rfl) (by kernel_rfl) ?_
  repeat' first|refine o6 ?_|simp -dsimp -implicitDefEqProofs (disch:=first|assumption|omega|simp only[ll];omega) only[go_sem,ac4,ab2,hq,be6,bM1,eX,eY,eZ2,qx,qy,qz,l1,l2,l3,l4,ae3 l1,ai1 l4,ep7,bP2,hl,ai1 hl]|refine o5 (c1 _) ?_|refine⟨_,_,c1 _,?_⟩|refine o5 (c2 _) ?_|refine⟨_,_,c2 _,?_⟩|refine o5 (c3 _) ?_|refine⟨_,_,c3 _,?_⟩|refine o5 (c4 _) ?_|refine⟨_,_,c4 _,?_⟩|refine o5 (c5 _) ?_|refine⟨_,_,c5 _,?_⟩|refine vcJ ?_ ?_<;>intro _|refine vcA ?_ ?_;focus(repeat'(first|omega|assumption|refine vcA ?_ ?_);done)|omega|refine o7 (fun _=>?_)
  exact aa3 _ (Le.refl _) aq5 ⟨rfl,rfl⟩
 |false=>
  rw[if_neg (by decide)]
  rw[ho] at c5;refine y7 [] [.cell 2 28] 23 Tryz.func59 rfl rfl rfl rfl (nlb rfl) (by kernel_rfl) ?_
  repeat' first|refine o6 ?_|simp -dsimp -implicitDefEqProofs (disch:=first|assumption|omega|simp only[ll];omega) only[go_sem,ac4,ab2,hq,be6,bM1,eX,eY,eZ2,qx,qy,qz,l1,l2,l3,l4,ae3 l1,ai1 l4]|refine o5 (c1 _) ?_|refine⟨_,_,c1 _,?_⟩|refine o5 (c2 _) ?_|refine⟨_,_,c2 _,?_⟩|refine o5 (c3 _) ?_|refine⟨_,_,c3 _,?_⟩|refine o5 (c4 _) ?_|refine⟨_,_,c4 _,?_⟩|refine o5 (c5 _) ?_|refine⟨_,_,c5 _,?_⟩|refine vcJ ?_ ?_<;>intro _|refine vcA ?_ ?_;focus(repeat'(first|omega|assumption|refine vcA ?_ ?_);done)|omega|refine o7 (fun _=>?_)
  exact aa3 _ (Le.refl _) aq5 ⟨rfl,rfl⟩
def aL1(b:List UInt8):List UInt8:=b.set 31 (b.getD 31 0&&&127)
def bq0(b:List UInt8):Bool:=decide (¬(b.getD 31 0&&&128)=0)
def xSq(y:List W):List W:=aa8 (ae5 (sqF y) aH1) (aw2 (aj1 (aa8 (sqF y) aP0) aH1) aT3)
def at1:List W:=List.replicate 20 0
def b67(odd:Bool)(r:List W×Bool)(y:List W):List W×Bool:=
 if r.2=true then(if odd=true then(if ak2 r.1=ak2 zeroE then(at1,false) else(ay2 (ae5 zeroE r.1) y,true)) else(ay2 r.1 y,true)) else(at1,false)
def aR8(b:List UInt8):List W×Bool:=
 if ak2 (au1 (aL1 b))=aL1 b then b67 (bq0 b) (a08 (xSq (au1 (aL1 b)))) (au1 (aL1 b)) else(at1,false)
def b89(p:List W×Bool):AV:=.tup [.agg (p.1.map (wAV .u64)),.bool p.2]
theorem dp1{m:Nat}{p:List W×Bool}:Low m (b89 p):=ag8 (aa2 aP3 (aa2 (.lit _) ab6))
theorem by3{H M:List AObj}{p:List W×Bool}{l:List W}{b:Bool}(h:(l,b)=p):Done H (fun y H'=>y=b89 p/\H'=H) (.tup [.agg (l.map (wAV .u64)),.bool b]) (H++M):=by
 subst h;exact aa3 (b89 (l,b)) (Le.refl _) dp1 ⟨rfl,rfl⟩
theorem cI0(b:List UInt8):(au1 b).length=5:=by unfold au1;rw[ax0];rfl
theorem dj5(odd:Bool)(r:List W×Bool)(y:List W)(hr:r.1.length=5)(hy:y.length=5):(b67 odd r y).1.length=20:=by
 unfold b67;repeat' split
 ·rfl
 ·exact aF5 (aq7 _ _) hy
 ·exact aF5 hr hy
 ·rfl
theorem dk8(b:List UInt8):(aR8 b).1.length=20:=by
 unfold aR8;split
 ·exact dj5 _ _ _ (b71 _) (cI0 _)
 ·rfl
theorem bu9{x:UInt8}:((x.toNat:Int)=0)=(x=0):=by
 apply propext
 constructor
 ·intro h
  apply cf5.1
  show _=0
  omega
 ·intro h
  rw[h];rfl
theorem ec4(b:List UInt8)(H:List AObj)(hb:b.length=32):o9 Tryz.prog 199 [.agg (b.map o8)] H (fun r H'=>r=b89 (aR8 b)/\H'=H):=by
 have hlb:(aL1 b).length=32:=by unfold aL1;rw[List.length_set,hb]
 have elb:b.set 31 (b.getD 31 0&&&127)=aL1 b:=rfl;have esg:(¬(b.getD 31 0&&&128)=0)=(bq0 b=true):=by unfold bq0;rw[decide_eq_true_eq]
 have hn0:at1.length=20:=rfl;have hn1:List.replicate 20 (0:W)=at1:=rfl;have hns:=am0 (l:=at1) (m:=at1) rfl;unfold aR8;generalize aL1 b=lb at*;generalize bq0 b=sg at*;have c1:=fun H=>dQ7 lb H hlb
 by_cases hr:ak2 (au1 lb)=lb
 ·rw[if_pos hr]
  rw[decide_eq_true hr] at c1;clear hr;have l1:=cI0 lb;have c2:=fun H=>dy4 lb H hlb
  have ho:aH1.length=5:=rfl;have hc5:=cC8;have en1:=bQ5;have en2:=cE0;have c10: ∀l:List W,l.length=5-> ∀H,o9 Tryz.prog 227 [.agg (l.map (wAV .u64)),.agg [AV.lit (.int .u64 0),AV.lit (.int .u64 0),AV.lit (.int .u64 0),AV.lit (.int .u64 0),AV.lit (.int .u64 0)]] H (fun y H'=>y=.bool (decide (ak2 l=ak2 zeroE))/\H'=H):=fun l hl H=>cf2 l zeroE H hl rfl
  unfold xSq sqF;generalize au1 lb=y at*;generalize aH1=one at*;generalize aP0=once at*;have c3:=fun H=>aO4 y H l1
  have l3:=ac8 y y;generalize aa8 y y=yy at*;have c4:=fun H=>aV5 yy one H l3 ho
  have l4:=(aq7 yy one).trans l3;have c5:=fun H=>as3 yy once H l3 hc5
  have l5:=ac8 yy once;generalize ae5 yy one=m1 at*;generalize aa8 yy once=t1 at*;have c6:=fun H=>aO5 t1 one H l5 ho
  have l6:=(aB1 t1 one).trans l5;generalize aj1 t1 one=s1 at*;have c7:=fun H=>cf4 s1 H l6
  have l7:=aX0 s1 aT3;generalize aw2 s1 aT3=iv at*;have c8:=fun H=>as3 m1 iv H l4 l7
  have l8:=ac8 m1 iv;generalize aa8 m1 iv=x0 at*;have c9:=fun H=>dP9 x0 H l8
  have l9:=b71 x0;unfold bv6 at c9;generalize a08 x0=rt at*;obtain⟨x,k⟩:=rt;dsimp only at*;have c11:=c10 x l9;have c12:=fun H=>bN8 x H l9
  have l12:(ae5 zeroE x).length=5:=aq7 _ _;unfold b67;dsimp only;generalize ae5 zeroE x=nx at*;generalize ak2 zeroE=zb at*;clear c10;have a12:=ax7 (l:=x) (m:=nx) (by omega)
  cases hk:k with
  |false=>
   rw[hk] at c9;rw[if_neg (by decide)]
   generalize at1=n0 at*;refine y7 [1,2000028,2000031,2000033,2000034,2000035,2000036,1000007,1000007000014,1000007001014,1000007002014,1000007003014,1000007004014,1000007005014,1000007006014,1000007007014,1000007008014,1000007009014,1000007010014] [.cell 2 98,.tmp 3] 56 Tryz.func199 rfl rfl rfl rfl (nlb rfl) (by kernel_rfl) ?_
   repeat' first|refine o6 ?_|simp -dsimp -implicitDefEqProofs (disch:=first|assumption|omega|simp only[ll];omega) only[go_sem,ac4,ab2,hb,hlb,bN4,bN5,bP2,elb,bu9,esg,aI5,ak9,hn0,hn1,hns,aH3,en1,en2,ho,hc5,l1,l3,l4,l5,l6,l7,l8,l9,ae3 l1,ae3 l3,ae3 l9]|refine o5 (c1 _) ?_|refine⟨_,_,c1 _,?_⟩|refine o5 (c2 _) ?_|refine⟨_,_,c2 _,?_⟩|refine o5 (c3 _) ?_|refine⟨_,_,c3 _,?_⟩|refine o5 (c4 _) ?_|refine⟨_,_,c4 _,?_⟩|refine o5 (c5 _) ?_|refine⟨_,_,c5 _,?_⟩|refine o5 (c6 _) ?_|refine⟨_,_,c6 _,?_⟩|refine o5 (c7 _) ?_|refine⟨_,_,c7 _,?_⟩|refine o5 (c8 _) ?_|refine⟨_,_,c8 _,?_⟩|refine o5 (c9 _) ?_|refine⟨_,_,c9 _,?_⟩|refine vcJ ?_ ?_<;>intro _|refine vcA ?_ ?_;focus(repeat'(first|omega|assumption|refine vcA ?_ ?_);done)|omega|refine o7 (fun _=>?_)
   exact by3 rfl
  |true=>
   rw[hk] at c9;rw[if_pos rfl];cases sg with
   |false=>
    rw[if_neg (by decide)]
    have c13:=fun H=>cc6 x y H l9 l1
    have l13:=aF5 l9 l1;have a13:=am0 (l:=at1) (m:=ay2 x y) (by rw[l13,hn0])
    generalize ay2 x y=fp at*;generalize at1=n0 at*;refine y7 [1,2000028,2000031,2000033,2000034,2000035,2000036,1000007,1000007000014,1000007001014,1000007002014,1000007003014,1000007004014,1000007005014,1000007006014,1000007007014,1000007008014,1000007009014,1000007010014] [.cell 2 98,.tmp 3] 56 Tryz.func199 rfl rfl rfl rfl (nlb rfl) (by kernel_rfl) ?_
    repeat' first|refine o6 ?_|simp -dsimp -implicitDefEqProofs (disch:=first|assumption|omega|simp only[ll];omega) only[go_sem,ac4,ab2,hb,hlb,bN4,bN5,bP2,elb,bu9,esg,aI5,ak9,hn0,hn1,hns,aH3,en1,en2,ho,hc5,l1,l3,l4,l5,l6,l7,l8,l9,l13,a13,ae3 l1,ae3 l3,ae3 l9]|refine o5 (c1 _) ?_|refine⟨_,_,c1 _,?_⟩|refine o5 (c2 _) ?_|refine⟨_,_,c2 _,?_⟩|refine o5 (c3 _) ?_|refine⟨_,_,c3 _,?_⟩|refine o5 (c4 _) ?_|refine⟨_,_,c4 _,?_⟩|refine o5 (c5 _) ?_|refine⟨_,_,c5 _,?_⟩|refine o5 (c6 _) ?_|refine⟨_,_,c6 _,?_⟩|refine o5 (c7 _) ?_|refine⟨_,_,c7 _,?_⟩|refine o5 (c8 _) ?_|refine⟨_,_,c8 _,?_⟩|refine o5 (c9 _) ?_|refine⟨_,_,c9 _,?_⟩|refine o5 (c13 _) ?_|refine⟨_,_,c13 _,?_⟩|refine vcJ ?_ ?_<;>intro _|refine vcA ?_ ?_;focus(repeat'(first|omega|assumption|refine vcA ?_ ?_);done)|omega|refine o7 (fun _=>?_)
    exact by3 rfl
   |true=>
    rw[if_pos rfl];by_cases hz:ak2 x=zb
    ·rw[if_pos hz]
     rw[decide_eq_true hz] at c11;generalize at1=n0 at*;refine y7 [1,2000028,2000031,2000033,2000034,2000035,2000036,1000007,1000007000014,1000007001014,1000007002014,1000007003014,1000007004014,1000007005014,1000007006014,1000007007014,1000007008014,1000007009014,1000007010014] [.cell 2 98,.tmp 3] 56 Tryz.func199 rfl rfl rfl rfl (nlb rfl) (by kernel_rfl) ?_
     repeat' first|refine o6 ?_|simp -dsimp -implicitDefEqProofs (disch:=first|assumption|omega|simp only[ll];omega) only[go_sem,ac4,ab2,hb,hlb,bN4,bN5,bP2,elb,bu9,esg,aI5,ak9,hn0,hn1,hns,aH3,en1,en2,ho,hc5,l1,l3,l4,l5,l6,l7,l8,l9,ae3 l1,ae3 l3,ae3 l9]|refine o5 (c1 _) ?_|refine⟨_,_,c1 _,?_⟩|refine o5 (c2 _) ?_|refine⟨_,_,c2 _,?_⟩|refine o5 (c3 _) ?_|refine⟨_,_,c3 _,?_⟩|refine o5 (c4 _) ?_|refine⟨_,_,c4 _,?_⟩|refine o5 (c5 _) ?_|refine⟨_,_,c5 _,?_⟩|refine o5 (c6 _) ?_|refine⟨_,_,c6 _,?_⟩|refine o5 (c7 _) ?_|refine⟨_,_,c7 _,?_⟩|refine o5 (c8 _) ?_|refine⟨_,_,c8 _,?_⟩|refine o5 (c9 _) ?_|refine⟨_,_,c9 _,?_⟩|refine o5 (c11 _) ?_|refine⟨_,_,c11 _,?_⟩|refine vcJ ?_ ?_<;>intro _|refine vcA ?_ ?_;focus(repeat'(first|omega|assumption|refine vcA ?_ ?_);done)|omega|refine o7 (fun _=>?_)
     exact by3 rfl
    ·rw[if_neg hz]
     rw[decide_eq_false hz] at c11;have c13:=fun H=>cc6 nx y H l12 l1
     have l13:=aF5 l12 l1;have a13:=am0 (l:=at1) (m:=ay2 nx y) (by rw[l13,hn0])
     generalize ay2 nx y=fp at*;generalize at1=n0 at*;refine y7 [1,2000028,2000031,2000033,2000034,2000035,2000036,1000007,1000007000014,1000007001014,1000007002014,1000007003014,1000007004014,1000007005014,1000007006014,1000007007014,1000007008014,1000007009014,1000007010014] [.cell 2 98,.tmp 3] 56 Tryz.func199 rfl rfl rfl rfl (nlb rfl) (by kernel_rfl) ?_
     repeat' first|refine o6 ?_|simp -dsimp -implicitDefEqProofs (disch:=first|assumption|omega|simp only[ll];omega) only[go_sem,ac4,ab2,hb,hlb,bN4,bN5,bP2,elb,bu9,esg,aI5,ak9,hn0,hn1,hns,aH3,en1,en2,ho,hc5,l1,l3,l4,l5,l6,l7,l8,l9,l12,l13,a12,a13,ae3 l1,ae3 l3,ae3 l9]|refine o5 (c1 _) ?_|refine⟨_,_,c1 _,?_⟩|refine o5 (c2 _) ?_|refine⟨_,_,c2 _,?_⟩|refine o5 (c3 _) ?_|refine⟨_,_,c3 _,?_⟩|refine o5 (c4 _) ?_|refine⟨_,_,c4 _,?_⟩|refine o5 (c5 _) ?_|refine⟨_,_,c5 _,?_⟩|refine o5 (c6 _) ?_|refine⟨_,_,c6 _,?_⟩|refine o5 (c7 _) ?_|refine⟨_,_,c7 _,?_⟩|refine o5 (c8 _) ?_|refine⟨_,_,c8 _,?_⟩|refine o5 (c9 _) ?_|refine⟨_,_,c9 _,?_⟩|refine o5 (c11 _) ?_|refine⟨_,_,c11 _,?_⟩|refine o5 (c12 _) ?_|refine⟨_,_,c12 _,?_⟩|refine o5 (c13 _) ?_|refine⟨_,_,c13 _,?_⟩|refine vcJ ?_ ?_<;>intro _|refine vcA ?_ ?_;focus(repeat'(first|omega|assumption|refine vcA ?_ ?_);done)|omega|refine o7 (fun _=>?_)
     exact by3 rfl
 ·rw[if_neg hr]
  rw[decide_eq_false hr] at c1;clear hr;generalize at1=n0 at*;refine y7 [1,2000028,2000031,2000033,2000034,2000035,2000036,1000007,1000007000014,1000007001014,1000007002014,1000007003014,1000007004014,1000007005014,1000007006014,1000007007014,1000007008014,1000007009014,1000007010014] [.cell 2 98,.tmp 3] 56 Tryz.func199 rfl rfl rfl rfl (nlb rfl) (by kernel_rfl) ?_
  repeat' first|refine o6 ?_|simp -dsimp -implicitDefEqProofs (disch:=first|assumption|omega|simp only[ll];omega) only[go_sem,ac4,ab2,hb,hlb,bN4,bN5,bP2,elb,bu9,esg,aI5,ak9,hn0,hn1,hns,aH3]|refine o5 (c1 _) ?_|refine⟨_,_,c1 _,?_⟩|refine vcJ ?_ ?_<;>intro _|refine vcA ?_ ?_;focus(repeat'(first|omega|assumption|refine vcA ?_ ?_);done)|omega|refine o7 (fun _=>?_)
  exact by3 rfl
end Cu
end
section
namespace Cu
open Go V Fe
def aS5(k:List UInt8):List UInt8:=aE8 ((aS2 be0 k).take 15)
theorem bf9(k:List UInt8):(aS5 k).length=32:=bj5 _
theorem cM0(k:List UInt8)(H:List AObj)(hk:k.length=32):o9 Tryz.prog 24 [.agg (k.map o8)] H (fun r H'=>r=.agg ((aS5 k).map o8)/\H'=H):=by
 have c1:=dw1;have l1:=bN1;unfold aS5;generalize be0=p at*;have c2:=fun H=>cE7 p k H l1 hk
 have l2:=bY5 p k;generalize aS2 p k=m at*;have l3:(m.take 15).length=15:=by rw[List.length_take];omega
 have t3:(m.map (wAV .u64)).take 15=(m.take 15).map (wAV .u64):=be6;have c4:=fun H=>cB4 (m.take 15) H l3
 have l4:=bj5 (m.take 15);generalize aE8 (m.take 15)=b at*;generalize m.take 15=q at*;refine y7 [2000003,2000005,2000007,1000001] [.cell 2 28] 8 Tryz.func24 rfl rfl rfl rfl (nlb rfl) (by kernel_rfl) ?_
 repeat' first|refine o6 ?_|simp -dsimp -implicitDefEqProofs (disch:=first|assumption|omega|simp only[ll];omega) only[go_sem,ac4,ab2,hk,l1,l2,l3,l4,t3,aH3,ai1 l4]|refine o5 (c1 _) ?_|refine⟨_,_,c1 _,?_⟩|refine o5 (c2 _) ?_|refine⟨_,_,c2 _,?_⟩|refine o5 (c4 _) ?_|refine⟨_,_,c4 _,?_⟩|refine vcJ ?_ ?_<;>intro _|refine vcA ?_ ?_;focus(repeat'(first|omega|assumption|refine vcA ?_ ?_);done)|omega|refine o7 (fun _=>?_)
 exact aa3 _ (Le.refl _) aq5 ⟨rfl,rfl⟩
def aS3(mk:List W->List W)(b:List UInt8):List UInt8×Int:=if(aR8 b).2=true then(aE8 (mk (aR8 b).1),0) else(List.replicate 32 0,1)
def bg9(p:List UInt8×Int):AV:=.tup [.agg (p.1.map o8),.lit (.int .i64 p.2)]
theorem bD1{m:Nat}{p:List UInt8×Int}:Low m (bg9 p):=ag8 (aa2 aq5 (aa2 (.lit _) ab6))
theorem t20{l:List W}(h:l.length=20):(l.map (wAV .u64)).take 20=l.map (wAV .u64):=ak5 (by rw[List.length_map];omega)
theorem bZ9{n i:Nat}{x:AV}(h:i < n):(List.replicate n x).getD i .any=x:=by simp[List.getD,h]
theorem b06{l:List W}(h:l.length=20):af0 (List.replicate 20 (AV.lit (.int .u64 0))) 0 (l.map (wAV .u64))=l.map (wAV .u64):=by
 rw[aI5,ak9,am0 (by rw[List.length_replicate];exact h)]
theorem dP1{l:List W}(h:l.length=20):af0 [AV.lit (.int .u64 0),AV.lit (.int .u64 0),AV.lit (.int .u64 0),AV.lit (.int .u64 0),AV.lit (.int .u64 0),AV.lit (.int .u64 0),AV.lit (.int .u64 0),AV.lit (.int .u64 0),AV.lit (.int .u64 0),AV.lit (.int .u64 0),AV.lit (.int .u64 0),AV.lit (.int .u64 0),AV.lit (.int .u64 0),AV.lit (.int .u64 0),AV.lit (.int .u64 0),AV.lit (.int .u64 0),AV.lit (.int .u64 0),AV.lit (.int .u64 0),AV.lit (.int .u64 0),AV.lit (.int .u64 0)] 0 (l.map (wAV .u64))=l.map (wAV .u64):=b06 h
def db2(p:List W):Nat->AV
 |0=>.sl .full 0 []
 |_+1=>.sl .sh 20 [.agg (p.map (wAV .u64))]
theorem d04{m i:Nat}{p:List W}:Low m (db2 p i):=by
 cases i with
 |zero=>exact ae6 (fun k e=>by cases e)
 |succ i=>
  refine .sl _ _ _ (fun k e=>by cases e) fun x hx=>?_
  simp only[aa0,bO1,List.flatMap_nil,List.append_nil,AV.flat] at hx;obtain⟨c,_,rfl⟩:=xq9.1 hx;exact .lit _
theorem d03{m:Nat}{b:List UInt8}:Low m (.sl .full 32 [.agg (b.map o8)]):=by
 refine .sl _ _ _ (fun k e=>by cases e) fun x hx=>?_
 simp only[aa0,bO1,List.flatMap_nil,List.append_nil,AV.flat] at hx;obtain⟨c,_,rfl⟩:=xq9.1 hx;exact .lit _
theorem du6{g:FuncId}{fs cs:List AV}(mk:List W->List W)(hfn: ∀m,Low m (.fn (.func g) fs cs))(hl: ∀l:List W,l.length=20->(mk l).length=15)(hmk: ∀(l:List W) H,l.length=20->o9 Tryz.prog g (fs++AV.sl .sh 20 [.agg (l.map (wAV .u64))]::cs) H (fun y H'=>y=.agg ((mk l).map (wAV .u64))/\H'=H))
  (b:List UInt8) (H:List AObj) (hb:b.length=32):o9 Tryz.prog 148 [.fn (.func g) fs cs,.sl .full 32 [.agg (b.map o8)]] H (fun r H'=>r=bg9 (aS3 mk b)/\H'=H):=by
 have c1:=fun H=>ec4 b H hb
 have l1:=dk8 b;unfold aS3;unfold b89 at c1;generalize aR8 b=p at*;have z1:(List.replicate 32 (0:UInt8)).length=32:=List.length_replicate;have z2:=ap9 z1 z1;have z3:((List.replicate 32 (0:UInt8)).map o8).take 32=(List.replicate 32 (0:UInt8)).map o8:=ak5 (by simp)
 have zb:=cS1;refine y7 [] [.cell 4 28,.tmp 5] 34 Tryz.func148 rfl rfl rfl rfl (nlb rfl) (by kernel_rfl) ?_
 repeat' first|refine o6 ?_|simp -dsimp -implicitDefEqProofs (disch:=first|assumption|omega|simp only[ll];omega) only[go_sem,ab2,hb]|refine vcJ ?_ ?_<;>intro _|refine vcA ?_ ?_;focus(repeat'(first|omega|assumption|refine vcA ?_ ?_);done)|omega|refine o7 (fun _=>?_)
 refine aa5 aa7 mixed [] [] (fun i:Nat=>i<=1/\(i=1->p.2=true)) (fun i=>[(13,.lit (.int .i64 i)),(6,db2 p.1 i),(0,.fn (.func g) fs cs),(4,.mp H.length 0),(11,.sl .full 32 [.agg (b.map o8)]),(12,.int .i64 1)]) (fun i=>H++[.cells (.one 28) (List.replicate 32 (.lit (.int .u8 0)))]) (fun i=>1 - i) (by kernel_rfl) ?_ 0 ⟨by omega,fun h=>by omega⟩ y8 rfl
 rintro i ⟨hi,hp⟩
 have hi:i<=1:=hi;by_cases h:i=0
 ·subst h
  have e0:db2 p.1 0=.sl .full 0 []:=rfl;rw[e0];cases hk:p.2 with
  |true=>
   rw[hk] at c1;repeat' first|refine o6 ?_|simp -dsimp -implicitDefEqProofs (disch:=first|assumption|omega|simp only[ll];omega) only[go_sem,ab2,hb,l1,ac4,aH3,b06 l1,t20 l1,bZ9,dP1 l1]|refine o5 (c1 _) ?_|refine⟨_,_,c1 _,?_⟩|refine vcJ ?_ ?_<;>intro _|refine vcA ?_ ?_;focus(repeat'(first|omega|assumption|refine vcA ?_ ?_);done)|omega|refine o7 (fun _=>?_)
   rw[show (H++[AObj.cells (.one 28) (List.replicate 32 (.lit (.int .u8 0))),.cells (.one 28) (b.map o8),.cells (.one 98) (p.1.map (wAV .u64)),.grow 20 1 none])=(H++[AObj.cells (.one 28) (List.replicate 32 (.lit (.int .u8 0)))])++[.cells (.one 28) (b.map o8),.cells (.one 98) (p.1.map (wAV .u64)),.grow 20 1 none] by simp]
   refine aV4 1 (by omega) ⟨by omega,fun _=>rfl⟩ (by repeat(first|exact af9|(refine af1 ?_ ?_;focus(first|exact .lit _|exact d04|exact hfn _|exact .mp _ _ (by simp)|exact d03)))) y8
  |false=>
   rw[hk] at c1;rw[if_neg (by decide)]
   have z4:=ap9 z1 hb;have z5:(b.map o8).take 32=b.map o8:=ak5 (by simp;omega)
   repeat' first|refine o6 ?_|simp -dsimp -implicitDefEqProofs (disch:=first|assumption|omega|simp only[ll];omega) only[go_sem,zb,ab2,hb,l1,ac4,aH3,b06 l1,z1,z2,z3,z4,z5]|refine o5 (c1 _) ?_|refine⟨_,_,c1 _,?_⟩|refine vcJ ?_ ?_<;>intro _|refine vcA ?_ ?_;focus(repeat'(first|omega|assumption|refine vcA ?_ ?_);done)|omega|refine o7 (fun _=>?_)
   exact aa3 (bg9 (List.replicate 32 0,1)) (Le.refl _) bD1 ⟨rfl,rfl⟩
 ·obtain rfl:i=1:=by omega
  have hk:p.2=true:=hp rfl;have e1:db2 p.1 1=.sl .sh 20 [.agg (p.1.map (wAV .u64))]:=rfl;rw[e1];have c2:=fun H=>hmk p.1 H l1
  have l2:=hl p.1 l1;have hd:(if p.2=true then(aE8 (mk p.1),(0:Int)) else(List.replicate 32 0,1))=(aE8 (mk p.1),0):=if_pos hk
  rw[hd];generalize mk p.1=q at*;have c3:=fun H=>cB4 q H l2
  have l3:=bj5 q;generalize aE8 q=r at*;have z6:=ap9 z1 l3;have z7:(r.map o8).take 32=r.map o8:=ak5 (by simp;omega)
  repeat' first|refine o6 ?_|simp -dsimp -implicitDefEqProofs (disch:=first|assumption|omega|simp only[ll];omega) only[go_sem,zb,z6,z7,l3,ab2]|refine o5 (c2 _) ?_|refine⟨_,_,c2 _,?_⟩|refine o5 (c3 _) ?_|refine⟨_,_,c3 _,?_⟩|refine vcJ ?_ ?_<;>intro _|refine vcA ?_ ?_;focus(repeat'(first|omega|assumption|refine vcA ?_ ?_);done)|omega|refine o7 (fun _=>?_)
  exact aa3 (bg9 (r,0)) (Le.refl _) bD1 ⟨rfl,rfl⟩
theorem br8(mk:List W->List W)(b:List UInt8):(aS3 mk b).1.length=32:=by
 unfold aS3;split
 ·exact bj5 _
 ·exact List.length_replicate
def bg6(p:List W):List W:=ae5 zeroE (pX p)++(pY p++pZ p)
def bt7(b:List UInt8):List UInt8×Int:=aS3 bg6 b
def bn9(a b:List UInt8)(p:List W):List W:=(bc7 (aS2 p a) (aS2 be0 b)).take 15
def bC8(a p b:List UInt8):List UInt8×Int:=aS3 (bn9 a b) p
theorem ef2(p:List W)(H:List AObj)(hp:p.length=20):o9 Tryz.prog 149 ([]++AV.sl .sh 20 [.agg (p.map (wAV .u64))]::[]) H (fun y H'=>y=.agg ((bg6 p).map (wAV .u64))/\H'=H):=by
 have px:=bJ3 (p:=p) (by omega)
 have py:=bw7 (p:=p) (by omega)
 have pz:=bw6 (p:=p) (by omega)
 have c1:=fun H=>bN8 (pX p) H px
 have l1:(ae5 zeroE (pX p)).length=5:=aq7 _ _;unfold bg6;have e1:=tX (p:=p);have e2:=tY (p:=p);have e3:=tZ (p:=p);generalize ae5 zeroE (pX p)=nx at*;have p3:=dB4 l1 py pz;have lq:(nx++(pY p++pZ p)).length=15:=by rw[List.length_append,List.length_append,l1,py,pz]
 have hs:=am0 (l:=List.replicate 15 0) (m:=nx++(pY p++pZ p)) (by rw[List.length_replicate];exact lq)
 refine y7 [2000008,1000001] [.cell 2 96] 20 Tryz.func149 rfl rfl rfl rfl (nlb rfl) (by kernel_rfl) ?_
 repeat' first|refine o6 ?_|simp -dsimp -implicitDefEqProofs (disch:=first|assumption|omega|simp only[ll];omega) only[go_sem,ac4,hp,be6,bM1,e1,e2,e3,px,py,pz,l1,aI5,ak9,bg1,p3,lq,hs,aH3,List.length_replicate]|refine o5 (c1 _) ?_|refine⟨_,_,c1 _,?_⟩|refine vcJ ?_ ?_<;>intro _|refine vcA ?_ ?_;focus(repeat'(first|omega|assumption|refine vcA ?_ ?_);done)|omega|refine o7 (fun _=>?_)
 exact aR3 rfl
theorem eg2(a b:List UInt8)(p:List W)(H:List AObj)(ha:a.length=32)(hb:b.length=32)(hp:p.length=20):o9 Tryz.prog 151 ([]++AV.sl .sh 20 [.agg (p.map (wAV .u64))]::[.ip (.agg (a.map o8)),.ip (.agg (b.map o8))]) H (fun y H'=>y=.agg ((bn9 a b p).map (wAV .u64))/\H'=H):=by
 have c1:=fun H=>cE7 p a H hp ha
 have l1:=bY5 p a;have c2:=dw1;have l2:=bN1;unfold bn9;generalize be0=bp at*;have c3:=fun H=>cE7 bp b H l2 hb
 have l3:=bY5 bp b;generalize aS2 p a=m at*;generalize aS2 bp b=n at*;have c4:=fun H=>bw4 m n H l1 l3
 have l4:=bq6 m n;generalize bc7 m n=s at*;have l5:(s.take 15).length=15:=by rw[List.length_take];omega
 have t5:(s.map (wAV .u64)).take 15=(s.take 15).map (wAV .u64):=be6;generalize s.take 15=q at*;have hs:=am0 (l:=List.replicate 15 0) (m:=q) (by rw[List.length_replicate];exact l5)
 refine y7 [2000009,2000010,2000012,2000013,1000001] [.cell 4 96] 15 Tryz.func151 rfl rfl rfl rfl (nlb rfl) (by kernel_rfl) ?_
 repeat' first|refine o6 ?_|simp -dsimp -implicitDefEqProofs (disch:=first|assumption|omega|simp only[ll];omega) only[go_sem,ac4,ab2,hp,ha,hb,l1,l2,l3,l4,l5,t5,t20 hp,aI5,ak9,hs,aH3]|refine o5 (c1 _) ?_|refine⟨_,_,c1 _,?_⟩|refine o5 (c2 _) ?_|refine⟨_,_,c2 _,?_⟩|refine o5 (c3 _) ?_|refine⟨_,_,c3 _,?_⟩|refine o5 (c4 _) ?_|refine⟨_,_,c4 _,?_⟩|refine vcJ ?_ ?_<;>intro _|refine vcA ?_ ?_;focus(repeat'(first|omega|assumption|refine vcA ?_ ?_);done)|omega|refine o7 (fun _=>?_)
 exact aR3 rfl
theorem dG7{p:List W}(h:p.length=20):(bg6 p).length=15:=by
 unfold bg6;rw[List.length_append,List.length_append,aq7,bw7 (by omega),bw6 (by omega)]
 rfl
theorem dH1(a b:List UInt8)(p:List W):(bn9 a b p).length=15:=by
 unfold bn9;rw[List.length_take,bq6];rfl
theorem t32{l:List UInt8}(h:l.length=32):(l.map o8).take 32=l.map o8:=ak5 (by rw[List.length_map];omega)
theorem cK4{l:List UInt8}(h:l.length=32):af0 [AV.lit (.int .u8 0),AV.lit (.int .u8 0),AV.lit (.int .u8 0),AV.lit (.int .u8 0),AV.lit (.int .u8 0),AV.lit (.int .u8 0),AV.lit (.int .u8 0),AV.lit (.int .u8 0),AV.lit (.int .u8 0),AV.lit (.int .u8 0),AV.lit (.int .u8 0),AV.lit (.int .u8 0),AV.lit (.int .u8 0),AV.lit (.int .u8 0),AV.lit (.int .u8 0),AV.lit (.int .u8 0),AV.lit (.int .u8 0),AV.lit (.int .u8 0),AV.lit (.int .u8 0),AV.lit (.int .u8 0),AV.lit (.int .u8 0),AV.lit (.int .u8 0),AV.lit (.int .u8 0),AV.lit (.int .u8 0),AV.lit (.int .u8 0),AV.lit (.int .u8 0),AV.lit (.int .u8 0),AV.lit (.int .u8 0),AV.lit (.int .u8 0),AV.lit (.int .u8 0),AV.lit (.int .u8 0),AV.lit (.int .u8 0)] 0 (l.map o8)=l.map o8:=ai1 h
theorem dZ2{f:FuncId}(m:Nat):Low m (.fn (.func f) [] []):=.fn _ _ _ (fun x hx=>by cases hx) (fun x hx=>by cases hx)
theorem dZ5{f:FuncId}{a b:List UInt8}(m:Nat):Low m (.fn (.func f) [] [.ip (.agg (a.map o8)),.ip (.agg (b.map o8))]):=.fn _ _ _ (fun x hx=>by cases hx) fun x hx=>by
 simp only[ai9,aG2,or_false] at hx;have hl: ∀l:List UInt8,Low m (.ip (.agg (l.map o8))):=fun l=>.ip _ fun x hx=>by
  obtain⟨c,_,rfl⟩:=xq9.1 hx;exact .lit _
 rcases hx with rfl|rfl
 ·exact hl a
 ·exact hl b
theorem et6(b:List UInt8)(H:List AObj)(hb:b.length=32):o9 Tryz.prog 95 [.agg (b.map o8)] H (fun r H'=>r=bg9 (bt7 b)/\H'=H):=by
 have c1:=fun H=>du6 bg6 dZ2 (fun l hl=>dG7 hl) (fun l H hl=>ef2 l H hl) b H hb
 have l1:=br8 bg6 b;unfold bt7;unfold bg9 at*;generalize aS3 bg6 b=p at*;refine y7 [] [.cell 2 28,.tmp 3] 9 Tryz.func95 rfl rfl rfl rfl (nlb rfl) (by kernel_rfl) ?_
 repeat' first|refine o6 ?_|simp -dsimp -implicitDefEqProofs (disch:=first|assumption|omega|simp only[ll];omega) only[go_sem,ab2,hb,l1,ai1 l1,bZ9,cK4 hb,t32 hb]|refine o5 (c1 _) ?_|refine⟨_,_,c1 _,?_⟩|refine vcJ ?_ ?_<;>intro _|refine vcA ?_ ?_;focus(repeat'(first|omega|assumption|refine vcA ?_ ?_);done)|omega|refine o7 (fun _=>?_)
 exact aa3 (bg9 p) (Le.refl _) bD1 ⟨rfl,rfl⟩
theorem et7(a p b:List UInt8)(H:List AObj)(ha:a.length=32)(hp:p.length=32)(hb:b.length=32):o9 Tryz.prog 96 [.agg (a.map o8),.agg (p.map o8),.agg (b.map o8)] H (fun r H'=>r=bg9 (bC8 a p b)/\H'=H):=by
 have c1:=fun H=>du6 (bn9 a b) dZ5 (fun l _=>dH1 a b l) (fun l H hl=>eg2 a b l H ha hb hl) p H hp
 have l1:=br8 (bn9 a b) p;unfold bC8;unfold bg9 at*;generalize aS3 (bn9 a b) p=r at*;refine y7 [] [.cell 6 28,.tmp 7] 14 Tryz.func96 rfl rfl rfl rfl (nlb rfl) (by kernel_rfl) ?_
 repeat' first|refine o6 ?_|simp -dsimp -implicitDefEqProofs (disch:=first|assumption|omega|simp only[ll];omega) only[go_sem,ab2,ha,hp,hb,l1,ai1 l1,bZ9,cK4 hp,t32 hp]|refine o5 (c1 _) ?_|refine⟨_,_,c1 _,?_⟩|refine vcJ ?_ ?_<;>intro _|refine vcA ?_ ?_;focus(repeat'(first|omega|assumption|refine vcA ?_ ?_);done)|omega|refine o7 (fun _=>?_)
 exact aa3 (bg9 r) (Le.refl _) bD1 ⟨rfl,rfl⟩
end Cu
end
section
namespace Ed
open Go V
theorem cL5(n:Nat)(H:List AObj)(hn:n<=100000000):o9 Tryz.prog 166 [.lit (.int .i64 (n:Int))] H (fun y H'=>y=.mrow H.length n/\H'=H++[.cells (.prow 1) (List.replicate n .any)]):=
 ay9 (e:=Extern.BytealgMakeNoZero.makeNoZero Tryz.f166.params #[54]) Tryz.func166 (by kernel_rfl) (by kernel_rfl) (by kernel_rfl) (by kernel_rfl) fun G w vs hi ha=>by
  obtain⟨v,rfl,hv⟩:=cA1 ha;rw[ab1 hv];obtain⟨cs,hr,hc,_⟩:=Lib.run_makeNoZero w Tryz.f166.params 54 5 Tryz.underlying54 n (by omega)
  obtain⟨h1,h2,h3,h4⟩:=aE5 hi (More.refl w).drew.drew rfl (cs:=List.replicate n .any) (arr:=cs) ⟨by simpa using hc,fun j x v ex _=>by
   have:=bs2 ex;rw[List.mem_replicate] at this;rw[this.2];exact .any _⟩ 5 (0,0) (.inr rfl) (.prow 1) cs.size ⟨by decide,by simp,rfl⟩
  refine⟨_,_,_,_,_,hr,h1,h2,?_,rfl,rfl⟩;have:=Rel.mrow (G:=af7 G H w.heap.size cs.size) (H:=H++[.cells (.prow 1) (List.replicate n .any)]) (w:=w.drew.drew.alloc (.cells cs 5)) H.length n (.cells (.prow 1) (List.replicate n .any)) (by simp) rfl (by rw[h4];exact hc)
  rw[h3,h4] at this;exact this
abbrev Part:=Own×List UInt8
def bw5(p:Part):AV:=.sl p.1 1 (p.2.map o8)
def aq8(ps:List Part):List UInt8:=ps.flatMap (·.2)
def ao4(ps:List Part)(i:Nat):List UInt8:=aq8 (ps.take i)
theorem bi9{ps:List Part}{i:Nat}(h:i < ps.length):ao4 ps (i+1)=ao4 ps i++(ps.getD i (.sh,[])).2:=by
 unfold ao4 aq8;rw[aZ1 h,b35,List.getD,xq1 h];simp
theorem cp1(ps:List Part):ao4 ps ps.length=aq8 ps:=by unfold ao4;rw[aZ6]
theorem a97(ps:List Part)(i:Nat):(ao4 ps i).length<=(aq8 ps).length:=by
 unfold ao4 aq8;conv=>rhs;rw[<-bG7 i ps]
 rw[b35,List.length_append];omega
theorem cj0{ps:List Part}{i:Nat}(h:i < ps.length):(ps.map bw5).getD i .any=.sl (ps.getD i (.sh,[])).1 1 ((ps.getD i (.sh,[])).2.map o8):=by
 simp[List.getD,xq1 h,bw5]
def aP4(ps:List Part)(i:Nat):List AV:=(ao4 ps i).map o8++List.replicate ((aq8 ps).length - (ao4 ps i).length) .any
theorem cp7(ps:List Part)(i:Nat):(aP4 ps i).length=(aq8 ps).length:=by
 have:=a97 ps i;unfold aP4;rw[List.length_append,List.length_map,List.length_replicate];omega
theorem dq7{ps:List Part}{i:Nat}(h:i < ps.length):af0 (aP4 ps i) (ao4 ps i).length ((ps.getD i (.sh,[])).2.map o8)=aP4 ps (i+1):=by
 have h1:=bi9 h;have h2:=a97 ps (i+1);rw[aA6 _ _ _ (by rw[cp7,List.length_map];rw[h1,List.length_append] at h2;omega)]
 unfold aP4;rw[h1,List.length_append,b46,bG6 (by simp),ak5 (by simp),List.length_map,List.drop_append,bl6 (by simp)]
 simp
 omega
theorem dt7:aa0 []=[]:=rfl
theorem as_nil{cs:List AV}{k:Nat}:af0 cs k []=cs:=rfl
theorem cr8{o:Own}(ps:List Part)(H:List AObj)(h2:2<=ps.length)(h3:ps.length<=1000)(hl:(aq8 ps).length<=1000000):o9 Tryz.prog 114 [.sl o 1 (ps.map bw5),.sl .full 0 []] H (fun y H'=>y=.sl .sh 1 ((aq8 ps).map o8)/\H'=H):=by
 have n0:((ps.length:Int)=0)=False:=eq_false (by omega)
 have n1:((ps.length:Int)=1)=False:=eq_false (by omega)
 have hm:(ps.map bw5).length=ps.length:=List.length_map _;refine y7 [] [.tmp 4] 92 Tryz.func114 rfl rfl rfl rfl (nlb rfl) (by kernel_rfl) ?_
 repeat' first|refine o6 ?_|simp -dsimp -implicitDefEqProofs (disch:=first|assumption|omega|simp only[ll];omega) only[go_sem,n0,n1,hm]|refine vcJ ?_ ?_<;>intro _|refine vcA ?_ ?_;focus(repeat'(first|omega|assumption|refine vcA ?_ ?_);done)|omega|refine o7 (fun _=>?_)
 refine aa5 aa7 mixed [] [0,1,4,42,43] (fun i:Nat=>i<=ps.length) (fun i=>[(44,.lit (.int .i64 i)),(5,.lit (.int .i64 (((ao4 ps i).length:Nat):Int)))]) (fun _=>H) (fun i=>ps.length - i) (by kernel_rfl) ?_ 0 (by omega) y8 rfl
 intro i hi;by_cases h:i < ps.length
 ·have hic:((i:Int) < (ps.length:Int))=True:=eq_true (by omega)
  have hp:=cj0 h;have hn:=bi9 h;have hj:=a97 ps (i+1);have hj2:=congrArg List.length hn;rw[List.length_append] at hj2;generalize (ps.getD i (.sh,[]))=q at*;have hov:(9223372036854775807 - ((ao4 ps i).length:Int) < (q.2.length:Int))=False:=eq_false (by omega)
  repeat' first|refine o6 ?_|simp -dsimp -implicitDefEqProofs (disch:=first|assumption|omega|simp only[ll];omega) only[go_sem,hic,hm,hp,hov]|refine vcJ ?_ ?_<;>intro _|refine vcA ?_ ?_;focus(repeat'(first|omega|assumption|refine vcA ?_ ?_);done)|omega|refine o7 (fun _=>?_)
  rw[show ((ao4 ps i).length:Int)+(q.2.length:Int)=(((ao4 ps (i+1)).length:Nat):Int) by omega]
  refine again (i+1) ?_ ?_ rfl y8
  ·omega
  ·omega
 ·obtain rfl:i=ps.length:=by omega
  rw[cp1];have cM:=fun H=>cL5 (aq8 ps).length H (by omega)
  have hp0:=cj0 (ps:=ps) (i:=0) (by omega)
  have hn0:=bi9 (ps:=ps) (i:=0) (by omega)
  have hz0:ao4 ps 0=[]:=rfl;rw[hz0,List.nil_append] at hn0;have hl1:=a97 ps 1;have hlr:(List.replicate (aq8 ps).length AV.any).length=(aq8 ps).length:=List.length_replicate;rw[<-hn0] at hp0;have ha0:af0 (List.replicate (aq8 ps).length AV.any) 0 ((ao4 ps 1).map o8)=aP4 ps 1:=by
   unfold aP4;rw[aA6 _ _ _ (by rw[List.length_map,List.length_replicate];omega)]
   simp
  have hg0:((1:Int)<=(ps.length:Int))=True:=eq_true (by omega)
  have hq:(ps.length:Int) - 1=((ps.length - 1:Nat):Int):=by omega
  have hm1:((ps.map bw5).drop 1).length=ps.length - 1:=by rw[List.length_drop,List.length_map]
  have hmin:min (aq8 ps).length (ao4 ps 1).length=(ao4 ps 1).length:=by omega
  have htk:((ao4 ps 1).map o8).take (ao4 ps 1).length=(ao4 ps 1).map o8:=ak5 (by simp)
  repeat' first|refine o6 ?_|simp -dsimp -implicitDefEqProofs (disch:=first|assumption|omega|simp only[ll];omega) only[go_sem,hm,hp0,hlr,ha0,hg0,hm1,hmin,htk]|refine o5 (cM _) ?_|refine vcJ ?_ ?_<;>intro _|refine vcA ?_ ?_;focus(repeat'(first|omega|assumption|refine vcA ?_ ?_);done)|omega|refine o7 (fun _=>?_)
  refine aa5 aa7 mixed [] [1,4,8,70,71] (fun j:Nat=>j<=ps.length - 1) (fun j=>[(72,.lit (.int .i64 j)),(9,.lit (.int .i64 (((ao4 ps (j+1)).length:Nat):Int)))]) (fun j=>H++[.cells (.prow 1) (aP4 ps (j+1))]) (fun j=>ps.length - 1 - j) (by kernel_rfl) ?_ 0 (by omega) y8 rfl
  intro j hj;by_cases h:j < ps.length - 1
  ·have hic:((j:Int) < ((ps.length - 1:Nat):Int))=True:=eq_true (by omega)
   have hp:((ps.map bw5).drop 1).getD j .any=.sl (ps.getD (j+1) (.sh,[])).1 1 ((ps.getD (j+1) (.sh,[])).2.map o8):=by
    rw[<-cj0 (by omega),List.getD,aP9,cg5 1 j,List.getD]
   have hn:=bi9 (ps:=ps) (i:=j+1) (by omega)
   have hl:=a97 ps (j+1);have hl2:=a97 ps (j+1+1);have hll:=congrArg List.length hn;rw[List.length_append] at hll;have hC:=dq7 (ps:=ps) (i:=j+1) (by omega)
   have hCl:(aP4 ps (j+1)).length=(aq8 ps).length:=cp7 ps (j+1);generalize (ps.getD (j+1) (.sh,[]))=q at*;generalize hN2:ao4 ps (j+1+1)=N2 at*;generalize hC2:aP4 ps (j+1+1)=C2 at*;have hmin:min ((aq8 ps).length - (ao4 ps (j+1)).length) q.2.length=q.2.length:=by omega
   have htk:(q.2.map o8).take q.2.length=q.2.map o8:=ak5 (by simp)
   have hsum:((ao4 ps (j+1)).length:Int)+(q.2.length:Int)=((N2.length:Nat):Int):=by omega
   by_cases he:(aq8 ps).length=(ao4 ps (j+1)).length
   ·have hec:(((aq8 ps).length:Int)=((ao4 ps (j+1)).length:Int))=True:=eq_true (by omega)
    have hq0:q.2=[]:=aZ5 (by omega)
    rw[hq0] at hC;have hC0:aP4 ps (j+1)=C2:=hC;rw[hC0] at hCl⊢;repeat' first|refine o6 ?_|simp -dsimp -implicitDefEqProofs (disch:=first|assumption|omega|simp only[ll];omega) only[go_sem,hic,hm1,hp,hec,hCl,hq0,hmin,htk,List.map_nil,List.take_nil,Int.add_zero,dt7,as_nil]|refine vcJ ?_ ?_<;>intro _|refine vcA ?_ ?_;focus(repeat'(first|omega|assumption|refine vcA ?_ ?_);done)|omega|refine o7 (fun _=>?_)
    rw[show ((ao4 ps (j+1)).length:Int)=((N2.length:Nat):Int) by rw[hq0] at hll;simp at hll;omega]
    subst hN2;subst hC2;refine again (j+1) ?_ ?_ rfl y8
    ·omega
    ·omega
   ·have hec:(((aq8 ps).length:Int)=((ao4 ps (j+1)).length:Int))=False:=eq_false (by omega)
    repeat' first|refine o6 ?_|simp -dsimp -implicitDefEqProofs (disch:=first|assumption|omega|simp only[ll];omega) only[go_sem,hic,hm1,hp,hec,hCl,hmin,htk,hC,hsum,Int.add_zero,dt7,as_nil]|refine vcJ ?_ ?_<;>intro _|refine vcA ?_ ?_;focus(repeat'(first|omega|assumption|refine vcA ?_ ?_);done)|omega|refine o7 (fun _=>?_)
    subst hN2;subst hC2;refine again (j+1) ?_ ?_ rfl y8
    ·omega
    ·omega
  ·obtain rfl:j=ps.length - 1:=by omega
   have hall:aP4 ps (ps.length - 1+1)=(aq8 ps).map o8:=by
    rw[Nat.sub_add_cancel (by omega)]
    unfold aP4;rw[cp1,ao8];simp
   rw[hall];repeat' first|refine o6 ?_|simp -dsimp -implicitDefEqProofs (disch:=first|assumption|omega|simp only[ll];omega) only[go_sem,hm1]|refine vcJ ?_ ?_<;>intro _|refine vcA ?_ ?_;focus(repeat'(first|omega|assumption|refine vcA ?_ ?_);done)|omega|refine o7 (fun _=>?_)
   refine bo6 (.sl .sh 1 ((aq8 ps).map o8)) (.msl _ _ _ _ _ (.prow 1) ((aq8 ps).map o8) _ (xq0 _) (by simp) (by simp) (fun x hx=>by obtain⟨c,_,rfl⟩:=xq9.1 hx;exact⟨rfl,rfl⟩) (by rw[al9 o8 (fun _=>rfl)];simp) fun j c y e1 e2=>?_) ⟨rfl,rfl⟩
   rw[al9 o8 (fun _=>rfl)] at e2
   rw[Nat.zero_add] at e1;rw[e1] at e2;cases e2
   refine .low _ ?_;obtain⟨c,_,rfl⟩:=xq9.1 (bs2 e1);exact .lit _
end Ed
end
section
namespace Ed
open Go V Fe Sc Cu
def as1(seed:List UInt8):List UInt8:=aR4 ((ax2 seed).take 32)
def aG9(seed:List UInt8):List UInt8:=(ax2 seed).drop 32
def aw3(m:List UInt8):List UInt8:=bv8 (ax2 m)
def ar1(seed:List UInt8):List UInt8:=aS5 (as1 seed)
def bx2(seed m:List UInt8):List UInt8:=aw3 (aG9 seed++m)
def az0(seed m:List UInt8):List UInt8:=
 aS5 (bx2 seed m)++bk3 (aw3 (aS5 (bx2 seed m)++(ar1 seed++m))) (as1 seed) (bx2 seed m)
def a00(key m sig:List UInt8):Bool:=
 b74 (sig.drop 32)&&(decide ((bt7 key).2=0)&&(decide ((bC8 (aw3 (sig.take 32++(key++m))) (bt7 key).1 (sig.drop 32)).2=0)&&decide ((bC8 (aw3 (sig.take 32++(key++m))) (bt7 key).1 (sig.drop 32)).1=sig.take 32)))
theorem cq9{a:List UInt8}(h:a.length=32):(aR4 a).length=32:=by unfold aR4;rw[List.length_set,List.length_set,h]
theorem aE1(seed:List UInt8):(as1 seed).length=32:=cq9 (by rw[List.length_take,aW4];rfl)
theorem c88(seed:List UInt8):(aG9 seed).length=32:=by unfold aG9;rw[List.length_drop,aW4]
theorem bU0(a:List UInt8):(bv8 a).length=32:=bj4 _
theorem ca4(a b c:List UInt8):(bk3 a b c).length=32:=bj4 _
theorem bC3(m:List UInt8):(aw3 m).length=32:=bU0 _
theorem bX3(seed m:List UInt8):(az0 seed m).length=64:=by
 unfold az0;rw[List.length_append,bf9,ca4]
def ax9(seed:List UInt8):List AV:=(as1 seed).map o8++[.sl .sh 1 ((aG9 seed).map o8)]
theorem dT0{l:List UInt8}(h:l.length=32):af0 [AV.lit (.int .u8 0),AV.lit (.int .u8 0),AV.lit (.int .u8 0),AV.lit (.int .u8 0),AV.lit (.int .u8 0),AV.lit (.int .u8 0),AV.lit (.int .u8 0),AV.lit (.int .u8 0),AV.lit (.int .u8 0),AV.lit (.int .u8 0),AV.lit (.int .u8 0),AV.lit (.int .u8 0),AV.lit (.int .u8 0),AV.lit (.int .u8 0),AV.lit (.int .u8 0),AV.lit (.int .u8 0),AV.lit (.int .u8 0),AV.lit (.int .u8 0),AV.lit (.int .u8 0),AV.lit (.int .u8 0),AV.lit (.int .u8 0),AV.lit (.int .u8 0),AV.lit (.int .u8 0),AV.lit (.int .u8 0),AV.lit (.int .u8 0),AV.lit (.int .u8 0),AV.lit (.int .u8 0),AV.lit (.int .u8 0),AV.lit (.int .u8 0),AV.lit (.int .u8 0),AV.lit (.int .u8 0),AV.lit (.int .u8 0),AV.sl .full 0 []] 0 (l.map o8)=l.map o8++[AV.sl .full 0 []]:=by
 rw[aA6 _ _ _ (by simp[h])]
 simp[h]
theorem dS8{l:List UInt8}{x y:AV}(h:l.length=32):(l.map o8++[x]).set 32 y=l.map o8++[y]:=by
 rw[az4 _ _ (by simp[h])]
 simp[h]
theorem dT1{l:List UInt8}{x:AV}(h:l.length=32):af0 [AV.lit (.int .u8 0),AV.lit (.int .u8 0),AV.lit (.int .u8 0),AV.lit (.int .u8 0),AV.lit (.int .u8 0),AV.lit (.int .u8 0),AV.lit (.int .u8 0),AV.lit (.int .u8 0),AV.lit (.int .u8 0),AV.lit (.int .u8 0),AV.lit (.int .u8 0),AV.lit (.int .u8 0),AV.lit (.int .u8 0),AV.lit (.int .u8 0),AV.lit (.int .u8 0),AV.lit (.int .u8 0),AV.lit (.int .u8 0),AV.lit (.int .u8 0),AV.lit (.int .u8 0),AV.lit (.int .u8 0),AV.lit (.int .u8 0),AV.lit (.int .u8 0),AV.lit (.int .u8 0),AV.lit (.int .u8 0),AV.lit (.int .u8 0),AV.lit (.int .u8 0),AV.lit (.int .u8 0),AV.lit (.int .u8 0),AV.lit (.int .u8 0),AV.lit (.int .u8 0),AV.lit (.int .u8 0),AV.lit (.int .u8 0),AV.sl .full 0 []] 0 (l.map o8++[x])=l.map o8++[x]:=bg0 (by simp[h])
theorem dk4{l:List UInt8}{o:Own}{m:List UInt8}(_:l.length=32):(l.map o8++[AV.sl o 1 (m.map o8)]).all AV.scalar=true:=by
 rw[List.all_append,ab2];rfl
theorem dS0{l:List UInt8}{x:AV}(h:l.length=32):(l.map o8++[x]).length=33:=by simp[h]
theorem ea4{l:List UInt8}{x:AV}(h:l.length=32):(l.map o8++[x]).take 33=l.map o8++[x]:=ak5 (by simp[h])
theorem d01{m:Nat}{l p:List UInt8}:Low m (.agg (l.map o8++[.sl .sh 1 (p.map o8)])):=.agg _ fun x hx=>by
 rcases aP7.1 hx with h|h
 ·obtain⟨c,_,rfl⟩:=xq9.1 h
  exact .lit _
 ·simp only[ai9,aG2,or_false] at h
  subst h;exact ae4
theorem cI6(seed:List UInt8)(H:List AObj)(hs:seed.length=32):o9 Tryz.prog 25 [.agg (seed.map o8)] H (fun y H'=>y=.agg (ax9 seed)/\H'=H):=by
 have c1:=fun H=>W64.cr6 (a:=.sl .full 1 [.sl .sh 1 (seed.map o8)]) H (l:=seed) (by omega) (fun H=>dy1 (o:=.full) (o2:=.sh) seed H (by omega))
 have l1:=aW4 seed;unfold ax9 as1 aG9;generalize ax2 seed=h at*;have ht:(h.take 32).length=32:=by rw[List.length_take];omega
 have c2:=fun H=>d88 (h.take 32) H ht
 have l2:=cq9 ht;refine au3 aa7 mixed [1000002] 2 (rs:=[.cell 2 56]) (n:=13) Tryz.func25 rfl rfl rfl rfl (nlb rfl) (by kernel_rfl) ?_
 repeat' first|refine o6 ?_|simp -dsimp -implicitDefEqProofs (disch:=first|assumption|omega|simp only[ll];omega) only[go_sem,ab2,hs,l1]|refine o5 (c1 _) ?_|refine⟨_,_,c1 _,?_⟩|refine vcJ ?_ ?_<;>intro _|refine vcA ?_ ?_;focus(repeat'(first|omega|assumption|refine vcA ?_ ?_);done)|omega|refine o7 (fun _=>?_)
 refine aB8 3 (H.length+1) rfl (by rw[az9];rfl) ?_
 refine aA0 aa7 mixed [1000002] (by kernel_rfl) ?_
 have t1:((h.map o8).take 32)=(h.take 32).map o8:=cf8.symm;generalize aR4 (h.take 32)=sc at*;have z1:=dT0 l2;have z2:=dT1 (x:=.sl .sh 1 ((h.drop 32).map o8)) l2;repeat' first|refine o6 ?_|simp -dsimp -implicitDefEqProofs (disch:=first|assumption|omega|simp only[ll];omega) only[go_sem,ab2,hs,l1,l2,t1,t32 ht,z1,dS8 l2,z2,dk4 l2,dS0 l2,ea4 l2]|refine o5 (c2 _) ?_|refine⟨_,_,c2 _,?_⟩|refine vcJ ?_ ?_<;>intro _|refine vcA ?_ ?_;focus(repeat'(first|omega|assumption|refine vcA ?_ ?_);done)|omega|refine o7 (fun _=>?_)
 exact aa3 _ (Le.refl _) d01 ⟨rfl,rfl⟩
theorem bc6(seed:List UInt8):(ax9 seed).length=33:=dS0 (aE1 seed)
theorem bT7(seed:List UInt8):(ax9 seed).all AV.scalar=true:=dk4 (aE1 seed)
theorem bI7(seed:List UInt8):(ax9 seed).take 32=(as1 seed).map o8:=by
 unfold ax9;rw[bG6 (by simp[aE1]),ak5 (by simp[aE1])]
theorem c71(seed:List UInt8):(ax9 seed).getD 32 .any=.sl .sh 1 ((aG9 seed).map o8):=by
 unfold ax9;rw[List.getD,xq7 (by simp[aE1])]
 simp[aE1]
theorem cL3(seed:List UInt8)(H:List AObj)(hs:seed.length=32):o9 Tryz.prog 8 [.agg (seed.map o8)] H (fun y H'=>y=.agg ((ar1 seed).map o8)/\H'=H):=by
 have c1:=fun H=>cI6 seed H hs
 have c2:=fun H=>cM0 (as1 seed) H (aE1 seed)
 have l2:=bf9 (as1 seed);have k1:=bc6 seed;have k2:=bT7 seed;have k3:=bI7 seed;unfold ar1;generalize aS5 (as1 seed)=r at*;generalize ax9 seed=sc at*;refine y7 [] [.cell 2 28] 7 Tryz.func8 rfl rfl rfl rfl (nlb rfl) (by kernel_rfl) ?_
 repeat' first|refine o6 ?_|simp -dsimp -implicitDefEqProofs (disch:=first|assumption|omega|simp only[ll];omega) only[go_sem,ab2,hs,k1,k2,k3,l2,ai1 l2]|refine o5 (c1 _) ?_|refine⟨_,_,c1 _,?_⟩|refine o5 (c2 _) ?_|refine⟨_,_,c2 _,?_⟩|refine vcJ ?_ ?_<;>intro _|refine vcA ?_ ?_;focus(repeat'(first|omega|assumption|refine vcA ?_ ?_);done)|omega|refine o7 (fun _=>?_)
 exact aa3 _ (Le.refl _) aq5 ⟨rfl,rfl⟩
theorem dq6(a b:Part):aq8 [a,b]=a.2++b.2:=by simp[aq8]
theorem dq5(a b c:Part):aq8 [a,b,c]=a.2++(b.2++c.2):=by simp[aq8]
theorem bC4{a:AV}{l:List UInt8}(H:List AObj)(hl:l.length<=1000000)(hJ: ∀H,o9 Tryz.prog 114 [a,.sl .full 0 []] H (fun y H'=>y=.sl .sh 1 (l.map o8)/\H'=H)):o9 Tryz.prog 97 [a] H (fun y H'=>y=.agg ((aw3 l).map o8)/\H'=H):=by
 have c1:=fun H=>W64.cr6 H hl hJ
 have l1:=aW4 l;unfold aw3;generalize ax2 l=h at*;have c2:=fun H=>dx7 h H l1
 have l2:=bU0 h;generalize bv8 h=r at*;refine y7 [] [.cell 2 28] 6 Tryz.func97 rfl rfl rfl rfl (nlb rfl) (by kernel_rfl) ?_
 repeat' first|refine o6 ?_|simp -dsimp -implicitDefEqProofs (disch:=first|assumption|omega|simp only[ll];omega) only[go_sem,ab2,l1,l2,ai1 l2]|refine o5 (c1 _) ?_|refine⟨_,_,c1 _,?_⟩|refine o5 (c2 _) ?_|refine⟨_,_,c2 _,?_⟩|refine vcJ ?_ ?_<;>intro _|refine vcA ?_ ?_;focus(repeat'(first|omega|assumption|refine vcA ?_ ?_);done)|omega|refine o7 (fun _=>?_)
 exact aa3 _ (Le.refl _) aq5 ⟨rfl,rfl⟩
end Ed
end
section
namespace Ed
open Go V Fe Sc Cu
theorem ee8{o1 o2:Own}(a b:List UInt8)(H:List AObj)(hl:a.length+b.length<=1000000):o9 Tryz.prog 97 [.sl .full 1 [.sl o1 1 (a.map o8),.sl o2 1 (b.map o8)]] H (fun y H'=>y=.agg ((aw3 (a++b)).map o8)/\H'=H):=
 bC4 H (by rw[List.length_append];exact hl) fun H=>by
  have:=cr8 (o:=.full) [(o1,a),(o2,b)] H (by simp) (by simp) (by rw[dq6,List.length_append];exact hl)
  rw[dq6] at this;exact this
theorem do0{o1 o2 o3:Own}(a b c:List UInt8)(H:List AObj)(hl:a.length+b.length+c.length<=1000000):o9 Tryz.prog 97 [.sl .full 1 [.sl o1 1 (a.map o8),.sl o2 1 (b.map o8),.sl o3 1 (c.map o8)]] H (fun y H'=>y=.agg ((aw3 (a++(b++c))).map o8)/\H'=H):=
 bC4 H (by rw[List.length_append,List.length_append];omega) fun H=>by
  have:=cr8 (o:=.full) [(o1,a),(o2,b),(o3,c)] H (by simp) (by simp) (by rw[dq5,List.length_append,List.length_append];dsimp only;omega)
  rw[dq5] at this;exact this
theorem bS9{n:Nat}{v:Value}:(List.replicate n (AV.lit v)).all bK5=true:=dx0 rfl
theorem ep5{a b:List UInt8}(ha:a.length=32)(hb:b.length=32):af0 (af0 (List.replicate 64 (AV.lit (.int .u8 0))) 0 (a.map o8)) 32 (b.map o8)=(a++b).map o8:=by
 rw[aA6 _ _ _ (by rw[au2];simp[hb]),aA6 _ _ _ (by simp[ha])]
 simp[ha,hb]
theorem z64{a:List UInt8}(h:a.length=64):af0 (List.replicate 64 (AV.lit (.int .u8 0))) 0 (a.map o8)=a.map o8:=bg0 (by simp[h])
theorem t64{l:List UInt8}(h:l.length=64):(l.map o8).take 64=l.map o8:=ak5 (by rw[List.length_map];omega)
theorem dS9(seed:List UInt8):af0 [AV.lit (.int .u8 0),AV.lit (.int .u8 0),AV.lit (.int .u8 0),AV.lit (.int .u8 0),AV.lit (.int .u8 0),AV.lit (.int .u8 0),AV.lit (.int .u8 0),AV.lit (.int .u8 0),AV.lit (.int .u8 0),AV.lit (.int .u8 0),AV.lit (.int .u8 0),AV.lit (.int .u8 0),AV.lit (.int .u8 0),AV.lit (.int .u8 0),AV.lit (.int .u8 0),AV.lit (.int .u8 0),AV.lit (.int .u8 0),AV.lit (.int .u8 0),AV.lit (.int .u8 0),AV.lit (.int .u8 0),AV.lit (.int .u8 0),AV.lit (.int .u8 0),AV.lit (.int .u8 0),AV.lit (.int .u8 0),AV.lit (.int .u8 0),AV.lit (.int .u8 0),AV.lit (.int .u8 0),AV.lit (.int .u8 0),AV.lit (.int .u8 0),AV.lit (.int .u8 0),AV.lit (.int .u8 0),AV.lit (.int .u8 0),AV.sl .full 0 []] 0 (ax9 seed)=ax9 seed:=bg0 (by simp[bc6])
theorem ci2(seed:List UInt8):(ax9 seed).take 33=ax9 seed:=ak5 (by simp[bc6])
theorem cL1{o:Own}(seed m:List UInt8)(H:List AObj)(hs:seed.length=32)(hm:m.length<=500000):o9 Tryz.prog 83 [.agg (seed.map o8),.sl o 1 (m.map o8)] H (fun y H'=>y=.agg ((az0 seed m).map o8)/\H'=H):=by
 have c1:=fun H=>cI6 seed H hs
 have k1:=bc6 seed;have k2:=bT7 seed;have k3:=bI7 seed;have k4:=c71 seed;have k5:=dS9 seed;have k6:=ci2 seed;have ls:=aE1 seed;have lp:=c88 seed;have c2:=fun H=>ee8 (o1:=.sh) (o2:=o) (aG9 seed) m H (by omega)
 have l2:=bC3 (aG9 seed++m);unfold az0 ar1 bx2;generalize aw3 (aG9 seed++m)=r at*;have c3:=fun H=>cM0 r H l2
 have l3:=bf9 r;have c4:=fun H=>cM0 (as1 seed) H ls
 have l4:=bf9 (as1 seed);generalize aS5 r=R at*;generalize aS5 (as1 seed)=A at*;have c5:=fun H=>do0 (o1:=.sh) (o2:=.sh) (o3:=o) R A m H (by omega)
 have l5:=bC3 (R++(A++m));generalize aw3 (R++(A++m))=kk at*;have c6:=fun H=>dQ1 kk (as1 seed) r H l5 ls l2
 have l6:=ca4 kk (as1 seed) r;generalize bk3 kk (as1 seed) r=s at*;have l7:(R++s).length=64:=by rw[List.length_append,l3,l6]
 generalize ax9 seed=sc at*;refine au3 aa7 mixed [2000027,2000031,1000004,1000004003009,1000004004009,1000004006009,1000004007009,1000004008009,1000006,1000007] 3 (rs:=[.cell 4 91]) (n:=39) Tryz.func83 rfl rfl rfl rfl (nlb rfl) (by kernel_rfl) ?_
 repeat' first|refine o6 ?_|simp -dsimp -implicitDefEqProofs (disch:=first|assumption|omega|simp only[ll];omega) only[go_sem,ab2,hs,k1,k2,k3,k4,k5,k6,l2,ai1 l2]|refine o5 (c1 _) ?_|refine⟨_,c1 _,?_⟩|refine⟨_,_,c1 _,?_⟩|refine o5 (c2 _) ?_|refine⟨_,c2 _,?_⟩|refine⟨_,_,c2 _,?_⟩|refine vcJ ?_ ?_<;>intro _|refine vcA ?_ ?_;focus(repeat'(first|omega|assumption|refine vcA ?_ ?_);done)|omega|refine o7 (fun _=>?_)
 refine aB8 5 (H.length+1) rfl (by rw[az9];rfl) ?_
 refine aB8 6 (H.length+2) rfl (by rw[aY0,az9];rfl) ?_
 refine bS8 aa7 mixed [2000027,2000031,1000004,1000004003009,1000004004009,1000004006009,1000004007009,1000004008009,1000006,1000007] 0 28 5 2 (by kernel_rfl) ?_
 repeat' first|refine o6 ?_|simp -dsimp -implicitDefEqProofs (disch:=first|assumption|omega|simp only[ll];omega) only[go_sem,ab2,hs,k1,k2,k3,k4,k5,k6,l2,l3,l4,ai1 l3,ai1 l4,t32 l2,bS9,aZ7,av1]|refine o5 (fun _ _ _=>c3 _) ?_|refine⟨_,fun _ _ _=>c3 _,?_⟩|refine⟨_,_,fun _ _ _=>c3 _,?_⟩|refine o5 (fun _ _ _=>c4 _) ?_|refine⟨_,fun _ _ _=>c4 _,?_⟩|refine⟨_,_,fun _ _ _=>c4 _,?_⟩|refine vcJ ?_ ?_<;>intro _|refine vcA ?_ ?_;focus(repeat'(first|omega|assumption|refine vcA ?_ ?_);done)|omega|refine o7 (fun _=>?_)
 refine aB8 7 (H.length+3) rfl (by rw[az9];rfl) ?_
 refine aB8 8 (H.length+4) rfl (by rw[aY0,az9];rfl) ?_
 refine aA0 aa7 mixed [2000027,2000031,1000004,1000004003009,1000004004009,1000004006009,1000004007009,1000004008009,1000006,1000007] (by kernel_rfl) ?_
 repeat' first|refine o6 ?_|simp -dsimp -implicitDefEqProofs (disch:=first|assumption|omega|simp only[ll];omega) only[go_sem,ab2,hs,k1,k2,k3,k4,k5,k6,l2,l3,l4,l5,l6,ai1 l6,t32 l2,t32 l3,t32 l4,t32 l6,au2,List.length_replicate,ep5 l3 l6,l7,z64 l7,t64 l7]|refine o5 (c5 _) ?_|refine⟨_,c5 _,?_⟩|refine⟨_,_,c5 _,?_⟩|refine o5 (c6 _) ?_|refine⟨_,c6 _,?_⟩|refine⟨_,_,c6 _,?_⟩|refine vcJ ?_ ?_<;>intro _|refine vcA ?_ ?_;focus(repeat'(first|omega|assumption|refine vcA ?_ ?_);done)|omega|refine o7 (fun _=>?_)
 exact aa3 _ (Le.refl _) aq5 ⟨rfl,rfl⟩
theorem bb4{o:Own}(key m sig:List UInt8)(H:List AObj)(hk:key.length=32)(hm:m.length<=500000)(hs:sig.length=64):o9 Tryz.prog 56 [.agg (key.map o8),.sl o 1 (m.map o8),.agg (sig.map o8)] H (fun y H'=>y=.bool (a00 key m sig)/\H'=H):=by
 have l1:(sig.take 32).length=32:=by rw[List.length_take];omega
 have l2:(sig.drop 32).length=32:=by rw[List.length_drop];omega
 have t1:((sig.map o8).take 32)=(sig.take 32).map o8:=cf8.symm;have t2:((sig.map o8).drop 32)=(sig.drop 32).map o8:=List.map_drop.symm;have c1:=fun H=>dP8 (sig.drop 32) H l2
 have c2:=fun H=>et6 key H hk
 have l3:=br8 bg6 key;have e3:aS3 bg6 key=bt7 key:=rfl;rw[e3] at l3;unfold a00;have c3:=fun H=>do0 (o1:=.sh) (o2:=.sh) (o3:=o) (sig.take 32) key m H (by omega)
 have l4:=bC3 (sig.take 32++(key++m));unfold bg9 at c2;generalize bt7 key=n at*;generalize aw3 (sig.take 32++(key++m))=kk at*;have c4:=fun H=>et7 kk n.1 (sig.drop 32) H l4 l3 l2
 have l5:=br8 (bn9 kk (sig.drop 32)) n.1;have e5:aS3 (bn9 kk (sig.drop 32)) n.1=bC8 kk n.1 (sig.drop 32):=rfl;rw[e5] at l5;unfold bg9 at c4;generalize bC8 kk n.1 (sig.drop 32)=p at*;cases hr:b74 (sig.drop 32) with
 |false=>
  rw[hr] at c1;refine au3 aa7 mixed [2000033,2000036,1000007,1000007003011,1000007004011,1000007005011,1000007006011,1000007007011] 1 (rs:=[.tmp 6]) (n:=46) Tryz.func56 rfl rfl rfl rfl (nlb rfl) (by kernel_rfl) ?_
  repeat' first|refine o6 ?_|simp -dsimp -implicitDefEqProofs (disch:=first|assumption|omega|simp only[ll];omega) only[go_sem,ab2,hk,hs]|refine vcJ ?_ ?_<;>intro _|refine vcA ?_ ?_;focus(repeat'(first|omega|assumption|refine vcA ?_ ?_);done)|omega|refine o7 (fun _=>?_)
  refine bS8 aa7 mixed [2000033,2000036,1000007,1000007003011,1000007004011,1000007005011,1000007006011,1000007007011] 0 28 6 2 (by kernel_rfl) ?_
  repeat' first|refine o6 ?_|simp -dsimp -implicitDefEqProofs (disch:=first|assumption|omega|simp only[ll];omega) only[go_sem,ab2,hk,hs,t1,t2,l1,l2,ai1 l1,ai1 l2,t32 l1,t32 l2,bS9,aZ7,av1]|refine vcJ ?_ ?_<;>intro _|refine vcA ?_ ?_;focus(repeat'(first|omega|assumption|refine vcA ?_ ?_);done)|omega|refine o7 (fun _=>?_)
  refine aB8 7 (H.length) rfl (by rw[aP6];rfl) ?_
  refine aB8 8 (H.length+1) rfl (by rw[bf3,az9];rfl) ?_
  refine aA0 aa7 mixed [2000033,2000036,1000007,1000007003011,1000007004011,1000007005011,1000007006011,1000007007011] (by kernel_rfl) ?_
  repeat' first|refine o6 ?_|simp -dsimp -implicitDefEqProofs (disch:=first|assumption|omega|simp only[ll];omega) only[go_sem,ab2,hk,hs,l1,l2,l3,l4,l5,ai1 l3,ai1 l5,t32 l1,t32 l2,t32 l3,t32 l5,t32 hk]|refine o5 (c1 _) ?_|refine⟨_,c1 _,?_⟩|refine⟨_,_,c1 _,?_⟩|refine o5 (c2 _) ?_|refine⟨_,c2 _,?_⟩|refine⟨_,_,c2 _,?_⟩|refine o5 (c3 _) ?_|refine⟨_,c3 _,?_⟩|refine⟨_,_,c3 _,?_⟩|refine o5 (c4 _) ?_|refine⟨_,c4 _,?_⟩|refine⟨_,_,c4 _,?_⟩|refine vcJ ?_ ?_<;>intro _|refine vcA ?_ ?_;focus(repeat'(first|omega|assumption|refine vcA ?_ ?_);done)|omega|refine o7 (fun _=>?_)
  exact aa3 (.bool false) (Le.refl _) (.lit _) ⟨by rw[aC6],rfl⟩
 |true=>
  rw[hr] at c1;rw[Bool.true_and];by_cases hn:n.2=0
  ·rw[decide_eq_true hn,Bool.true_and]
   have hnt:=eq_true hn;refine au3 aa7 mixed [2000033,2000036,1000007,1000007003011,1000007004011,1000007005011,1000007006011,1000007007011] 1 (rs:=[.tmp 6]) (n:=46) Tryz.func56 rfl rfl rfl rfl (nlb rfl) (by kernel_rfl) ?_
   repeat' first|refine o6 ?_|simp -dsimp -implicitDefEqProofs (disch:=first|assumption|omega|simp only[ll];omega) only[go_sem,ab2,hk,hs]|refine vcJ ?_ ?_<;>intro _|refine vcA ?_ ?_;focus(repeat'(first|omega|assumption|refine vcA ?_ ?_);done)|omega|refine o7 (fun _=>?_)
   refine bS8 aa7 mixed [2000033,2000036,1000007,1000007003011,1000007004011,1000007005011,1000007006011,1000007007011] 0 28 6 2 (by kernel_rfl) ?_
   repeat' first|refine o6 ?_|simp -dsimp -implicitDefEqProofs (disch:=first|assumption|omega|simp only[ll];omega) only[go_sem,ab2,hk,hs,t1,t2,l1,l2,ai1 l1,ai1 l2,t32 l1,t32 l2,bS9,aZ7,av1]|refine vcJ ?_ ?_<;>intro _|refine vcA ?_ ?_;focus(repeat'(first|omega|assumption|refine vcA ?_ ?_);done)|omega|refine o7 (fun _=>?_)
   refine aB8 7 (H.length) rfl (by rw[aP6];rfl) ?_
   refine aB8 8 (H.length+1) rfl (by rw[bf3,az9];rfl) ?_
   refine aA0 aa7 mixed [2000033,2000036,1000007,1000007003011,1000007004011,1000007005011,1000007006011,1000007007011] (by kernel_rfl) ?_
   repeat' first|refine o6 ?_|simp -dsimp -implicitDefEqProofs (disch:=first|assumption|omega|simp only[ll];omega) only[go_sem,ab2,hk,hs,l1,l2,l3,l4,l5,ai1 l3,ai1 l5,t32 l1,t32 l2,t32 l3,t32 l5,t32 hk,hnt]|refine o5 (c1 _) ?_|refine⟨_,c1 _,?_⟩|refine⟨_,_,c1 _,?_⟩|refine o5 (c2 _) ?_|refine⟨_,c2 _,?_⟩|refine⟨_,_,c2 _,?_⟩|refine o5 (c3 _) ?_|refine⟨_,c3 _,?_⟩|refine⟨_,_,c3 _,?_⟩|refine o5 (c4 _) ?_|refine⟨_,c4 _,?_⟩|refine⟨_,_,c4 _,?_⟩|refine vcJ ?_ ?_<;>intro _|refine vcA ?_ ?_;focus(repeat'(first|omega|assumption|refine vcA ?_ ?_);done)|omega|refine o7 (fun _=>?_)
   ·rename_i hp
    exact aa3 (.bool (decide (p.1=sig.take 32))) (Le.refl _) (.lit _) ⟨by rw[decide_eq_true hp,Bool.true_and],rfl⟩
   ·rename_i hp
    exact aa3 (.bool false) (Le.refl _) (.lit _) ⟨by rw[decide_eq_false hp,aC6],rfl⟩
  ·rw[decide_eq_false hn,aC6]
   have hnf:=eq_false hn;refine au3 aa7 mixed [2000033,2000036,1000007,1000007003011,1000007004011,1000007005011,1000007006011,1000007007011] 1 (rs:=[.tmp 6]) (n:=46) Tryz.func56 rfl rfl rfl rfl (nlb rfl) (by kernel_rfl) ?_
   repeat' first|refine o6 ?_|simp -dsimp -implicitDefEqProofs (disch:=first|assumption|omega|simp only[ll];omega) only[go_sem,ab2,hk,hs]|refine vcJ ?_ ?_<;>intro _|refine vcA ?_ ?_;focus(repeat'(first|omega|assumption|refine vcA ?_ ?_);done)|omega|refine o7 (fun _=>?_)
   refine bS8 aa7 mixed [2000033,2000036,1000007,1000007003011,1000007004011,1000007005011,1000007006011,1000007007011] 0 28 6 2 (by kernel_rfl) ?_
   repeat' first|refine o6 ?_|simp -dsimp -implicitDefEqProofs (disch:=first|assumption|omega|simp only[ll];omega) only[go_sem,ab2,hk,hs,t1,t2,l1,l2,ai1 l1,ai1 l2,t32 l1,t32 l2,bS9,aZ7,av1]|refine vcJ ?_ ?_<;>intro _|refine vcA ?_ ?_;focus(repeat'(first|omega|assumption|refine vcA ?_ ?_);done)|omega|refine o7 (fun _=>?_)
   refine aB8 7 (H.length) rfl (by rw[aP6];rfl) ?_
   refine aB8 8 (H.length+1) rfl (by rw[bf3,az9];rfl) ?_
   refine aA0 aa7 mixed [2000033,2000036,1000007,1000007003011,1000007004011,1000007005011,1000007006011,1000007007011] (by kernel_rfl) ?_
   repeat' first|refine o6 ?_|simp -dsimp -implicitDefEqProofs (disch:=first|assumption|omega|simp only[ll];omega) only[go_sem,ab2,hk,hs,l1,l2,l3,l4,l5,ai1 l3,ai1 l5,t32 l1,t32 l2,t32 l3,t32 l5,t32 hk,hnf]|refine o5 (c1 _) ?_|refine⟨_,c1 _,?_⟩|refine⟨_,_,c1 _,?_⟩|refine o5 (c2 _) ?_|refine⟨_,c2 _,?_⟩|refine⟨_,_,c2 _,?_⟩|refine o5 (c3 _) ?_|refine⟨_,c3 _,?_⟩|refine⟨_,_,c3 _,?_⟩|refine o5 (c4 _) ?_|refine⟨_,c4 _,?_⟩|refine⟨_,_,c4 _,?_⟩|refine vcJ ?_ ?_<;>intro _|refine vcA ?_ ?_;focus(repeat'(first|omega|assumption|refine vcA ?_ ?_);done)|omega|refine o7 (fun _=>?_)
   exact aa3 (.bool false) (Le.refl _) (.lit _) ⟨rfl,rfl⟩
end Ed
end
section
open Go V
namespace V
theorem cj8{m:Nat}{x:AV}(h:Low m x:=by(first|(first|exact .lit _|exact .str _|exact .any|exact ae4|exact ag3|exact .mp _ _ (by omega)|exact .msl _ _ _ _ (by omega)|exact ae6 (fun k e=>by cases e)|exact ad4 _|exact ai5|exact ai4|exact al2|exact al1 _)|(refine ag8 ?_;repeat(first|exact ab6|(refine aa2 ?_ ?_;focus(first|exact .lit _|exact .str _|exact .any|exact ae4|exact ag3|exact .mp _ _ (by omega)|exact .msl _ _ _ _ (by omega)|exact ae6 (fun k e=>by cases e)|exact ad4 _|exact ai5|exact ai4|exact al2|exact al1 _))))|(refine ay0 ?_;repeat(first|exact ab6|(refine aa2 ?_ ?_;focus(first|exact .lit _|exact .str _|exact .any|exact ae4|exact ag3|exact .mp _ _ (by omega)|exact .msl _ _ _ _ (by omega)|exact ae6 (fun k e=>by cases e)|exact ad4 _|exact ai5|exact ai4|exact al2|exact al1 _)))))):Low m x:=h
theorem dz1{P:Program}{ks:List Nat}{n:Nat}{c:Code}{Q:Exit->Env->List AObj->Prop}{env:Env}{H:List AObj}{α:Type}(I:α->Prop)(E:α->Env)(Hf:α->List AObj)(m:α->Nat)
  (round: ∀x,I x->AW P n c (Ex (fun env' H=>be3 I (fun y=>E y++kept env ks) Hf m x env' H) Q) (E x++kept env ks) (Hf x)) (x:α) (hx:I x) (hE:aG1 env (E x++kept env ks)) (hH:H=Hf x):AW P n (.loop c) Q env H:=by
 intro ro N ds G a w s;subst hH;refine b47 (fun k a' w'=> ∃y G',m y=k/\I y/\Sat n ds G' (E y++kept env ks) (Hf y) a' w'/\Step G (Hf x) w G' (Hf y) w') (fun k a' w' ⟨y,G',hk,hy,s',stp⟩=>?_) (m x) a w ⟨x,G,rfl,hx,s.le hE,.refl _ _ _⟩
 refine wpIn_mono (round y hy ro N ds G' a' w' s') fun e a'' w'' ⟨G'',env'',H'',s'',stp',q⟩=>?_
 cases e with
 |normal=>
  unfold Ex be3 at q;obtain⟨z,h1,h2,h3⟩:=q;obtain⟨G3,hi3,st3,hr3⟩:=h3 G' w' G'' w'' (fun t=>a''.tmps.getD t undef) s'.inv s''.inv stp' s''.env
  exact⟨m z,hk▸h1,z,G3,rfl,h2,⟨s''.size,s''.defers,hr3,hi3⟩,stp.trans st3⟩
 |_=>exact⟨G'',env'',H'',s'',stp.trans stp',q⟩
theorem cl7{P:Program}{L:Tab}{n:Nat}{Q:Exit->Env->List AObj->Prop}{env:Env}{H:List AObj}(hL:ac6 P L)(hm:P.follows .mixedOrders=true)(mu:List Nat)(k:Nat){c:Code}(ho:okC mu n c=true)(h:bh4 P L mu n k c Q env H):AW P n c Q env H:=aQ3 hL hm k c ho h
end V
theorem bY7{m k s:Nat}{l:List UInt8}(h:k < m):Low m (.sl (.tok k) s (l.map o8)):=bd3 (fun x hx=>by
 obtain⟨b,_,rfl⟩:=xq9.1 hx;exact⟨_,rfl⟩) (fun j e=>by cases e;exact h)
def sxt(letters s:bytes)(n i:Nat):Int:=if i < n then aD1 letters (s.getD i 0) else 0
def aG0(letters s:bytes)(n:Nat):Nat->Nat
 |0=>0
 |i+1=>aG0 letters s n i*64+(sxt letters s n i).toNat
def cJ9(letters s:bytes)(n:Nat):Bool:=(List.range 4).any fun i=>decide (sxt letters s n i < 0)
def bf4(b:Nat):bytes:=[UInt8.ofNat (b/65536),UInt8.ofNat (b/256),UInt8.ofNat b]
def unB(letters:bytes):Nat->bytes->bytes->bytes×Int
 |0,_,out=>(out,0)
 |k+1,s,out=>if s=[] then(out,0) else if cJ9 letters s (min 4 s.length)=true then([],2)
   else if min 4 s.length=1\/ ¬aG0 letters s (min 4 s.length) 4%2^(8*(4 - min 4 s.length))=0 then([],2)
   else unB letters k (s.drop (min 4 s.length)) (out++(bf4 (aG0 letters s (min 4 s.length) 4)).take (min 4 s.length - 1))
def a90(letters s:bytes):bytes×Int:=unB letters s.length s []
def aC4(p:bytes×Int):AV:=.tup [.sl .sh 1 (p.1.map o8),.lit (.int .i64 p.2)]
theorem bf2{m:Nat}{p:bytes×Int}:Low m (aC4 p):=ag8 (aa2 ae4 (aa2 (.lit _) ab6))
theorem d28(letters:bytes)(c:UInt8):aD1 letters c < letters.length\/aD1 letters c < 0:=by
 unfold aD1;split
 ·left;omega
 ·right;omega
theorem dh9{letters s:bytes}{n i:Nat}(hl:letters.length=64):sxt letters s n i < 64:=by
 unfold sxt;split
 ·have:=d28 letters (s.getD i 0)
  omega
 ·omega
theorem cl4{letters s:bytes}{n:Nat}(hl:letters.length=64): ∀i,aG0 letters s n i < 64^i
 |0=>by show 0 < _;decide
 |i+1=>by
  have h1:=cl4 (s:=s) (n:=n) hl i;have h2:=dh9 (s:=s) (n:=n) (i:=i) hl;rw[aG0,Nat.pow_succ];omega
theorem dR7{b v:Nat}(hb:b < 16777216)(hv:v < 64):IntKind.i64.wrap (((BitVec.ofInt IntKind.i64.bits ((b:Int)*64)|||BitVec.ofInt IntKind.i64.bits (v:Int)).toNat:Nat):Int)=((b*64+v:Nat):Int):=by
 show IntKind.i64.wrap (((BitVec.ofInt 64 ((b:Int)*64)|||BitVec.ofInt 64 (v:Int)).toNat:Nat):Int)=_
 have h2:b*64+v=b*64|||v:=by
  have:=b39 (b:=v) (i:=6) (by omega) b
  rw[show 2^6*b=b*64 by omega] at this
  exact this
 rw[show (b:Int)*64=((b*64:Nat):Int) by omega,ce0 (w:=64) (by omega) (by omega),<-h2,IntWalk.i64_in _ (by omega)]
theorem cl9(m:Nat)(hm:m<=16){b:Nat}(hb:b < 16777216):IntKind.i64.wrap (((BitVec.ofInt IntKind.i64.bits (b:Int)&&&BitVec.ofInt IntKind.i64.bits (2^m - 1)).toNat:Nat):Int)=((b%2^m:Nat):Int):=by
 have h:=bg2 (k:=64) (m:=m) (a:=(b:Int)) (by omega) (by omega) (by omega)
 have e:((b%2^m:Nat):Int)=(b:Int)%2^m:=by simp
 rw[e];refine(congrArg IntKind.i64.wrap h).trans ?_;rw[<-e];have:b%2^m<=b:=Nat.mod_le _ _;exact IntWalk.i64_in _ (by omega)
theorem cJ3(letters s:bytes)(H:List AObj)(hL:letters.length=64)(hs:s.length<=1000000):o9 Tryz.prog 93 [.str letters,.str s] H (fun y H'=>y=aC4 (a90 letters s)/\H'=H):=by
 unfold a90;generalize hR:unB letters s.length s []=R;refine y7 [] [.tmp 4,.tmp 5] 65 Tryz.func93 rfl rfl rfl rfl (nlb rfl) (by kernel_rfl) ?_
 repeat' first|refine o6 ?_|simp -dsimp -implicitDefEqProofs (disch:=first|assumption|omega|simp only[ll];omega) only[go_sem]|refine vcJ ?_ ?_<;>intro _|refine vcA ?_ ?_;focus(repeat'(first|omega|assumption|refine vcA ?_ ?_);done)|omega|refine o7 (fun _=>?_)
 refine by7 6 1 rfl (by decide) (fun h=>absurd rfl h) ?_
 refine dz1 (ks:=[]) (fun x:Nat×bytes×bytes=>x.2.1.length<=x.1/\x.1<=1000000/\x.2.2.length+x.2.1.length<=1000000/\unB letters x.1 x.2.1 x.2.2=R) (fun x=>[(0,.str letters),(1,.str x.2.1),(6,.sl (.tok H.length) 1 (x.2.2.map o8))]) (fun x=>H++[.grow 1 x.2.2.length none]) (fun x=>x.1) ?_ (s.length,s,[]) ⟨xq0 _,hs,by simpa using hs,hR⟩ y8 rfl
 rintro⟨k,s,out⟩ ⟨hk,hk2,ho,hI⟩
 dsimp only at*;refine cl7 aa7 mixed [] 1 (by kernel_rfl) ?_
 by_cases h0:s=[]
 ·subst h0
  have hIR:R=(out,0):=by
   rw[<-hI];cases k<;>simp[unB]
  subst hIR;repeat' first|refine o6 ?_|simp -dsimp -implicitDefEqProofs (disch:=first|assumption|omega|simp only[ll];omega) only[go_sem]|refine vcJ ?_ ?_<;>intro _|refine vcA ?_ ?_;focus(repeat'(first|omega|assumption|refine vcA ?_ ?_);done)|omega|refine o7 (fun _=>?_)
  exact aa3 (aC4 (out,0)) (aH4 (LeAll.cons aC5 (LeAll.cons (Le.refl _) LeAll.nil))) bf2 ⟨rfl,rfl⟩
 ·have h0c:=eq_false h0
  have hsp:0 < s.length:=aS7.2 h0;obtain⟨k,rfl⟩: ∃j,k=j+1:=⟨k - 1,by omega⟩
  rw[unB,if_neg h0] at hI;have hmin:min (4:Int) (s.length:Int)=((min 4 s.length:Nat):Int):=by omega
  have hn1:1<=min 4 s.length:=by omega
  have hn4:min 4 s.length<=4:=by omega
  have hns:min 4 s.length<=s.length:=by omega
  repeat' first|refine o6 ?_|simp -dsimp -implicitDefEqProofs (disch:=first|assumption|omega|simp only[ll];omega) only[go_sem,h0c,hmin]|refine vcJ ?_ ?_<;>intro _|refine vcA ?_ ?_;focus(repeat'(first|omega|assumption|refine vcA ?_ ?_);done)|omega|refine o7 (fun _=>?_)
  refine cK3 ?_;refine cl7 aa7 mixed [] 7 (by kernel_rfl) ?_
  repeat' first|refine o6 ?_|simp -dsimp -implicitDefEqProofs (disch:=first|assumption|omega|simp only[ll];omega) only[go_sem,h0c,hmin]|refine vcJ ?_ ?_<;>intro _|refine vcA ?_ ?_;focus(repeat'(first|omega|assumption|refine vcA ?_ ?_);done)|omega|refine o7 (fun _=>?_)
  generalize min 4 s.length=n at*;refine aa5 aa7 mixed [] [] (fun i:Nat=>i<=4/\ ∀j,j < i->0<=sxt letters s n j) (fun i=>[(17,.lit (.int .i64 i)),(8,.lit (.int .i64 ((aG0 letters s n i:Nat):Int))),(0,.str letters),(1,.str s),(6,.sl (.tok H.length) 1 (out.map o8)),(7,.lit (.int .i64 n))]) (fun _=>H++[.grow 1 out.length none]) (fun i=>4 - i) (by kernel_rfl) ?_ 0 ⟨by omega,fun j h=>by omega⟩ y8 rfl
  rintro i ⟨hi,hpos⟩
  have hi:i<=4:=hi;by_cases h4:i < 4
  ·have hic:((i:Int) < 4)=True:=eq_true (by omega)
   have hb:=cl4 (s:=s) (n:=n) hL i;have hbn:aG0 letters s n (i+1)=aG0 letters s n i*64+(sxt letters s n i).toNat:=rfl;have hsl:=dh9 (s:=s) (n:=n) (i:=i) hL;have hbb:aG0 letters s n i < 262144:=aC9 hb (by
    have:64^i<=64^3:=cf9 (by decide) (by omega)
    exact this)
   have cI:=fun H=>aK9 letters (s.getD i 0) H
   have hx:sxt letters s n i=if i < n then aD1 letters (s.getD i 0) else 0:=rfl
   by_cases hin:i < n
   ·have hinc:((i:Int) < (n:Int))=True:=eq_true (by omega)
    have hlt:(i:Int).toNat=i:=by omega
    rw[if_pos hin] at hx;rw[<-hx] at cI;by_cases hneg:sxt letters s n i < 0
    ·have hngc:=eq_true hneg
     have hbad:cJ9 letters s n=true:=by
      unfold cJ9;rw[cf6];exact⟨i,aZ8.2 h4,decide_eq_true hneg⟩
     rw[if_pos hbad] at hI;repeat' first|refine o6 ?_|simp -dsimp -implicitDefEqProofs (disch:=first|assumption|omega|simp only[ll];omega) only[go_sem,hic,hinc,hngc]|refine o5 (cI _) ?_|refine vcJ ?_ ?_<;>intro _|refine vcA ?_ ?_;focus(repeat'(first|omega|assumption|refine vcA ?_ ?_);done)|omega|refine o7 (fun _=>?_)
     subst hI;exact aa3 (aC4 ([],2)) (aH4 (LeAll.cons am9 (LeAll.cons (Le.refl _) LeAll.nil))) bf2 ⟨rfl,rfl⟩
    ·have hngc:=eq_false hneg
     have hor:=dR7 (b:=aG0 letters s n i) (v:=(sxt letters s n i).toNat) (by omega) (by omega)
     rw[show (((sxt letters s n i).toNat:Nat):Int)=sxt letters s n i by omega] at hor
     have hpos': ∀j,j < i+1->0<=sxt letters s n j:=fun j hj=>by
      rcases am5 j i with h|h
      ·exact hpos j h
      ·obtain rfl:j=i:=by omega
       omega
     repeat' first|refine o6 ?_|simp -dsimp -implicitDefEqProofs (disch:=first|assumption|omega|simp only[ll];omega) only[go_sem,hic,hinc,hngc,hor]|refine o5 (cI _) ?_|refine vcJ ?_ ?_<;>intro _|refine vcA ?_ ?_;focus(repeat'(first|omega|assumption|refine vcA ?_ ?_);done)|omega|refine o7 (fun _=>?_)
     rw[<-hbn];refine again (i+1) ?_ ?_ rfl y8
     ·omega
     ·exact⟨by omega,hpos'⟩
   ·have hinc:((i:Int) < (n:Int))=False:=eq_false (by omega)
    rw[if_neg hin] at hx;rw[hx] at hbn;have hor:IntKind.i64.wrap (((BitVec.ofInt IntKind.i64.bits ((aG0 letters s n i:Int)*64)|||BitVec.ofInt IntKind.i64.bits 0).toNat:Nat):Int)=((aG0 letters s n i*64+0:Nat):Int):=dR7 (v:=0) (by omega) (by omega)
    rw[show aG0 letters s n i*64+0=aG0 letters s n (i+1) from hbn.symm] at hor
    repeat' first|refine o6 ?_|simp -dsimp -implicitDefEqProofs (disch:=first|assumption|omega|simp only[ll];omega) only[go_sem,hic,hinc,hor]|refine vcJ ?_ ?_<;>intro _|refine vcA ?_ ?_;focus(repeat'(first|omega|assumption|refine vcA ?_ ?_);done)|omega|refine o7 (fun _=>?_)
    refine again (i+1) ?_ ?_ rfl y8
    ·omega
    ·refine⟨by omega,fun j hj=>?_⟩
     rcases am5 j i with h|h
     ·exact hpos j h
     ·obtain rfl:j=i:=by omega
      omega
  ·obtain rfl:i=4:=by omega
   have hbad:cJ9 letters s n=false:=by
    unfold cJ9;rw[List.any_eq_false];intro j hj;have:=hpos j (aZ8.1 hj);simpa using this
   rw[hbad,if_neg (by decide)] at hI
   have hb:=cl4 (s:=s) (n:=n) hL 4;have hb:aG0 letters s n 4 < 16777216:=hb;generalize aG0 letters s n 4=b at*;have u8b: ∀x:Nat,IntKind.u8.wrap (x:Int)=((UInt8.ofNat x).toNat:Int):=fun x=>by simp[IntKind.wrap,IntKind.signed,IntKind.bits]
   have hg:[AV.lit (.int .u8 ((UInt8.ofNat (b/65536)).toNat:Int)),.lit (.int .u8 ((UInt8.ofNat (b/256)).toNat:Int)),.lit (.int .u8 ((UInt8.ofNat b).toNat:Int))]=(bf4 b).map o8:=rfl;have hon:ones [AV.lit (.int .u8 ((UInt8.ofNat (b/65536)).toNat:Int)),.lit (.int .u8 ((UInt8.ofNat (b/256)).toNat:Int)),.lit (.int .u8 ((UInt8.ofNat b).toNat:Int))]=True:=by rw[hg];exact b95
   have htk: ∀j,out.map o8++List.take j [AV.lit (.int .u8 ((UInt8.ofNat (b/65536)).toNat:Int)),.lit (.int .u8 ((UInt8.ofNat (b/256)).toNat:Int)),.lit (.int .u8 ((UInt8.ofNat b).toNat:Int))]=(out++(bf4 b).take j).map o8:=fun j=>by rw[hg,<-cf8,<-b46]
   have ht3:out.map o8++[AV.lit (.int .u8 ((UInt8.ofNat (b/65536)).toNat:Int)),.lit (.int .u8 ((UInt8.ofNat (b/256)).toNat:Int)),.lit (.int .u8 ((UInt8.ofNat b).toNat:Int))]=(out++(bf4 b).take 3).map o8:=htk 3;have hgl:(bf4 b).length=3:=rfl;have hdl:(s.drop n).length<=k:=by rw[List.length_drop];omega
   rcases(by omega:n=1\/n=2\/n=3\/n=4) with rfl|rfl|rfl|rfl
   ·rw[if_pos (.inl rfl)] at hI
    repeat' first|refine o6 ?_|simp -dsimp -implicitDefEqProofs (disch:=first|assumption|omega|simp only[ll];omega) only[go_sem]|refine vcJ ?_ ?_<;>intro _|refine vcA ?_ ?_;focus(repeat'(first|omega|assumption|refine vcA ?_ ?_);done)|omega|refine o7 (fun _=>?_)
    subst hI;exact aa3 (aC4 ([],2)) (aH4 (LeAll.cons am9 (LeAll.cons (Le.refl _) LeAll.nil))) bf2 ⟨rfl,rfl⟩
   ·have hm:IntKind.i64.wrap (((BitVec.ofInt IntKind.i64.bits (b:Int)&&&BitVec.ofInt IntKind.i64.bits 65535).toNat:Nat):Int)=((b%65536:Nat):Int):=cl9 16 (by decide) hb
    by_cases hz:b%65536=0
    ·rw[if_neg (by intro h;rcases h with h|h;omega;exact h hz)] at hI
     have hm:_=(0:Int):=hm.trans (congrArg Int.ofNat hz);repeat' first|refine o6 ?_|simp -dsimp -implicitDefEqProofs (disch:=first|assumption|omega|simp only[ll];omega) only[go_sem,hm,u8b]|refine vcJ ?_ ?_<;>intro _|refine vcA ?_ ?_;focus(repeat'(first|omega|assumption|refine vcA ?_ ?_);done)|omega|refine o7 (fun _=>?_)
     refine aB8 11 (H.length+1) rfl (by rw[az9];rfl) ?_
     refine aA0 aa7 mixed [] (by kernel_rfl) ?_
     repeat' first|refine o6 ?_|simp -dsimp -implicitDefEqProofs (disch:=first|assumption|omega|simp only[ll];omega) only[go_sem,hon,htk]|refine vcJ ?_ ?_<;>intro _|refine vcA ?_ ?_;focus(repeat'(first|omega|assumption|refine vcA ?_ ?_);done)|omega|refine o7 (fun _=>?_)
     refine am1 (H.length+1) ([.gone]) ((k,s.drop 2,out++(bf4 b).take 1)) ?_ ?_ ?_ ?_ ?_ (by repeat(first|exact af9|(refine af1 ?_ ?_;focus(first|exact bY7 (by omega)|exact cj8)))) ?_ y8
     ·dsimp only;omega
     ·exact⟨hdl,by omega,by simp only[List.length_append,List.length_take,List.length_drop,hgl];omega,hI⟩
     ·simp[hgl]
     ·simp
     ·simp
     ·exact aU7 fun o ho sh cs e=>by
       subst e;simp at ho
    ·rw[if_pos (.inr hz)] at hI
     have hzc:(((b%65536:Nat):Int)=0)=False:=eq_false (by omega)
     repeat' first|refine o6 ?_|simp -dsimp -implicitDefEqProofs (disch:=first|assumption|omega|simp only[ll];omega) only[go_sem,hm,hzc,u8b]|refine vcJ ?_ ?_<;>intro _|refine vcA ?_ ?_;focus(repeat'(first|omega|assumption|refine vcA ?_ ?_);done)|omega|refine o7 (fun _=>?_)
     subst hI;exact aa3 (aC4 ([],2)) (aH4 (LeAll.cons am9 (LeAll.cons (Le.refl _) LeAll.nil))) bf2 ⟨rfl,rfl⟩
   ·have hm:IntKind.i64.wrap (((BitVec.ofInt IntKind.i64.bits (b:Int)&&&BitVec.ofInt IntKind.i64.bits 255).toNat:Nat):Int)=((b%256:Nat):Int):=cl9 8 (by decide) hb
    by_cases hz:b%256=0
    ·rw[if_neg (by intro h;rcases h with h|h;omega;exact h hz)] at hI
     have hm:_=(0:Int):=hm.trans (congrArg Int.ofNat hz);repeat' first|refine o6 ?_|simp -dsimp -implicitDefEqProofs (disch:=first|assumption|omega|simp only[ll];omega) only[go_sem,hm,u8b]|refine vcJ ?_ ?_<;>intro _|refine vcA ?_ ?_;focus(repeat'(first|omega|assumption|refine vcA ?_ ?_);done)|omega|refine o7 (fun _=>?_)
     refine aB8 11 (H.length+1) rfl (by rw[az9];rfl) ?_
     refine aA0 aa7 mixed [] (by kernel_rfl) ?_
     repeat' first|refine o6 ?_|simp -dsimp -implicitDefEqProofs (disch:=first|assumption|omega|simp only[ll];omega) only[go_sem,hon,htk]|refine vcJ ?_ ?_<;>intro _|refine vcA ?_ ?_;focus(repeat'(first|omega|assumption|refine vcA ?_ ?_);done)|omega|refine o7 (fun _=>?_)
     refine am1 (H.length+1) ([.gone]) ((k,s.drop 3,out++(bf4 b).take 2)) ?_ ?_ ?_ ?_ ?_ (by repeat(first|exact af9|(refine af1 ?_ ?_;focus(first|exact bY7 (by omega)|exact cj8)))) ?_ y8
     ·dsimp only;omega
     ·exact⟨hdl,by omega,by simp only[List.length_append,List.length_take,List.length_drop,hgl];omega,hI⟩
     ·simp[hgl]
     ·simp
     ·simp
     ·exact aU7 fun o ho sh cs e=>by
       subst e;simp at ho
    ·rw[if_pos (.inr hz)] at hI
     have hzc:(((b%256:Nat):Int)=0)=False:=eq_false (by omega)
     repeat' first|refine o6 ?_|simp -dsimp -implicitDefEqProofs (disch:=first|assumption|omega|simp only[ll];omega) only[go_sem,hm,hzc,u8b]|refine vcJ ?_ ?_<;>intro _|refine vcA ?_ ?_;focus(repeat'(first|omega|assumption|refine vcA ?_ ?_);done)|omega|refine o7 (fun _=>?_)
     subst hI;exact aa3 (aC4 ([],2)) (aH4 (LeAll.cons am9 (LeAll.cons (Le.refl _) LeAll.nil))) bf2 ⟨rfl,rfl⟩
   ·have hm:IntKind.i64.wrap (((BitVec.ofInt IntKind.i64.bits (b:Int)&&&BitVec.ofInt IntKind.i64.bits 0).toNat:Nat):Int)=((b%1:Nat):Int):=cl9 0 (by decide) hb
    have hz:b%1=0:=by omega
    rw[if_neg (by intro h;rcases h with h|h;omega;exact h hz)] at hI
    have hm:_=(0:Int):=hm.trans (congrArg Int.ofNat hz);repeat' first|refine o6 ?_|simp -dsimp -implicitDefEqProofs (disch:=first|assumption|omega|simp only[ll];omega) only[go_sem,hm,u8b]|refine vcJ ?_ ?_<;>intro _|refine vcA ?_ ?_;focus(repeat'(first|omega|assumption|refine vcA ?_ ?_);done)|omega|refine o7 (fun _=>?_)
    refine aB8 11 (H.length+1) rfl (by rw[az9];rfl) ?_
    refine aA0 aa7 mixed [] (by kernel_rfl) ?_
    repeat' first|refine o6 ?_|simp -dsimp -implicitDefEqProofs (disch:=first|assumption|omega|simp only[ll];omega) only[go_sem,hon,ht3]|refine vcJ ?_ ?_<;>intro _|refine vcA ?_ ?_;focus(repeat'(first|omega|assumption|refine vcA ?_ ?_);done)|omega|refine o7 (fun _=>?_)
    refine am1 (H.length+1) ([.gone]) ((k,s.drop 4,out++(bf4 b).take 3)) ?_ ?_ ?_ ?_ ?_ (by repeat(first|exact af9|(refine af1 ?_ ?_;focus(first|exact bY7 (by omega)|exact cj8)))) ?_ y8
    ·dsimp only;omega
    ·exact⟨hdl,by omega,by simp only[List.length_append,List.length_take,List.length_drop,hgl];omega,hI⟩
    ·simp[hgl]
    ·simp
    ·simp
    ·exact aU7 fun o ho sh cs e=>by
      subst e;simp at ho
end
section
open Go V
def aF6(s:bytes)(c:UInt8):bytes×bytes×Bool:=if s.idxOf c < s.length then(s.take (s.idxOf c),s.drop (s.idxOf c+1),true) else(s,[],false)
def bS3(p:bytes×bytes×Bool):AV:=.tup [.str p.1,.str p.2.1,.bool p.2.2]
def bB8(s w:bytes):bytes×Bool:=if w.isPrefixOf s then(s.drop w.length,true) else(s,false)
theorem dJ2(c:UInt8):aD1 [c] c=0:=by simp[aD1]
theorem df9(s:bytes)(c:UInt8)(H:List AObj):o9 Tryz.prog 175 [.str s,.str [c]] H (fun y H'=>y=.lit (.int .i64 (aD1 s c))/\H'=H):=by
 by_cases h:s=[c]
 ·have hc:([c]=s)=True:=eq_true h.symm
  rw[h,dJ2];refine y7 [] [.tmp 4] 143 Tryz.func175 rfl rfl rfl rfl (nlb rfl) (by kernel_rfl) ?_
  repeat' first|refine o6 ?_|simp -dsimp -implicitDefEqProofs (disch:=first|assumption|omega|simp only[ll];omega) only[go_sem]|refine vcJ ?_ ?_<;>intro _|refine vcA ?_ ?_;focus(repeat'(first|omega|assumption|refine vcA ?_ ?_);done)|omega|refine o7 (fun _=>?_)
  exact y5 ⟨rfl,rfl⟩
 ·have hc:([c]=s)=False:=eq_false fun e=>h e.symm
  refine y7 [] [.tmp 4] 143 Tryz.func175 rfl rfl rfl rfl (nlb rfl) (by kernel_rfl) ?_
  repeat' first|refine o6 ?_|simp -dsimp -implicitDefEqProofs (disch:=first|assumption|omega|simp only[ll];omega) only[go_sem,hc]|refine o5 (bV7 _ _ _) ?_|refine vcJ ?_ ?_<;>intro _|refine vcA ?_ ?_;focus(repeat'(first|omega|assumption|refine vcA ?_ ?_);done)|omega|refine o7 (fun _=>?_)
  exact y5 ⟨rfl,rfl⟩
theorem et9(s:bytes)(c:UInt8)(H:List AObj)(hs:s.length<=100000000):o9 Tryz.prog 126 [.str s,.str [c]] H (fun y H'=>y=bS3 (aF6 s c)/\H'=H):=by
 have cI:=fun H=>df9 s c H
 unfold aF6;unfold aD1 at cI;by_cases h:s.idxOf c < s.length
 ·rw[if_pos h] at cI⊢
  have e:((s.idxOf c:Int)+1).toNat=s.idxOf c+1:=by omega
  refine y7 [1000003] [.tmp 4,.tmp 5,.tmp 6] 23 Tryz.func126 rfl rfl rfl rfl (nlb rfl) (by kernel_rfl) ?_
  repeat' first|refine o6 ?_|simp -dsimp -implicitDefEqProofs (disch:=first|assumption|omega|simp only[ll];omega) only[go_sem,e]|refine o5 (cI _) ?_|refine vcJ ?_ ?_<;>intro _|refine vcA ?_ ?_;focus(repeat'(first|omega|assumption|refine vcA ?_ ?_);done)|omega|refine o7 (fun _=>?_)
  exact y5 ⟨rfl,rfl⟩
 ·rw[if_neg h] at cI⊢
  refine y7 [1000003] [.tmp 4,.tmp 5,.tmp 6] 23 Tryz.func126 rfl rfl rfl rfl (nlb rfl) (by kernel_rfl) ?_
  repeat' first|refine o6 ?_|simp -dsimp -implicitDefEqProofs (disch:=first|assumption|omega|simp only[ll];omega) only[go_sem]|refine o5 (cI _) ?_|refine vcJ ?_ ?_<;>intro _|refine vcA ?_ ?_;focus(repeat'(first|omega|assumption|refine vcA ?_ ?_);done)|omega|refine o7 (fun _=>?_)
  exact y5 ⟨rfl,rfl⟩
theorem dg0(s:bytes)(c:UInt8)(H:List AObj)(hs:s.length<=100000000):o9 Tryz.prog 68 [.str s,.str [c]] H (fun y H'=>y=bS3 (aF6 s c)/\H'=H):=by
 have cI:=fun H=>et9 s c H hs
 unfold bS3 at cI;refine y7 [] [.tmp 4,.tmp 5,.tmp 6] 13 Tryz.func68 rfl rfl rfl rfl (nlb rfl) (by kernel_rfl) ?_
 repeat' first|refine o6 ?_|simp -dsimp -implicitDefEqProofs (disch:=first|assumption|omega|simp only[ll];omega) only[go_sem]|refine o5 (cI _) ?_|refine vcJ ?_ ?_<;>intro _|refine vcA ?_ ?_;focus(repeat'(first|omega|assumption|refine vcA ?_ ?_);done)|omega|refine o7 (fun _=>?_)
 exact y5 ⟨rfl,rfl⟩
theorem cL6(l w:List UInt8)(H:List AObj)(hw:w.length<=1000):o9 Tryz.prog 172 [.str l,.str w] H (fun x H'=>x=.bool (w.isPrefixOf l)/\H'=H):=by
 refine y7 [] [.tmp 4] 18 Tryz.func172 rfl rfl rfl rfl (nlb rfl) (by kernel_rfl) ?_
 repeat' first|refine o6 ?_|simp -dsimp -implicitDefEqProofs (disch:=first|assumption|omega|simp only[ll];omega) only[go_sem]|refine vcJ ?_ ?_<;>intro _|refine vcA ?_ ?_;focus(repeat'(first|omega|assumption|refine vcA ?_ ?_);done)|omega|refine o7 (fun _=>?_)
 ·rename_i h
  refine y5 ⟨ad5 ?_,rfl⟩;rw[aX1,decide_eq_decide];constructor
  ·intro h2;exact⟨by omega,h2⟩
  ·intro h2;exact h2.2
 ·rename_i h
  refine y5 ⟨ad5 ?_,rfl⟩;rw[aX1,decide_eq_false];omega
theorem cR9(s w:bytes)(H:List AObj)(hw:w.length<=100):o9 Tryz.prog 176 [.str s,.str w] H (fun y H'=>y=.tup [.str (bB8 s w).1,.bool (bB8 s w).2]/\H'=H):=by
 have cI:=fun H=>cL6 s w H (by omega)
 unfold bB8;cases h:w.isPrefixOf s with
 |true=>
  rw[h] at cI;have hl:w.length<=s.length:=by
   rw[aX1,decide_eq_true_eq] at h;exact h.1
  refine y7 [] [.tmp 4,.tmp 5] 15 Tryz.func176 rfl rfl rfl rfl (nlb rfl) (by kernel_rfl) ?_
  repeat' first|refine o6 ?_|simp -dsimp -implicitDefEqProofs (disch:=first|assumption|omega|simp only[ll];omega) only[go_sem]|refine o5 (cI _) ?_|refine vcJ ?_ ?_<;>intro _|refine vcA ?_ ?_;focus(repeat'(first|omega|assumption|refine vcA ?_ ?_);done)|omega|refine o7 (fun _=>?_)
  exact y5 ⟨rfl,rfl⟩
 |false=>
  rw[h] at cI;refine y7 [] [.tmp 4,.tmp 5] 15 Tryz.func176 rfl rfl rfl rfl (nlb rfl) (by kernel_rfl) ?_
  repeat' first|refine o6 ?_|simp -dsimp -implicitDefEqProofs (disch:=first|assumption|omega|simp only[ll];omega) only[go_sem]|refine o5 (cI _) ?_|refine vcJ ?_ ?_<;>intro _|refine vcA ?_ ?_;focus(repeat'(first|omega|assumption|refine vcA ?_ ?_);done)|omega|refine o7 (fun _=>?_)
  exact y5 ⟨rfl,rfl⟩
theorem bV8(s w:bytes)(H:List AObj)(hw:w.length<=100):o9 Tryz.prog 129 [.str s,.str w] H (fun y H'=>y=.tup [.str (bB8 s w).1,.bool (bB8 s w).2]/\H'=H):=by
 refine y7 [] [.tmp 4,.tmp 5] 11 Tryz.func129 rfl rfl rfl rfl (nlb rfl) (by kernel_rfl) ?_
 repeat' first|refine o6 ?_|simp -dsimp -implicitDefEqProofs (disch:=first|assumption|omega|simp only[ll];omega) only[go_sem]|refine o5 (cR9 _ _ _ hw) ?_|refine vcJ ?_ ?_<;>intro _|refine vcA ?_ ?_;focus(repeat'(first|omega|assumption|refine vcA ?_ ?_);done)|omega|refine o7 (fun _=>?_)
 exact y5 ⟨rfl,rfl⟩
def bP3:bytes:=[65,66,67,68,69,70,71,72,73,74,75,76,77,78,79,80,81,82,83,84,85,86,87,88,89,90,97,98,99,100,101,102,103,104,105,106,107,108,109,110,111,112,113,114,115,116,117,118,119,120,121,122,48,49,50,51,52,53,54,55,56,57,45,95]
theorem dQ8(s:bytes)(H:List AObj)(hs:s.length<=1000000):o9 Tryz.prog 55 [.str s] H (fun y H'=>y=aC4 (a90 ad6 s)/\H'=H):=by
 have c:=fun H=>cJ3 ad6 s H rfl hs
 generalize a90 ad6 s=R at*;unfold aC4 at*;unfold ad6 at c;refine y7 [] [.tmp 2,.tmp 3] 8 Tryz.func55 rfl rfl rfl rfl (nlb rfl) (by kernel_rfl) ?_
 repeat' first|refine o6 ?_|simp -dsimp -implicitDefEqProofs (disch:=first|assumption|omega|simp only[ll];omega) only[go_sem]|refine o5 (c _) ?_|refine vcJ ?_ ?_<;>intro _|refine vcA ?_ ?_;focus(repeat'(first|omega|assumption|refine vcA ?_ ?_);done)|omega|refine o7 (fun _=>?_)
 exact y5 ⟨rfl,rfl⟩
theorem dP6(s:bytes)(H:List AObj)(hs:s.length<=1000000):o9 Tryz.prog 131 [.str s] H (fun y H'=>y=aC4 (a90 bP3 s)/\H'=H):=by
 have c:=fun H=>cJ3 bP3 s H rfl hs
 generalize a90 bP3 s=R at*;unfold aC4 at*;unfold bP3 at c;refine y7 [] [.tmp 2,.tmp 3] 8 Tryz.func131 rfl rfl rfl rfl (nlb rfl) (by kernel_rfl) ?_
 repeat' first|refine o6 ?_|simp -dsimp -implicitDefEqProofs (disch:=first|assumption|omega|simp only[ll];omega) only[go_sem]|refine o5 (c _) ?_|refine vcJ ?_ ?_<;>intro _|refine vcA ?_ ?_;focus(repeat'(first|omega|assumption|refine vcA ?_ ?_);done)|omega|refine o7 (fun _=>?_)
 exact y5 ⟨rfl,rfl⟩
theorem eo0(H:List AObj):o9 Tryz.prog 130 [.lit (.int .i64 32)] H (fun y H'=>y=.lit (.int .i64 43)/\H'=H):=by
 refine y7 [] [.tmp 2] 13 Tryz.func130 rfl rfl rfl rfl (nlb rfl) (by kernel_rfl) ?_
 repeat' first|refine o6 ?_|simp -dsimp -implicitDefEqProofs (disch:=first|assumption|omega|simp only[ll];omega) only[go_sem]|refine vcJ ?_ ?_<;>intro _|refine vcA ?_ ?_;focus(repeat'(first|omega|assumption|refine vcA ?_ ?_);done)|omega|refine o7 (fun _=>?_)
 exact y5 ⟨rfl,rfl⟩
end
section
open Go V
def rhoC:Go.Shelf.Ren where
 f n:=if n=143 then 127 else if n=144 then 70 else if n=217 then 184 else if n=219 then 175 else if n=224 then 213 else if n=225 then 212 else if n=266 then 218 else if n=267 then 214 else 234
 t n:=if n=46 then 134 else if n=51 then 218 else if n=146 then 271 else n
 g _:=9
theorem laysC:Lays.n144 Tryz.prog rhoC where
 mixed:=mixed
 f143:=by kernel_rfl
 f144:=by kernel_rfl
 f217:=by kernel_rfl
 f219:=by kernel_rfl
 f224:=by kernel_rfl
 f225:=by kernel_rfl
 f266:=by kernel_rfl
 f267:=by kernel_rfl
 f314:=by kernel_rfl
 t3:=by kernel_rfl
 a3:=fun _=>rfl
 z3:=fun _=>rfl
 v3:=fun _=>rfl
 t4:=by kernel_rfl
 a4:=fun _=>rfl
 z4:=fun _=>rfl
 v4:=fun _=>rfl
 t5:=by kernel_rfl
 a5:=fun _=>rfl
 z5:=fun _=>rfl
 v5:=fun _=>rfl
 t9:=by kernel_rfl
 a9:=fun _=>rfl
 z9:=fun _=>rfl
 v9:=fun _=>rfl
 t46:=by kernel_rfl
 a46:=fun _=>rfl
 z46:=fun _=>rfl
 v46:=fun _=>rfl
 t51:=by kernel_rfl
 a51:=fun _=>rfl
 z51:=fun _=>rfl
 v51:=fun _=>rfl
 t146:=by kernel_rfl
 a146:=fun _=>rfl
 z146:=fun _=>rfl
 v146:=fun _=>rfl
 g1:=by kernel_rfl
theorem bG4(s u:bytes)(H:List AObj)(hs:s.length<=1000000):o9 Tryz.prog 70 [.str s,.str u] H (fun y H'=>y=.bool (Lib.contains s u)/\H'=H):=by
 refine cm0 Tryz.func70 rfl rfl fun G w vs hi ha=>?_
 obtain⟨m,hm⟩:=(hi.tabs.1.2.2 9 rfl).2;have e:vs= #[.string ⟨s.toArray⟩,.string ⟨u.toArray⟩]:=by
  obtain⟨vl⟩:=vs;match vl,ha with
  |[v1,v2],h=>
   have h1:=ap5 (h.2 0 _ v1 rfl rfl);have h2:=ap5 (h.2 1 _ v2 rfl rfl);rw[h1,h2]
  |[],h=>exact absurd h.1 (by simp)
  |[_],h=>exact absurd h.1 (by simp)
  |_::_::_::_,h=>exact absurd h.1 (by simp)
 subst e;refine(Any.strings_Contains laysC ⟨s.toArray⟩ ⟨u.toArray⟩ m w (by simp only[ByteArray.size,aM2];omega) hm).mono ?_
 rintro e w' ⟨rfl,rfl⟩
 exact⟨_,.bool (Lib.contains s u),rfl,.refl _,fun _ _ _=>.lit _,rfl,rfl⟩
end
section
open Go V
namespace Id
def aO9(k:UInt8):bytes×Nat:=if k.toNat=64 then([97,98,99,100,101,102,103,104,105,106,107,108,109,110,111,112,113,114,115,116,117,118,119,120,121,122,48,49,50,51,52,53,54,55,56,57,46,95,61,47,43,45],200) else if k.toNat=33 then([97,98,99,100,101,102,103,104,105,106,107,108,109,110,111,112,113,114,115,116,117,118,119,120,121,122,65,66,67,68,69,70,71,72,73,74,75,76,77,78,79,80,81,82,83,84,85,86,87,88,89,90,48,49,50,51,52,53,54,55,56,57],64) else if k.toNat=58 then([48,49,50,51,52,53,54,55,56,57],5) else([97,98,99,100,101,102,103,104,105,106,107,108,109,110,111,112,113,114,115,116,117,118,119,120,121,122,65,66,67,68,69,70,71,72,73,74,75,76,77,78,79,80,81,82,83,84,85,86,87,88,89,90,48,49,50,51,52,53,54,55,56,57,46,45],230)
def bo2(g:bytes×Nat):AV:=.agg [.str g.1,.lit (.int .i64 g.2)]
def bj1(g:bytes×Nat)(s:bytes):Bool:=decide (s≠[])&&(decide (s.length<=g.2)&&s.all g.1.contains)
def cH1(g:bytes×Nat):Bool:=decide (1 < g.1.length)&&decide (g.1.length<=1000)&&g.1.all fun c=>decide (c.toNat < 128)
theorem ci9(k:UInt8):cH1 (aO9 k)=true:=by
 unfold aO9;split
 ·decide
 ·split
  ·decide
  ·split<;>decide
def cw3(s:bytes):Bool:=bj1 (aO9 0) s&&(decide (aF9 ([46,45]:bytes).contains (aC0 ([46,45]:bytes).contains s)=s)&&!Lib.contains s [46,46])
def aU4(s:bytes):Bool:=cw3 (aF6 s 58).1&&(!(aF6 s 58).2.2||bj1 (aO9 58) (aF6 s 58).2.1)
def av7(k:UInt8)(s:bytes):Bool:=decide (s.length<=255)&&(decide (s.head?=some k)&&((aF6 (s.drop 1) 58).2.2&&(bj1 (aO9 k) (aF6 (s.drop 1) 58).1&&aU4 (aF6 (s.drop 1) 58).2.1)))
def by2(s:bytes):Bool:=decide (s.head?=some 36)&&(decide (s.length=44)&&decide ((a90 bP3 (s.drop 1)).2=0))
def splitB(s:bytes):bytes×bytes×Int:=if av7 64 s||av7 33 s then((aF6 (s.drop 1) 58).1,(aF6 (s.drop 1) 58).2.1,0) else([],[],2)
theorem ed4(g s:bytes)(H:List AObj)(hs:s.length<=1000000):o9 Tryz.prog 174 [.str s,.str g] H (fun y H'=>y=.bool (s.all g.contains)/\H'=H):=by
 generalize hR:s.all g.contains=R;refine y7 [] [.tmp 4] 18 Tryz.func174 rfl rfl rfl rfl (nlb rfl) (by kernel_rfl) ?_
 repeat' first|refine o6 ?_|simp -dsimp -implicitDefEqProofs (disch:=first|assumption|omega|simp only[ll];omega) only[go_sem]|refine vcJ ?_ ?_<;>intro _|refine vcA ?_ ?_;focus(repeat'(first|omega|assumption|refine vcA ?_ ?_);done)|omega|refine o7 (fun _=>?_)
 refine aa5 aa7 mixed [] [0,1,7] (fun i:Nat=>i<=s.length/\(s.drop i).all g.contains=R) (fun i=>[(8,.lit (.int .i64 i))]) (fun _=>H) (fun i=>s.length - i) (by kernel_rfl) ?_ 0 ⟨by omega,hR⟩ y8 rfl
 rintro i ⟨hi,hI⟩
 by_cases h:i < s.length
 ·have hc:((i:Int) < (s.length:Int))=True:=eq_true (by omega)
  rw[bs7 h,List.all_cons] at hI;have hg:s.getD i 0=s[i]:=by simp[List.getD,h]
  rw[<-hg] at hI;have cI:=fun H=>aK9 g (s.getD i 0) H
  unfold aD1 at cI;by_cases h1:g.idxOf (s.getD i 0) < g.length
  ·rw[if_pos h1] at cI
   have hk:g.contains (s.getD i 0)=true:=by
    rw[b38];exact ct7.1 h1
   rw[hk,Bool.true_and] at hI;repeat' first|refine o6 ?_|simp -dsimp -implicitDefEqProofs (disch:=first|assumption|omega|simp only[ll];omega) only[go_sem,hc]|refine o5 (cI _) ?_|refine vcJ ?_ ?_<;>intro _|refine vcA ?_ ?_;focus(repeat'(first|omega|assumption|refine vcA ?_ ?_);done)|omega|refine o7 (fun _=>?_)
   refine again (i+1) ?_ ?_ rfl y8
   ·omega
   ·exact⟨by omega,hI⟩
  ·rw[if_neg h1] at cI
   have hk:g.contains (s.getD i 0)=false:=by
    rw[<-Bool.not_eq_true,b38];exact fun m=>h1 (ct7.2 m)
   rw[hk,aC6] at hI;subst hI;repeat' first|refine o6 ?_|simp -dsimp -implicitDefEqProofs (disch:=first|assumption|omega|simp only[ll];omega) only[go_sem,hc]|refine o5 (cI _) ?_|refine vcJ ?_ ?_<;>intro _|refine vcA ?_ ?_;focus(repeat'(first|omega|assumption|refine vcA ?_ ?_);done)|omega|refine o7 (fun _=>?_)
   exact y5 ⟨rfl,rfl⟩
 ·have hc:((i:Int) < (s.length:Int))=False:=eq_false (by omega)
  rw[bl6 (by omega)] at hI
  subst hI;repeat' first|refine o6 ?_|simp -dsimp -implicitDefEqProofs (disch:=first|assumption|omega|simp only[ll];omega) only[go_sem,hc]|refine vcJ ?_ ?_<;>intro _|refine vcA ?_ ?_;focus(repeat'(first|omega|assumption|refine vcA ?_ ?_);done)|omega|refine o7 (fun _=>?_)
  exact y5 ⟨rfl,rfl⟩
theorem cI3(g:bytes×Nat)(s:bytes)(H:List AObj)(hg:cH1 g=true)(hs:s.length<=10000):o9 Tryz.prog 125 [bo2 g,.str s] H (fun y H'=>y=.bool (bj1 g s)/\H'=H):=by
 obtain⟨b,n⟩:=g;unfold cH1 at hg;simp only[xq3,decide_eq_true_eq,xq6] at hg;obtain⟨⟨h1,h2⟩,h3⟩:=hg;have cT:=fun H=>dx5 s b H (by omega) h1 h2 (fun i hi=>by
  have:b.getD i 0=b[i]:=by simp[List.getD,hi]
  rw[this];exact h3 _ (aM4 hi))
 have cO:=fun H=>ed4 b s H (by omega)
 unfold bo2 bj1;dsimp only;have ht:aF9 b.contains (aC0 b.contains s)=[]↔s.all b.contains=true:=dh2;generalize aF9 b.contains (aC0 b.contains s)=T at*;generalize s.all b.contains=A at*;by_cases h0:s=[]
 ·subst h0
  refine y7 [] [.tmp 4] 27 Tryz.func125 rfl rfl rfl rfl (nlb rfl) (by kernel_rfl) ?_
  repeat' first|refine o6 ?_|simp -dsimp -implicitDefEqProofs (disch:=first|assumption|omega|simp only[ll];omega) only[go_sem]|refine vcJ ?_ ?_<;>intro _|refine vcA ?_ ?_;focus(repeat'(first|omega|assumption|refine vcA ?_ ?_);done)|omega|refine o7 (fun _=>?_)
  exact y5 ⟨rfl,rfl⟩
 ·have h0c:=eq_false h0
  rw[decide_eq_true h0,Bool.true_and];by_cases hl:s.length<=n
  ·rw[decide_eq_true hl,Bool.true_and]
   have hlc:((s.length:Int)<=(n:Int))=True:=eq_true (by omega)
   cases A with
   |true=>
    have hT:=eq_true (ht.2 rfl);refine y7 [] [.tmp 4] 27 Tryz.func125 rfl rfl rfl rfl (nlb rfl) (by kernel_rfl) ?_
    repeat' first|refine o6 ?_|simp -dsimp -implicitDefEqProofs (disch:=first|assumption|omega|simp only[ll];omega) only[go_sem,h0c,hlc,hT]|refine o5 (cT _) ?_|refine o5 (cO _) ?_|refine vcJ ?_ ?_<;>intro _|refine vcA ?_ ?_;focus(repeat'(first|omega|assumption|refine vcA ?_ ?_);done)|omega|refine o7 (fun _=>?_)
    exact y5 ⟨rfl,rfl⟩
   |false=>
    have hT:(T=[])=False:=eq_false fun e=>by cases ht.1 e
    refine y7 [] [.tmp 4] 27 Tryz.func125 rfl rfl rfl rfl (nlb rfl) (by kernel_rfl) ?_
    repeat' first|refine o6 ?_|simp -dsimp -implicitDefEqProofs (disch:=first|assumption|omega|simp only[ll];omega) only[go_sem,h0c,hlc,hT]|refine o5 (cT _) ?_|refine o5 (cO _) ?_|refine vcJ ?_ ?_<;>intro _|refine vcA ?_ ?_;focus(repeat'(first|omega|assumption|refine vcA ?_ ?_);done)|omega|refine o7 (fun _=>?_)
    exact y5 ⟨rfl,rfl⟩
  ·rw[decide_eq_false hl,aC6]
   have hlc:((s.length:Int)<=(n:Int))=False:=eq_false (by omega)
   refine y7 [] [.tmp 4] 27 Tryz.func125 rfl rfl rfl rfl (nlb rfl) (by kernel_rfl) ?_
   repeat' first|refine o6 ?_|simp -dsimp -implicitDefEqProofs (disch:=first|assumption|omega|simp only[ll];omega) only[go_sem,h0c,hlc]|refine vcJ ?_ ?_<;>intro _|refine vcA ?_ ?_;focus(repeat'(first|omega|assumption|refine vcA ?_ ?_);done)|omega|refine o7 (fun _=>?_)
   exact y5 ⟨rfl,rfl⟩
theorem cB6(k:UInt8)(H:List AObj):o9 Tryz.prog 124 [.lit (.int .u8 k.toNat)] H (fun y H'=>y=bo2 (aO9 k)/\H'=H):=by
 unfold aO9 bo2;refine y7 [] [.cell 2 149] 14 Tryz.func124 rfl rfl rfl rfl (nlb rfl) (by kernel_rfl) ?_
 repeat' first|refine o6 ?_|simp -dsimp -implicitDefEqProofs (disch:=first|assumption|omega|simp only[ll];omega) only[go_sem]|refine vcJ ?_ ?_<;>intro _|refine vcA ?_ ?_;focus(repeat'(first|omega|assumption|refine vcA ?_ ?_);done)|omega|refine o7 (fun _=>?_)
 ·refine aa3 _ (Le.refl _) (ay0 (aa2 (.str _) (aa2 (.lit _) ab6))) ⟨?_,rfl⟩
  rw[if_pos (by omega)]
  rfl
 ·refine aa3 _ (Le.refl _) (ay0 (aa2 (.str _) (aa2 (.lit _) ab6))) ⟨?_,rfl⟩
  rw[if_neg (by omega),if_pos (by omega)]
  rfl
 ·refine aa3 _ (Le.refl _) (ay0 (aa2 (.str _) (aa2 (.lit _) ab6))) ⟨?_,rfl⟩
  rw[if_neg (by omega),if_neg (by omega),if_pos (by omega)]
  rfl
 ·refine aa3 _ (Le.refl _) (ay0 (aa2 (.str _) (aa2 (.lit _) ab6))) ⟨?_,rfl⟩
  rw[if_neg (by omega),if_neg (by omega),if_neg (by omega)]
  rfl
theorem ei1(s:bytes)(H:List AObj)(hs:s.length<=10000):o9 Tryz.prog 139 [.str s] H (fun y H'=>y=.bool (cw3 s)/\H'=H):=by
 have c1:=fun H=>cB6 0 H
 have c2:=fun H=>cI3 (aO9 0) s H (ci9 0) hs
 have c3:=fun H=>dx5 s ([46,45]:bytes) H (by omega) (by decide) (by decide) (by decide)
 have c4:=fun H=>bG4 s [46,46] H (by omega)
 unfold cw3;unfold bo2 at c1 c2;simp only[UInt8.reduceToNat] at c1;generalize aO9 0=g at*;generalize bj1 g s=F at*;generalize aF9 ([46,45]:bytes).contains (aC0 ([46,45]:bytes).contains s)=T at*;generalize Lib.contains s [46,46]=C at*;cases F with
 |false=>
  refine y7 [] [.tmp 2] 17 Tryz.func139 rfl rfl rfl rfl (nlb rfl) (by kernel_rfl) ?_
  repeat' first|refine o6 ?_|simp -dsimp -implicitDefEqProofs (disch:=first|assumption|omega|simp only[ll];omega) only[go_sem]|refine o5 (c1 _) ?_|refine o5 (c2 _) ?_|refine vcJ ?_ ?_<;>intro _|refine vcA ?_ ?_;focus(repeat'(first|omega|assumption|refine vcA ?_ ?_);done)|omega|refine o7 (fun _=>?_)
  exact y5 ⟨rfl,rfl⟩
 |true=>
  by_cases h:T=s
  ·have hc:=eq_true h
   rw[decide_eq_true h];refine y7 [] [.tmp 2] 17 Tryz.func139 rfl rfl rfl rfl (nlb rfl) (by kernel_rfl) ?_
   repeat' first|refine o6 ?_|simp -dsimp -implicitDefEqProofs (disch:=first|assumption|omega|simp only[ll];omega) only[go_sem,hc]|refine o5 (c1 _) ?_|refine o5 (c2 _) ?_|refine o5 (c3 _) ?_|refine o5 (c4 _) ?_|refine vcJ ?_ ?_<;>intro _|refine vcA ?_ ?_;focus(repeat'(first|omega|assumption|refine vcA ?_ ?_);done)|omega|refine o7 (fun _=>?_)
   exact y5 ⟨by simp,rfl⟩
  ·have hc:=eq_false h
   rw[decide_eq_false h];refine y7 [] [.tmp 2] 17 Tryz.func139 rfl rfl rfl rfl (nlb rfl) (by kernel_rfl) ?_
   repeat' first|refine o6 ?_|simp -dsimp -implicitDefEqProofs (disch:=first|assumption|omega|simp only[ll];omega) only[go_sem,hc]|refine o5 (c1 _) ?_|refine o5 (c2 _) ?_|refine o5 (c3 _) ?_|refine vcJ ?_ ?_<;>intro _|refine vcA ?_ ?_;focus(repeat'(first|omega|assumption|refine vcA ?_ ?_);done)|omega|refine o7 (fun _=>?_)
   exact y5 ⟨rfl,rfl⟩
theorem cX5{s:bytes}{c:UInt8}:(aF6 s c).1.length<=s.length/\(aF6 s c).2.1.length<=s.length:=by
 unfold aF6;split
 ·simp only[List.length_take,List.length_drop]
  omega
 ·simp
theorem bF4(s:bytes)(H:List AObj)(hs:s.length<=10000):o9 Tryz.prog 81 [.str s] H (fun y H'=>y=.bool (aU4 s)/\H'=H):=by
 have hl:=cX5 (s:=s) (c:=58);have c0:=fun H=>dg0 s 58 H (by omega)
 have c1:=fun H=>cB6 58 H
 have c2:=fun H=>cI3 (aO9 58) (aF6 s 58).2.1 H (ci9 58) (by omega)
 have c3:=fun H=>ei1 (aF6 s 58).1 H (by omega)
 unfold aU4;unfold bo2 at c1 c2;unfold bS3 at c0;simp only[UInt8.reduceToNat] at c1;generalize aO9 58=g at*;generalize aF6 s 58=p at*;obtain⟨h,port,b⟩:=p;dsimp only at*;generalize bj1 g port=F at*;generalize cw3 h=G at*;cases G with
 |false=>
  refine y7 [] [.tmp 2] 23 Tryz.func81 rfl rfl rfl rfl (nlb rfl) (by kernel_rfl) ?_
  repeat' first|refine o6 ?_|simp -dsimp -implicitDefEqProofs (disch:=first|assumption|omega|simp only[ll];omega) only[go_sem]|refine o5 (c0 _) ?_|refine o5 (c3 _) ?_|refine vcJ ?_ ?_<;>intro _|refine vcA ?_ ?_;focus(repeat'(first|omega|assumption|refine vcA ?_ ?_);done)|omega|refine o7 (fun _=>?_)
  exact y5 ⟨rfl,rfl⟩
 |true=>
  cases b with
  |false=>
   refine y7 [] [.tmp 2] 23 Tryz.func81 rfl rfl rfl rfl (nlb rfl) (by kernel_rfl) ?_
   repeat' first|refine o6 ?_|simp -dsimp -implicitDefEqProofs (disch:=first|assumption|omega|simp only[ll];omega) only[go_sem]|refine o5 (c0 _) ?_|refine o5 (c3 _) ?_|refine vcJ ?_ ?_<;>intro _|refine vcA ?_ ?_;focus(repeat'(first|omega|assumption|refine vcA ?_ ?_);done)|omega|refine o7 (fun _=>?_)
   exact y5 ⟨rfl,rfl⟩
  |true=>
   refine y7 [] [.tmp 2] 23 Tryz.func81 rfl rfl rfl rfl (nlb rfl) (by kernel_rfl) ?_
   repeat' first|refine o6 ?_|simp -dsimp -implicitDefEqProofs (disch:=first|assumption|omega|simp only[ll];omega) only[go_sem]|refine o5 (c0 _) ?_|refine o5 (c1 _) ?_|refine o5 (c2 _) ?_|refine o5 (c3 _) ?_|refine vcJ ?_ ?_<;>intro _|refine vcA ?_ ?_;focus(repeat'(first|omega|assumption|refine vcA ?_ ?_);done)|omega|refine o7 (fun _=>?_)
   exact y5 ⟨by simp,rfl⟩
end Id
end
section
open Go V
namespace Id
theorem cU2{s:bytes}{k:UInt8}:([k]:bytes).isPrefixOf s=decide (s.head?=some k):=by
 cases s with
 |nil=>rfl
 |cons a r=>
  simp only[List.isPrefixOf,List.head?_cons,Bool.and_true,Option.some.injEq];rw[cf7,decide_eq_true_eq,beq_iff_eq];exact eq_comm
theorem bQ6(k:UInt8)(hk:k=64\/k=33)(s:bytes)(H:List AObj)(hs:s.length<=10000):o9 Tryz.prog 67 [.str s,.lit (.int .u8 k.toNat)] H (fun y H'=>y=.bool (av7 k s)/\H'=H):=by
 have hl:=cX5 (s:=s.drop 1) (c:=58);rw[List.length_drop] at hl;have c0:=fun H=>cR6 s [k] H (by omega)
 rw[cU2] at c0;have c1:=fun H=>dg0 (s.drop 1) 58 H (by rw[List.length_drop];omega)
 have c2:=fun H=>cB6 k H
 have c3:=fun H=>cI3 (aO9 k) (aF6 (s.drop 1) 58).1 H (ci9 k) (by omega)
 have c4:=fun H=>bF4 (aF6 (s.drop 1) 58).2.1 H (by omega)
 unfold av7;unfold bo2 at c2 c3;unfold bS3 at c1;generalize aO9 k=g at*;generalize aF6 (s.drop 1) 58=p at*;obtain⟨h,port,b⟩:=p;dsimp only at*;generalize bj1 g h=F at*;generalize aU4 port=G at*;by_cases hn:s.length<=255
 ·rw[decide_eq_true hn,Bool.true_and]
  by_cases hp:s.head?=some k
  ·rw[decide_eq_true hp] at c0⊢
   have h1:1<=s.length:=by
    cases s with
    |nil=>cases hp
    |cons a r=>simp
   have hnc:((255:Int) < (s.length:Int))=False:=eq_false (by omega)
   rw[Bool.true_and];rcases hk with rfl|rfl<;>simp only[UInt8.reduceToNat] at* <;>cases b<;>cases F
   ·refine y7 [] [.tmp 4] 37 Tryz.func67 rfl rfl rfl rfl (nlb rfl) (by kernel_rfl) ?_
    repeat' first|refine o6 ?_|simp -dsimp -implicitDefEqProofs (disch:=first|assumption|omega|simp only[ll];omega) only[go_sem,hnc]|refine o5 (c0 _) ?_|refine o5 (c1 _) ?_|refine o5 (c2 _) ?_|refine o5 (c3 _) ?_|refine o5 (c4 _) ?_|refine vcJ ?_ ?_<;>intro _|refine vcA ?_ ?_;focus(repeat'(first|omega|assumption|refine vcA ?_ ?_);done)|omega|refine o7 (fun _=>?_)
    exact y5 ⟨rfl,rfl⟩
   ·refine y7 [] [.tmp 4] 37 Tryz.func67 rfl rfl rfl rfl (nlb rfl) (by kernel_rfl) ?_
    repeat' first|refine o6 ?_|simp -dsimp -implicitDefEqProofs (disch:=first|assumption|omega|simp only[ll];omega) only[go_sem,hnc]|refine o5 (c0 _) ?_|refine o5 (c1 _) ?_|refine o5 (c2 _) ?_|refine o5 (c3 _) ?_|refine o5 (c4 _) ?_|refine vcJ ?_ ?_<;>intro _|refine vcA ?_ ?_;focus(repeat'(first|omega|assumption|refine vcA ?_ ?_);done)|omega|refine o7 (fun _=>?_)
    exact y5 ⟨rfl,rfl⟩
   ·refine y7 [] [.tmp 4] 37 Tryz.func67 rfl rfl rfl rfl (nlb rfl) (by kernel_rfl) ?_
    repeat' first|refine o6 ?_|simp -dsimp -implicitDefEqProofs (disch:=first|assumption|omega|simp only[ll];omega) only[go_sem,hnc]|refine o5 (c0 _) ?_|refine o5 (c1 _) ?_|refine o5 (c2 _) ?_|refine o5 (c3 _) ?_|refine o5 (c4 _) ?_|refine vcJ ?_ ?_<;>intro _|refine vcA ?_ ?_;focus(repeat'(first|omega|assumption|refine vcA ?_ ?_);done)|omega|refine o7 (fun _=>?_)
    exact y5 ⟨rfl,rfl⟩
   ·refine y7 [] [.tmp 4] 37 Tryz.func67 rfl rfl rfl rfl (nlb rfl) (by kernel_rfl) ?_
    repeat' first|refine o6 ?_|simp -dsimp -implicitDefEqProofs (disch:=first|assumption|omega|simp only[ll];omega) only[go_sem,hnc]|refine o5 (c0 _) ?_|refine o5 (c1 _) ?_|refine o5 (c2 _) ?_|refine o5 (c3 _) ?_|refine o5 (c4 _) ?_|refine vcJ ?_ ?_<;>intro _|refine vcA ?_ ?_;focus(repeat'(first|omega|assumption|refine vcA ?_ ?_);done)|omega|refine o7 (fun _=>?_)
    exact y5 ⟨rfl,rfl⟩
   ·refine y7 [] [.tmp 4] 37 Tryz.func67 rfl rfl rfl rfl (nlb rfl) (by kernel_rfl) ?_
    repeat' first|refine o6 ?_|simp -dsimp -implicitDefEqProofs (disch:=first|assumption|omega|simp only[ll];omega) only[go_sem,hnc]|refine o5 (c0 _) ?_|refine o5 (c1 _) ?_|refine o5 (c2 _) ?_|refine o5 (c3 _) ?_|refine o5 (c4 _) ?_|refine vcJ ?_ ?_<;>intro _|refine vcA ?_ ?_;focus(repeat'(first|omega|assumption|refine vcA ?_ ?_);done)|omega|refine o7 (fun _=>?_)
    exact y5 ⟨rfl,rfl⟩
   ·refine y7 [] [.tmp 4] 37 Tryz.func67 rfl rfl rfl rfl (nlb rfl) (by kernel_rfl) ?_
    repeat' first|refine o6 ?_|simp -dsimp -implicitDefEqProofs (disch:=first|assumption|omega|simp only[ll];omega) only[go_sem,hnc]|refine o5 (c0 _) ?_|refine o5 (c1 _) ?_|refine o5 (c2 _) ?_|refine o5 (c3 _) ?_|refine o5 (c4 _) ?_|refine vcJ ?_ ?_<;>intro _|refine vcA ?_ ?_;focus(repeat'(first|omega|assumption|refine vcA ?_ ?_);done)|omega|refine o7 (fun _=>?_)
    exact y5 ⟨rfl,rfl⟩
   ·refine y7 [] [.tmp 4] 37 Tryz.func67 rfl rfl rfl rfl (nlb rfl) (by kernel_rfl) ?_
    repeat' first|refine o6 ?_|simp -dsimp -implicitDefEqProofs (disch:=first|assumption|omega|simp only[ll];omega) only[go_sem,hnc]|refine o5 (c0 _) ?_|refine o5 (c1 _) ?_|refine o5 (c2 _) ?_|refine o5 (c3 _) ?_|refine o5 (c4 _) ?_|refine vcJ ?_ ?_<;>intro _|refine vcA ?_ ?_;focus(repeat'(first|omega|assumption|refine vcA ?_ ?_);done)|omega|refine o7 (fun _=>?_)
    exact y5 ⟨rfl,rfl⟩
   ·refine y7 [] [.tmp 4] 37 Tryz.func67 rfl rfl rfl rfl (nlb rfl) (by kernel_rfl) ?_
    repeat' first|refine o6 ?_|simp -dsimp -implicitDefEqProofs (disch:=first|assumption|omega|simp only[ll];omega) only[go_sem,hnc]|refine o5 (c0 _) ?_|refine o5 (c1 _) ?_|refine o5 (c2 _) ?_|refine o5 (c3 _) ?_|refine o5 (c4 _) ?_|refine vcJ ?_ ?_<;>intro _|refine vcA ?_ ?_;focus(repeat'(first|omega|assumption|refine vcA ?_ ?_);done)|omega|refine o7 (fun _=>?_)
    exact y5 ⟨rfl,rfl⟩
  ·rw[decide_eq_false hp] at c0⊢
   rcases hk with rfl|rfl<;>simp only[UInt8.reduceToNat] at*
   ·refine y7 [] [.tmp 4] 37 Tryz.func67 rfl rfl rfl rfl (nlb rfl) (by kernel_rfl) ?_
    repeat' first|refine o6 ?_|simp -dsimp -implicitDefEqProofs (disch:=first|assumption|omega|simp only[ll];omega) only[go_sem]|refine o5 (c0 _) ?_|refine vcJ ?_ ?_<;>intro _|refine vcA ?_ ?_;focus(repeat'(first|omega|assumption|refine vcA ?_ ?_);done)|omega|refine o7 (fun _=>?_)
    exact y5 ⟨rfl,rfl⟩
   ·refine y7 [] [.tmp 4] 37 Tryz.func67 rfl rfl rfl rfl (nlb rfl) (by kernel_rfl) ?_
    repeat' first|refine o6 ?_|simp -dsimp -implicitDefEqProofs (disch:=first|assumption|omega|simp only[ll];omega) only[go_sem]|refine o5 (c0 _) ?_|refine vcJ ?_ ?_<;>intro _|refine vcA ?_ ?_;focus(repeat'(first|omega|assumption|refine vcA ?_ ?_);done)|omega|refine o7 (fun _=>?_)
    exact y5 ⟨rfl,rfl⟩
 ·rw[decide_eq_false hn]
  have hnc:((255:Int) < (s.length:Int))=True:=eq_true (by omega)
  refine y7 [] [.tmp 4] 37 Tryz.func67 rfl rfl rfl rfl (nlb rfl) (by kernel_rfl) ?_
  repeat' first|refine o6 ?_|simp -dsimp -implicitDefEqProofs (disch:=first|assumption|omega|simp only[ll];omega) only[go_sem,hnc]|refine vcJ ?_ ?_<;>intro _|refine vcA ?_ ?_;focus(repeat'(first|omega|assumption|refine vcA ?_ ?_);done)|omega|refine o7 (fun _=>?_)
  exact y5 ⟨rfl,rfl⟩
theorem cK9(s:bytes)(H:List AObj)(hs:s.length<=10000):o9 Tryz.prog 36 [.str s] H (fun y H'=>y=.bool (av7 64 s)/\H'=H):=by
 have c:=fun H=>bQ6 64 (.inl rfl) s H hs
 simp only[UInt8.reduceToNat] at c;refine y7 [] [.tmp 2] 5 Tryz.func36 rfl rfl rfl rfl (nlb rfl) (by kernel_rfl) ?_
 repeat' first|refine o6 ?_|simp -dsimp -implicitDefEqProofs (disch:=first|assumption|omega|simp only[ll];omega) only[go_sem]|refine o5 (c _) ?_|refine vcJ ?_ ?_<;>intro _|refine vcA ?_ ?_;focus(repeat'(first|omega|assumption|refine vcA ?_ ?_);done)|omega|refine o7 (fun _=>?_)
 exact y5 ⟨rfl,rfl⟩
theorem dx8(s:bytes)(H:List AObj)(hs:s.length<=10000):o9 Tryz.prog 38 [.str s] H (fun y H'=>y=.bool (av7 33 s)/\H'=H):=by
 have c:=fun H=>bQ6 33 (.inr rfl) s H hs
 simp only[UInt8.reduceToNat] at c;refine y7 [] [.tmp 2] 5 Tryz.func38 rfl rfl rfl rfl (nlb rfl) (by kernel_rfl) ?_
 repeat' first|refine o6 ?_|simp -dsimp -implicitDefEqProofs (disch:=first|assumption|omega|simp only[ll];omega) only[go_sem]|refine o5 (c _) ?_|refine vcJ ?_ ?_<;>intro _|refine vcA ?_ ?_;focus(repeat'(first|omega|assumption|refine vcA ?_ ?_);done)|omega|refine o7 (fun _=>?_)
 exact y5 ⟨rfl,rfl⟩
theorem d86(s:bytes)(H:List AObj):o9 Tryz.prog 72 [.str s] H (fun y H'=>y=.bool (by2 s)/\H'=H):=by
 have c0:=fun H=>bV8 s [36] H (by decide)
 have c1:=fun H=>eo0 H
 unfold bB8 at c0;rw[cU2] at c0;unfold by2;by_cases hp:s.head?=some 36
 ·rw[decide_eq_true hp] at c0⊢
  rw[if_pos rfl] at c0;dsimp only[List.length_cons,List.length_nil,Nat.zero_add] at c0;have h1:1<=s.length:=by
   cases s with
   |nil=>cases hp
   |cons a r=>simp
  by_cases hn:s.length=44
  ·rw[decide_eq_true hn]
   have c2:=fun H=>dP6 (s.drop 1) H (by rw[List.length_drop];omega)
   unfold aC4 at c2;have hnc:(((s.length - 1:Nat):Int)=43)=True:=eq_true (by omega)
   generalize a90 bP3 (s.drop 1)=p at*;refine y7 [] [.tmp 2] 27 Tryz.func72 rfl rfl rfl rfl (nlb rfl) (by kernel_rfl) ?_
   repeat' first|refine o6 ?_|simp -dsimp -implicitDefEqProofs (disch:=first|assumption|omega|simp only[ll];omega) only[go_sem,hnc,List.length_drop]|refine o5 (c0 _) ?_|refine o5 (c1 _) ?_|refine o5 (c2 _) ?_|refine vcJ ?_ ?_<;>intro _|refine vcA ?_ ?_;focus(repeat'(first|omega|assumption|refine vcA ?_ ?_);done)|omega|refine o7 (fun _=>?_)
   exact y5 ⟨by simp,rfl⟩
  ·rw[decide_eq_false hn]
   have hnc:(((s.length - 1:Nat):Int)=43)=False:=eq_false (by omega)
   refine y7 [] [.tmp 2] 27 Tryz.func72 rfl rfl rfl rfl (nlb rfl) (by kernel_rfl) ?_
   repeat' first|refine o6 ?_|simp -dsimp -implicitDefEqProofs (disch:=first|assumption|omega|simp only[ll];omega) only[go_sem,hnc,List.length_drop]|refine o5 (c0 _) ?_|refine o5 (c1 _) ?_|refine vcJ ?_ ?_<;>intro _|refine vcA ?_ ?_;focus(repeat'(first|omega|assumption|refine vcA ?_ ?_);done)|omega|refine o7 (fun _=>?_)
   exact y5 ⟨rfl,rfl⟩
 ·rw[decide_eq_false hp] at c0⊢
  refine y7 [] [.tmp 2] 27 Tryz.func72 rfl rfl rfl rfl (nlb rfl) (by kernel_rfl) ?_
  repeat' first|refine o6 ?_|simp -dsimp -implicitDefEqProofs (disch:=first|assumption|omega|simp only[ll];omega) only[go_sem]|refine o5 (c0 _) ?_|refine vcJ ?_ ?_<;>intro _|refine vcA ?_ ?_;focus(repeat'(first|omega|assumption|refine vcA ?_ ?_);done)|omega|refine o7 (fun _=>?_)
  exact y5 ⟨rfl,rfl⟩
theorem d82(s:bytes)(H:List AObj)(hs:s.length<=10000):o9 Tryz.prog 37 [.str s] H (fun y H'=>y=.tup [.str (splitB s).1,.str (splitB s).2.1,.lit (.int .i64 (splitB s).2.2)]/\H'=H):=by
 have c0:=fun H=>cK9 s H hs
 have c1:=fun H=>dx8 s H hs
 have c2:=fun H=>dg0 (s.drop 1) 58 H (by rw[List.length_drop];omega)
 have hh: ∀k,av7 k s=true->1<=s.length:=fun k h=>by
  cases s with
  |nil=>simp[av7] at h
  |cons a r=>simp
 have h64:=hh 64;have h33:=hh 33;unfold splitB;unfold bS3 at c2;generalize aF6 (s.drop 1) 58=p at*;generalize av7 64 s=a at*;generalize av7 33 s=b at*;cases a with
 |true=>
  have h1:=h64 rfl;refine y7 [] [.tmp 2,.tmp 3,.tmp 4] 22 Tryz.func37 rfl rfl rfl rfl (nlb rfl) (by kernel_rfl) ?_
  repeat' first|refine o6 ?_|simp -dsimp -implicitDefEqProofs (disch:=first|assumption|omega|simp only[ll];omega) only[go_sem]|refine o5 (c0 _) ?_|refine o5 (c1 _) ?_|refine o5 (c2 _) ?_|refine vcJ ?_ ?_<;>intro _|refine vcA ?_ ?_;focus(repeat'(first|omega|assumption|refine vcA ?_ ?_);done)|omega|refine o7 (fun _=>?_)
  exact y5 ⟨rfl,rfl⟩
 |false=>
  cases b with
  |true=>
   have h1:=h33 rfl;refine y7 [] [.tmp 2,.tmp 3,.tmp 4] 22 Tryz.func37 rfl rfl rfl rfl (nlb rfl) (by kernel_rfl) ?_
   repeat' first|refine o6 ?_|simp -dsimp -implicitDefEqProofs (disch:=first|assumption|omega|simp only[ll];omega) only[go_sem]|refine o5 (c0 _) ?_|refine o5 (c1 _) ?_|refine o5 (c2 _) ?_|refine vcJ ?_ ?_<;>intro _|refine vcA ?_ ?_;focus(repeat'(first|omega|assumption|refine vcA ?_ ?_);done)|omega|refine o7 (fun _=>?_)
   exact y5 ⟨rfl,rfl⟩
  |false=>
   refine y7 [] [.tmp 2,.tmp 3,.tmp 4] 22 Tryz.func37 rfl rfl rfl rfl (nlb rfl) (by kernel_rfl) ?_
   repeat' first|refine o6 ?_|simp -dsimp -implicitDefEqProofs (disch:=first|assumption|omega|simp only[ll];omega) only[go_sem]|refine o5 (c0 _) ?_|refine o5 (c1 _) ?_|refine vcJ ?_ ?_<;>intro _|refine vcA ?_ ?_;focus(repeat'(first|omega|assumption|refine vcA ?_ ?_);done)|omega|refine o7 (fun _=>?_)
   exact y5 ⟨rfl,rfl⟩
end Id
end
section
open Go V
theorem aq9{H M:List AObj}{R:AV->List AObj->Prop}{b:Bool}(h:R (.bool b) H):Done H R (.bool b) (H++M):=aa3 _ (Le.refl _) (.lit _) h
open Classical in
noncomputable def bS0(v:JV):Bool:=
 decide ((ac9 v).2=0)&&(match ad3 ((ad3 v ae2).getD aa4) az7 with|some t=>aa9 12 t&&aa9 12 (ac7 (ae7 ad6 (ac9 v).1))&&decide (t=ac7 (ae7 ad6 (ac9 v).1))|none=>false)
theorem cX1(v:JV):(ae7 ad6 (ac9 v).1).length=43:=by rw[aB4,aY5]
theorem az5(t:bytes):aa1 (ac7 t)=1+t.length:=by simp[ac7,ar8,JV.text,JV.names,JV.items,aQ5]
theorem bA5(t:bytes):aa1 (aD0 t)=9+t.length:=by simp[aD0,ac7,ar8,JV.text,JV.names,JV.items,aQ5,aj7,az7];omega
theorem cN5(v:JV):aa1 (ab5 v).1<=aa1 v+59:=by
 unfold ab5;split
 ·have:=aU0 (v:=v) (s:=ae2) (x:=aD0 (ae7 ad6 (ac9 v).1))
  rw[bA5,cX1] at this;have hn:aj7 ae2=7:=rfl;omega
 ·have:aa1 aa4=1:=rfl
  dsimp only;omega
open Classical in
theorem eo5(v:JV)(H:List AObj)(hv:aa1 v<=40000):o9 Tryz.prog 23 [jAV v] H (fun y H'=>y=.bool (bS0 v)/\H'=H):=by
 have co:=fun H=>co9 v H hv
 have hgn:=au9 (n:=100000) (v:=v) (by omega)
 have cg:=fun H=>be1 v ae2 H hgn.1 hgn.2
 have hs:=ay7 (v:=v) (s:=ae2);have cg2:=fun H=>be1 ((ad3 v ae2).getD aa4) az7 H (au9 (by omega)).1 (au9 (n:=100000) (by omega)).2
 have hs2:=ay7 (v:=(ad3 v ae2).getD aa4) (s:=az7);have hE:=cX1 v;have hT:=az5 (ae7 ad6 (ac9 v).1);unfold af4 at co;unfold aL7 at cg cg2;unfold bS0;by_cases ho:(ac9 v).2=0
 ·rw[decide_eq_true ho,Bool.true_and]
  generalize ae7 ad6 (ac9 v).1=t at*;generalize (ad3 v ae2).getD aa4=h at*;cases hj:ad3 h az7 with
  |none=>
   rw[hj] at cg2;refine y7 [] [.tmp 2] 32 Tryz.func23 rfl rfl rfl rfl (nlb rfl) (by kernel_rfl) ?_
   repeat' first|refine o6 ?_|simp -dsimp -implicitDefEqProofs (disch:=first|assumption|omega|simp only[ll];omega) only[go_sem,ho]|refine o5 (co _) ?_|refine o5 (cg _) ?_|refine o5 (cg2 _) ?_|refine vcJ ?_ ?_<;>intro _|refine vcA ?_ ?_;focus(repeat'(first|omega|assumption|refine vcA ?_ ?_);done)|omega|refine o7 (fun _=>?_)
   exact aq9 ⟨rfl,rfl⟩
  |some x=>
   rw[hj,Option.getD_some] at cg2 hs2;have cs:=fun H=>dx6 x (ac7 t) H (by omega) (by omega)
   refine y7 [] [.tmp 2] 32 Tryz.func23 rfl rfl rfl rfl (nlb rfl) (by kernel_rfl) ?_
   repeat' first|refine o6 ?_|simp -dsimp -implicitDefEqProofs (disch:=first|assumption|omega|simp only[ll];omega) only[go_sem,ho]|refine o5 (co _) ?_|refine o5 (cg _) ?_|refine o5 (cg2 _) ?_|refine o5 (cs _) ?_|refine vcJ ?_ ?_<;>intro _|refine vcA ?_ ?_;focus(repeat'(first|omega|assumption|refine vcA ?_ ?_);done)|omega|refine o7 (fun _=>?_)
   exact aq9 ⟨rfl,rfl⟩
 ·rw[decide_eq_false ho,aC6]
  have hf:=eq_false ho;refine y7 [] [.tmp 2] 32 Tryz.func23 rfl rfl rfl rfl (nlb rfl) (by kernel_rfl) ?_
  repeat' first|refine o6 ?_|simp -dsimp -implicitDefEqProofs (disch:=first|assumption|omega|simp only[ll];omega) only[go_sem,hf]|refine o5 (co _) ?_|refine vcJ ?_ ?_<;>intro _|refine vcA ?_ ?_;focus(repeat'(first|omega|assumption|refine vcA ?_ ?_);done)|omega|refine o7 (fun _=>?_)
  exact aq9 ⟨rfl,rfl⟩
end
section
open Go V
namespace Se
def en6:bytes:=[101,100,50,53,53,49,57,58]
def aW6:bytes:=[97,98,99,100,101,102,103,104,105,106,107,108,109,110,111,112,113,114,115,116,117,118,119,120,121,122,65,66,67,68,69,70,71,72,73,74,75,76,77,78,79,80,81,82,83,84,85,86,87,88,89,90,48,49,50,51,52,53,54,55,56,57,95]
def ac3:bytes:=[115,105,103,110,97,116,117,114,101,115]
def bg7:bytes:=[117,110,115,105,103,110,101,100]
def ck7(s:bytes):Bool:=en6.isPrefixOf s&&(decide (s.drop 8≠[])&&(decide ((s.drop 8).length<=32)&&(s.drop 8).all aW6.contains))
def be7(v:JV):JV:=ay8 (hasB [ac3,bg7]) v
def ap3(v:JV):bytes×Int:=if al4 v=true then(if(ak1 (be7 v)).2=0 then((ak1 (be7 v)).1,0) else([],(ak1 (be7 v)).2)) else([],1)
def aD9(p:JV->Bool)(v:JV):Bool:=decide (v.kind=6)&&(decide (v.items.length<=8)&&v.items.all p)
def isText(v:JV):Bool:=decide (v.kind=4)
theorem et8(s:bytes)(H:List AObj)(hs:s.length<=10000):o9 Tryz.prog 82 [.str s] H (fun y H'=>y=.bool (ck7 s)/\H'=H):=by
 have c0:=fun H=>bV8 s [101,100,50,53,53,49,57,58] H (by decide)
 unfold bB8 at c0;unfold ck7;have hrl:(s.drop 8).length=s.length - 8:=List.length_drop;cases hp:en6.isPrefixOf s with
 |false=>
  rw[if_neg (by rw[show ([101,100,50,53,53,49,57,58]:bytes).isPrefixOf s=false from hp];decide)] at c0
  refine y7 [] [.tmp 2] 33 Tryz.func82 rfl rfl rfl rfl (nlb rfl) (by kernel_rfl) ?_
  repeat' first|refine o6 ?_|simp -dsimp -implicitDefEqProofs (disch:=first|assumption|omega|simp only[ll];omega) only[go_sem]|refine o5 (c0 _) ?_|refine vcJ ?_ ?_<;>intro _|refine vcA ?_ ?_;focus(repeat'(first|omega|assumption|refine vcA ?_ ?_);done)|omega|refine o7 (fun _=>?_)
  exact y5 ⟨rfl,rfl⟩
 |true=>
  rw[if_pos (by exact hp)] at c0
  dsimp only[List.length_cons,List.length_nil,Nat.zero_add,Nat.reduceAdd] at c0;generalize s.drop 8=r at*;by_cases h0:r=[]
  ·have h0c:=eq_true h0
   subst h0;refine y7 [] [.tmp 2] 33 Tryz.func82 rfl rfl rfl rfl (nlb rfl) (by kernel_rfl) ?_
   repeat' first|refine o6 ?_|simp -dsimp -implicitDefEqProofs (disch:=first|assumption|omega|simp only[ll];omega) only[go_sem]|refine o5 (c0 _) ?_|refine vcJ ?_ ?_<;>intro _|refine vcA ?_ ?_;focus(repeat'(first|omega|assumption|refine vcA ?_ ?_);done)|omega|refine o7 (fun _=>?_)
   exact y5 ⟨rfl,rfl⟩
  ·have h0c:=eq_false h0
   rw[decide_eq_true h0];by_cases hl:r.length<=32
   ·rw[decide_eq_true hl,Bool.true_and,Bool.true_and,Bool.true_and]
    have hlc:((32:Int) < (r.length:Int))=False:=eq_false (by omega)
    generalize hR:r.all aW6.contains=R;refine y7 [] [.tmp 2] 33 Tryz.func82 rfl rfl rfl rfl (nlb rfl) (by kernel_rfl) ?_
    repeat' first|refine o6 ?_|simp -dsimp -implicitDefEqProofs (disch:=first|assumption|omega|simp only[ll];omega) only[go_sem,h0c,hlc]|refine o5 (c0 _) ?_|refine vcJ ?_ ?_<;>intro _|refine vcA ?_ ?_;focus(repeat'(first|omega|assumption|refine vcA ?_ ?_);done)|omega|refine o7 (fun _=>?_)
    refine aa5 aa7 mixed [] [3,23] (fun i:Nat=>i<=r.length/\(r.drop i).all aW6.contains=R) (fun i=>[(24,.lit (.int .i64 i))]) (fun _=>H) (fun i=>r.length - i) (by kernel_rfl) ?_ 0 ⟨by omega,hR⟩ y8 rfl
    rintro i ⟨hi,hI⟩
    by_cases h:i < r.length
    ·have hc:((i:Int) < (r.length:Int))=True:=eq_true (by omega)
     rw[bs7 h,List.all_cons] at hI;have hg:r.getD i 0=r[i]:=by simp[List.getD,h]
     rw[<-hg] at hI;have cI:=fun H=>aK9 aW6 (r.getD i 0) H
     unfold aD1 at cI;by_cases h1:aW6.idxOf (r.getD i 0) < aW6.length
     ·rw[if_pos h1] at cI
      have hk:aW6.contains (r.getD i 0)=true:=by
       rw[b38];exact ct7.1 h1
      rw[hk,Bool.true_and] at hI;generalize hx:aW6.idxOf (r.getD i 0)=x at*;unfold aW6 at cI;repeat' first|refine o6 ?_|simp -dsimp -implicitDefEqProofs (disch:=first|assumption|omega|simp only[ll];omega) only[go_sem,hc]|refine o5 (cI _) ?_|refine vcJ ?_ ?_<;>intro _|refine vcA ?_ ?_;focus(repeat'(first|omega|assumption|refine vcA ?_ ?_);done)|omega|refine o7 (fun _=>?_)
      refine again (i+1) ?_ ?_ rfl y8
      ·omega
      ·exact⟨by omega,hI⟩
     ·rw[if_neg h1] at cI
      have hk:aW6.contains (r.getD i 0)=false:=by
       rw[<-Bool.not_eq_true,b38];exact fun m=>h1 (ct7.2 m)
      rw[hk,aC6] at hI;subst hI;unfold aW6 at cI;repeat' first|refine o6 ?_|simp -dsimp -implicitDefEqProofs (disch:=first|assumption|omega|simp only[ll];omega) only[go_sem,hc]|refine o5 (cI _) ?_|refine vcJ ?_ ?_<;>intro _|refine vcA ?_ ?_;focus(repeat'(first|omega|assumption|refine vcA ?_ ?_);done)|omega|refine o7 (fun _=>?_)
      exact y5 ⟨rfl,rfl⟩
    ·have hc:((i:Int) < (r.length:Int))=False:=eq_false (by omega)
     rw[bl6 (by omega)] at hI
     subst hI;repeat' first|refine o6 ?_|simp -dsimp -implicitDefEqProofs (disch:=first|assumption|omega|simp only[ll];omega) only[go_sem,hc]|refine vcJ ?_ ?_<;>intro _|refine vcA ?_ ?_;focus(repeat'(first|omega|assumption|refine vcA ?_ ?_);done)|omega|refine o7 (fun _=>?_)
     exact y5 ⟨rfl,rfl⟩
   ·rw[decide_eq_false hl]
    have hlc:((32:Int) < (r.length:Int))=True:=eq_true (by omega)
    refine y7 [] [.tmp 2] 33 Tryz.func82 rfl rfl rfl rfl (nlb rfl) (by kernel_rfl) ?_
    repeat' first|refine o6 ?_|simp -dsimp -implicitDefEqProofs (disch:=first|assumption|omega|simp only[ll];omega) only[go_sem,h0c,hlc]|refine o5 (c0 _) ?_|refine vcJ ?_ ?_<;>intro _|refine vcA ?_ ?_;focus(repeat'(first|omega|assumption|refine vcA ?_ ?_);done)|omega|refine o7 (fun _=>?_)
    exact y5 ⟨rfl,rfl⟩
theorem aN5(v:JV)(H:List AObj)(hv:aa1 v<=40000):o9 Tryz.prog 88 [jAV v] H (fun y H'=>y=.bool (al4 v)/\H'=H):=by
 have cv:=fun H=>aH7 v H hv
 unfold al4;by_cases hk:v.kind=6
 ·have hkt:=eq_true hk
  rw[decide_eq_true hk,Bool.true_and];refine y7 [] [.tmp 2] 10 Tryz.func88 rfl rfl rfl rfl (nlb rfl) (by kernel_rfl) ?_
  repeat' first|refine o6 ?_|simp -dsimp -implicitDefEqProofs (disch:=first|assumption|omega|simp only[ll];omega) only[go_sem,hkt]|refine o5 (cv _) ?_|refine vcJ ?_ ?_<;>intro _|refine vcA ?_ ?_;focus(repeat'(first|omega|assumption|refine vcA ?_ ?_);done)|omega|refine o7 (fun _=>?_)
  exact y5 ⟨rfl,rfl⟩
 ·have hkf:=eq_false hk
  rw[decide_eq_false hk,aC6];refine y7 [] [.tmp 2] 10 Tryz.func88 rfl rfl rfl rfl (nlb rfl) (by kernel_rfl) ?_
  repeat' first|refine o6 ?_|simp -dsimp -implicitDefEqProofs (disch:=first|assumption|omega|simp only[ll];omega) only[go_sem,hkf]|refine o5 (cv _) ?_|refine vcJ ?_ ?_<;>intro _|refine vcA ?_ ?_;focus(repeat'(first|omega|assumption|refine vcA ?_ ?_);done)|omega|refine o7 (fun _=>?_)
  exact y5 ⟨rfl,rfl⟩
theorem d81(v:JV)(H:List AObj)(hv:aa1 v<=40000):o9 Tryz.prog 92 [jAV v] H (fun y H'=>y=jAV (be7 v)/\H'=H):=by
 have c:=fun H=>bs0 (o:=.full) v [ac3,bg7] H hv (by decide)
 unfold ac3 bg7 at c;unfold be7 ac3 bg7;generalize ay8 _ v=R at*;refine y7 [] [.cell 2 25] 6 Tryz.func92 rfl rfl rfl rfl (nlb rfl) (by kernel_rfl) ?_
 repeat' first|refine o6 ?_|simp -dsimp -implicitDefEqProofs (disch:=first|assumption|omega|simp only[ll];omega) only[go_sem]|refine o5 (c _) ?_|refine vcJ ?_ ?_<;>intro _|refine vcA ?_ ?_;focus(repeat'(first|omega|assumption|refine vcA ?_ ?_);done)|omega|refine o7 (fun _=>?_)
 exact aa3 _ (Le.refl _) (ad4 _) ⟨rfl,rfl⟩
theorem c57(v:JV):aa1 (be7 v)<=aa1 v:=bA6 _ v
theorem cr7(v:JV)(H:List AObj)(hv:aa1 v<=40000):o9 Tryz.prog 53 [jAV v] H (fun y H'=>y=aC4 (ap3 v)/\H'=H):=by
 have c0:=fun H=>aN5 v H hv
 have c1:=fun H=>d81 v H hv
 have c2:=fun H=>cm1 (be7 v) H (ay6 (c57 v) hv)
 unfold aA3 at c2;unfold ap3;generalize be7 v=w at*;generalize al4 v=b at*;generalize ak1 w=p at*;cases b with
 |false=>
  refine y7 [] [.tmp 2,.tmp 3] 20 Tryz.func53 rfl rfl rfl rfl (nlb rfl) (by kernel_rfl) ?_
  repeat' first|refine o6 ?_|simp -dsimp -implicitDefEqProofs (disch:=first|assumption|omega|simp only[ll];omega) only[go_sem]|refine o5 (c0 _) ?_|refine vcJ ?_ ?_<;>intro _|refine vcA ?_ ?_;focus(repeat'(first|omega|assumption|refine vcA ?_ ?_);done)|omega|refine o7 (fun _=>?_)
  exact cX3 (aC4 ([],1)) (aH4 (LeAll.cons am9 (LeAll.cons (Le.refl _) LeAll.nil))) ⟨rfl,rfl⟩
 |true=>
  by_cases h:p.2=0
  ·have hc:=eq_true h
   rw[if_pos rfl,if_pos h];refine y7 [] [.tmp 2,.tmp 3] 20 Tryz.func53 rfl rfl rfl rfl (nlb rfl) (by kernel_rfl) ?_
   repeat' first|refine o6 ?_|simp -dsimp -implicitDefEqProofs (disch:=first|assumption|omega|simp only[ll];omega) only[go_sem,hc]|refine o5 (c0 _) ?_|refine o5 (c1 _) ?_|refine o5 (c2 _) ?_|refine vcJ ?_ ?_<;>intro _|refine vcA ?_ ?_;focus(repeat'(first|omega|assumption|refine vcA ?_ ?_);done)|omega|refine o7 (fun _=>?_)
   exact y5 ⟨rfl,rfl⟩
  ·have hc:=eq_false h
   rw[if_pos rfl,if_neg h];refine y7 [] [.tmp 2,.tmp 3] 20 Tryz.func53 rfl rfl rfl rfl (nlb rfl) (by kernel_rfl) ?_
   repeat' first|refine o6 ?_|simp -dsimp -implicitDefEqProofs (disch:=first|assumption|omega|simp only[ll];omega) only[go_sem,hc]|refine o5 (c0 _) ?_|refine o5 (c1 _) ?_|refine o5 (c2 _) ?_|refine vcJ ?_ ?_<;>intro _|refine vcA ?_ ?_;focus(repeat'(first|omega|assumption|refine vcA ?_ ?_);done)|omega|refine o7 (fun _=>?_)
   exact cX3 (aC4 ([],p.2)) (aH4 (LeAll.cons am9 (LeAll.cons (Le.refl _) LeAll.nil))) ⟨rfl,rfl⟩
theorem dz8(g:FuncId)(cs:List AV)(p:JV->Bool)(x:JV)(H:List AObj)(hp:o9 Tryz.prog g (jAV x::cs) H (fun y H'=>y=.bool (p x)/\H'=H)):o9 Tryz.prog 145 [jAV x,.ip (.fn (.func g) [] cs)] H (fun y H'=>y=.bool (!p x)/\H'=H):=by
 refine y7 [] [.tmp 3] 8 Tryz.func145 rfl rfl rfl rfl (nlb rfl) (by kernel_rfl) ?_
 repeat' first|refine o6 ?_|simp -dsimp -implicitDefEqProofs (disch:=first|assumption|omega|simp only[ll];omega) only[go_sem]|refine o5 (hp) ?_|refine vcJ ?_ ?_<;>intro _|refine vcA ?_ ?_;focus(repeat'(first|omega|assumption|refine vcA ?_ ?_);done)|omega|refine o7 (fun _=>?_)
 exact y5 ⟨rfl,rfl⟩
theorem cS9(g:FuncId)(cs:List AV)(p:JV->Bool)(v:JV)(H:List AObj)(hv:aa1 v<=40000)(hp: ∀x∈v.items,o9 Tryz.prog g (jAV x::cs) H (fun y H'=>y=.bool (p x)/\H'=H)):o9 Tryz.prog 90 [jAV v,.fn (.func g) [] cs] H (fun y H'=>y=.bool (aD9 p v)/\H'=H):=by
 have hn:=au9 (n:=100000) (v:=v) (by omega)
 have c:=by9 (o:=.sh) 145 [.ip (.fn (.func g) [] cs)] (fun x=>!p x) v.items H hn.2 fun x hx=>dz8 g cs p x H (hp x hx)
 have ha:(!v.items.any fun x=>!p x)=v.items.all p:=by
  rw[List.not_any_eq_all_not];simp
 unfold aD9;by_cases hk:v.kind=6
 ·have hkc:=eq_true hk
  rw[decide_eq_true hk,Bool.true_and];by_cases hl:v.items.length<=8
  ·have hlc:((v.items.length:Int)<=8)=True:=eq_true (by omega)
   rw[decide_eq_true hl,Bool.true_and];refine y7 [] [.tmp 4] 21 Tryz.func90 rfl rfl rfl rfl (nlb rfl) (by kernel_rfl) ?_
   repeat' first|refine o6 ?_|simp -dsimp -implicitDefEqProofs (disch:=first|assumption|omega|simp only[ll];omega) only[go_sem,hkc,hlc]|refine o5 (c) ?_|refine vcJ ?_ ?_<;>intro _|refine vcA ?_ ?_;focus(repeat'(first|omega|assumption|refine vcA ?_ ?_);done)|omega|refine o7 (fun _=>?_)
   exact y5 ⟨by rw[ha],rfl⟩
  ·have hlc:((v.items.length:Int)<=8)=False:=eq_false (by omega)
   rw[decide_eq_false hl,aC6];refine y7 [] [.tmp 4] 21 Tryz.func90 rfl rfl rfl rfl (nlb rfl) (by kernel_rfl) ?_
   repeat' first|refine o6 ?_|simp -dsimp -implicitDefEqProofs (disch:=first|assumption|omega|simp only[ll];omega) only[go_sem,hkc,hlc]|refine vcJ ?_ ?_<;>intro _|refine vcA ?_ ?_;focus(repeat'(first|omega|assumption|refine vcA ?_ ?_);done)|omega|refine o7 (fun _=>?_)
   exact y5 ⟨rfl,rfl⟩
 ·have hkc:=eq_false hk
  rw[decide_eq_false hk,aC6];refine y7 [] [.tmp 4] 21 Tryz.func90 rfl rfl rfl rfl (nlb rfl) (by kernel_rfl) ?_
  repeat' first|refine o6 ?_|simp -dsimp -implicitDefEqProofs (disch:=first|assumption|omega|simp only[ll];omega) only[go_sem,hkc]|refine vcJ ?_ ?_<;>intro _|refine vcA ?_ ?_;focus(repeat'(first|omega|assumption|refine vcA ?_ ?_);done)|omega|refine o7 (fun _=>?_)
  exact y5 ⟨rfl,rfl⟩
theorem dW6(x:JV)(H:List AObj):o9 Tryz.prog 89 [jAV x] H (fun y H'=>y=.bool (isText x)/\H'=H):=by
 unfold isText;refine y7 [] [.tmp 2] 6 Tryz.func89 rfl rfl rfl rfl (nlb rfl) (by kernel_rfl) ?_
 repeat' first|refine o6 ?_|simp -dsimp -implicitDefEqProofs (disch:=first|assumption|omega|simp only[ll];omega) only[go_sem]|refine vcJ ?_ ?_<;>intro _|refine vcA ?_ ?_;focus(repeat'(first|omega|assumption|refine vcA ?_ ?_);done)|omega|refine o7 (fun _=>?_)
 exact y5 ⟨rfl,rfl⟩
theorem dW5{k:Nat}{sh:Shape}(x:JV)(H:List AObj)(hv:aa1 x<=40000)(hk:H[k]?=some (.cells sh [.fn (.func 89) [] []])):o9 Tryz.prog 91 [jAV x,.mp k 0] H (fun y H'=>y=.bool (aD9 isText x)/\H'=H):=by
 have c:=cS9 89 [] isText x H hv fun y _=>dW6 y H
 refine y7 [] [.tmp 3] 7 Tryz.func91 rfl rfl rfl rfl (nlb rfl) (by kernel_rfl) ?_
 repeat' first|refine o6 ?_|simp -dsimp -implicitDefEqProofs (disch:=first|assumption|omega|simp only[ll];omega) only[go_sem,hk]|refine o5 (c) ?_|refine vcJ ?_ ?_<;>intro _|refine vcA ?_ ?_;focus(repeat'(first|omega|assumption|refine vcA ?_ ?_);done)|omega|refine o7 (fun _=>?_)
 exact y5 ⟨rfl,rfl⟩
def at7(v:JV)(ws:List AV):AObj:=.cells (.one 85) (ad9 v++ws)
def cd1:JV:=.mk 6 0 [] [] []
def ab3(v:JV):JV:=(ad3 v ac3).getD cd1
def aC1(v:JV):Bool:=al4 v&&aD9 (aD9 isText) (ab3 v)
def ag6(w:JV)(s:bytes):JV×Bool:=((ad3 w s).getD cd1,(ad3 w s).isSome)
theorem cQ0{H₀ M:List AObj}{R:AV->List AObj->Prop}{x:AV}{k:Nat}{o:AObj}(y:AV)(hx:Le x y)(hl:Low H₀.length y)(ho: ∀sh cs,o=.cells sh cs-> ∀z∈cs,Low H₀.length z)(hr:R y (H₀.set k o)):Done H₀ R x (H₀.set k o++M):=by
 refine du9 (y:=y) (H':=(H₀.set k o++M).take (H₀.set k o).length) ?_ (by rw[aZ2];exact hr)
 refine bo5 hx (by simp) (by simpa using hl) fun j sh cs hj e=>?_
 rw[xq4 hj,aZ4] at e;split at e
 ·split at e
  ·cases e
   exact .inr (by simpa using ho sh cs rfl)
  ·cases e
 ·exact .inl e
theorem dR6{k:Nat}{v w:JV}{m:AV}(s:bytes)(H:List AObj)(hw:aa1 w<=40000)(hk:H[k]?=some (at7 v (ad9 w++[m]))):o9 Tryz.prog 54 [.mp k 0,.str s] H (fun y H'=>y=.tup [jAV (ag6 w s).1,.bool (ag6 w s).2]/\H'=H):=by
 have hn:=au9 (n:=100000) (v:=w) (by omega)
 have c:=fun H=>be1 w s H hn.1 hn.2
 unfold aL7 at c;unfold ag6;have hka: ∀M,(H++M)[k]?=some (at7 v (ad9 w++[m])):=fun M=>by rw[xq4 (y9 hk)];exact hk
 unfold at7 ad9 at hka;cases hg:ad3 w s with
 |none=>
  rw[hg] at c;refine y7 [] [.cell 4 25,.tmp 5] 22 Tryz.func54 rfl rfl rfl rfl (nlb rfl) (by kernel_rfl) ?_
  repeat' first|refine o6 ?_|simp -dsimp -implicitDefEqProofs (disch:=first|assumption|omega|simp only[ll];omega) only[go_sem,hka,xq5,xq8,List.drop_zero,ag5]|refine o5 (c _) ?_|refine vcJ ?_ ?_<;>intro _|refine vcA ?_ ?_;focus(repeat'(first|omega|assumption|refine vcA ?_ ?_);done)|omega|refine o7 (fun _=>?_)
  exact aa3 (.tup [jAV cd1,.bool false]) (aH4 (LeAll.cons d07 (LeAll.cons (Le.refl _) LeAll.nil))) (ag8 (aa2 (ad4 _) (aa2 (.lit _) ab6))) ⟨rfl,rfl⟩
 |some x=>
  rw[hg] at c;refine y7 [] [.cell 4 25,.tmp 5] 22 Tryz.func54 rfl rfl rfl rfl (nlb rfl) (by kernel_rfl) ?_
  repeat' first|refine o6 ?_|simp -dsimp -implicitDefEqProofs (disch:=first|assumption|omega|simp only[ll];omega) only[go_sem,hka,xq5,xq8,List.drop_zero,ag5]|refine o5 (c _) ?_|refine vcJ ?_ ?_<;>intro _|refine vcA ?_ ?_;focus(repeat'(first|omega|assumption|refine vcA ?_ ?_);done)|omega|refine o7 (fun _=>?_)
  exact aa3 _ (Le.refl _) (ag8 (aa2 (ad4 _) (aa2 (.lit _) ab6))) ⟨rfl,rfl⟩
theorem dm1{k:Nat}{v:JV}{a b c d e m:AV}(H:List AObj)(hv:aa1 v<=40000)(hm:Low H.length m)(hk:H[k]?=some (at7 v [a,b,c,d,e,m])):o9 Tryz.prog 52 [.mp k 0] H (fun y H'=>y=.bool (aC1 v)/\H'=if al4 v=true then H.set k (at7 v (ad9 (ab3 v)++[m])) else H):=by
 have hn:=au9 (n:=100000) (v:=v) (by omega)
 have cg:=fun H=>be1 v ac3 H hn.1 hn.2
 have co:=fun H=>aN5 v H hv
 have hsz:aa1 (ab3 v)<=40000:=by
  have:=ay7 (v:=v) (s:=ac3);unfold ab3;cases hg:ad3 v ac3 with
  |none=>decide
  |some x=>
   rw[hg] at this;exact ay6 this hv
 have hkl:=y9 hk;unfold aL7 at cg;unfold aC1;unfold at7 ad9 at hk;generalize hO:al4 v=O at*;cases O with
 |false=>
  refine y7 [] [.tmp 2] 34 Tryz.func52 rfl rfl rfl rfl (nlb rfl) (by kernel_rfl) ?_
  repeat' first|refine o6 ?_|simp -dsimp -implicitDefEqProofs (disch:=first|assumption|omega|simp only[ll];omega) only[go_sem,hk,xq5,xq8,List.drop_zero,ag5]|refine o5 (co _) ?_|refine vcJ ?_ ?_<;>intro _|refine vcA ?_ ?_;focus(repeat'(first|omega|assumption|refine vcA ?_ ?_);done)|omega|refine o7 (fun _=>?_)
  exact y5 ⟨rfl,rfl⟩
 |true=>
  rw[if_pos rfl,Bool.true_and];have ct: ∀o,o9 Tryz.prog 90 [jAV (ab3 v),.fn (.func 91) [] [.mp H.length 0]] (H.set k o++[.cells (.one 53) [.fn (.func 89) [] []]]) (fun y H'=>y=.bool (aD9 (aD9 isText) (ab3 v))/\H'=H.set k o++[.cells (.one 53) [.fn (.func 89) [] []]]):=fun o=>
   cS9 91 [.mp H.length 0] (aD9 isText) (ab3 v) _ hsz fun x hx=>dW5 (sh:=.one 53) x _ (ay6 (Nat.le_of_lt (aM8 hx)) hsz) (by simp)
  have hlo: ∀w sh cs,at7 v (ad9 w++[m])=.cells sh cs-> ∀z∈cs,Low H.length z:=fun w sh cs e z hz=>by
   unfold at7 at e;cases e
   rcases aP7.1 hz with h|h
   ·exact ck0 v z h
   ·rcases aP7.1 h with h|h
    ·exact ck0 w z h
    ·rw[b43.1 h]
     exact hm
  have hdone: ∀M,Done H (fun y H'=>y=.bool (aD9 (aD9 isText) (ab3 v))/\H'=if true=true then H.set k (at7 v (ad9 (ab3 v)++[m])) else H) (.bool (aD9 (aD9 isText) (ab3 v))) (H.set k (at7 v (ad9 (ab3 v)++[m]))++M):=fun M=>cQ0 _ (Le.refl _) (.lit _) (hlo _) ⟨rfl,(if_pos rfl).symm⟩
  generalize aD9 (aD9 isText) (ab3 v)=T at*;unfold ab3 at*;unfold at7 ad9 at hdone;cases hg:ad3 v ac3 with
  |none=>
   rw[hg] at cg hsz hdone;simp only[hg] at ct;rw[Option.getD_none] at*;unfold ac3 at cg;refine au3 aa7 mixed [] 4 (rs:=[.tmp 2]) (n:=34) Tryz.func52 rfl rfl rfl rfl (nlb rfl) (by kernel_rfl) ?_
   repeat' first|refine o6 ?_|simp -dsimp -implicitDefEqProofs (disch:=first|assumption|omega|simp only[ll];omega) only[go_sem,hk,xq5,xq8,List.drop_zero,ag5]|refine o5 (co _) ?_|refine o5 (cg _) ?_|refine vcJ ?_ ?_<;>intro _|refine vcA ?_ ?_;focus(repeat'(first|omega|assumption|refine vcA ?_ ?_);done)|omega|refine o7 (fun _=>?_)
   refine ce6 k (sh:=.one 85) (cs':=ad9 v++(ad9 cd1++[m])) (ay5 hkl) (.cons (Le.refl _) (.cons (Le.refl _) (.cons (Le.refl _) (.cons (Le.refl _) (.cons (Le.refl _) (.cons (Le.refl _) (.cons (Le.refl _) (.cons (Le.refl _) (.cons am9 (.cons am9 (.cons (Le.refl _) .nil))))))))))) ?_;rw[List.set_set];refine aA0 aa7 mixed [] (by kernel_rfl) ?_
   repeat' first|refine o6 ?_|simp -dsimp -implicitDefEqProofs (disch:=first|assumption|omega|simp only[ll];omega) only[go_sem,ay5 hkl,ad9,List.cons_append,List.nil_append,hk,xq5,xq8,List.drop_zero,ag5]|refine o5 (ct _) ?_|refine vcJ ?_ ?_<;>intro _|refine vcA ?_ ?_;focus(repeat'(first|omega|assumption|refine vcA ?_ ?_);done)|omega|refine o7 (fun _=>?_)
   exact hdone _
  |some x=>
   rw[hg] at cg hsz hdone;simp only[hg] at ct;rw[Option.getD_some] at*;unfold ac3 at cg;refine y7 [] [.tmp 2] 34 Tryz.func52 rfl rfl rfl rfl (nlb rfl) (by kernel_rfl) ?_
   repeat' first|refine o6 ?_|simp -dsimp -implicitDefEqProofs (disch:=first|assumption|omega|simp only[ll];omega) only[go_sem,hk,xq5,xq8,List.drop_zero,ag5]|refine o5 (co _) ?_|refine o5 (cg _) ?_|refine o5 (ct _) ?_|refine vcJ ?_ ?_<;>intro _|refine vcA ?_ ?_;focus(repeat'(first|omega|assumption|refine vcA ?_ ?_);done)|omega|refine o7 (fun _=>?_)
   exact hdone _
end Se
end
end Go.Proofs.YtnfcdbgiclnaeaaGreatDoor
