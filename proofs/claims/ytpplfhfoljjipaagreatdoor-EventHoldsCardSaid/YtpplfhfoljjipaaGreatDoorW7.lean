/- Signatures: the program's. -/
import Derived.Test.YtpplfhfoljjipaaGreatDoorW6
import Derived.Shelf.Strings.Search3
import Derived.Test.YtpplfhfoljjipaaGreatDoorW5
set_option linter.unusedVariables false
set_option linter.unusedSimpArgs false
set_option maxRecDepth 100000
set_option maxHeartbeats 4000000
namespace Go.Proofs.YtpplfhfoljjipaaGreatDoor
section
namespace Ed
open Go V Fe Sc Cu
theorem eB8{o1 o2:Own}(a b:List UInt8)(H:List AObj)(hl:a.length+b.length<=1000000):o8 Tryz.prog 106 [.sl .full 1 [.sl o1 1 (a.map o7),.sl o2 1 (b.map o7)]] H (fun y H'=>y=.agg ((ax0 (a++b)).map o7)/\H'=H):=
 bO0 H (by rw[List.length_append];exact hl) fun H=>by
  have:=cF2 (o:=.full) [(o1,a),(o2,b)] H (by simp) (by simp) (by rw[dH8,List.length_append];exact hl)
  rw[dH8] at this;exact this
theorem dF4{o1 o2 o3:Own}(a b c:List UInt8)(H:List AObj)(hl:a.length+b.length+c.length<=1000000):o8 Tryz.prog 106 [.sl .full 1 [.sl o1 1 (a.map o7),.sl o2 1 (b.map o7),.sl o3 1 (c.map o7)]] H (fun y H'=>y=.agg ((ax0 (a++(b++c))).map o7)/\H'=H):=
 bO0 H (by rw[List.length_append,List.length_append];omega) fun H=>by
  have:=cF2 (o:=.full) [(o1,a),(o2,b),(o3,c)] H (by simp) (by simp) (by rw[dH7,List.length_append,List.length_append];dsimp only;omega)
  rw[dH7] at this;exact this
theorem b86{n:Nat}{v:Value}:(List.replicate n (AV.lit v)).all bW8=true:=dO8 rfl
theorem eN4{a b:List UInt8}(ha:a.length=32)(hb:b.length=32):ag0 (ag0 (List.replicate 64 (AV.lit (.int .u8 0))) 0 (a.map o7)) 32 (b.map o7)=(a++b).map o7:=by
 rw[aF0 _ _ _ (by rw[aw7];simp[hb]),aF0 _ _ _ (by simp[ha])]
 simp[ha,hb]
theorem z64{a:List UInt8}(h:a.length=64):ag0 (List.replicate 64 (AV.lit (.int .u8 0))) 0 (a.map o7)=a.map o7:=bo3 (by simp[h])
theorem t64{l:List UInt8}(h:l.length=64):(l.map o7).take 64=l.map o7:=al2 (by rw[List.length_map];omega)
theorem ed2(seed:List UInt8):ag0 [AV.lit (.int .u8 0),AV.lit (.int .u8 0),AV.lit (.int .u8 0),AV.lit (.int .u8 0),AV.lit (.int .u8 0),AV.lit (.int .u8 0),AV.lit (.int .u8 0),AV.lit (.int .u8 0),AV.lit (.int .u8 0),AV.lit (.int .u8 0),AV.lit (.int .u8 0),AV.lit (.int .u8 0),AV.lit (.int .u8 0),AV.lit (.int .u8 0),AV.lit (.int .u8 0),AV.lit (.int .u8 0),AV.lit (.int .u8 0),AV.lit (.int .u8 0),AV.lit (.int .u8 0),AV.lit (.int .u8 0),AV.lit (.int .u8 0),AV.lit (.int .u8 0),AV.lit (.int .u8 0),AV.lit (.int .u8 0),AV.lit (.int .u8 0),AV.lit (.int .u8 0),AV.lit (.int .u8 0),AV.lit (.int .u8 0),AV.lit (.int .u8 0),AV.lit (.int .u8 0),AV.lit (.int .u8 0),AV.lit (.int .u8 0),AV.sl .full 0 []] 0 (aB1 seed)=aB1 seed:=bo3 (by simp[bl0])
theorem cw3(seed:List UInt8):(aB1 seed).take 33=aB1 seed:=al2 (by simp[bl0])
theorem cZ8{o:Own}(seed m:List UInt8)(H:List AObj)(hs:seed.length=32)(hm:m.length<=500000):o8 Tryz.prog 84 [.agg (seed.map o7),.sl o 1 (m.map o7)] H (fun y H'=>y=.agg ((au6 seed m).map o7)/\H'=H):=by
 have c1:=fun H=>cX2 seed H hs
 have k1:=bl0 seed;have k2:=b94 seed;have k3:=bU9 seed;have k4:=dn4 seed;have k5:=ed2 seed;have k6:=cw3 seed;have ls:=aD6 seed;have lp:=do5 seed;have c2:=fun H=>eB8 (o1:=.sh) (o2:=o) (aL2 seed) m H (by omega)
 have l2:=bb9 (aL2 seed++m);unfold au6 al9 bn3;generalize ax0 (aL2 seed++m)=r at*;have c3:=fun H=>c27 r H l2
 have l3:=bo2 r;have c4:=fun H=>c27 (au3 seed) H ls
 have l4:=bo2 (au3 seed);generalize aG9 r=R at*;generalize aG9 (au3 seed)=A at*;have c5:=fun H=>dF4 (o1:=.sh) (o2:=.sh) (o3:=o) R A m H (by omega)
 have l5:=bb9 (R++(A++m));generalize ax0 (R++(A++m))=kk at*;have c6:=fun H=>d95 kk (au3 seed) r H l5 ls l2
 have l6:=bO3 kk (au3 seed) r;generalize ax1 kk (au3 seed) r=s at*;have l7:(R++s).length=64:=by rw[List.length_append,l3,l6]
 generalize aB1 seed=sc at*;refine aw8 ab2 mixed [2000027,2000031,1000004,1000004003009,1000004004009,1000004006009,1000004007009,1000004008009,1000006,1000007] 3 (rs:=[.cell 4 94]) (n:=39) Tryz.func84 rfl rfl rfl rfl (nlb rfl) (by kernel_rfl) ?_
 repeat' first|simp -dsimp -implicitDefEqProofs only[go_sem,ac1,hs,k1,k2,k3,k4,k5,k6,l2,aj7 l2]|refine o5 (c1 _) ?_|refine⟨_,c1 _,?_⟩|refine⟨_,_,c1 _,?_⟩|refine o5 (c2 _) ?_|refine⟨_,c2 _,?_⟩|refine⟨_,_,c2 _,?_⟩|fail
 refine aG2 5 (H.length+1) rfl (by rw[aE0];rfl) ?_
 refine aG2 6 (H.length+2) rfl (by rw[bd5,aE0];rfl) ?_
 refine b85 ab2 mixed [2000027,2000031,1000004,1000004003009,1000004004009,1000004006009,1000004007009,1000004008009,1000006,1000007] 0 28 5 2 (by kernel_rfl) ?_
 repeat' first|refine o6 ?_|simp -dsimp -implicitDefEqProofs only[go_sem,ac1,hs,k1,k2,k3,k4,k5,k6,l2,l3,l4,aj7 l3,aj7 l4,t32 l2,b86,aP8,ar7]|refine o5 (fun _ _ _=>c3 _) ?_|refine⟨_,fun _ _ _=>c3 _,?_⟩|refine⟨_,_,fun _ _ _=>c3 _,?_⟩|refine o5 (fun _ _ _=>c4 _) ?_|refine⟨_,fun _ _ _=>c4 _,?_⟩|refine⟨_,_,fun _ _ _=>c4 _,?_⟩|refine vcA ?_ ?_|omega
 refine aG2 7 (H.length+3) rfl (by rw[aE0];rfl) ?_
 refine aG2 8 (H.length+4) rfl (by rw[bd5,aE0];rfl) ?_
 refine aE1 ab2 mixed [2000027,2000031,1000004,1000004003009,1000004004009,1000004006009,1000004007009,1000004008009,1000006,1000007] (by kernel_rfl) ?_
 repeat' first|refine o6 ?_|simp -dsimp -implicitDefEqProofs (disch:=omega) only[go_sem,ac1,hs,k1,k2,k3,k4,k5,k6,l2,l3,l4,l5,l6,aj7 l6,t32 l2,t32 l3,t32 l4,t32 l6,aw7,List.length_replicate,eN4 l3 l6,l7,z64 l7,t64 l7]|refine o5 (c5 _) ?_|refine⟨_,c5 _,?_⟩|refine⟨_,_,c5 _,?_⟩|refine o5 (c6 _) ?_|refine⟨_,c6 _,?_⟩|refine⟨_,_,c6 _,?_⟩|refine vcA ?_ ?_|omega
 exact aa5 _ (Le.refl _) at1 ⟨rfl,rfl⟩
theorem aZ8{o:Own}(key m sig:List UInt8)(H:List AObj)(hk:key.length=32)(hm:m.length<=500000)(hs:sig.length=64):o8 Tryz.prog 62 [.agg (key.map o7),.sl o 1 (m.map o7),.agg (sig.map o7)] H (fun y H'=>y=.bool (aM7 key m sig)/\H'=H):=by
 have l1:(sig.take 32).length=32:=by rw[List.length_take];omega
 have l2:(sig.drop 32).length=32:=by rw[List.length_drop];omega
 have t1:((sig.map o7).take 32)=(sig.take 32).map o7:=b07.symm;have t2:((sig.map o7).drop 32)=(sig.drop 32).map o7:=List.map_drop.symm;have c1:=fun H=>d92 (sig.drop 32) H l2
 have c2:=fun H=>eR4 key H hk
 have l3:=bB5 bc4 key;have e3:aQ8 bc4 key=bo6 key:=rfl;rw[e3] at l3;unfold aM7;have c3:=fun H=>dF4 (o1:=.sh) (o2:=.sh) (o3:=o) (sig.take 32) key m H (by omega)
 have l4:=bb9 (sig.take 32++(key++m));unfold bo9 at c2;generalize bo6 key=n at*;generalize ax0 (sig.take 32++(key++m))=kk at*;have c4:=fun H=>eR5 kk n.1 (sig.drop 32) H l4 l3 l2
 have l5:=bB5 (bo7 kk (sig.drop 32)) n.1;have e5:aQ8 (bo7 kk (sig.drop 32)) n.1=bw4 kk n.1 (sig.drop 32):=rfl;rw[e5] at l5;unfold bo9 at c4;generalize bw4 kk n.1 (sig.drop 32)=p at*;cases hr:bF5 (sig.drop 32) with
 |false=>
  rw[hr] at c1;refine aw8 ab2 mixed [2000033,2000036,1000007,1000007003011,1000007004011,1000007005011,1000007006011,1000007007011] 1 (rs:=[.tmp 6]) (n:=46) Tryz.func62 rfl rfl rfl rfl (nlb rfl) (by kernel_rfl) ?_
  repeat' simp -dsimp -implicitDefEqProofs only[go_sem,ac1,hk,hs]
  refine b85 ab2 mixed [2000033,2000036,1000007,1000007003011,1000007004011,1000007005011,1000007006011,1000007007011] 0 28 6 2 (by kernel_rfl) ?_
  repeat' simp -dsimp -implicitDefEqProofs (disch:=omega) only[go_sem,ac1,hk,hs,t1,t2,l1,l2,aj7 l1,aj7 l2,t32 l1,t32 l2,b86,aP8,ar7]
  refine aG2 7 (H.length) rfl (by rw[aW1];rfl) ?_
  refine aG2 8 (H.length+1) rfl (by rw[bn5,aE0];rfl) ?_
  refine aE1 ab2 mixed [2000033,2000036,1000007,1000007003011,1000007004011,1000007005011,1000007006011,1000007007011] (by kernel_rfl) ?_
  repeat' first|refine o6 ?_|simp -dsimp -implicitDefEqProofs only[go_sem,ac1,hk,hs,l1,l2,l3,l4,l5,aj7 l3,aj7 l5,t32 l1,t32 l2,t32 l3,t32 l5,t32 hk]|refine o5 (c1 _) ?_|refine⟨_,c1 _,?_⟩|refine⟨_,_,c1 _,?_⟩|refine o5 (c2 _) ?_|refine⟨_,c2 _,?_⟩|refine⟨_,_,c2 _,?_⟩|refine o5 (c3 _) ?_|refine⟨_,c3 _,?_⟩|refine⟨_,_,c3 _,?_⟩|refine o5 (c4 _) ?_|refine⟨_,c4 _,?_⟩|refine⟨_,_,c4 _,?_⟩|fail
  exact aa5 (.bool false) (Le.refl _) (.lit _) ⟨by rw[aH0],rfl⟩
 |true=>
  rw[hr] at c1;rw[Bool.true_and];by_cases hn:n.2=0
  ·rw[decide_eq_true hn,Bool.true_and]
   have hnt:=eq_true hn;refine aw8 ab2 mixed [2000033,2000036,1000007,1000007003011,1000007004011,1000007005011,1000007006011,1000007007011] 1 (rs:=[.tmp 6]) (n:=46) Tryz.func62 rfl rfl rfl rfl (nlb rfl) (by kernel_rfl) ?_
   repeat' simp -dsimp -implicitDefEqProofs only[go_sem,ac1,hk,hs]
   refine b85 ab2 mixed [2000033,2000036,1000007,1000007003011,1000007004011,1000007005011,1000007006011,1000007007011] 0 28 6 2 (by kernel_rfl) ?_
   repeat' simp -dsimp -implicitDefEqProofs (disch:=omega) only[go_sem,ac1,hk,hs,t1,t2,l1,l2,aj7 l1,aj7 l2,t32 l1,t32 l2,b86,aP8,ar7]
   refine aG2 7 (H.length) rfl (by rw[aW1];rfl) ?_
   refine aG2 8 (H.length+1) rfl (by rw[bn5,aE0];rfl) ?_
   refine aE1 ab2 mixed [2000033,2000036,1000007,1000007003011,1000007004011,1000007005011,1000007006011,1000007007011] (by kernel_rfl) ?_
   repeat' first|refine o6 ?_|simp -dsimp -implicitDefEqProofs only[go_sem,ac1,hk,hs,l1,l2,l3,l4,l5,aj7 l3,aj7 l5,t32 l1,t32 l2,t32 l3,t32 l5,t32 hk,hnt]|refine o5 (c1 _) ?_|refine⟨_,c1 _,?_⟩|refine⟨_,_,c1 _,?_⟩|refine o5 (c2 _) ?_|refine⟨_,c2 _,?_⟩|refine⟨_,_,c2 _,?_⟩|refine o5 (c3 _) ?_|refine⟨_,c3 _,?_⟩|refine⟨_,_,c3 _,?_⟩|refine o5 (c4 _) ?_|refine⟨_,c4 _,?_⟩|refine⟨_,_,c4 _,?_⟩|refine vcA ?_ ?_|refine ac8 fun _=>?_
   ·rename_i hp
    exact aa5 (.bool (decide (p.1=sig.take 32))) (Le.refl _) (.lit _) ⟨by rw[decide_eq_true hp,Bool.true_and],rfl⟩
   ·rename_i hp
    exact aa5 (.bool false) (Le.refl _) (.lit _) ⟨by rw[decide_eq_false hp,aH0],rfl⟩
  ·rw[decide_eq_false hn,aH0]
   have hnf:=eq_false hn;refine aw8 ab2 mixed [2000033,2000036,1000007,1000007003011,1000007004011,1000007005011,1000007006011,1000007007011] 1 (rs:=[.tmp 6]) (n:=46) Tryz.func62 rfl rfl rfl rfl (nlb rfl) (by kernel_rfl) ?_
   repeat' simp -dsimp -implicitDefEqProofs only[go_sem,ac1,hk,hs]
   refine b85 ab2 mixed [2000033,2000036,1000007,1000007003011,1000007004011,1000007005011,1000007006011,1000007007011] 0 28 6 2 (by kernel_rfl) ?_
   repeat' simp -dsimp -implicitDefEqProofs (disch:=omega) only[go_sem,ac1,hk,hs,t1,t2,l1,l2,aj7 l1,aj7 l2,t32 l1,t32 l2,b86,aP8,ar7]
   refine aG2 7 (H.length) rfl (by rw[aW1];rfl) ?_
   refine aG2 8 (H.length+1) rfl (by rw[bn5,aE0];rfl) ?_
   refine aE1 ab2 mixed [2000033,2000036,1000007,1000007003011,1000007004011,1000007005011,1000007006011,1000007007011] (by kernel_rfl) ?_
   repeat' first|refine o6 ?_|simp -dsimp -implicitDefEqProofs only[go_sem,ac1,hk,hs,l1,l2,l3,l4,l5,aj7 l3,aj7 l5,t32 l1,t32 l2,t32 l3,t32 l5,t32 hk,hnf]|refine o5 (c1 _) ?_|refine⟨_,c1 _,?_⟩|refine⟨_,_,c1 _,?_⟩|refine o5 (c2 _) ?_|refine⟨_,c2 _,?_⟩|refine⟨_,_,c2 _,?_⟩|refine o5 (c3 _) ?_|refine⟨_,c3 _,?_⟩|refine⟨_,_,c3 _,?_⟩|refine o5 (c4 _) ?_|refine⟨_,c4 _,?_⟩|refine⟨_,_,c4 _,?_⟩|fail
   exact aa5 (.bool false) (Le.refl _) (.lit _) ⟨rfl,rfl⟩
end Ed
end
section
open Go V
namespace V
theorem cy2{m:Nat}{x:AV}(h:Low m x:=by(first|(first|exact .lit _|exact .str _|exact .any|exact af5|exact ah5|exact .mp _ _ (by omega)|exact .msl _ _ _ _ (by omega)|exact af6 (fun k e=>by cases e)|exact ae5 _|exact ak1|exact ak0|exact an0|exact am9 _)|(refine ah9 ?_;repeat(first|exact ac4|(refine aa3 ?_ ?_;focus(first|exact .lit _|exact .str _|exact .any|exact af5|exact ah5|exact .mp _ _ (by omega)|exact .msl _ _ _ _ (by omega)|exact af6 (fun k e=>by cases e)|exact ae5 _|exact ak1|exact ak0|exact an0|exact am9 _))))|(refine aB8 ?_;repeat(first|exact ac4|(refine aa3 ?_ ?_;focus(first|exact .lit _|exact .str _|exact .any|exact af5|exact ah5|exact .mp _ _ (by omega)|exact .msl _ _ _ _ (by omega)|exact af6 (fun k e=>by cases e)|exact ae5 _|exact ak1|exact ak0|exact an0|exact am9 _)))))):Low m x:=h
theorem dR0{P:Program}{ks:List Nat}{n:Nat}{c:Code}{Q:Exit->Env->List AObj->Prop}{env:Env}{H:List AObj}{α:Type}(I:α->Prop)(E:α->Env)(Hf:α->List AObj)(m:α->Nat)
  (round: ∀x,I x->AW P n c (Ex (fun env' H=>bm5 I (fun y=>E y++kept env ks) Hf m x env' H) Q) (E x++kept env ks) (Hf x)) (x:α) (hx:I x) (hE:aK2 env (E x++kept env ks)) (hH:H=Hf x):AW P n (.loop c) Q env H:=by
 intro ro N ds G a w s;subst hH;refine cj5 (fun k a' w'=> ∃y G',m y=k/\I y/\Sat n ds G' (E y++kept env ks) (Hf y) a' w'/\Step G (Hf x) w G' (Hf y) w') (fun k a' w' ⟨y,G',hk,hy,s',stp⟩=>?_) (m x) a w ⟨x,G,rfl,hx,s.le hE,.refl _ _ _⟩
 refine wpIn_mono (round y hy ro N ds G' a' w' s') fun e a'' w'' ⟨G'',env'',H'',s'',stp',q⟩=>?_
 cases e with
 |normal=>
  unfold Ex bm5 at q;obtain⟨z,h1,h2,h3⟩:=q;obtain⟨G3,hi3,st3,hr3⟩:=h3 G' w' G'' w'' (fun t=>a''.tmps.getD t undef) s'.inv s''.inv stp' s''.env
  exact⟨m z,hk▸h1,z,G3,rfl,h2,⟨s''.size,s''.defers,hr3,hi3⟩,stp.trans st3⟩
 |_=>exact⟨G'',env'',H'',s'',stp.trans stp',q⟩
theorem cz7{P:Program}{L:Tab}{n:Nat}{Q:Exit->Env->List AObj->Prop}{env:Env}{H:List AObj}(hL:ad9 P L)(hm:P.follows .mixedOrders=true)(mu:List Nat)(k:Nat){c:Code}(ho:okC mu n c=true)(h:bp3 P L mu n k c Q env H):AW P n c Q env H:=aW6 hL hm k c ho h
end V
theorem ce9{m k s:Nat}{l:List UInt8}(h:k < m):Low m (.sl (.tok k) s (l.map o7)):=bl8 (fun x hx=>by
 obtain⟨b,_,rfl⟩:=xq6.1 hx;exact⟨_,rfl⟩) (fun j e=>by cases e;exact h)
def sxt(letters s:bytes)(n i:Nat):Int:=if i < n then aD9 letters (s.getD i 0) else 0
def aC0(letters s:bytes)(n:Nat):Nat->Nat
 |0=>0
 |i+1=>aC0 letters s n i*64+(sxt letters s n i).toNat
def cg7(letters s:bytes)(n:Nat):Bool:=(List.range 4).any fun i=>decide (sxt letters s n i < 0)
def bd6(b:Nat):bytes:=[UInt8.ofNat (b/65536),UInt8.ofNat (b/256),UInt8.ofNat b]
def unB(letters:bytes):Nat->bytes->bytes->bytes×Int
 |0,_,out=>(out,0)
 |k+1,s,out=>if s=[] then(out,0) else if cg7 letters s (min 4 s.length)=true then([],2)
   else if min 4 s.length=1\/ ¬aC0 letters s (min 4 s.length) 4%2^(8*(4 - min 4 s.length))=0 then([],2)
   else unB letters k (s.drop (min 4 s.length)) (out++(bd6 (aC0 letters s (min 4 s.length) 4)).take (min 4 s.length - 1))
def aZ5(letters s:bytes):bytes×Int:=unB letters s.length s []
def aG6(p:bytes×Int):AV:=.tup [.sl .sh 1 (p.1.map o7),.lit (.int .i64 p.2)]
theorem bn4{m:Nat}{p:bytes×Int}:Low m (aG6 p):=ah9 (aa3 af5 (aa3 (.lit _) ac4))
theorem eo1(letters:bytes)(c:UInt8):aD9 letters c < letters.length\/aD9 letters c < 0:=by
 unfold aD9;split
 ·left;omega
 ·right;omega
theorem dy5{letters s:bytes}{n i:Nat}(hl:letters.length=64):sxt letters s n i < 64:=by
 unfold sxt;split
 ·have:=eo1 letters (s.getD i 0)
  omega
 ·omega
theorem cz4{letters s:bytes}{n:Nat}(hl:letters.length=64): ∀i,aC0 letters s n i < 64^i
 |0=>by show 0 < _;decide
 |i+1=>by
  have h1:=cz4 (s:=s) (n:=n) hl i;have h2:=dy5 (s:=s) (n:=n) (i:=i) hl;rw[aC0,aM5];omega
theorem eb5{b v:Nat}(hb:b < 16777216)(hv:v < 64):IntKind.i64.wrap (((BitVec.ofInt IntKind.i64.bits ((b:Int)*64)|||BitVec.ofInt IntKind.i64.bits (v:Int)).toNat:Nat):Int)=((b*64+v:Nat):Int):=by
 show IntKind.i64.wrap (((BitVec.ofInt 64 ((b:Int)*64)|||BitVec.ofInt 64 (v:Int)).toNat:Nat):Int)=_
 have h2:b*64+v=b*64|||v:=by
  have:=ci7 (b:=v) (i:=6) (by omega) b
  rw[show 2^6*b=b*64 by omega] at this
  exact this
 rw[show (b:Int)*64=((b*64:Nat):Int) by omega,cu1 (w:=64) (by omega) (by omega),<-h2,IntWalk.i64_in _ (by omega)]
theorem cz9(m:Nat)(hm:m<=16){b:Nat}(hb:b < 16777216):IntKind.i64.wrap (((BitVec.ofInt IntKind.i64.bits (b:Int)&&&BitVec.ofInt IntKind.i64.bits (2^m - 1)).toNat:Nat):Int)=((b%2^m:Nat):Int):=by
 have h:=bo5 (k:=64) (m:=m) (a:=(b:Int)) (by omega) (by omega) (by omega)
 have e:((b%2^m:Nat):Int)=(b:Int)%2^m:=by simp
 rw[e];refine(congrArg IntKind.i64.wrap h).trans ?_;rw[<-e];have:b%2^m<=b:=Nat.mod_le _ _;exact IntWalk.i64_in _ (by omega)
theorem cX9(letters s:bytes)(H:List AObj)(hL:letters.length=64)(hs:s.length<=1000000):o8 Tryz.prog 102 [.str letters,.str s] H (fun y H'=>y=aG6 (aZ5 letters s)/\H'=H):=by
 unfold aZ5;generalize hR:unB letters s.length s []=R;refine y8 [] [.tmp 4,.tmp 5] 65 Tryz.func102 ?_;repeat' simp -dsimp -implicitDefEqProofs only[go_sem]
 refine bI7 6 1 rfl (by decide) (fun h=>absurd rfl h) ?_
 refine dR0 (ks:=[]) (fun x:Nat×bytes×bytes=>x.2.1.length<=x.1/\x.1<=1000000/\x.2.2.length+x.2.1.length<=1000000/\unB letters x.1 x.2.1 x.2.2=R) (fun x=>[(0,.str letters),(1,.str x.2.1),(6,.sl (.tok H.length) 1 (x.2.2.map o7))]) (fun x=>H++[.grow 1 x.2.2.length none]) (fun x=>x.1) ?_ (s.length,s,[]) ⟨xq0 _,hs,by simpa using hs,hR⟩ y9 rfl
 rintro⟨k,s,out⟩ ⟨hk,hk2,ho,hI⟩
 dsimp only at*;refine cz7 ab2 mixed [] 1 (by kernel_rfl) ?_
 by_cases h0:s=[]
 ·subst h0
  have hIR:R=(out,0):=by
   rw[<-hI];cases k<;>simp[unB]
  subst hIR;repeat' first|refine o6 ?_|simp -dsimp -implicitDefEqProofs only[go_sem]
  exact aa5 (aG6 (out,0)) (aL7 (LeAll.cons aG7 (LeAll.cons (Le.refl _) LeAll.nil))) bn4 ⟨rfl,rfl⟩
 ·have h0c:=eq_false h0
  have hsp:0 < s.length:=aR1.2 h0;obtain⟨k,rfl⟩: ∃j,k=j+1:=⟨k - 1,by omega⟩
  rw[unB,if_neg h0] at hI;have hmin:min (4:Int) (s.length:Int)=((min 4 s.length:Nat):Int):=by omega
  have hn1:1<=min 4 s.length:=by omega
  have hn4:min 4 s.length<=4:=by omega
  have hns:min 4 s.length<=s.length:=by omega
  repeat' first|refine o6 ?_|simp -dsimp -implicitDefEqProofs only[go_sem,h0c,hmin]
  refine cZ1 ?_;refine cz7 ab2 mixed [] 7 (by kernel_rfl) ?_
  repeat' simp -dsimp -implicitDefEqProofs only[go_sem,h0c,hmin]
  generalize min 4 s.length=n at*;refine aa8 ab2 mixed [] [] (fun i:Nat=>i<=4/\ ∀j,j < i->0<=sxt letters s n j) (fun i=>[(17,.lit (.int .i64 i)),(8,.lit (.int .i64 ((aC0 letters s n i:Nat):Int))),(0,.str letters),(1,.str s),(6,.sl (.tok H.length) 1 (out.map o7)),(7,.lit (.int .i64 n))]) (fun _=>H++[.grow 1 out.length none]) (fun i=>4 - i) (by kernel_rfl) ?_ 0 ⟨by omega,fun j h=>by omega⟩ y9 rfl
  rintro i ⟨hi,hpos⟩
  have hi:i<=4:=hi;by_cases h4:i < 4
  ·have hic:((i:Int) < 4)=True:=eq_true (by omega)
   have hb:=cz4 (s:=s) (n:=n) hL i;have hbn:aC0 letters s n (i+1)=aC0 letters s n i*64+(sxt letters s n i).toNat:=rfl;have hsl:=dy5 (s:=s) (n:=n) (i:=i) hL;have hbb:aC0 letters s n i < 262144:=aC3 hb (by
    have:64^i<=64^3:=b08 (by decide) (by omega)
    exact this)
   have cI:=fun H=>aP5 letters (s.getD i 0) H
   have hx:sxt letters s n i=if i < n then aD9 letters (s.getD i 0) else 0:=rfl
   by_cases hin:i < n
   ·have hinc:((i:Int) < (n:Int))=True:=eq_true (by omega)
    have hlt:(i:Int).toNat=i:=by omega
    rw[if_pos hin] at hx;rw[<-hx] at cI;by_cases hneg:sxt letters s n i < 0
    ·have hngc:=eq_true hneg
     have hbad:cg7 letters s n=true:=by
      unfold cg7;rw[bK3];exact⟨i,ba0.2 h4,decide_eq_true hneg⟩
     rw[if_pos hbad] at hI;repeat' first|refine o6 ?_|simp -dsimp -implicitDefEqProofs only[go_sem,hic,hinc,hngc]|refine o5 (cI _) ?_|refine vcA ?_ ?_|omega
     subst hI;exact aa5 (aG6 ([],2)) (aL7 (LeAll.cons ao3 (LeAll.cons (Le.refl _) LeAll.nil))) bn4 ⟨rfl,rfl⟩
    ·have hngc:=eq_false hneg
     have hor:=eb5 (b:=aC0 letters s n i) (v:=(sxt letters s n i).toNat) (by omega) (by omega)
     rw[show (((sxt letters s n i).toNat:Nat):Int)=sxt letters s n i by omega] at hor
     have hpos': ∀j,j < i+1->0<=sxt letters s n j:=fun j hj=>by
      rcases an9 j i with h|h
      ·exact hpos j h
      ·obtain rfl:j=i:=by omega
       omega
     repeat' first|refine o6 ?_|simp -dsimp -implicitDefEqProofs (disch:=omega) only[go_sem,hic,hinc,hngc,hor]|refine o5 (cI _) ?_|refine vcA ?_ ?_|omega
     rw[<-hbn];refine again (i+1) ?_ ?_ rfl y9
     ·omega
     ·exact⟨by omega,hpos'⟩
   ·have hinc:((i:Int) < (n:Int))=False:=eq_false (by omega)
    rw[if_neg hin] at hx;rw[hx] at hbn;have hor:IntKind.i64.wrap (((BitVec.ofInt IntKind.i64.bits ((aC0 letters s n i:Int)*64)|||BitVec.ofInt IntKind.i64.bits 0).toNat:Nat):Int)=((aC0 letters s n i*64+0:Nat):Int):=eb5 (v:=0) (by omega) (by omega)
    rw[show aC0 letters s n i*64+0=aC0 letters s n (i+1) from hbn.symm] at hor
    repeat' first|refine o6 ?_|simp -dsimp -implicitDefEqProofs (disch:=omega) only[go_sem,hic,hinc,hor]
    refine again (i+1) ?_ ?_ rfl y9
    ·omega
    ·refine⟨by omega,fun j hj=>?_⟩
     rcases an9 j i with h|h
     ·exact hpos j h
     ·obtain rfl:j=i:=by omega
      omega
  ·obtain rfl:i=4:=by omega
   have hbad:cg7 letters s n=false:=by
    unfold cg7;rw[cH5];intro j hj;have:=hpos j (ba0.1 hj);simpa using this
   rw[hbad,if_neg (by decide)] at hI
   have hb:=cz4 (s:=s) (n:=n) hL 4;have hb:aC0 letters s n 4 < 16777216:=hb;generalize aC0 letters s n 4=b at*;have u8b: ∀x:Nat,IntKind.u8.wrap (x:Int)=((UInt8.ofNat x).toNat:Int):=fun x=>by simp[IntKind.wrap,IntKind.signed,IntKind.bits]
   have hg:[AV.lit (.int .u8 ((UInt8.ofNat (b/65536)).toNat:Int)),.lit (.int .u8 ((UInt8.ofNat (b/256)).toNat:Int)),.lit (.int .u8 ((UInt8.ofNat b).toNat:Int))]=(bd6 b).map o7:=rfl;have hon:ones [AV.lit (.int .u8 ((UInt8.ofNat (b/65536)).toNat:Int)),.lit (.int .u8 ((UInt8.ofNat (b/256)).toNat:Int)),.lit (.int .u8 ((UInt8.ofNat b).toNat:Int))]=True:=by rw[hg];exact cp7
   have htk: ∀j,out.map o7++List.take j [AV.lit (.int .u8 ((UInt8.ofNat (b/65536)).toNat:Int)),.lit (.int .u8 ((UInt8.ofNat (b/256)).toNat:Int)),.lit (.int .u8 ((UInt8.ofNat b).toNat:Int))]=(out++(bd6 b).take j).map o7:=fun j=>by rw[hg,<-b07,<-b34]
   have ht3:out.map o7++[AV.lit (.int .u8 ((UInt8.ofNat (b/65536)).toNat:Int)),.lit (.int .u8 ((UInt8.ofNat (b/256)).toNat:Int)),.lit (.int .u8 ((UInt8.ofNat b).toNat:Int))]=(out++(bd6 b).take 3).map o7:=htk 3;have hgl:(bd6 b).length=3:=rfl;have hdl:(s.drop n).length<=k:=by rw[List.length_drop];omega
   rcases(by omega:n=1\/n=2\/n=3\/n=4) with rfl|rfl|rfl|rfl
   ·rw[if_pos (.inl rfl)] at hI
    repeat' first|refine o6 ?_|simp -dsimp -implicitDefEqProofs (disch:=(simp only[ll];omega)) only[go_sem]|refine vcA ?_ ?_|omega
    subst hI;exact aa5 (aG6 ([],2)) (aL7 (LeAll.cons ao3 (LeAll.cons (Le.refl _) LeAll.nil))) bn4 ⟨rfl,rfl⟩
   ·have hm:IntKind.i64.wrap (((BitVec.ofInt IntKind.i64.bits (b:Int)&&&BitVec.ofInt IntKind.i64.bits 65535).toNat:Nat):Int)=((b%65536:Nat):Int):=cz9 16 (by decide) hb
    by_cases hz:b%65536=0
    ·rw[if_neg (by intro h;rcases h with h|h;omega;exact h hz)] at hI
     have hm:_=(0:Int):=hm.trans (congrArg Int.ofNat hz);repeat' first|refine o6 ?_|simp -dsimp -implicitDefEqProofs (disch:=first|omega|simp only[ll];omega) only[go_sem,hm,u8b]|refine vcA ?_ ?_|omega
     refine aG2 11 (H.length+1) rfl (by rw[aE0];rfl) ?_
     refine aE1 ab2 mixed [] (by kernel_rfl) ?_
     repeat' first|simp -dsimp -implicitDefEqProofs (disch:=omega) only[go_sem,hon,htk]|refine vcA ?_ ?_|omega
     refine an7 (H.length+1) ([.gone]) ((k,s.drop 2,out++(bd6 b).take 1)) ?_ ?_ ?_ ?_ ?_ (by repeat(first|exact ah0|(refine ag1 ?_ ?_;focus(first|exact ce9 (by omega)|exact cy2)))) ?_ y9
     ·dsimp only;omega
     ·exact⟨hdl,by omega,by simp only[List.length_append,List.length_take,List.length_drop,hgl];omega,hI⟩
     ·simp[hgl]
     ·simp
     ·simp
     ·exact a15 fun o ho sh cs e=>by
       subst e;simp at ho
    ·rw[if_pos (.inr hz)] at hI
     have hzc:(((b%65536:Nat):Int)=0)=False:=eq_false (by omega)
     repeat' first|refine o6 ?_|simp -dsimp -implicitDefEqProofs (disch:=first|omega|simp only[ll];omega) only[go_sem,hm,hzc,u8b]|refine vcA ?_ ?_|omega
     subst hI;exact aa5 (aG6 ([],2)) (aL7 (LeAll.cons ao3 (LeAll.cons (Le.refl _) LeAll.nil))) bn4 ⟨rfl,rfl⟩
   ·have hm:IntKind.i64.wrap (((BitVec.ofInt IntKind.i64.bits (b:Int)&&&BitVec.ofInt IntKind.i64.bits 255).toNat:Nat):Int)=((b%256:Nat):Int):=cz9 8 (by decide) hb
    by_cases hz:b%256=0
    ·rw[if_neg (by intro h;rcases h with h|h;omega;exact h hz)] at hI
     have hm:_=(0:Int):=hm.trans (congrArg Int.ofNat hz);repeat' first|refine o6 ?_|simp -dsimp -implicitDefEqProofs (disch:=first|omega|simp only[ll];omega) only[go_sem,hm,u8b]|refine vcA ?_ ?_|omega
     refine aG2 11 (H.length+1) rfl (by rw[aE0];rfl) ?_
     refine aE1 ab2 mixed [] (by kernel_rfl) ?_
     repeat' first|simp -dsimp -implicitDefEqProofs (disch:=omega) only[go_sem,hon,htk]|refine vcA ?_ ?_|omega
     refine an7 (H.length+1) ([.gone]) ((k,s.drop 3,out++(bd6 b).take 2)) ?_ ?_ ?_ ?_ ?_ (by repeat(first|exact ah0|(refine ag1 ?_ ?_;focus(first|exact ce9 (by omega)|exact cy2)))) ?_ y9
     ·dsimp only;omega
     ·exact⟨hdl,by omega,by simp only[List.length_append,List.length_take,List.length_drop,hgl];omega,hI⟩
     ·simp[hgl]
     ·simp
     ·simp
     ·exact a15 fun o ho sh cs e=>by
       subst e;simp at ho
    ·rw[if_pos (.inr hz)] at hI
     have hzc:(((b%256:Nat):Int)=0)=False:=eq_false (by omega)
     repeat' first|refine o6 ?_|simp -dsimp -implicitDefEqProofs (disch:=first|omega|simp only[ll];omega) only[go_sem,hm,hzc,u8b]|refine vcA ?_ ?_|omega
     subst hI;exact aa5 (aG6 ([],2)) (aL7 (LeAll.cons ao3 (LeAll.cons (Le.refl _) LeAll.nil))) bn4 ⟨rfl,rfl⟩
   ·have hm:IntKind.i64.wrap (((BitVec.ofInt IntKind.i64.bits (b:Int)&&&BitVec.ofInt IntKind.i64.bits 0).toNat:Nat):Int)=((b%1:Nat):Int):=cz9 0 (by decide) hb
    have hz:b%1=0:=by omega
    rw[if_neg (by intro h;rcases h with h|h;omega;exact h hz)] at hI
    have hm:_=(0:Int):=hm.trans (congrArg Int.ofNat hz);repeat' first|refine o6 ?_|simp -dsimp -implicitDefEqProofs (disch:=first|omega|simp only[ll];omega) only[go_sem,hm,u8b]|refine vcA ?_ ?_|omega
    refine aG2 11 (H.length+1) rfl (by rw[aE0];rfl) ?_
    refine aE1 ab2 mixed [] (by kernel_rfl) ?_
    repeat' first|simp -dsimp -implicitDefEqProofs (disch:=first|omega|simp only[ll];omega) only[go_sem,hon,ht3]|refine vcA ?_ ?_|omega
    refine an7 (H.length+1) ([.gone]) ((k,s.drop 4,out++(bd6 b).take 3)) ?_ ?_ ?_ ?_ ?_ (by repeat(first|exact ah0|(refine ag1 ?_ ?_;focus(first|exact ce9 (by omega)|exact cy2)))) ?_ y9
    ·dsimp only;omega
    ·exact⟨hdl,by omega,by simp only[List.length_append,List.length_take,List.length_drop,hgl];omega,hI⟩
    ·simp[hgl]
    ·simp
    ·simp
    ·exact a15 fun o ho sh cs e=>by
      subst e;simp at ho
end
section
open Go V
def aJ5(s:bytes)(c:UInt8):bytes×bytes×Bool:=if s.idxOf c < s.length then(s.take (s.idxOf c),s.drop (s.idxOf c+1),true) else(s,[],false)
def b77(p:bytes×bytes×Bool):AV:=.tup [.str p.1,.str p.2.1,.bool p.2.2]
def bN5(s w:bytes):bytes×Bool:=if w.isPrefixOf s then(s.drop w.length,true) else(s,false)
theorem d26(c:UInt8):aD9 [c] c=0:=by simp[aD9]
theorem dw3(s:bytes)(c:UInt8)(H:List AObj):o8 Tryz.prog 176 [.str s,.str [c]] H (fun y H'=>y=.lit (.int .i64 (aD9 s c))/\H'=H):=by
 by_cases h:s=[c]
 ·have hc:([c]=s)=True:=eq_true h.symm
  rw[h,d26];refine y8 [] [.tmp 4] 143 Tryz.func176 ?_;repeat' first|refine o6 ?_|simp -dsimp -implicitDefEqProofs only[go_sem]
  exact o9 ⟨rfl,rfl⟩
 ·have hc:([c]=s)=False:=eq_false fun e=>h e.symm
  refine y8 [] [.tmp 4] 143 Tryz.func176 ?_;repeat' first|refine o6 ?_|simp -dsimp -implicitDefEqProofs only[go_sem,hc]|refine o5 (cc4 _ _ _) ?_|fail
  exact o9 ⟨rfl,rfl⟩
theorem eR7(s:bytes)(c:UInt8)(H:List AObj)(hs:s.length<=100000000):o8 Tryz.prog 127 [.str s,.str [c]] H (fun y H'=>y=b77 (aJ5 s c)/\H'=H):=by
 have cI:=fun H=>dw3 s c H
 unfold aJ5;unfold aD9 at cI;by_cases h:s.idxOf c < s.length
 ·rw[if_pos h] at cI⊢
  have e:((s.idxOf c:Int)+1).toNat=s.idxOf c+1:=by omega
  refine y8 [1000003] [.tmp 4,.tmp 5,.tmp 6] 23 Tryz.func127 ?_;repeat' first|refine o6 ?_|simp -dsimp -implicitDefEqProofs (disch:=first|omega|simp only[ll];omega) only[go_sem,e]|refine o5 (cI _) ?_|refine vcA ?_ ?_|omega
  exact o9 ⟨rfl,rfl⟩
 ·rw[if_neg h] at cI⊢
  refine y8 [1000003] [.tmp 4,.tmp 5,.tmp 6] 23 Tryz.func127 ?_;repeat' first|refine o6 ?_|simp -dsimp -implicitDefEqProofs only[go_sem]|refine o5 (cI _) ?_|fail
  exact o9 ⟨rfl,rfl⟩
theorem dw4(s:bytes)(c:UInt8)(H:List AObj)(hs:s.length<=100000000):o8 Tryz.prog 69 [.str s,.str [c]] H (fun y H'=>y=b77 (aJ5 s c)/\H'=H):=by
 have cI:=fun H=>eR7 s c H hs
 unfold b77 at cI;refine y8 [] [.tmp 4,.tmp 5,.tmp 6] 13 Tryz.func69 ?_;repeat' first|simp -dsimp -implicitDefEqProofs only[go_sem]|refine o5 (cI _) ?_|fail
 exact o9 ⟨rfl,rfl⟩
theorem c07(l w:List UInt8)(H:List AObj)(hw:w.length<=1000):o8 Tryz.prog 173 [.str l,.str w] H (fun x H'=>x=.bool (w.isPrefixOf l)/\H'=H):=by
 refine y8 [] [.tmp 4] 18 Tryz.func173 ?_;repeat' first|refine o6 ?_|simp -dsimp -implicitDefEqProofs only[go_sem]|refine vcA ?_ ?_|omega|refine ac8 fun _=>?_
 ·rename_i h
  refine o9 ⟨ae6 ?_,rfl⟩;rw[bb5,decide_eq_decide];constructor
  ·intro h2;exact⟨by omega,h2⟩
  ·intro h2;exact h2.2
 ·rename_i h
  refine o9 ⟨ae6 ?_,rfl⟩;rw[bb5,decide_eq_false];omega
theorem db1(s w:bytes)(H:List AObj)(hw:w.length<=100):o8 Tryz.prog 177 [.str s,.str w] H (fun y H'=>y=.tup [.str (bN5 s w).1,.bool (bN5 s w).2]/\H'=H):=by
 have cI:=fun H=>c07 s w H (by omega)
 unfold bN5;cases h:w.isPrefixOf s with
 |true=>
  rw[h] at cI;have hl:w.length<=s.length:=by
   rw[bb5,decide_eq_true_eq] at h;exact h.1
  refine y8 [] [.tmp 4,.tmp 5] 15 Tryz.func177 ?_;repeat' first|refine o6 ?_|simp -dsimp -implicitDefEqProofs (disch:=(simp only[ll];omega)) only[go_sem]|refine o5 (cI _) ?_|refine vcA ?_ ?_|omega
  exact o9 ⟨rfl,rfl⟩
 |false=>
  rw[h] at cI;refine y8 [] [.tmp 4,.tmp 5] 15 Tryz.func177 ?_;repeat' first|refine o6 ?_|simp -dsimp -implicitDefEqProofs only[go_sem]|refine o5 (cI _) ?_|fail
  exact o9 ⟨rfl,rfl⟩
theorem cc5(s w:bytes)(H:List AObj)(hw:w.length<=100):o8 Tryz.prog 130 [.str s,.str w] H (fun y H'=>y=.tup [.str (bN5 s w).1,.bool (bN5 s w).2]/\H'=H):=by
 refine y8 [] [.tmp 4,.tmp 5] 11 Tryz.func130 ?_;repeat' first|simp -dsimp -implicitDefEqProofs only[go_sem]|refine o5 (db1 _ _ _ hw) ?_|fail
 exact o9 ⟨rfl,rfl⟩
def b50:bytes:=[65,66,67,68,69,70,71,72,73,74,75,76,77,78,79,80,81,82,83,84,85,86,87,88,89,90,97,98,99,100,101,102,103,104,105,106,107,108,109,110,111,112,113,114,115,116,117,118,119,120,121,122,48,49,50,51,52,53,54,55,56,57,45,95]
theorem ea3(s:bytes)(H:List AObj)(hs:s.length<=1000000):o8 Tryz.prog 61 [.str s] H (fun y H'=>y=aG6 (aZ5 aa6 s)/\H'=H):=by
 have c:=fun H=>cX9 aa6 s H rfl hs
 generalize aZ5 aa6 s=R at*;unfold aG6 at*;unfold aa6 at c;refine y8 [] [.tmp 2,.tmp 3] 8 Tryz.func61 ?_;repeat' first|simp -dsimp -implicitDefEqProofs only[go_sem]|refine o5 (c _) ?_|fail
 exact o9 ⟨rfl,rfl⟩
theorem d90(s:bytes)(H:List AObj)(hs:s.length<=1000000):o8 Tryz.prog 132 [.str s] H (fun y H'=>y=aG6 (aZ5 b50 s)/\H'=H):=by
 have c:=fun H=>cX9 b50 s H rfl hs
 generalize aZ5 b50 s=R at*;unfold aG6 at*;unfold b50 at c;refine y8 [] [.tmp 2,.tmp 3] 8 Tryz.func132 ?_;repeat' first|simp -dsimp -implicitDefEqProofs only[go_sem]|refine o5 (c _) ?_|fail
 exact o9 ⟨rfl,rfl⟩
theorem eL6(H:List AObj):o8 Tryz.prog 131 [.lit (.int .i64 32)] H (fun y H'=>y=.lit (.int .i64 43)/\H'=H):=by
 refine y8 [] [.tmp 2] 13 Tryz.func131 ?_;repeat' first|refine o6 ?_|simp -dsimp -implicitDefEqProofs (disch:=omega) only[go_sem]
 exact o9 ⟨rfl,rfl⟩
end
section
open Go V
def rhoC:Go.Shelf.Ren where
 f n:=if n=143 then 128 else if n=144 then 71 else if n=217 then 185 else if n=219 then 176 else if n=224 then 214 else if n=225 then 213 else if n=266 then 219 else if n=267 then 215 else 235
 t n:=if n=46 then 144 else if n=51 then 219 else if n=146 then 272 else n
 g _:=9
theorem laysC:Lays.n144 Tryz.prog rhoC where
 mixed:=mixed
 f143:=by kernel_rfl
 f144:=by kernel_rfl
 f217:=by kernel_rfl
 f219:=by kernel_rfl
 f224:=by kernel_rfl
 f225:=by kernel_rfl
 f266:=by kernel_rfl
 f267:=by kernel_rfl
 f314:=by kernel_rfl
 t3:=by kernel_rfl
 a3:=fun _=>rfl
 z3:=fun _=>rfl
 v3:=fun _=>rfl
 t4:=by kernel_rfl
 a4:=fun _=>rfl
 z4:=fun _=>rfl
 v4:=fun _=>rfl
 t5:=by kernel_rfl
 a5:=fun _=>rfl
 z5:=fun _=>rfl
 v5:=fun _=>rfl
 t9:=by kernel_rfl
 a9:=fun _=>rfl
 z9:=fun _=>rfl
 v9:=fun _=>rfl
 t46:=by kernel_rfl
 a46:=fun _=>rfl
 z46:=fun _=>rfl
 v46:=fun _=>rfl
 t51:=by kernel_rfl
 a51:=fun _=>rfl
 z51:=fun _=>rfl
 v51:=fun _=>rfl
 t146:=by kernel_rfl
 a146:=fun _=>rfl
 z146:=fun _=>rfl
 v146:=fun _=>rfl
 g1:=by kernel_rfl
theorem bS6(s u:bytes)(H:List AObj)(hs:s.length<=1000000):o8 Tryz.prog 71 [.str s,.str u] H (fun y H'=>y=.bool (Lib.contains s u)/\H'=H):=by
 refine cA1 Tryz.func71 rfl rfl fun G w vs hi ha=>?_
 obtain⟨m,hm⟩:=(hi.tabs.1.2.2 9 rfl).2;have e:vs= #[.string ⟨s.toArray⟩,.string ⟨u.toArray⟩]:=by
  obtain⟨vl⟩:=vs;match vl,ha with
  |[v1,v2],h=>
   have h1:=as2 (h.2 0 _ v1 rfl rfl);have h2:=as2 (h.2 1 _ v2 rfl rfl);rw[h1,h2]
  |[],h=>exact absurd h.1 (by simp)
  |[_],h=>exact absurd h.1 (by simp)
  |_::_::_::_,h=>exact absurd h.1 (by simp)
 subst e;refine(Any.strings_Contains laysC ⟨s.toArray⟩ ⟨u.toArray⟩ m w (by simp only[ByteArray.size,aR2];omega) hm).mono ?_
 rintro e w' ⟨rfl,rfl⟩
 exact⟨_,.bool (Lib.contains s u),rfl,.refl _,fun _ _ _=>.lit _,rfl,rfl⟩
end
section
open Go V
namespace Id
def aV1(k:UInt8):bytes×Nat:=if k.toNat=64 then([97,98,99,100,101,102,103,104,105,106,107,108,109,110,111,112,113,114,115,116,117,118,119,120,121,122,48,49,50,51,52,53,54,55,56,57,46,95,61,47,43,45],200) else if k.toNat=33 then([97,98,99,100,101,102,103,104,105,106,107,108,109,110,111,112,113,114,115,116,117,118,119,120,121,122,65,66,67,68,69,70,71,72,73,74,75,76,77,78,79,80,81,82,83,84,85,86,87,88,89,90,48,49,50,51,52,53,54,55,56,57],64) else if k.toNat=58 then([48,49,50,51,52,53,54,55,56,57],5) else([97,98,99,100,101,102,103,104,105,106,107,108,109,110,111,112,113,114,115,116,117,118,119,120,121,122,65,66,67,68,69,70,71,72,73,74,75,76,77,78,79,80,81,82,83,84,85,86,87,88,89,90,48,49,50,51,52,53,54,55,56,57,46,45],230)
def bw8(g:bytes×Nat):AV:=.agg [.str g.1,.lit (.int .i64 g.2)]
def br1(g:bytes×Nat)(s:bytes):Bool:=decide (s≠[])&&(decide (s.length<=g.2)&&s.all g.1.contains)
def cV1(g:bytes×Nat):Bool:=decide (1 < g.1.length)&&decide (g.1.length<=1000)&&g.1.all fun c=>decide (c.toNat < 128)
theorem cx4(k:UInt8):cV1 (aV1 k)=true:=by
 unfold aV1;split
 ·decide
 ·split
  ·decide
  ·split<;>decide
def cJ5(s:bytes):Bool:=br1 (aV1 0) s&&(decide (aJ9 ([46,45]:bytes).contains (aG4 ([46,45]:bytes).contains s)=s)&&!Lib.contains s [46,46])
def aU7(s:bytes):Bool:=cJ5 (aJ5 s 58).1&&(!(aJ5 s 58).2.2||br1 (aV1 58) (aJ5 s 58).2.1)
def ay5(k:UInt8)(s:bytes):Bool:=decide (s.length<=255)&&(decide (s.head?=some k)&&((aJ5 (s.drop 1) 58).2.2&&(br1 (aV1 k) (aJ5 (s.drop 1) 58).1&&aU7 (aJ5 (s.drop 1) 58).2.1)))
def bH9(s:bytes):Bool:=decide (s.head?=some 36)&&(decide (s.length=44)&&decide ((aZ5 b50 (s.drop 1)).2=0))
def splitB(s:bytes):bytes×bytes×Int:=if ay5 64 s||ay5 33 s then((aJ5 (s.drop 1) 58).1,(aJ5 (s.drop 1) 58).2.1,0) else([],[],2)
theorem eA4(g s:bytes)(H:List AObj)(hs:s.length<=1000000):o8 Tryz.prog 175 [.str s,.str g] H (fun y H'=>y=.bool (s.all g.contains)/\H'=H):=by
 generalize hR:s.all g.contains=R;refine y8 [] [.tmp 4] 18 Tryz.func175 ?_;repeat' simp -dsimp -implicitDefEqProofs only[go_sem]
 refine aa8 ab2 mixed [] [0,1,7] (fun i:Nat=>i<=s.length/\(s.drop i).all g.contains=R) (fun i=>[(8,.lit (.int .i64 i))]) (fun _=>H) (fun i=>s.length - i) (by kernel_rfl) ?_ 0 ⟨by omega,hR⟩ y9 rfl
 rintro i ⟨hi,hI⟩
 by_cases h:i < s.length
 ·have hc:((i:Int) < (s.length:Int))=True:=eq_true (by omega)
  rw[bC9 h,List.all_cons] at hI;have hg:s.getD i 0=s[i]:=by simp[List.getD,h]
  rw[<-hg] at hI;have cI:=fun H=>aP5 g (s.getD i 0) H
  unfold aD9 at cI;by_cases h1:g.idxOf (s.getD i 0) < g.length
  ·rw[if_pos h1] at cI
   have hk:g.contains (s.getD i 0)=true:=by
    rw[ci6];exact cG6.1 h1
   rw[hk,Bool.true_and] at hI;repeat' first|refine o6 ?_|simp -dsimp -implicitDefEqProofs (disch:=omega) only[go_sem,hc]|refine o5 (cI _) ?_|refine vcA ?_ ?_|omega
   refine again (i+1) ?_ ?_ rfl y9
   ·omega
   ·exact⟨by omega,hI⟩
  ·rw[if_neg h1] at cI
   have hk:g.contains (s.getD i 0)=false:=by
    rw[<-Bool.not_eq_true,ci6];exact fun m=>h1 (cG6.2 m)
   rw[hk,aH0] at hI;subst hI;repeat' first|refine o6 ?_|simp -dsimp -implicitDefEqProofs only[go_sem,hc]|refine o5 (cI _) ?_|fail
   exact o9 ⟨rfl,rfl⟩
 ·have hc:((i:Int) < (s.length:Int))=False:=eq_false (by omega)
  rw[bg0 (by omega)] at hI
  subst hI;repeat' first|refine o6 ?_|simp -dsimp -implicitDefEqProofs only[go_sem,hc]
  exact o9 ⟨rfl,rfl⟩
theorem cW9(g:bytes×Nat)(s:bytes)(H:List AObj)(hg:cV1 g=true)(hs:s.length<=10000):o8 Tryz.prog 126 [bw8 g,.str s] H (fun y H'=>y=.bool (br1 g s)/\H'=H):=by
 obtain⟨b,n⟩:=g;unfold cV1 at hg;simp only[xq3,decide_eq_true_eq,xq5] at hg;obtain⟨⟨h1,h2⟩,h3⟩:=hg;have cT:=fun H=>dP4 s b H (by omega) h1 h2 (fun i hi=>by
  have:b.getD i 0=b[i]:=by simp[List.getD,hi]
  rw[this];exact h3 _ (aR4 hi))
 have cO:=fun H=>eA4 b s H (by omega)
 unfold bw8 br1;dsimp only;have ht:aJ9 b.contains (aG4 b.contains s)=[]↔s.all b.contains=true:=dx7;generalize aJ9 b.contains (aG4 b.contains s)=T at*;generalize s.all b.contains=A at*;by_cases h0:s=[]
 ·subst h0
  refine y8 [] [.tmp 4] 27 Tryz.func126 ?_;repeat' first|refine o6 ?_|simp -dsimp -implicitDefEqProofs only[go_sem]
  exact o9 ⟨rfl,rfl⟩
 ·have h0c:=eq_false h0
  rw[decide_eq_true h0,Bool.true_and];by_cases hl:s.length<=n
  ·rw[decide_eq_true hl,Bool.true_and]
   have hlc:((s.length:Int)<=(n:Int))=True:=eq_true (by omega)
   cases A with
   |true=>
    have hT:=eq_true (ht.2 rfl);refine y8 [] [.tmp 4] 27 Tryz.func126 ?_;repeat' first|refine o6 ?_|simp -dsimp -implicitDefEqProofs (disch:=omega) only[go_sem,h0c,hlc,hT]|refine o5 (cT _) ?_|refine o5 (cO _) ?_|fail
    exact o9 ⟨rfl,rfl⟩
   |false=>
    have hT:(T=[])=False:=eq_false fun e=>by cases ht.1 e
    refine y8 [] [.tmp 4] 27 Tryz.func126 ?_;repeat' first|refine o6 ?_|simp -dsimp -implicitDefEqProofs (disch:=omega) only[go_sem,h0c,hlc,hT]|refine o5 (cT _) ?_|refine o5 (cO _) ?_|fail
    exact o9 ⟨rfl,rfl⟩
  ·rw[decide_eq_false hl,aH0]
   have hlc:((s.length:Int)<=(n:Int))=False:=eq_false (by omega)
   refine y8 [] [.tmp 4] 27 Tryz.func126 ?_;repeat' first|refine o6 ?_|simp -dsimp -implicitDefEqProofs only[go_sem,h0c,hlc]
   exact o9 ⟨rfl,rfl⟩
theorem cP1(k:UInt8)(H:List AObj):o8 Tryz.prog 125 [.lit (.int .u8 k.toNat)] H (fun y H'=>y=bw8 (aV1 k)/\H'=H):=by
 unfold aV1 bw8;refine y8 [] [.cell 2 150] 14 Tryz.func125 ?_;repeat' first|refine o6 ?_|simp -dsimp -implicitDefEqProofs (disch:=(simp only[ll];omega)) only[go_sem]|refine vcA ?_ ?_|refine ac8 fun _=>?_
 ·refine aa5 _ (Le.refl _) (aB8 (aa3 (.str _) (aa3 (.lit _) ac4))) ⟨?_,rfl⟩
  rw[if_pos (by omega)]
  rfl
 ·refine aa5 _ (Le.refl _) (aB8 (aa3 (.str _) (aa3 (.lit _) ac4))) ⟨?_,rfl⟩
  rw[if_neg (by omega),if_pos (by omega)]
  rfl
 ·refine aa5 _ (Le.refl _) (aB8 (aa3 (.str _) (aa3 (.lit _) ac4))) ⟨?_,rfl⟩
  rw[if_neg (by omega),if_neg (by omega),if_pos (by omega)]
  rfl
 ·refine aa5 _ (Le.refl _) (aB8 (aa3 (.str _) (aa3 (.lit _) ac4))) ⟨?_,rfl⟩
  rw[if_neg (by omega),if_neg (by omega),if_neg (by omega)]
  rfl
theorem eF3(s:bytes)(H:List AObj)(hs:s.length<=10000):o8 Tryz.prog 140 [.str s] H (fun y H'=>y=.bool (cJ5 s)/\H'=H):=by
 have c1:=fun H=>cP1 0 H
 have c2:=fun H=>cW9 (aV1 0) s H (cx4 0) hs
 have c3:=fun H=>dP4 s ([46,45]:bytes) H (by omega) (by decide) (by decide) (by decide)
 have c4:=fun H=>bS6 s [46,46] H (by omega)
 unfold cJ5;unfold bw8 at c1 c2;simp only[UInt8.reduceToNat] at c1;generalize aV1 0=g at*;generalize br1 g s=F at*;generalize aJ9 ([46,45]:bytes).contains (aG4 ([46,45]:bytes).contains s)=T at*;generalize Lib.contains s [46,46]=C at*;cases F with
 |false=>
  refine y8 [] [.tmp 2] 17 Tryz.func140 ?_;repeat' first|refine o6 ?_|simp -dsimp -implicitDefEqProofs only[go_sem]|refine o5 (c1 _) ?_|refine o5 (c2 _) ?_|fail
  exact o9 ⟨rfl,rfl⟩
 |true=>
  by_cases h:T=s
  ·have hc:=eq_true h
   rw[decide_eq_true h];refine y8 [] [.tmp 2] 17 Tryz.func140 ?_;repeat' first|refine o6 ?_|simp -dsimp -implicitDefEqProofs only[go_sem,hc]|refine o5 (c1 _) ?_|refine o5 (c2 _) ?_|refine o5 (c3 _) ?_|refine o5 (c4 _) ?_|fail
   exact o9 ⟨by simp,rfl⟩
  ·have hc:=eq_false h
   rw[decide_eq_false h];refine y8 [] [.tmp 2] 17 Tryz.func140 ?_;repeat' first|refine o6 ?_|simp -dsimp -implicitDefEqProofs only[go_sem,hc]|refine o5 (c1 _) ?_|refine o5 (c2 _) ?_|refine o5 (c3 _) ?_|fail
   exact o9 ⟨rfl,rfl⟩
theorem dg9{s:bytes}{c:UInt8}:(aJ5 s c).1.length<=s.length/\(aJ5 s c).2.1.length<=s.length:=by
 unfold aJ5;split
 ·simp only[List.length_take,List.length_drop]
  omega
 ·simp
theorem bR3(s:bytes)(H:List AObj)(hs:s.length<=10000):o8 Tryz.prog 82 [.str s] H (fun y H'=>y=.bool (aU7 s)/\H'=H):=by
 have hl:=dg9 (s:=s) (c:=58);have c0:=fun H=>dw4 s 58 H (by omega)
 have c1:=fun H=>cP1 58 H
 have c2:=fun H=>cW9 (aV1 58) (aJ5 s 58).2.1 H (cx4 58) (by omega)
 have c3:=fun H=>eF3 (aJ5 s 58).1 H (by omega)
 unfold aU7;unfold bw8 at c1 c2;unfold b77 at c0;simp only[UInt8.reduceToNat] at c1;generalize aV1 58=g at*;generalize aJ5 s 58=p at*;obtain⟨h,port,b⟩:=p;dsimp only at*;generalize br1 g port=F at*;generalize cJ5 h=G at*;cases G with
 |false=>
  refine y8 [] [.tmp 2] 23 Tryz.func82 ?_;repeat' first|refine o6 ?_|simp -dsimp -implicitDefEqProofs only[go_sem]|refine o5 (c0 _) ?_|refine o5 (c3 _) ?_|fail
  exact o9 ⟨rfl,rfl⟩
 |true=>
  cases b with
  |false=>
   refine y8 [] [.tmp 2] 23 Tryz.func82 ?_;repeat' first|refine o6 ?_|simp -dsimp -implicitDefEqProofs only[go_sem]|refine o5 (c0 _) ?_|refine o5 (c3 _) ?_|fail
   exact o9 ⟨rfl,rfl⟩
  |true=>
   refine y8 [] [.tmp 2] 23 Tryz.func82 ?_;repeat' first|refine o6 ?_|simp -dsimp -implicitDefEqProofs only[go_sem]|refine o5 (c0 _) ?_|refine o5 (c1 _) ?_|refine o5 (c2 _) ?_|refine o5 (c3 _) ?_|fail
   exact o9 ⟨by simp,rfl⟩
end Id
end
section
open Go V
namespace Id
theorem dd5{s:bytes}{k:UInt8}:([k]:bytes).isPrefixOf s=decide (s.head?=some k):=by
 cases s with
 |nil=>rfl
 |cons a r=>
  simp only[List.isPrefixOf,List.head?_cons,Bool.and_true,Option.some.injEq];rw[b06,decide_eq_true_eq,beq_iff_eq];exact eq_comm
theorem b62(k:UInt8)(hk:k=64\/k=33)(s:bytes)(H:List AObj)(hs:s.length<=10000):o8 Tryz.prog 68 [.str s,.lit (.int .u8 k.toNat)] H (fun y H'=>y=.bool (ay5 k s)/\H'=H):=by
 have hl:=dg9 (s:=s.drop 1) (c:=58);rw[List.length_drop] at hl;have c0:=fun H=>da8 s [k] H (by omega)
 rw[dd5] at c0;have c1:=fun H=>dw4 (s.drop 1) 58 H (by rw[List.length_drop];omega)
 have c2:=fun H=>cP1 k H
 have c3:=fun H=>cW9 (aV1 k) (aJ5 (s.drop 1) 58).1 H (cx4 k) (by omega)
 have c4:=fun H=>bR3 (aJ5 (s.drop 1) 58).2.1 H (by omega)
 unfold ay5;unfold bw8 at c2 c3;unfold b77 at c1;generalize aV1 k=g at*;generalize aJ5 (s.drop 1) 58=p at*;obtain⟨h,port,b⟩:=p;dsimp only at*;generalize br1 g h=F at*;generalize aU7 port=G at*;by_cases hn:s.length<=255
 ·rw[decide_eq_true hn,Bool.true_and]
  by_cases hp:s.head?=some k
  ·rw[decide_eq_true hp] at c0⊢
   have h1:1<=s.length:=by
    cases s with
    |nil=>cases hp
    |cons a r=>simp
   have hnc:((255:Int) < (s.length:Int))=False:=eq_false (by omega)
   rw[Bool.true_and];rcases hk with rfl|rfl<;>simp only[UInt8.reduceToNat] at* <;>cases b<;>cases F
   ·refine y8 [] [.tmp 4] 37 Tryz.func68 ?_
    repeat' first|refine o6 ?_|simp -dsimp -implicitDefEqProofs (disch:=first|omega|simp only[ll];omega) only[go_sem,hnc]|refine o5 (c0 _) ?_|refine o5 (c1 _) ?_|refine o5 (c2 _) ?_|refine o5 (c3 _) ?_|refine o5 (c4 _) ?_|refine vcA ?_ ?_|omega
    exact o9 ⟨rfl,rfl⟩
   ·refine y8 [] [.tmp 4] 37 Tryz.func68 ?_
    repeat' first|refine o6 ?_|simp -dsimp -implicitDefEqProofs (disch:=first|omega|simp only[ll];omega) only[go_sem,hnc]|refine o5 (c0 _) ?_|refine o5 (c1 _) ?_|refine o5 (c2 _) ?_|refine o5 (c3 _) ?_|refine o5 (c4 _) ?_|refine vcA ?_ ?_|omega
    exact o9 ⟨rfl,rfl⟩
   ·refine y8 [] [.tmp 4] 37 Tryz.func68 ?_
    repeat' first|refine o6 ?_|simp -dsimp -implicitDefEqProofs (disch:=first|omega|simp only[ll];omega) only[go_sem,hnc]|refine o5 (c0 _) ?_|refine o5 (c1 _) ?_|refine o5 (c2 _) ?_|refine o5 (c3 _) ?_|refine o5 (c4 _) ?_|refine vcA ?_ ?_|omega
    exact o9 ⟨rfl,rfl⟩
   ·refine y8 [] [.tmp 4] 37 Tryz.func68 ?_
    repeat' first|refine o6 ?_|simp -dsimp -implicitDefEqProofs (disch:=first|omega|simp only[ll];omega) only[go_sem,hnc]|refine o5 (c0 _) ?_|refine o5 (c1 _) ?_|refine o5 (c2 _) ?_|refine o5 (c3 _) ?_|refine o5 (c4 _) ?_|refine vcA ?_ ?_|omega
    exact o9 ⟨rfl,rfl⟩
   ·refine y8 [] [.tmp 4] 37 Tryz.func68 ?_
    repeat' first|refine o6 ?_|simp -dsimp -implicitDefEqProofs (disch:=first|omega|simp only[ll];omega) only[go_sem,hnc]|refine o5 (c0 _) ?_|refine o5 (c1 _) ?_|refine o5 (c2 _) ?_|refine o5 (c3 _) ?_|refine o5 (c4 _) ?_|refine vcA ?_ ?_|omega
    exact o9 ⟨rfl,rfl⟩
   ·refine y8 [] [.tmp 4] 37 Tryz.func68 ?_
    repeat' first|refine o6 ?_|simp -dsimp -implicitDefEqProofs (disch:=first|omega|simp only[ll];omega) only[go_sem,hnc]|refine o5 (c0 _) ?_|refine o5 (c1 _) ?_|refine o5 (c2 _) ?_|refine o5 (c3 _) ?_|refine o5 (c4 _) ?_|refine vcA ?_ ?_|omega
    exact o9 ⟨rfl,rfl⟩
   ·refine y8 [] [.tmp 4] 37 Tryz.func68 ?_
    repeat' first|refine o6 ?_|simp -dsimp -implicitDefEqProofs (disch:=first|omega|simp only[ll];omega) only[go_sem,hnc]|refine o5 (c0 _) ?_|refine o5 (c1 _) ?_|refine o5 (c2 _) ?_|refine o5 (c3 _) ?_|refine o5 (c4 _) ?_|refine vcA ?_ ?_|omega
    exact o9 ⟨rfl,rfl⟩
   ·refine y8 [] [.tmp 4] 37 Tryz.func68 ?_
    repeat' first|refine o6 ?_|simp -dsimp -implicitDefEqProofs (disch:=first|omega|simp only[ll];omega) only[go_sem,hnc]|refine o5 (c0 _) ?_|refine o5 (c1 _) ?_|refine o5 (c2 _) ?_|refine o5 (c3 _) ?_|refine o5 (c4 _) ?_|refine vcA ?_ ?_|omega
    exact o9 ⟨rfl,rfl⟩
  ·rw[decide_eq_false hp] at c0⊢
   rcases hk with rfl|rfl<;>simp only[UInt8.reduceToNat] at*
   ·refine y8 [] [.tmp 4] 37 Tryz.func68 ?_
    repeat' first|refine o6 ?_|simp -dsimp -implicitDefEqProofs (disch:=omega) only[go_sem]|refine o5 (c0 _) ?_|refine vcA ?_ ?_|omega|refine ac8 fun _=>?_
    exact o9 ⟨rfl,rfl⟩
   ·refine y8 [] [.tmp 4] 37 Tryz.func68 ?_
    repeat' first|refine o6 ?_|simp -dsimp -implicitDefEqProofs (disch:=omega) only[go_sem]|refine o5 (c0 _) ?_|refine vcA ?_ ?_|omega|refine ac8 fun _=>?_
    exact o9 ⟨rfl,rfl⟩
 ·rw[decide_eq_false hn]
  have hnc:((255:Int) < (s.length:Int))=True:=eq_true (by omega)
  refine y8 [] [.tmp 4] 37 Tryz.func68 ?_;repeat' first|refine o6 ?_|simp -dsimp -implicitDefEqProofs only[go_sem,hnc]
  exact o9 ⟨rfl,rfl⟩
theorem cZ6(s:bytes)(H:List AObj)(hs:s.length<=10000):o8 Tryz.prog 37 [.str s] H (fun y H'=>y=.bool (ay5 64 s)/\H'=H):=by
 have c:=fun H=>b62 64 (.inl rfl) s H hs
 simp only[UInt8.reduceToNat] at c;refine y8 [] [.tmp 2] 5 Tryz.func37 ?_;repeat' first|simp -dsimp -implicitDefEqProofs only[go_sem]|refine o5 (c _) ?_|fail
 exact o9 ⟨rfl,rfl⟩
theorem dP7(s:bytes)(H:List AObj)(hs:s.length<=10000):o8 Tryz.prog 39 [.str s] H (fun y H'=>y=.bool (ay5 33 s)/\H'=H):=by
 have c:=fun H=>b62 33 (.inr rfl) s H hs
 simp only[UInt8.reduceToNat] at c;refine y8 [] [.tmp 2] 5 Tryz.func39 ?_;repeat' first|simp -dsimp -implicitDefEqProofs only[go_sem]|refine o5 (c _) ?_|fail
 exact o9 ⟨rfl,rfl⟩
theorem ev3(s:bytes)(H:List AObj):o8 Tryz.prog 73 [.str s] H (fun y H'=>y=.bool (bH9 s)/\H'=H):=by
 have c0:=fun H=>cc5 s [36] H (by decide)
 have c1:=fun H=>eL6 H
 unfold bN5 at c0;rw[dd5] at c0;unfold bH9;by_cases hp:s.head?=some 36
 ·rw[decide_eq_true hp] at c0⊢
  rw[if_pos rfl] at c0;dsimp only[List.length_cons,List.length_nil,Nat.zero_add] at c0;have h1:1<=s.length:=by
   cases s with
   |nil=>cases hp
   |cons a r=>simp
  by_cases hn:s.length=44
  ·rw[decide_eq_true hn]
   have c2:=fun H=>d90 (s.drop 1) H (by rw[List.length_drop];omega)
   unfold aG6 at c2;have hnc:(((s.length - 1:Nat):Int)=43)=True:=eq_true (by omega)
   generalize aZ5 b50 (s.drop 1)=p at*;refine y8 [] [.tmp 2] 27 Tryz.func73 ?_;repeat' first|refine o6 ?_|simp -dsimp -implicitDefEqProofs only[go_sem,hnc,List.length_drop]|refine o5 (c0 _) ?_|refine o5 (c1 _) ?_|refine o5 (c2 _) ?_|fail
   exact o9 ⟨by simp,rfl⟩
  ·rw[decide_eq_false hn]
   have hnc:(((s.length - 1:Nat):Int)=43)=False:=eq_false (by omega)
   refine y8 [] [.tmp 2] 27 Tryz.func73 ?_;repeat' first|refine o6 ?_|simp -dsimp -implicitDefEqProofs only[go_sem,hnc,List.length_drop]|refine o5 (c0 _) ?_|refine o5 (c1 _) ?_|fail
   exact o9 ⟨rfl,rfl⟩
 ·rw[decide_eq_false hp] at c0⊢
  refine y8 [] [.tmp 2] 27 Tryz.func73 ?_;repeat' first|refine o6 ?_|simp -dsimp -implicitDefEqProofs only[go_sem]|refine o5 (c0 _) ?_|fail
  exact o9 ⟨rfl,rfl⟩
theorem eu7(s:bytes)(H:List AObj)(hs:s.length<=10000):o8 Tryz.prog 38 [.str s] H (fun y H'=>y=.tup [.str (splitB s).1,.str (splitB s).2.1,.lit (.int .i64 (splitB s).2.2)]/\H'=H):=by
 have c0:=fun H=>cZ6 s H hs
 have c1:=fun H=>dP7 s H hs
 have c2:=fun H=>dw4 (s.drop 1) 58 H (by rw[List.length_drop];omega)
 have hh: ∀k,ay5 k s=true->1<=s.length:=fun k h=>by
  cases s with
  |nil=>simp[ay5] at h
  |cons a r=>simp
 have h64:=hh 64;have h33:=hh 33;unfold splitB;unfold b77 at c2;generalize aJ5 (s.drop 1) 58=p at*;generalize ay5 64 s=a at*;generalize ay5 33 s=b at*;cases a with
 |true=>
  have h1:=h64 rfl;refine y8 [] [.tmp 2,.tmp 3,.tmp 4] 22 Tryz.func38 ?_;repeat' first|refine o6 ?_|simp -dsimp -implicitDefEqProofs (disch:=(simp only[ll];omega)) only[go_sem]|refine o5 (c0 _) ?_|refine o5 (c1 _) ?_|refine o5 (c2 _) ?_|refine vcA ?_ ?_|omega
  exact o9 ⟨rfl,rfl⟩
 |false=>
  cases b with
  |true=>
   have h1:=h33 rfl;refine y8 [] [.tmp 2,.tmp 3,.tmp 4] 22 Tryz.func38 ?_;repeat' first|refine o6 ?_|simp -dsimp -implicitDefEqProofs (disch:=(simp only[ll];omega)) only[go_sem]|refine o5 (c0 _) ?_|refine o5 (c1 _) ?_|refine o5 (c2 _) ?_|refine vcA ?_ ?_|omega
   exact o9 ⟨rfl,rfl⟩
  |false=>
   refine y8 [] [.tmp 2,.tmp 3,.tmp 4] 22 Tryz.func38 ?_;repeat' first|refine o6 ?_|simp -dsimp -implicitDefEqProofs only[go_sem]|refine o5 (c0 _) ?_|refine o5 (c1 _) ?_|fail
   exact o9 ⟨rfl,rfl⟩
end Id
end
section
open Go V
theorem aE5{H M:List AObj}{R:AV->List AObj->Prop}{b:Bool}(h:R (.bool b) H):Done H R (.bool b) (H++M):=aa5 _ (Le.refl _) (.lit _) h
open Classical in
noncomputable def bB0(v:JV):Bool:=
 decide ((ad1 v).2=0)&&(match ae1 ((ae1 v ae0).getD aa7) aD8 with|some t=>ab3 12 t&&ab3 12 (ad5 (ac5 aa6 (ad1 v).1))&&decide (t=ad5 (ac5 aa6 (ad1 v).1))|none=>false)
theorem b74(v:JV):(ac5 aa6 (ad1 v).1).length=43:=by rw[az4,be1]
theorem aD4(t:bytes):aa2 (ad5 t)=1+t.length:=by simp[ad5,av2,JV.text,JV.names,JV.items,aW9]
theorem bM2(t:bytes):aa2 (aw2 t)=9+t.length:=by simp[aw2,ad5,av2,JV.text,JV.names,JV.items,aW9,al5,aD8];omega
theorem c52(v:JV):aa2 (ab4 v).1<=aa2 v+59:=by
 unfold ab4;split
 ·have:=a05 (v:=v) (s:=ae0) (x:=aw2 (ac5 aa6 (ad1 v).1))
  rw[bM2,b74] at this;have hn:al5 ae0=7:=rfl;omega
 ·have:aa2 aa7=1:=rfl
  dsimp only;omega
open Classical in
theorem eM1(v:JV)(H:List AObj)(hv:aa2 v<=40000):o8 Tryz.prog 34 [jAV v] H (fun y H'=>y=.bool (bB0 v)/\H'=H):=by
 have co:=fun H=>cC9 v H hv
 have hgn:=ax7 (n:=100000) (v:=v) (by omega)
 have cg:=fun H=>bm3 v ae0 H hgn.1 hgn.2
 have hs:=aC4 (v:=v) (s:=ae0);have cg2:=fun H=>bm3 ((ae1 v ae0).getD aa7) aD8 H (ax7 (by omega)).1 (ax7 (n:=100000) (by omega)).2
 have hs2:=aC4 (v:=(ae1 v ae0).getD aa7) (s:=aD8);have hE:=b74 v;have hT:=aD4 (ac5 aa6 (ad1 v).1);unfold af9 at co;unfold aQ7 at cg cg2;unfold bB0;by_cases ho:(ad1 v).2=0
 ·rw[decide_eq_true ho,Bool.true_and]
  generalize ac5 aa6 (ad1 v).1=t at*;generalize (ae1 v ae0).getD aa7=h at*;cases hj:ae1 h aD8 with
  |none=>
   rw[hj] at cg2;refine y8 [] [.tmp 2] 32 Tryz.func34 ?_;repeat' first|refine o6 ?_|simp -dsimp -implicitDefEqProofs (disch:=(simp only[ll];omega)) only[go_sem,ho]|refine o5 (co _) ?_|refine o5 (cg _) ?_|refine o5 (cg2 _) ?_|fail
   exact aE5 ⟨rfl,rfl⟩
  |some x=>
   rw[hj,Option.getD_some] at cg2 hs2;have cs:=fun H=>dP5 x (ad5 t) H (by omega) (by omega)
   refine y8 [] [.tmp 2] 32 Tryz.func34 ?_;repeat' first|refine o6 ?_|simp -dsimp -implicitDefEqProofs (disch:=(simp only[ll];omega)) only[go_sem,ho]|refine o5 (co _) ?_|refine o5 (cg _) ?_|refine o5 (cg2 _) ?_|refine o5 (cs _) ?_|fail
   exact aE5 ⟨rfl,rfl⟩
 ·rw[decide_eq_false ho,aH0]
  have hf:=eq_false ho;refine y8 [] [.tmp 2] 32 Tryz.func34 ?_;repeat' first|refine o6 ?_|simp -dsimp -implicitDefEqProofs only[go_sem,hf]|refine o5 (co _) ?_|fail
  exact aE5 ⟨rfl,rfl⟩
end
section
open Go V
namespace Se
def eL2:bytes:=[101,100,50,53,53,49,57,58]
def ba7:bytes:=[97,98,99,100,101,102,103,104,105,106,107,108,109,110,111,112,113,114,115,116,117,118,119,120,121,122,65,66,67,68,69,70,71,72,73,74,75,76,77,78,79,80,81,82,83,84,85,86,87,88,89,90,48,49,50,51,52,53,54,55,56,57,95]
def ab5:bytes:=[115,105,103,110,97,116,117,114,101,115]
def aA3:bytes:=[117,110,115,105,103,110,101,100]
def cf2(s:bytes):Bool:=eL2.isPrefixOf s&&(decide (s.drop 8≠[])&&(decide ((s.drop 8).length<=32)&&(s.drop 8).all ba7.contains))
def ba5(v:JV):JV:=aC6 (hasB [ab5,aA3]) v
def aj6(v:JV):bytes×Int:=if am2 v=true then(if(ai7 (ba5 v)).2=0 then((ai7 (ba5 v)).1,0) else([],(ai7 (ba5 v)).2)) else([],1)
def aH7(p:JV->Bool)(v:JV):Bool:=decide (v.kind=6)&&(decide (v.items.length<=8)&&v.items.all p)
def isText(v:JV):Bool:=decide (v.kind=4)
theorem eR6(s:bytes)(H:List AObj)(hs:s.length<=10000):o8 Tryz.prog 83 [.str s] H (fun y H'=>y=.bool (cf2 s)/\H'=H):=by
 have c0:=fun H=>cc5 s [101,100,50,53,53,49,57,58] H (by decide)
 unfold bN5 at c0;unfold cf2;have hrl:(s.drop 8).length=s.length - 8:=List.length_drop;cases hp:eL2.isPrefixOf s with
 |false=>
  rw[if_neg (by rw[show ([101,100,50,53,53,49,57,58]:bytes).isPrefixOf s=false from hp];decide)] at c0
  refine y8 [] [.tmp 2] 33 Tryz.func83 ?_;repeat' first|refine o6 ?_|simp -dsimp -implicitDefEqProofs only[go_sem]|refine o5 (c0 _) ?_|fail
  exact o9 ⟨rfl,rfl⟩
 |true=>
  rw[if_pos (by exact hp)] at c0
  dsimp only[List.length_cons,List.length_nil,Nat.zero_add,Nat.reduceAdd] at c0;generalize s.drop 8=r at*;by_cases h0:r=[]
  ·have h0c:=eq_true h0
   subst h0;refine y8 [] [.tmp 2] 33 Tryz.func83 ?_;repeat' first|refine o6 ?_|simp -dsimp -implicitDefEqProofs only[go_sem]|refine o5 (c0 _) ?_|fail
   exact o9 ⟨rfl,rfl⟩
  ·have h0c:=eq_false h0
   rw[decide_eq_true h0];by_cases hl:r.length<=32
   ·rw[decide_eq_true hl,Bool.true_and,Bool.true_and,Bool.true_and]
    have hlc:((32:Int) < (r.length:Int))=False:=eq_false (by omega)
    generalize hR:r.all ba7.contains=R;refine y8 [] [.tmp 2] 33 Tryz.func83 ?_;repeat' first|refine o6 ?_|simp -dsimp -implicitDefEqProofs only[go_sem,h0c,hlc]|refine o5 (c0 _) ?_|fail
    refine aa8 ab2 mixed [] [3,23] (fun i:Nat=>i<=r.length/\(r.drop i).all ba7.contains=R) (fun i=>[(24,.lit (.int .i64 i))]) (fun _=>H) (fun i=>r.length - i) (by kernel_rfl) ?_ 0 ⟨by omega,hR⟩ y9 rfl
    rintro i ⟨hi,hI⟩
    by_cases h:i < r.length
    ·have hc:((i:Int) < (r.length:Int))=True:=eq_true (by omega)
     rw[bC9 h,List.all_cons] at hI;have hg:r.getD i 0=r[i]:=by simp[List.getD,h]
     rw[<-hg] at hI;have cI:=fun H=>aP5 ba7 (r.getD i 0) H
     unfold aD9 at cI;by_cases h1:ba7.idxOf (r.getD i 0) < ba7.length
     ·rw[if_pos h1] at cI
      have hk:ba7.contains (r.getD i 0)=true:=by
       rw[ci6];exact cG6.1 h1
      rw[hk,Bool.true_and] at hI;generalize hx:ba7.idxOf (r.getD i 0)=x at*;unfold ba7 at cI;repeat' first|refine o6 ?_|simp -dsimp -implicitDefEqProofs (disch:=omega) only[go_sem,hc]|refine o5 (cI _) ?_|refine vcA ?_ ?_|omega
      refine again (i+1) ?_ ?_ rfl y9
      ·omega
      ·exact⟨by omega,hI⟩
     ·rw[if_neg h1] at cI
      have hk:ba7.contains (r.getD i 0)=false:=by
       rw[<-Bool.not_eq_true,ci6];exact fun m=>h1 (cG6.2 m)
      rw[hk,aH0] at hI;subst hI;unfold ba7 at cI;repeat' first|refine o6 ?_|simp -dsimp -implicitDefEqProofs only[go_sem,hc]|refine o5 (cI _) ?_|fail
      exact o9 ⟨rfl,rfl⟩
    ·have hc:((i:Int) < (r.length:Int))=False:=eq_false (by omega)
     rw[bg0 (by omega)] at hI
     subst hI;repeat' first|refine o6 ?_|simp -dsimp -implicitDefEqProofs only[go_sem,hc]
     exact o9 ⟨rfl,rfl⟩
   ·rw[decide_eq_false hl]
    have hlc:((32:Int) < (r.length:Int))=True:=eq_true (by omega)
    refine y8 [] [.tmp 2] 33 Tryz.func83 ?_;repeat' first|refine o6 ?_|simp -dsimp -implicitDefEqProofs only[go_sem,h0c,hlc]|refine o5 (c0 _) ?_|fail
    exact o9 ⟨rfl,rfl⟩
theorem aS9(v:JV)(H:List AObj)(hv:aa2 v<=40000):o8 Tryz.prog 97 [jAV v] H (fun y H'=>y=.bool (am2 v)/\H'=H):=by
 have cv:=fun H=>aM0 v H hv
 unfold am2;by_cases hk:v.kind=6
 ·have hkt:=eq_true hk
  rw[decide_eq_true hk,Bool.true_and];refine y8 [] [.tmp 2] 10 Tryz.func97 ?_;repeat' first|refine o6 ?_|simp -dsimp -implicitDefEqProofs (disch:=omega) only[go_sem,hkt]|refine o5 (cv _) ?_|fail
  exact o9 ⟨rfl,rfl⟩
 ·have hkf:=eq_false hk
  rw[decide_eq_false hk,aH0];refine y8 [] [.tmp 2] 10 Tryz.func97 ?_;repeat' first|refine o6 ?_|simp -dsimp -implicitDefEqProofs (disch:=omega) only[go_sem,hkf]|refine o5 (cv _) ?_|fail
  exact o9 ⟨rfl,rfl⟩
theorem eu6(v:JV)(H:List AObj)(hv:aa2 v<=40000):o8 Tryz.prog 101 [jAV v] H (fun y H'=>y=jAV (ba5 v)/\H'=H):=by
 have c:=fun H=>bC0 (o:=.full) v [ab5,aA3] H hv (by decide)
 unfold ab5 aA3 at c;unfold ba5 ab5 aA3;generalize aC6 _ v=R at*;refine y8 [] [.cell 2 25] 6 Tryz.func101 ?_;repeat' first|simp -dsimp -implicitDefEqProofs (disch:=(simp only[ll];omega)) only[go_sem]|refine o5 (c _) ?_|fail
 exact aa5 _ (Le.refl _) (ae5 _) ⟨rfl,rfl⟩
theorem dm5(v:JV):aa2 (ba5 v)<=aa2 v:=bM3 _ v
theorem cF1(v:JV)(H:List AObj)(hv:aa2 v<=40000):o8 Tryz.prog 59 [jAV v] H (fun y H'=>y=aG6 (aj6 v)/\H'=H):=by
 have c0:=fun H=>aS9 v H hv
 have c1:=fun H=>eu6 v H hv
 have c2:=fun H=>cA2 (ba5 v) H (ay9 (dm5 v) hv)
 unfold aE6 at c2;unfold aj6;generalize ba5 v=w at*;generalize am2 v=b at*;generalize ai7 w=p at*;cases b with
 |false=>
  refine y8 [] [.tmp 2,.tmp 3] 20 Tryz.func59 ?_;repeat' first|refine o6 ?_|simp -dsimp -implicitDefEqProofs only[go_sem]|refine o5 (c0 _) ?_|fail
  exact dg7 (aG6 ([],1)) (aL7 (LeAll.cons ao3 (LeAll.cons (Le.refl _) LeAll.nil))) ⟨rfl,rfl⟩
 |true=>
  by_cases h:p.2=0
  ·have hc:=eq_true h
   rw[if_pos rfl,if_pos h];refine y8 [] [.tmp 2,.tmp 3] 20 Tryz.func59 ?_;repeat' first|refine o6 ?_|simp -dsimp -implicitDefEqProofs only[go_sem,hc]|refine o5 (c0 _) ?_|refine o5 (c1 _) ?_|refine o5 (c2 _) ?_|fail
   exact o9 ⟨rfl,rfl⟩
  ·have hc:=eq_false h
   rw[if_pos rfl,if_neg h];refine y8 [] [.tmp 2,.tmp 3] 20 Tryz.func59 ?_;repeat' first|refine o6 ?_|simp -dsimp -implicitDefEqProofs only[go_sem,hc]|refine o5 (c0 _) ?_|refine o5 (c1 _) ?_|refine o5 (c2 _) ?_|fail
   exact dg7 (aG6 ([],p.2)) (aL7 (LeAll.cons ao3 (LeAll.cons (Le.refl _) LeAll.nil))) ⟨rfl,rfl⟩
theorem dR9(g:FuncId)(cs:List AV)(p:JV->Bool)(x:JV)(H:List AObj)(hp:o8 Tryz.prog g (jAV x::cs) H (fun y H'=>y=.bool (p x)/\H'=H)):o8 Tryz.prog 151 [jAV x,.ip (.fn (.func g) [] cs)] H (fun y H'=>y=.bool (!p x)/\H'=H):=by
 refine y8 [] [.tmp 3] 8 Tryz.func151 ?_;repeat' first|simp -dsimp -implicitDefEqProofs only[go_sem]|refine o5 (hp) ?_|fail
 exact o9 ⟨rfl,rfl⟩
theorem dc1(g:FuncId)(cs:List AV)(p:JV->Bool)(v:JV)(H:List AObj)(hv:aa2 v<=40000)(hp: ∀x∈v.items,o8 Tryz.prog g (jAV x::cs) H (fun y H'=>y=.bool (p x)/\H'=H)):o8 Tryz.prog 99 [jAV v,.fn (.func g) [] cs] H (fun y H'=>y=.bool (aH7 p v)/\H'=H):=by
 have hn:=ax7 (n:=100000) (v:=v) (by omega)
 have c:=bI8 (o:=.sh) 151 [.ip (.fn (.func g) [] cs)] (fun x=>!p x) v.items H hn.2 fun x hx=>dR9 g cs p x H (hp x hx)
 have ha:(!v.items.any fun x=>!p x)=v.items.all p:=by
  rw[List.not_any_eq_all_not];simp
 unfold aH7;by_cases hk:v.kind=6
 ·have hkc:=eq_true hk
  rw[decide_eq_true hk,Bool.true_and];by_cases hl:v.items.length<=8
  ·have hlc:((v.items.length:Int)<=8)=True:=eq_true (by omega)
   rw[decide_eq_true hl,Bool.true_and];refine y8 [] [.tmp 4] 21 Tryz.func99 ?_;repeat' first|refine o6 ?_|simp -dsimp -implicitDefEqProofs (disch:=omega) only[go_sem,hkc,hlc]|refine o5 (c) ?_|fail
   exact o9 ⟨by rw[ha],rfl⟩
  ·have hlc:((v.items.length:Int)<=8)=False:=eq_false (by omega)
   rw[decide_eq_false hl,aH0];refine y8 [] [.tmp 4] 21 Tryz.func99 ?_;repeat' first|refine o6 ?_|simp -dsimp -implicitDefEqProofs (disch:=omega) only[go_sem,hkc,hlc]
   exact o9 ⟨rfl,rfl⟩
 ·have hkc:=eq_false hk
  rw[decide_eq_false hk,aH0];refine y8 [] [.tmp 4] 21 Tryz.func99 ?_;repeat' first|refine o6 ?_|simp -dsimp -implicitDefEqProofs (disch:=omega) only[go_sem,hkc]
  exact o9 ⟨rfl,rfl⟩
theorem eh3(x:JV)(H:List AObj):o8 Tryz.prog 98 [jAV x] H (fun y H'=>y=.bool (isText x)/\H'=H):=by
 unfold isText;refine y8 [] [.tmp 2] 6 Tryz.func98 ?_;repeat' simp -dsimp -implicitDefEqProofs (disch:=omega) only[go_sem]
 exact o9 ⟨rfl,rfl⟩
theorem eh2{k:Nat}{sh:Shape}(x:JV)(H:List AObj)(hv:aa2 x<=40000)(hk:H[k]?=some (.cells sh [.fn (.func 98) [] []])):o8 Tryz.prog 100 [jAV x,.mp k 0] H (fun y H'=>y=.bool (aH7 isText x)/\H'=H):=by
 have c:=dc1 98 [] isText x H hv fun y _=>eh3 y H
 refine y8 [] [.tmp 3] 7 Tryz.func100 ?_;repeat' first|simp -dsimp -implicitDefEqProofs only[go_sem,hk]|refine o5 (c) ?_|fail
 exact o9 ⟨rfl,rfl⟩
def aw5(v:JV)(ws:List AV):AObj:=.cells (.one 88) (af0 v++ws)
def ct3:JV:=.mk 6 0 [] [] []
def ac0(v:JV):JV:=(ae1 v ab5).getD ct3
def aB4(v:JV):Bool:=am2 v&&aH7 (aH7 isText) (ac0 v)
def ai0(w:JV)(s:bytes):JV×Bool:=((ae1 w s).getD ct3,(ae1 w s).isSome)
theorem c90{H₀ M:List AObj}{R:AV->List AObj->Prop}{x:AV}{k:Nat}{o:AObj}(y:AV)(hx:Le x y)(hl:Low H₀.length y)(ho: ∀sh cs,o=.cells sh cs-> ∀z∈cs,Low H₀.length z)(hr:R y (H₀.set k o)):Done H₀ R x (H₀.set k o++M):=by
 refine dM3 (y:=y) (H':=(H₀.set k o++M).take (H₀.set k o).length) ?_ (by rw[bf5];exact hr)
 refine bx2 hx (by simp) (by simpa using hl) fun j sh cs hj e=>?_
 rw[xq4 hj,bf8] at e;split at e
 ·split at e
  ·cases e
   exact .inr (by simpa using ho sh cs rfl)
  ·cases e
 ·exact .inl e
theorem eb4{k:Nat}{v w:JV}{m:AV}(s:bytes)(H:List AObj)(hw:aa2 w<=40000)(hk:H[k]?=some (aw5 v (af0 w++[m]))):o8 Tryz.prog 60 [.mp k 0,.str s] H (fun y H'=>y=.tup [jAV (ai0 w s).1,.bool (ai0 w s).2]/\H'=H):=by
 have hn:=ax7 (n:=100000) (v:=w) (by omega)
 have c:=fun H=>bm3 w s H hn.1 hn.2
 unfold aQ7 at c;unfold ai0;have hka: ∀M,(H++M)[k]?=some (aw5 v (af0 w++[m])):=fun M=>by rw[xq4 (aa0 hk)];exact hk
 unfold aw5 af0 at hka;cases hg:ae1 w s with
 |none=>
  rw[hg] at c;refine y8 [] [.cell 4 25,.tmp 5] 22 Tryz.func60 ?_;repeat' first|refine o6 ?_|simp -dsimp -implicitDefEqProofs only[go_sem,hka,aj3,ak3,List.drop_zero,xq9]|refine o5 (c _) ?_|fail
  exact aa5 (.tup [jAV ct3,.bool false]) (aL7 (LeAll.cons em1 (LeAll.cons (Le.refl _) LeAll.nil))) (ah9 (aa3 (ae5 _) (aa3 (.lit _) ac4))) ⟨rfl,rfl⟩
 |some x=>
  rw[hg] at c;refine y8 [] [.cell 4 25,.tmp 5] 22 Tryz.func60 ?_;repeat' first|refine o6 ?_|simp -dsimp -implicitDefEqProofs only[go_sem,hka,aj3,ak3,List.drop_zero,xq9]|refine o5 (c _) ?_|fail
  exact aa5 _ (Le.refl _) (ah9 (aa3 (ae5 _) (aa3 (.lit _) ac4))) ⟨rfl,rfl⟩
theorem dD3{k:Nat}{v:JV}{a b c d e m:AV}(H:List AObj)(hv:aa2 v<=40000)(hm:Low H.length m)(hk:H[k]?=some (aw5 v [a,b,c,d,e,m])):o8 Tryz.prog 58 [.mp k 0] H (fun y H'=>y=.bool (aB4 v)/\H'=if am2 v=true then H.set k (aw5 v (af0 (ac0 v)++[m])) else H):=by
 have hn:=ax7 (n:=100000) (v:=v) (by omega)
 have cg:=fun H=>bm3 v ab5 H hn.1 hn.2
 have co:=fun H=>aS9 v H hv
 have hsz:aa2 (ac0 v)<=40000:=by
  have:=aC4 (v:=v) (s:=ab5);unfold ac0;cases hg:ae1 v ab5 with
  |none=>decide
  |some x=>
   rw[hg] at this;exact ay9 this hv
 have hkl:=aa0 hk;unfold aQ7 at cg;unfold aB4;unfold aw5 af0 at hk;generalize hO:am2 v=O at*;cases O with
 |false=>
  refine y8 [] [.tmp 2] 34 Tryz.func58 ?_;repeat' first|refine o6 ?_|simp -dsimp -implicitDefEqProofs only[go_sem,hk,aj3,ak3,List.drop_zero,xq9]|refine o5 (co _) ?_|fail
  exact o9 ⟨rfl,rfl⟩
 |true=>
  rw[if_pos rfl,Bool.true_and];have ct: ∀o,o8 Tryz.prog 99 [jAV (ac0 v),.fn (.func 100) [] [.mp H.length 0]] (H.set k o++[.cells (.one 54) [.fn (.func 98) [] []]]) (fun y H'=>y=.bool (aH7 (aH7 isText) (ac0 v))/\H'=H.set k o++[.cells (.one 54) [.fn (.func 98) [] []]]):=fun o=>
   dc1 100 [.mp H.length 0] (aH7 isText) (ac0 v) _ hsz fun x hx=>eh2 (sh:=.one 54) x _ (ay9 (b36 (aS1 hx)) hsz) (by simp)
  have hlo: ∀w sh cs,aw5 v (af0 w++[m])=.cells sh cs-> ∀z∈cs,Low H.length z:=fun w sh cs e z hz=>by
   unfold aw5 at e;cases e
   rcases aR3.1 hz with h|h
   ·exact cy4 v z h
   ·rcases aR3.1 h with h|h
    ·exact cy4 w z h
    ·rw[cj0.1 h]
     exact hm
  have hdone: ∀M,Done H (fun y H'=>y=.bool (aH7 (aH7 isText) (ac0 v))/\H'=if true=true then H.set k (aw5 v (af0 (ac0 v)++[m])) else H) (.bool (aH7 (aH7 isText) (ac0 v))) (H.set k (aw5 v (af0 (ac0 v)++[m]))++M):=fun M=>c90 _ (Le.refl _) (.lit _) (hlo _) ⟨rfl,(if_pos rfl).symm⟩
  generalize aH7 (aH7 isText) (ac0 v)=T at*;unfold ac0 at*;unfold aw5 af0 at hdone;cases hg:ae1 v ab5 with
  |none=>
   rw[hg] at cg hsz hdone;simp only[hg] at ct;rw[Option.getD_none] at*;unfold ab5 at cg;refine aw8 ab2 mixed [] 4 (rs:=[.tmp 2]) (n:=34) Tryz.func58 rfl rfl rfl rfl (nlb rfl) (by kernel_rfl) ?_
   repeat' first|refine o6 ?_|simp -dsimp -implicitDefEqProofs (disch:=assumption) only[go_sem,hk,aj3,ak3,List.drop_zero,xq9]|refine o5 (co _) ?_|refine o5 (cg _) ?_|fail
   refine cu5 k (sh:=.one 88) (cs':=af0 v++(af0 ct3++[m])) (ay8 hkl) (.cons (Le.refl _) (.cons (Le.refl _) (.cons (Le.refl _) (.cons (Le.refl _) (.cons (Le.refl _) (.cons (Le.refl _) (.cons (Le.refl _) (.cons (Le.refl _) (.cons ao3 (.cons ao3 (.cons (Le.refl _) .nil))))))))))) ?_;rw[List.set_set];refine aE1 ab2 mixed [] (by kernel_rfl) ?_
   repeat' first|simp -dsimp -implicitDefEqProofs (disch:=(simp only[ll];omega)) only[go_sem,ay8 hkl,af0,List.cons_append,List.nil_append,hk,aj3,ak3,List.drop_zero,xq9]|refine o5 (ct _) ?_|fail
   exact hdone _
  |some x=>
   rw[hg] at cg hsz hdone;simp only[hg] at ct;rw[Option.getD_some] at*;unfold ab5 at cg;refine y8 [] [.tmp 2] 34 Tryz.func58 ?_;repeat' first|refine o6 ?_|simp -dsimp -implicitDefEqProofs (disch:=first|assumption|simp only[ll];omega) only[go_sem,hk,aj3,ak3,List.drop_zero,xq9]|refine o5 (co _) ?_|refine o5 (cg _) ?_|refine o5 (ct _) ?_|fail
   exact hdone _
end Se
end
section
open Go V
namespace V
theorem eK5{P:Program}{L:Tab}{n:Nat}{a b:Code}{Q:Exit->Env->List AObj->Prop}{env:Env}{H:List AObj}(hL:ad9 P L)(hm:P.follows .mixedOrders=true)(mu:List Nat)(E0:Env)(H0:List AObj)(ho:okC mu n a=true)
  (h1:vcC P L mu n a (Ex (fun env' H'=>aK2 env' E0/\H'=H0) Q) env H) (h2:AW P n b Q E0 H0):AW P n (.seq a b) Q env H:=
 bI5 ((ak7 hL hm a ho h1).mono fun e env' H' q=>by
  cases e with
  |normal=>
   obtain⟨q1,rfl⟩:=q;exact fun ro N ds G a w s=>h2 ro N ds G a w (s.le q1)
  |_=>exact q)
end V
namespace Se
def ba8(v:JV)(server key:bytes)(seed:List UInt8):JV×Int:=
 if(aB4 v&&(Id.aU7 server&&cf2 key))=true then
  (if(aj6 v).2=0 then
   (if(!(ai0 (ac0 v) server).2&&decide ((ac0 v).items.length=8)||!(ae1 (ai0 (ac0 v) server).1 key).isSome&&decide ((ai0 (ac0 v) server).1.items.length=8))=true then(aa7,10)
    else if(af8 (ai0 (ac0 v) server).1 key (ad5 (ac5 aa6 (Ed.au6 seed (aj6 v).1)))).2=0 then
     (if(af8 (ac0 v) server (af8 (ai0 (ac0 v) server).1 key (ad5 (ac5 aa6 (Ed.au6 seed (aj6 v).1)))).1).2=0 then
      af8 v ab5 (af8 (ac0 v) server (af8 (ai0 (ac0 v) server).1 key (ad5 (ac5 aa6 (Ed.au6 seed (aj6 v).1)))).1).1
      else(aa7,(af8 (ac0 v) server (af8 (ai0 (ac0 v) server).1 key (ad5 (ac5 aa6 (Ed.au6 seed (aj6 v).1)))).1).2))
    else(aa7,(af8 (ai0 (ac0 v) server).1 key (ad5 (ac5 aa6 (Ed.au6 seed (aj6 v).1)))).2))
   else(aa7,(aj6 v).2))
 else(aa7,1)
theorem cZ8(v:JV)(server key:bytes)(seed:List UInt8)(H:List AObj)(hv:aa2 v<=18000)(h1:server.length<=1000)(h2:key.length<=1000)(hd:seed.length=32):o8 Tryz.prog 47 [jAV v,.str server,.str key,.agg (seed.map o7)] H (fun y H'=>y=af9 (ba8 v server key seed)/\H'=H):=by
 have c0:=fun z=>dD3 (k:=H.length+1) (v:=v) (H++[z,aw5 v [.lit (.int .i64 0),.lit (.int .i64 0),.str [],.sl .full 0 [],.sl .full 0 [],.sl .full 0 []]]) (by omega) (af6 (o:=.full) (fun k e=>by cases e)) (by rw[aE0];rfl)
 have c1f:am2 v=false-> ∀z,o8 Tryz.prog 58 [.mp (H.length+1) 0] (H++[z,aw5 v [.lit (.int .i64 0),.lit (.int .i64 0),.str [],.sl .full 0 [],.sl .full 0 [],.sl .full 0 []]]) (fun y H'=>y=.bool false/\H'=H++[z,aw5 v [.lit (.int .i64 0),.lit (.int .i64 0),.str [],.sl .full 0 [],.sl .full 0 [],.sl .full 0 []]]):=fun h z=>(c0 z).mono fun x H' e=>⟨by rw[e.1,aB4,h];rfl,by rw[e.2,h];rfl⟩
 have c1t:am2 v=true-> ∀z,o8 Tryz.prog 58 [.mp (H.length+1) 0] (H++[z,aw5 v [.lit (.int .i64 0),.lit (.int .i64 0),.str [],.sl .full 0 [],.sl .full 0 [],.sl .full 0 []]]) (fun y H'=>y=.bool (aB4 v)/\H'=H++[z,aw5 v (af0 (ac0 v)++[.sl .full 0 []])]):=fun h z=>(c0 z).mono fun x H' e=>⟨e.1,by rw[e.2,h,if_pos rfl,bd5];rfl⟩
 clear c0;have hob:aB4 v=true->am2 v=true:=fun h=>by
  unfold aB4 at h;simp only[xq3] at h;exact h.1
 have c2:=fun H=>Id.bR3 server H (by omega)
 have c3:=fun H=>eR6 key H (by omega)
 have c4:=fun H=>cF1 v H (by omega)
 have hsg:aa2 (ac0 v)<=18000:=by
  have:=aC4 (v:=v) (s:=ab5);unfold ac0;cases hg:ae1 v ab5 with
  |none=>decide
  |some x=>
   rw[hg] at this;exact ay9 this hv
 have c5: ∀z m,o8 Tryz.prog 60 [.mp (H.length+1) 0,.str server] (H++[z,aw5 v (af0 (ac0 v)++[m])]) (fun y H'=>y=.tup [jAV (ai0 (ac0 v) server).1,.bool (ai0 (ac0 v) server).2]/\H'=H++[z,aw5 v (af0 (ac0 v)++[m])]):=fun z m=>
  eb4 (k:=H.length+1) server _ (by omega) (by rw[aE0];rfl)
 have how:aa2 (ai0 (ac0 v) server).1<=18000:=by
  have:=aC4 (v:=ac0 v) (s:=server);unfold ai0;cases hg:ae1 (ac0 v) server with
  |none=>decide
  |some x=>
   rw[hg] at this;exact ay9 this hsg
 unfold aG6 at c4;unfold ba8;have hml:(aj6 v).1.length<=8192:=by
  unfold aj6;split
  ·split
   ·exact bN3 _
   ·exact aP7 _
  ·exact aP7 _
 generalize hO:am2 v=O at*;generalize aB4 v=P at*;unfold aw5 af0 at c1f c1t;cases P with
 |false=>
  rw[aH0,if_neg (by decide)]
  cases O with
  |false=>
   have c1:=c1f rfl;refine y8 [19,1000013,1000013000003,1000016,1000019] [.cell 8 25,.tmp 9] 124 Tryz.func47 ?_;repeat' first|refine o6 ?_|simp -dsimp -implicitDefEqProofs (disch:=(simp only[ll];omega)) only[go_sem,ac1]|refine o5 (c1 _) ?_|refine⟨_,_,c1 _,?_⟩|fail
   exact am0 (ax3 le_zero) (ah1 rfl)
  |true=>
   have c1:=c1t rfl;refine y8 [19,1000013,1000013000003,1000016,1000019] [.cell 8 25,.tmp 9] 124 Tryz.func47 ?_;repeat' first|refine o6 ?_|simp -dsimp -implicitDefEqProofs (disch:=(simp only[ll];omega)) only[go_sem,ac1]|refine o5 (c1 _) ?_|refine⟨_,_,c1 _,?_⟩|fail
   exact am0 (ax3 le_zero) (ah1 rfl)
 |true=>
  have hO':O=true:=hob rfl;subst hO';have c1:=c1t rfl;rw[Bool.true_and];cases hs:Id.aU7 server with
  |false=>
   rw[hs] at c2;rw[aH0,if_neg (by decide)]
   refine y8 [19,1000013,1000013000003,1000016,1000019] [.cell 8 25,.tmp 9] 124 Tryz.func47 ?_;repeat' first|refine o6 ?_|simp -dsimp -implicitDefEqProofs (disch:=(simp only[ll];omega)) only[go_sem,ac1]|refine o5 (c1 _) ?_|refine⟨_,_,c1 _,?_⟩|refine o5 (c2 _) ?_|refine⟨_,_,c2 _,?_⟩|fail
   exact am0 (ax3 le_zero) (ah1 rfl)
  |true=>
   rw[hs] at c2;rw[Bool.true_and];cases hk:cf2 key with
   |false=>
    rw[hk] at c3;rw[if_neg (by decide)]
    refine y8 [19,1000013,1000013000003,1000016,1000019] [.cell 8 25,.tmp 9] 124 Tryz.func47 ?_;repeat' first|refine o6 ?_|simp -dsimp -implicitDefEqProofs (disch:=(simp only[ll];omega)) only[go_sem,ac1]|refine o5 (c1 _) ?_|refine⟨_,_,c1 _,?_⟩|refine o5 (c2 _) ?_|refine⟨_,_,c2 _,?_⟩|refine o5 (c3 _) ?_|refine⟨_,_,c3 _,?_⟩|fail
    exact am0 (ax3 le_zero) (ah1 rfl)
   |true=>
    rw[hk] at c3;rw[if_pos rfl];by_cases hm:(aj6 v).2=0
    ·rw[if_pos hm]
     have hmc:=eq_true hm;have ho1:=ax7 (n:=100000) (v:=(ai0 (ac0 v) server).1) (by omega)
     have c6:=fun H=>bm3 (ai0 (ac0 v) server).1 key H ho1.1 ho1.2
     unfold aQ7 at c6;have d1c:(((ac0 v).items.length:Int)=8)=(decide ((ac0 v).items.length=8)=true):=by rw[decide_eq_true_eq];exact propext ⟨fun h=>by omega,fun h=>by omega⟩
     have d2c:(((ai0 (ac0 v) server).1.items.length:Int)=8)=(decide ((ai0 (ac0 v) server).1.items.length=8)=true):=by rw[decide_eq_true_eq];exact propext ⟨fun h=>by omega,fun h=>by omega⟩
     unfold aw5 af0 at c5;have c7:=fun H=>Ed.cZ8 (o:=.sh) seed (aj6 v).1 H hd (by omega)
     have hsl:=Ed.bM4 seed (aj6 v).1;generalize Ed.au6 seed (aj6 v).1=sg at*;have htl:(ac5 aa6 sg).length=86:=by rw[az4,hsl]
     have c8: ∀H:List AObj,o8 Tryz.prog 81 [.sl .sh 1 (sg.map o7)] H (fun y H'=>y=.str (ac5 aa6 sg)/\H'=H):=fun H=>c09 (o:=.sh) sg H (by omega)
     generalize ac5 aa6 sg=t at*;have hts:aa2 (ad5 t)<=200:=by rw[aD4,htl];decide
     have c9:=fun H=>(bZ6 (ai0 (ac0 v) server).1 (ad5 t) key H (by omega) (by omega) (by omega)).weak (args:=[jAV (ai0 (ac0 v) server).1,.str key,.agg [.lit (.int .i64 4),.lit (.int .i64 0),.str t,.sl .full 0 [],.sl .full 0 []]]) rfl (fun j x y h1 h2=>by
      match j with
      |0=>cases h1;cases h2;exact Le.refl _
      |1=>cases h1;cases h2;exact Le.refl _
      |2=>cases h1;cases h2;exact em0
      |j+3=>simp at h1)
     have hp1:=a05 (v:=(ai0 (ac0 v) server).1) (x:=ad5 t) (s:=key);have hn1: ∀s:bytes,al5 s=s.length+1:=fun s=>by unfold al5;omega
     rw[hn1] at hp1;have c10:=fun H=>bZ6 (ac0 v) (af8 (ai0 (ac0 v) server).1 key (ad5 t)).1 server H (by omega) (by omega) (by omega)
     have hp2:=a05 (v:=ac0 v) (x:=(af8 (ai0 (ac0 v) server).1 key (ad5 t)).1) (s:=server);rw[hn1] at hp2;have c11:=fun H=>bZ6 v (af8 (ac0 v) server (af8 (ai0 (ac0 v) server).1 key (ad5 t)).1).1 ab5 H (by omega) (by omega) (by decide)
     unfold af9 at c9 c10 c11;generalize af8 (ai0 (ac0 v) server).1 key (ad5 t)=p at*;generalize af8 (ac0 v) server p.1=q at*;generalize af8 v ab5 q.1=z at*;unfold ab5 at c11;generalize (ai0 (ac0 v) server).2=b at*;generalize (ai0 (ac0 v) server).1=o at*;generalize (ae1 o key).isSome=th at*;generalize decide ((ac0 v).items.length=8)=d1 at*;generalize decide (o.items.length=8)=d2 at*;refine aw8 ab2 mixed [19,2000085,1000012,1000012000006,1000012004006,1000012005006,1000013,1000013000003,1000016,1000019] 7 (rs:=[.cell 8 25,.tmp 9]) (n:=124) Tryz.func47 rfl rfl rfl rfl (nlb rfl) (by kernel_rfl) ?_
     repeat' first|refine o6 ?_|simp -dsimp -implicitDefEqProofs (disch:=(simp only[ll];omega)) only[go_sem,hmc,ac1]|refine o5 (c1 _) ?_|refine⟨_,_,c1 _,?_⟩|refine o5 (c2 _) ?_|refine⟨_,_,c2 _,?_⟩|refine o5 (c3 _) ?_|refine⟨_,_,c3 _,?_⟩|refine o5 (c4 _) ?_|refine⟨_,_,c4 _,?_⟩|refine o5 (c5 _ _) ?_|refine⟨_,_,c5 _ _,?_⟩|refine o5 (c6 _) ?_|refine⟨_,_,c6 _,?_⟩|fail
     by_cases hF:(!b&&d1||!th&&d2)=true
     ·rw[if_pos hF]
      refine aE1 ab2 mixed [19,2000085,1000012,1000012000006,1000012004006,1000012005006,1000013,1000013000003,1000016,1000019] (by kernel_rfl) ?_
      cases b<;>cases d1<;>cases th<;>cases d2<;>simp only[Bool.not_false,Bool.not_true,Bool.true_and,aH0,Bool.and_false,Bool.or_false,Bool.or_true,Bool.false_eq_true] at hF
      all_goals
       repeat' first|refine o6 ?_|simp -dsimp -implicitDefEqProofs (disch:=first|omega|simp only[ll];omega) only[go_sem,d1c,d2c]
       exact am0 (ax3 le_zero) (ah1 rfl)
     ·rw[if_neg hF]
      refine eK5 ab2 mixed [19,2000085,1000012,1000012000006,1000012004006,1000012005006,1000013,1000013000003,1000016,1000019] [(78,.bool false),(1,.str server),(2,.str key),(4,.ip (jAV v)),(7,.ip (.agg (seed.map o7))),(8,.mp H.length 0),(9,.lit (.int .i64 0)),(10,.mp (H.length+1) 0),(11,.lit (.int .i64 0)),(12,.mp (H.length+2) 0)] (H++[.cells (.one 25) au5,.cells (.one 88) (af0 v++(af0 (ac0 v)++[.sl .sh 1 ((aj6 v).1.map o7)])),.cells (.one 25) (af0 o),.cells (.one 25) (af0 ((ae1 o key).getD aa7))]) (by kernel_rfl) ?h1 ?h2
      case h1=>
       cases b<;>cases d1<;>cases th<;>cases d2<;>simp only[Bool.not_false,Bool.not_true,Bool.true_and,aH0,Bool.and_false,Bool.or_false,Bool.or_true,Bool.false_eq_true,not_true_eq_false] at hF
       all_goals
        repeat' first|refine o6 ?_|simp -dsimp -implicitDefEqProofs (disch:=omega) only[go_sem,d1c,d2c]
        exact y9
      case h2=>
       unfold af0 au5;refine cz7 ab2 mixed [19,2000085,1000012,1000012000006,1000012004006,1000012005006,1000013,1000013000003,1000016,1000019] 1 (by kernel_rfl) ?_
       repeat' first|refine o6 ?_|simp -dsimp -implicitDefEqProofs only[go_sem,ac1,hd,hsl,Ed.z64 hsl,Ed.t64 hsl]|refine o5 (c7 _) ?_|refine⟨_,_,c7 _,?_⟩|refine vcA ?_ ?_
       refine aG2 16 (H.length+4) rfl (by rw[aE0];rfl) ?_
       rw[bd5];refine aE1 ab2 mixed [19,2000085,1000012,1000012000006,1000012004006,1000012005006,1000013,1000013000003,1000016,1000019] (by kernel_rfl) ?_
       by_cases hp:p.2=0
       ·have hpc:=eq_true hp
        rw[if_pos hp];by_cases hq:q.2=0
        ·have hqc:=eq_true hq
         rw[if_pos hq];repeat' first|refine o6 ?_|simp -dsimp -implicitDefEqProofs only[go_sem,hpc,hqc,ac1,hsl,Ed.t64 hsl,aj3,ak3,List.drop_zero,xq9]|refine o5 (c8 _) ?_|refine⟨_,_,c8 _,?_⟩|refine o5 (c9 _) ?_|refine⟨_,_,c9 _,?_⟩|refine o5 (c10 _) ?_|refine⟨_,_,c10 _,?_⟩|refine o5 (c11 _) ?_|refine⟨_,_,c11 _,?_⟩|fail
         exact ah1 rfl
        ·have hqc:=eq_false hq
         rw[if_neg hq];repeat' first|refine o6 ?_|simp -dsimp -implicitDefEqProofs only[go_sem,hpc,hqc,ac1,hsl,Ed.t64 hsl,aj3,ak3,List.drop_zero,xq9]|refine o5 (c8 _) ?_|refine⟨_,_,c8 _,?_⟩|refine o5 (c9 _) ?_|refine⟨_,_,c9 _,?_⟩|refine o5 (c10 _) ?_|refine⟨_,_,c10 _,?_⟩|fail
         exact am0 (ax3 le_zero) (ah1 rfl)
       ·have hpc:=eq_false hp
        rw[if_neg hp];repeat' first|refine o6 ?_|simp -dsimp -implicitDefEqProofs only[go_sem,hpc,ac1,hsl,Ed.t64 hsl,aj3,ak3,List.drop_zero,xq9]|refine o5 (c8 _) ?_|refine⟨_,_,c8 _,?_⟩|refine o5 (c9 _) ?_|refine⟨_,_,c9 _,?_⟩|fail
        exact am0 (ax3 le_zero) (ah1 rfl)
    ·rw[if_neg hm]
     have hmc:=eq_false hm;refine y8 [19,1000013,1000013000003,1000016,1000019] [.cell 8 25,.tmp 9] 124 Tryz.func47 ?_;repeat' first|refine o6 ?_|simp -dsimp -implicitDefEqProofs (disch:=(simp only[ll];omega)) only[go_sem,hmc,ac1]|refine o5 (c1 _) ?_|refine⟨_,_,c1 _,?_⟩|refine o5 (c2 _) ?_|refine⟨_,_,c2 _,?_⟩|refine o5 (c3 _) ?_|refine⟨_,_,c3 _,?_⟩|refine o5 (c4 _) ?_|refine⟨_,_,c4 _,?_⟩|fail
     exact am0 (ax3 le_zero) (ah1 rfl)
end Se
end
section
open Go V
namespace Se
def bI1(p:bytes×Int)(pub m:bytes):Int:=if p.2=0/\p.1.length=64 then(if Ed.aM7 pub m p.1=true then 0 else 8) else 2
def aO4(v:JV)(server key pub:bytes):Int:=
 if aB4 v=true then
  (if(aj6 v).2=0 then
   (match ae1 (ai0 (ac0 v) server).1 key with
    |none=>7
    |some t=>bI1 (aZ5 aa6 t.text) pub (aj6 v).1)
   else(aj6 v).2)
 else 1
theorem aZ8(v:JV)(server key pub:bytes)(H:List AObj)(hv:aa2 v<=40000)(h2:key.length<=1000)(hd:pub.length=32):o8 Tryz.prog 33 [jAV v,.str server,.str key,.agg (pub.map o7)] H (fun y H'=>y=.lit (.int .i64 (aO4 v server key pub))/\H'=H):=by
 have c0:=dD3 (k:=H.length) (v:=v) (H++[aw5 v [.lit (.int .i64 0),.lit (.int .i64 0),.str [],.sl .full 0 [],.sl .full 0 [],.sl .full 0 []]]) hv (af6 (o:=.full) (fun k e=>by cases e)) (by rw[aW1];rfl)
 have c1f:am2 v=false->o8 Tryz.prog 58 [.mp H.length 0] (H++[aw5 v [.lit (.int .i64 0),.lit (.int .i64 0),.str [],.sl .full 0 [],.sl .full 0 [],.sl .full 0 []]]) (fun y H'=>y=.bool false/\H'=H++[aw5 v [.lit (.int .i64 0),.lit (.int .i64 0),.str [],.sl .full 0 [],.sl .full 0 [],.sl .full 0 []]]):=fun h=>c0.mono fun x H' e=>⟨by rw[e.1,aB4,h];rfl,by rw[e.2,h];rfl⟩
 have c1t:am2 v=true->o8 Tryz.prog 58 [.mp H.length 0] (H++[aw5 v [.lit (.int .i64 0),.lit (.int .i64 0),.str [],.sl .full 0 [],.sl .full 0 [],.sl .full 0 []]]) (fun y H'=>y=.bool (aB4 v)/\H'=H++[aw5 v (af0 (ac0 v)++[.sl .full 0 []])]):=fun h=>c0.mono fun x H' e=>⟨e.1,by rw[e.2,h,if_pos rfl,bn5];rfl⟩
 clear c0;have hob:aB4 v=true->am2 v=true:=fun h=>by
  unfold aB4 at h;simp only[xq3] at h;exact h.1
 have c4:=fun H=>cF1 v H hv
 have hsg:aa2 (ac0 v)<=40000:=by
  have:=aC4 (v:=v) (s:=ab5);unfold ac0;cases hg:ae1 v ab5 with
  |none=>decide
  |some x=>
   rw[hg] at this;exact ay9 this hv
 have c5: ∀m,o8 Tryz.prog 60 [.mp H.length 0,.str server] (H++[aw5 v (af0 (ac0 v)++[m])]) (fun y H'=>y=.tup [jAV (ai0 (ac0 v) server).1,.bool (ai0 (ac0 v) server).2]/\H'=H++[aw5 v (af0 (ac0 v)++[m])]):=fun m=>
  eb4 (k:=H.length) server _ hsg (by rw[aW1];rfl)
 have how:aa2 (ai0 (ac0 v) server).1<=40000:=by
  have:=aC4 (v:=ac0 v) (s:=server);unfold ai0;cases hg:ae1 (ac0 v) server with
  |none=>decide
  |some x=>
   rw[hg] at this;exact ay9 this hsg
 unfold aG6 at c4;unfold aO4;have hml:(aj6 v).1.length<=8192:=by
  unfold aj6;split
  ·split
   ·exact bN3 _
   ·exact aP7 _
  ·exact aP7 _
 generalize hO:am2 v=O at*;generalize aB4 v=P at*;unfold aw5 af0 at c1f c1t;cases P with
 |false=>
  rw[if_neg (by decide)]
  cases O with
  |false=>
   have c1:=c1f rfl;refine y8 [18,1000015] [.tmp 8] 72 Tryz.func33 ?_;repeat' first|refine o6 ?_|simp -dsimp -implicitDefEqProofs only[go_sem,ac1]|refine o5 (c1) ?_|refine⟨_,_,c1,?_⟩|fail
   exact aa5 _ (Le.refl _) (.lit _) ⟨rfl,rfl⟩
  |true=>
   have c1:=c1t rfl;refine y8 [18,1000015] [.tmp 8] 72 Tryz.func33 ?_;repeat' first|refine o6 ?_|simp -dsimp -implicitDefEqProofs only[go_sem,ac1]|refine o5 (c1) ?_|refine⟨_,_,c1,?_⟩|fail
   exact aa5 _ (Le.refl _) (.lit _) ⟨rfl,rfl⟩
 |true=>
  have hO':O=true:=hob rfl;subst hO';have c1:=c1t rfl;rw[if_pos rfl];by_cases hm:(aj6 v).2=0
  ·rw[if_pos hm]
   have hmc:=eq_true hm;have ho1:=ax7 (n:=100000) (v:=(ai0 (ac0 v) server).1) (by omega)
   have c6:=fun H=>bm3 (ai0 (ac0 v) server).1 key H ho1.1 ho1.2
   have hs6:=aC4 (v:=(ai0 (ac0 v) server).1) (s:=key);unfold aQ7 at c6;unfold aw5 af0 at c5;cases hg:ae1 (ai0 (ac0 v) server).1 key with
   |none=>
    rw[hg] at c6;refine y8 [18,1000015] [.tmp 8] 72 Tryz.func33 ?_;repeat' first|refine o6 ?_|simp -dsimp -implicitDefEqProofs (disch:=(simp only[ll];omega)) only[go_sem,hmc,ac1]|refine o5 (c1) ?_|refine⟨_,_,c1,?_⟩|refine o5 (c4 _) ?_|refine⟨_,_,c4 _,?_⟩|refine o5 (c5 _) ?_|refine⟨_,_,c5 _,?_⟩|refine o5 (c6 _) ?_|refine⟨_,_,c6 _,?_⟩|fail
    exact aa5 _ (Le.refl _) (.lit _) ⟨rfl,rfl⟩
   |some t=>
    rw[hg] at c6 hs6;rw[Option.getD_some] at c6 hs6;have htl:=size_text t;have c7:=fun H=>ea3 t.text H (by omega)
    unfold aG6 at c7;show o8 Tryz.prog 33 [jAV v,.str server,.str key,.agg (pub.map o7)] H (fun y H'=>y=.lit (.int .i64 (bI1 (aZ5 aa6 t.text) pub (aj6 v).1))/\H'=H)
    generalize aZ5 aa6 t.text=p at*;unfold bI1;by_cases hp:p.2=0
    ·have hpc:=eq_true hp
     by_cases hl:p.1.length=64
     ·have hlc:((p.1.length:Int)=64)=True:=eq_true (by omega)
      rw[if_pos ⟨hp,hl⟩];have c8:=fun H=>Ed.aZ8 (o:=.sh) pub (aj6 v).1 p.1 H hd (by omega) hl
      generalize Ed.aM7 pub (aj6 v).1 p.1=V at*;cases V with
      |true=>
       refine y8 [18,1000015] [.tmp 8] 72 Tryz.func33 ?_;repeat' first|refine o6 ?_|simp -dsimp -implicitDefEqProofs (disch:=first|omega|simp only[ll];omega) only[go_sem,hmc,hpc,hlc,ac1,hd,hl,Ed.t64 hl]|refine o5 (c1) ?_|refine⟨_,_,c1,?_⟩|refine o5 (c4 _) ?_|refine⟨_,_,c4 _,?_⟩|refine o5 (c5 _) ?_|refine⟨_,_,c5 _,?_⟩|refine o5 (c6 _) ?_|refine⟨_,_,c6 _,?_⟩|refine o5 (c7 _) ?_|refine⟨_,_,c7 _,?_⟩|refine o5 (c8 _) ?_|refine⟨_,_,c8 _,?_⟩|fail
       exact aa5 _ (Le.refl _) (.lit _) ⟨rfl,rfl⟩
      |false=>
       refine y8 [18,1000015] [.tmp 8] 72 Tryz.func33 ?_;repeat' first|refine o6 ?_|simp -dsimp -implicitDefEqProofs (disch:=first|omega|simp only[ll];omega) only[go_sem,hmc,hpc,hlc,ac1,hd,hl,Ed.t64 hl]|refine o5 (c1) ?_|refine⟨_,_,c1,?_⟩|refine o5 (c4 _) ?_|refine⟨_,_,c4 _,?_⟩|refine o5 (c5 _) ?_|refine⟨_,_,c5 _,?_⟩|refine o5 (c6 _) ?_|refine⟨_,_,c6 _,?_⟩|refine o5 (c7 _) ?_|refine⟨_,_,c7 _,?_⟩|refine o5 (c8 _) ?_|refine⟨_,_,c8 _,?_⟩|fail
       exact aa5 _ (Le.refl _) (.lit _) ⟨rfl,rfl⟩
     ·have hlc:((p.1.length:Int)=64)=False:=eq_false (by omega)
      rw[if_neg (fun h=>hl h.2)]
      refine y8 [18,1000015] [.tmp 8] 72 Tryz.func33 ?_;repeat' first|refine o6 ?_|simp -dsimp -implicitDefEqProofs (disch:=first|omega|simp only[ll];omega) only[go_sem,hmc,hpc,hlc,ac1]|refine o5 (c1) ?_|refine⟨_,_,c1,?_⟩|refine o5 (c4 _) ?_|refine⟨_,_,c4 _,?_⟩|refine o5 (c5 _) ?_|refine⟨_,_,c5 _,?_⟩|refine o5 (c6 _) ?_|refine⟨_,_,c6 _,?_⟩|refine o5 (c7 _) ?_|refine⟨_,_,c7 _,?_⟩|fail
      exact aa5 _ (Le.refl _) (.lit _) ⟨rfl,rfl⟩
    ·have hpc:=eq_false hp
     rw[if_neg (fun h=>hp h.1)]
     refine y8 [18,1000015] [.tmp 8] 72 Tryz.func33 ?_;repeat' first|refine o6 ?_|simp -dsimp -implicitDefEqProofs (disch:=first|omega|simp only[ll];omega) only[go_sem,hmc,hpc,ac1]|refine o5 (c1) ?_|refine⟨_,_,c1,?_⟩|refine o5 (c4 _) ?_|refine⟨_,_,c4 _,?_⟩|refine o5 (c5 _) ?_|refine⟨_,_,c5 _,?_⟩|refine o5 (c6 _) ?_|refine⟨_,_,c6 _,?_⟩|refine o5 (c7 _) ?_|refine⟨_,_,c7 _,?_⟩|fail
     exact aa5 _ (Le.refl _) (.lit _) ⟨rfl,rfl⟩
  ·rw[if_neg hm]
   have hmc:=eq_false hm;refine y8 [18,1000015] [.tmp 8] 72 Tryz.func33 ?_;repeat' first|refine o6 ?_|simp -dsimp -implicitDefEqProofs only[go_sem,hmc,ac1]|refine o5 (c1) ?_|refine⟨_,_,c1,?_⟩|refine o5 (c4 _) ?_|refine⟨_,_,c4 _,?_⟩|fail
   exact aa5 _ (Le.refl _) (.lit _) ⟨rfl,rfl⟩
end Se
end
section
open Go V
namespace Ev
structure T where
 id:bytes
 room:bytes
 sender:bytes
 typ:bytes
 state:Bool
 key:bytes
 content:JV
 prev:List bytes
 auth:List bytes
 depth:Int
 time:Int
 hash:bytes
 sigs:JV
abbrev cells(e:T):List AV:=[.str e.id,.str e.room,.str e.sender,.str e.typ,.lit (.bool e.state),.str e.key,.lit (.int .i64 e.content.kind),.lit (.int .i64 e.content.num),.str e.content.text,.sl .sh 1 (e.content.names.map .str),.sl .sh 5 (e.content.items.map jAV),.sl .sh 1 (e.prev.map .str),.sl .sh 1 (e.auth.map .str),.lit (.int .i64 e.depth),.lit (.int .i64 e.time),.str e.hash,.lit (.int .i64 e.sigs.kind),.lit (.int .i64 e.sigs.num),.str e.sigs.text,.sl .sh 1 (e.sigs.names.map .str),.sl .sh 5 (e.sigs.items.map jAV)]
def av(e:T):AV:=.agg (cells e)
def zero:T:=⟨[],[],[],[],false,[],aa7,[],[],0,0,[],aa7⟩
def bl2(p:T×Int):AV:=.tup [av p.1,.lit (.int .i64 p.2)]
def bc5:List bytes->List bytes->Bool
 |_,[]=>true
 |d,s::r=>Id.bH9 s&&(!d.contains s&&bc5 (d++[s]) r)
def bw2(most:Nat)(l:List bytes):Bool:=decide (l.length<=most)&&bc5 [] l
def cq8(s:bytes):Bool:=decide (s≠[])&&(decide (s.length<=64)&&(aP2 s&&!Lib.contains s [32]))
def aq8(e:T):Bool:=
 (Id.ay5 33 e.room&&(Id.ay5 64 e.sender&&cq8 e.typ))&&
 ((decide (e.key.length<=255)&&(Lib.validD e.key&&(e.state||decide (e.key=[]))))&&
 (decide (1<=e.depth/\e.depth<=1099511627776/\0<=e.time/\e.time<=1099511627776)&&
 ((decide (e.content.kind=6)&&ab3 12 e.content)&&(bw2 20 e.prev&&bw2 10 e.auth))))
def bh9(n:Int):JV:=.mk 3 n [] [] []
def aC9(l:List bytes):JV:=.mk 5 0 [] [] (l.map ad5)
def aY6:bytes:=[97,117,116,104,95,101,118,101,110,116,115]
def aY4:bytes:=[112,114,101,118,95,101,118,101,110,116,115]
def aO2:bytes:=[100,101,112,116,104]
def bc6:bytes:=[111,114,105,103,105,110,95,115,101,114,118,101,114,95,116,115]
def bc7:bytes:=[114,111,111,109,95,105,100]
def aL5:bytes:=[115,101,110,100,101,114]
def aQ1:bytes:=[115,116,97,116,101,95,107,101,121]
def ac3(e:T):Prs:=[(aY6,aC9 e.auth),(aY4,aC9 e.prev),(ad4,e.content),(aO2,bh9 e.depth),(ae0,aw2 e.hash),(bc6,bh9 e.time),(bc7,ad5 e.room),(aL5,ad5 e.sender),(Se.ab5,e.sigs),(aB5,ad5 e.typ)]++(if e.state=true then[(aQ1,ad5 e.key)] else[])
def ab1(e:T):JV×Int:=aB7 (ac3 e)
def aa4(e:T):JV×Int:=
 if e.sigs.kind=6/\aq8 e=true then(if(ab1 e).2=0/\aV8 (ab1 e).1<=8192 then((ab1 e).1,0) else(aa7,1)) else(aa7,1)
def aO1(e:T):Bool:=decide ((aa4 e).2=0)&&(decide ((aq2 (aa4 e).1).2=0)&&decide ((aq2 (aa4 e).1).1=e.id))
def ak9(v:JV)(s:bytes):JV:=(ae1 v s).getD aa7
def aH1(v:JV):bytes:=(ak9 (ak9 v ae0) aD8).text
def textsOf(v:JV):List bytes:=v.items.map JV.text
def ofJ(v:JV):T:=⟨[],(ak9 v bc7).text,(ak9 v aL5).text,(ak9 v aB5).text,(ae1 v aQ1).isSome,(ak9 v aQ1).text,ak9 v ad4,textsOf (ak9 v aY4),textsOf (ak9 v aY6),(ak9 v aO2).num,(ak9 v bc6).num,aH1 v,ak9 v Se.ab5⟩
open Classical in
noncomputable def bq0(v:JV):T×Int:=
 if am2 v=true then
  (if(aa4 (ofJ v)).2=0/\(ab3 12 (aa4 (ofJ v)).1=true/\ab3 12 v=true/\(aa4 (ofJ v)).1=v) then
   (if(aq2 v).2=0 then({ofJ v with id:=(aq2 v).1},0) else(zero,2))
   else(zero,2))
 else(zero,2)
end Ev
end
section
open Go V
namespace Ev
def aI8(w:bytes×JV->Nat)(l:Prs):Nat:=(l.map w).sum
theorem aH6(w:bytes×JV->Nat)(p:bytes×JV)(r:Prs):aI8 w (p::r)=w p+aI8 w r:=by unfold aI8;rw[List.map_cons,bt8]
theorem bk3(w:bytes×JV->Nat)(p:bytes×JV->Bool): ∀l:Prs,aI8 w (l.filter p)<=aI8 w l
 |[]=>xq0 _
 |q::r=>by
  have:=bk3 w p r;rw[aP6];split
  ·rw[aH6,aH6];omega
  ·rw[aH6];omega
theorem cc6{w:bytes×JV->Nat}{s:bytes}{x c:JV}(hw:w (s,x)<=w (s,c)): ∀l:Prs,srt (l.map (·.1))=true->ad6 s l=some c->aI8 w (ad3 s x l)<=aI8 w l
 |[],_,h=>by cases h
 |q::r,hs,h=>by
  rw[ad3];rw[ad6] at h;by_cases h1:q.1=s
  ·rw[if_pos h1] at h
   cases h
   rw[if_neg (by rw[h1,aA5];decide),if_pos h1,aH6,aH6]
   have:w (s,q.2)=w q:=by rw[<-h1]
   omega
  ·rw[if_neg h1] at h
   have hm:s∈r.map (·.1):=aE4.1 (by rw[h];rfl)
   have hl:=aS0 hs s hm;rw[if_pos hl,aH6,aH6];have:=cc6 hw r (bg6 hs) h;omega
theorem cK2{w:bytes×JV->Nat}(hw: ∀(ns:List bytes) (c:JV),ab3 11 c=true->c.kind=6->w (ad4,am4 ns c)<=w (ad4,c)){l:Prs}(h:OkL l):aI8 w (aq6 l)<=aI8 w l:=by
 have ho:aI8 w (av3 l)<=aI8 w l:=bk3 w _ l;unfold aq6;cases e:ad6 ad4 l with
 |none=>exact ho
 |some c=>
  dsimp only;split
  ·rename_i hc
   have hg:ad6 ad4 (av3 l)=some c:=by
    unfold av3;rw[aP3 (p:=hasB ay4) (by decide),e]
   exact ay9 (cc6 (hw _ _ (h.get e) hc) _ (h.filter _).srt hg) ho
  ·exact ho
theorem dy6(l:Prs):sumP l=aI8 (fun p=>al5 p.1+aa2 p.2) l:=rfl
theorem dz8{v:JV}(h:am2 v=true):aa2 (ab6 v).1<=aa2 v:=by
 obtain⟨e,ok⟩:=aV3 h;rw[e,(bl4 ok).1,aZ3,aZ3,dy6,dy6];have:=cK2 (w:=fun p=>al5 p.1+aa2 p.2) (fun ns c _ _=>by
  have:=bz2 ns c;dsimp only;omega) ok
 omega
theorem a06(v:JV):aa2 (ab6 v).1<=aa2 v:=by
 by_cases h:am2 v=true
 ·exact dz8 h
 ·unfold ab6
  rw[if_neg h];exact aA2 v
def pw(p:bytes×JV):Nat:=(aS4 p.1).length+2+(af7 p.2).length
theorem d32(b:Bool)(n:bytes):(aW0 b true n).length+(if b then 1 else 0)=(aS4 n).length+2:=by
 cases b<;>simp[aW0]<;>omega
theorem bA4: ∀(l:Prs) (b:Bool),(aw6 true (l.map (·.2)) b (l.map (·.1))).length+(if b=true/\l≠[] then 1 else 0)=aI8 pw l
 |[],b=>by simp[bP1,aI8]
 |p::r,b=>by
  have h1:=d32 b p.1;have h2:=bA4 r false;rw[List.map_cons,List.map_cons,aX2,aH6,<-h2];unfold pw;simp only[List.headD_cons,List.tail_cons,List.length_append];cases b<;>simp at h1⊢ <;>omega
theorem cC0(l:Prs):(af7 (ofP ad2 l)).length=2+(aI8 pw l - (if l≠[] then 1 else 0)):=by
 have h:=bA4 l true;have e:af7 (ofP ad2 l)=123::(aw6 true (l.map (·.2)) true (l.map (·.1))++[125]):=by
  rw[aE3];rfl
 rw[e];simp only[List.length_cons,List.length_append,List.length_nil];simp only[true_and] at h;omega
theorem bN2{a b:Prs}(h:aI8 pw a<=aI8 pw b):(af7 (ofP ad2 a)).length<=(af7 (ofP ad2 b)).length:=by
 rw[cC0,cC0];cases a with
 |nil=>simp[aI8]
 |cons p r=>
  cases b with
  |nil=>
   rw[aH6] at h;have:aI8 pw []=0:=rfl;have:2<=pw p:=by unfold pw;omega
   omega
  |cons q t=>
   rw[if_pos (by simp),if_pos (by simp)]
   omega
theorem co0(ns:List bytes){c:JV}(h:ab3 11 c=true)(hk:c.kind=6):(af7 (am4 ns c)).length<=(af7 c).length:=by
 have h12:=bh0 (m:=12) (by omega) c h
 obtain⟨e,ok⟩:=aV3 (v:=c) (by unfold am2;rw[h12,decide_eq_true hk];rfl)
 rw[e,cq9 ok];exact bN2 (bk3 _ _ _)
theorem ek1{v:JV}(h:am2 v=true)(hl:(af7 v).length<=8192):(aq2 v).2=0:=by
 obtain⟨e,ok⟩:=aV3 h;have h1:=bl4 ok;have h2:aI8 pw ((aq6 (prs v)).filter fun q=>!hasB [ab5] q.1)<=aI8 pw (prs v):=ay9 (bk3 _ _ _) (cK2 (fun ns c hr hk=>by
  have:=co0 ns hr hk;unfold pw;dsimp only;omega) ok)
 have h3:=bN2 h2;rw[<-e] at h3;have h4:=bH2 (h1.2.filter fun q=>!hasB [ab5] q.1)
 have h5:(aQ0 v).2=0:=by
  conv=>lhs;rw[e]
  rw[do0 ok];have hp:ai7 (ofP ad2 ((aq6 (prs v)).filter fun q=>!hasB [ab5] q.1))=(af7 (ofP ad2 ((aq6 (prs v)).filter fun q=>!hasB [ab5] q.1)),0):=by
   unfold ai7;rw[if_pos h4,if_neg (Nat.not_lt.2 (ay9 h3 hl))]
  unfold bg5;rw[hp];rfl
 unfold aq2;rw[if_pos h5]
theorem ei1:OkL []:=⟨rfl,fun s h=>(by cases h),fun x h=>(by cases h)⟩
theorem dd8: ∀(l a:Prs),OkL a->(∀p∈l,Lib.validD p.1=true/\ab3 11 p.2=true)->OkL (ah2 a l)
 |[],a,h,_=>h
 |p::r,a,h,k=>dd8 r (ad3 p.1 p.2 a) (h.ins (k p (au8 ..)).1 (k p (au8 ..)).2) fun q hq=>k q (aA0 _ hq)
open Classical in
theorem make_is{l:Prs}(h:(aB7 l).2=0):aB7 l=(ofP ad2 (ah2 [] l),0)/\OkL (ah2 [] l)/\(l.map (·.1)).Nodup:=by
 unfold aB7 at h⊢;by_cases hg:l.all bA6=true
 ·rw[if_pos hg] at h⊢
  rw[cA0] at h⊢;by_cases hn:(l.map (·.1)).Nodup/\ ∀s∈l.map (·.1),s∉([]:Prs).map (·.1)
  ·rw[if_pos hn] at h⊢
   dsimp only at h⊢;by_cases ht:l.any aY0=true
   ·rw[if_pos ht] at h
    cases h
   ·rw[if_neg ht]
    refine⟨rfl,dd8 _ _ ei1 fun p hp=>?_,hn.1⟩
    have h1:=xq5.1 hg p hp;rw[bi8,xq3] at h1;have h2: ¬12<=al6 13 p.2:=fun e=>ht (bK3.2 ⟨p,hp,decide_eq_true e⟩)
    exact⟨h1.2,bN0 13 11 12 p.2 h1.1 (by omega) (by omega)⟩
  ·rw[if_neg hn] at h
   cases h
 ·rw[if_neg hg] at h
  cases h
theorem bo8{s:bytes}: ∀(l a:Prs),s∉l.map (·.1)->ad6 s (ah2 a l)=ad6 s a
 |[],_,_=>rfl
 |p::r,a,h=>by
  rw[List.map_cons,xq8,not_or] at h;exact(bo8 r (ad3 p.1 p.2 a) h.2).trans (aw0 h.1 _ _)
theorem bj0{s:bytes}{x:JV}: ∀(l a:Prs),(l.map (·.1)).Nodup->(s,x)∈l->ad6 s (ah2 a l)=some x
 |[],_,_,h=>by cases h
 |p::r,a,hn,h=>by
  rw[List.map_cons,ch8] at hn;rcases xq8.1 h with rfl|h
  ·exact(bo8 r (ad3 s x a) hn.1).trans (aT5 s x a)
  ·exact bj0 r (ad3 p.1 p.2 a) hn.2 h
theorem ck8: ∀(l a:Prs),sumP (ah2 a l)<=sumP a+sumP l
 |[],a=>Nat.le_add_right _ _
 |p::r,a=>by
  have h1:=ck8 r (ad3 p.1 p.2 a);have h2:=cd2 p.1 p.2 a;rw[av4];show sumP (ah2 (ad3 p.1 p.2 a) r)<=_
  omega
theorem dG0{l:Prs}(h:(aB7 l).2≠0):(aB7 l).1=aa7:=by
 unfold aB7 at h⊢;split
 ·rename_i hg
  rw[if_pos hg] at h;cases e:bj8 [] l with
  |none=>rfl
  |some a=>
   rw[e] at h;dsimp only at h⊢;split
   ·rfl
   ·rename_i ht
    rw[if_neg ht] at h;exact absurd rfl h
 ·rfl
theorem dm9(l:Prs):aa2 (aB7 l).1<=1+sumP l:=by
 by_cases h:(aB7 l).2=0
 ·rw[(make_is h).1]
  show aa2 (ofP ad2 (ah2 [] l))<=_
  rw[aZ3];have:=ck8 l [];have h0:sumP []=0:=rfl;show 1+0+_<=_
  omega
 ·rw[dG0 h]
  have:aa2 aa7=1:=rfl;omega
theorem bO1: ∀(l d:List bytes),bc5 d l=true-> ∀s∈l,s.length=44
 |[],_,_,s,h=>by cases h
 |a::r,d,h,s,hs=>by
  rw[bc5,xq3,xq3] at h;rcases xq8.1 hs with rfl|hs
  ·have:=h.1
   unfold Id.bH9 at this;simp only[xq3,decide_eq_true_eq] at this;exact this.2.1
  ·exact bO1 r _ h.2.2 s hs
structure Fr(e:T):Prop where
 room:e.room.length<=255
 sender:e.sender.length<=255
 typ:e.typ.length<=64
 key:e.key.length<=255
 nokey:e.state=false->e.key=[]
 prev:e.prev.length<=20/\ ∀s∈e.prev,s.length=44
 auth:e.auth.length<=10/\ ∀s∈e.auth,s.length=44
theorem bw9{e:T}(h:aq8 e=true):Fr e:=by
 unfold aq8 Id.ay5 cq8 bw2 at h;simp only[xq3,bT4,decide_eq_true_eq] at h;obtain⟨⟨h1,h2,h3⟩,⟨h4,_,h5⟩,_,_,h6,h7⟩:=h;exact⟨h1.1,h2.1,h3.2.1,h4,fun hs=>by rcases h5 with h5|h5;· rw[hs] at h5;cases h5
                                                                                                                                                         ·exact h5,⟨h6.1,bO1 _ _ h6.2⟩,⟨h7.1,bO1 _ _ h7.2⟩⟩
theorem bp9{l:List bytes}(h: ∀s∈l,s.length=44):aa2 (aC9 l)=1+45*l.length:=by
 rw[av2,aM2];show 1+0+0+((l.map ad5).map aa2).sum=_
 have:((l.map ad5).map aa2).sum=45*l.length:=by
  induction l with
  |nil=>rfl
  |cons a r ih=>
   have h1:=ih fun s hs=>h s (aA0 _ hs)
   have h2:=h a (au8 ..);simp only[List.map_cons,bt8,aD4,List.length_cons];omega
 omega
theorem cd5(n:Int):aa2 (bh9 n)=1:=rfl
theorem c54{e:T}(h:aq8 e=true):sumP (ac3 e)<=aa2 e.content+aa2 e.sigs+e.hash.length+2500:=by
 obtain⟨h1,h2,h3,h4,_,⟨h5,h6⟩,h7,h8⟩:=bw9 h;have e1:=bp9 h6;have e2:=bp9 h8;unfold ac3;have hn: ∀n:bytes,al5 n=1+n.length:=fun n=>rfl
 cases hs:e.state with
 |false=>
  simp only[Bool.false_eq_true,if_false,List.append_nil,av4,aD4,bM2,cd5,hn,e1,e2];simp only[aY6,aY4,ad4,aO2,ae0,bc6,bc7,aL5,Se.ab5,aB5,aQ1,List.length_cons,List.length_nil,sumP,List.map_nil,List.sum_nil];omega
 |true=>
  simp only[if_true,List.cons_append,List.nil_append,av4,aD4,bM2,cd5,hn,e1,e2];simp only[aY6,aY4,ad4,aO2,ae0,bc6,bc7,aL5,Se.ab5,aB5,aQ1,List.length_cons,List.length_nil,sumP,List.map_nil,List.sum_nil];omega
theorem cl4{e:T}(h:aq8 e=true):aa2 (ab1 e).1<=aa2 e.content+aa2 e.sigs+e.hash.length+2501:=by
 have h1:=dm9 (ac3 e);have h2:=c54 h;unfold ab1;omega
theorem bn6{e:T}(h:(ab1 e).2=0){n:bytes}{x:JV}(hm:(n,x)∈ac3 e):ae1 (ab1 e).1 n=some x:=by
 obtain⟨h1,h2,h3⟩:=make_is h;unfold ab1;rw[h1,aJ3 rfl];exact bj0 _ _ h3 hm
theorem dJ4{e:T}(h:(ab1 e).2=0)(hs:e.state=false):ae1 (ab1 e).1 aQ1=none:=by
 obtain⟨h1,h2,h3⟩:=make_is h;unfold ab1;rw[h1,aJ3 rfl];refine(bo8 _ _ ?_).trans rfl;unfold ac3;rw[hs];simp only[Bool.false_eq_true,if_false,List.append_nil,List.map_cons,List.map_nil];decide
theorem eo6{e:T}(h:(ab1 e).2=0)(hs:e.state=true):ae1 (ab1 e).1 aQ1=some (ad5 e.key):=bn6 h (by unfold ac3;rw[hs];simp)
theorem ce8{e:T}(h:(ab1 e).2=0):am2 (ab1 e).1=true:=by
 obtain⟨h1,h2,h3⟩:=make_is h;unfold ab1;rw[h1];exact cJ4 h2
theorem aS8{e:T}(h:(aa4 e).2=0):e.sigs.kind=6/\aq8 e=true/\(ab1 e).2=0/\(af7 (ab1 e).1).length<=8192/\(aa4 e).1=(ab1 e).1:=by
 unfold aa4 at h⊢;by_cases h1:e.sigs.kind=6/\aq8 e=true
 ·rw[if_pos h1] at h⊢
  by_cases h2:(ab1 e).2=0/\aV8 (ab1 e).1<=8192
  ·rw[if_pos h2]
   refine⟨h1.1,h1.2,h2.1,?_,rfl⟩;have h3:=h2.2;have h4:=ce8 h2.1;unfold am2 at h4;rw[xq3] at h4;unfold aV8 ai7 at h3;rw[if_pos h4.2] at h3;by_cases h5:8192 < (af7 (ab1 e).1).length
   ·rw[if_pos h5,if_pos rfl] at h3
    omega
   ·omega
  ·rw[if_neg h2] at h
   cases h
 ·rw[if_neg h1] at h
  cases h
theorem br4(e:T)(s:bytes):aa4 {e with id:=s}=aa4 e:=rfl
theorem bR9(l:List bytes):textsOf (aC9 l)=l:=by
 unfold textsOf aC9;show (l.map ad5).map JV.text=l
 rw[aW3];exact(bS9 fun _ _=>rfl).trans (List.map_id l)
theorem bl5{e:T}(h:(aa4 e).2=0):ofJ (aa4 e).1={e with id:=[]}:=by
 obtain⟨_,hf,hm,_,hv⟩:=aS8 h;have g: ∀{n x},(n,x)∈ac3 e->ak9 (aa4 e).1 n=x:=fun hx=>by
  unfold ak9;rw[hv,bn6 hm hx];rfl
 unfold ofJ;rw[g (n:=bc7) (x:=ad5 e.room) (by simp[ac3]),g (n:=aL5) (x:=ad5 e.sender) (by simp[ac3]),g (n:=aB5) (x:=ad5 e.typ) (by simp[ac3]),g (n:=ad4) (x:=e.content) (by simp[ac3]),g (n:=aY4) (x:=aC9 e.prev) (by simp[ac3]),g (n:=aY6) (x:=aC9 e.auth) (by simp[ac3]),g (n:=aO2) (x:=bh9 e.depth) (by simp[ac3]),g (n:=bc6) (x:=bh9 e.time) (by simp[ac3]),g (n:=Se.ab5) (x:=e.sigs) (by simp[ac3]),bR9,bR9]
 have h1:aH1 (aa4 e).1=e.hash:=by
  unfold aH1;rw[g (n:=ae0) (x:=aw2 e.hash) (by simp[ac3])]
  unfold ak9;rw[b48];rfl
 have h2:(ae1 (aa4 e).1 aQ1).isSome=e.state/\(ak9 (aa4 e).1 aQ1).text=e.key:=by
  unfold ak9;rw[hv];cases hs:e.state with
  |false=>
   rw[dJ4 hm hs,(bw9 hf).nokey hs];exact⟨rfl,rfl⟩
  |true=>
   rw[eo6 hm hs];exact⟨rfl,rfl⟩
 rw[h1,h2.1,h2.2];rfl
theorem cq0{e:T}(h:(aa4 e).2=0):am2 (aa4 e).1=true:=by
 obtain⟨_,_,hm,_,hv⟩:=aS8 h;rw[hv];exact ce8 hm
theorem bl7{e:T}(h:(aa4 e).2=0):(aq2 (aa4 e).1).2=0:=by
 obtain⟨_,_,hm,hl,hv⟩:=aS8 h;rw[hv];exact ek1 (ce8 hm) hl
theorem bV2{e:T}(h:(aa4 e).2=0):bq0 (aa4 e).1=({e with id:=(aq2 (aa4 e).1).1},0):=by
 have ho:=cq0 h;have hr:ab3 12 (aa4 e).1=true:=by
  unfold am2 at ho;rw[xq3] at ho;exact ho.2
 unfold bq0;rw[if_pos ho,bl5 h,br4,if_pos ⟨h,hr,hr,rfl⟩,if_pos (bl7 h)]
end Ev
end
section
open Go V
namespace Ev
def ab8(e:T):T:={e with id:=[],hash:=[],sigs:=ad2}
def ah8(v:JV)(server key seed:bytes):JV×Int:=
 if(ab6 v).2=0 then(ak9 (Se.ba8 (ab6 v).1 server key seed).1 Se.ab5,(Se.ba8 (ab6 v).1 server key seed).2) else(aa7,(ab6 v).2)
def bY5(e:T):T×Int:=
 if(aa4 e).2=0 then(if(aq2 (aa4 e).1).2=0 then({e with id:=(aq2 (aa4 e).1).1},0) else(zero,(aq2 (aa4 e).1).2)) else(zero,3)
def bY6(e:T)(q:JV×Int):T×Int:=if q.2=0 then bY5 {e with sigs:=q.1} else(zero,q.2)
def bY7(e:T)(w:JV×Int)(server key seed:bytes):T×Int:=if w.2=0 then bY6 {e with hash:=aH1 w.1} (ah8 w.1 server key seed) else(zero,w.2)
def ao8(e:T)(server key seed:bytes):T×Int:=
 if aq8 (ab8 e)=true then(if(ab1 (ab8 e)).2=0 then bY7 (ab8 e) (ab4 (ab1 (ab8 e)).1) server key seed else(zero,1)) else(zero,1)
noncomputable def bs0(v:JV)(server key pub:bytes):Int:=
 if(ab6 v).2=0/\Se.aO4 (ab6 v).1 server key pub=0 then(if bB0 v=true then 0 else 17) else 8
noncomputable def aU4(e:T)(server key pub:bytes):Int:=if aO1 e=true then bs0 (aa4 e).1 server key pub else 1
def ak6(e:T)(q:JV):T:={ab8 e with hash:=aH1 (ab4 (ab1 (ab8 e)).1).1,sigs:=q}
theorem cY4{e:T}{server key seed:bytes}(h:(ao8 e server key seed).2=0): ∃q,aq8 (ab8 e)=true/\(ab1 (ab8 e)).2=0/\(ab4 (ab1 (ab8 e)).1).2=0/\ah8 (ab4 (ab1 (ab8 e)).1).1 server key seed=(q,0)/\(aa4 (ak6 e q)).2=0/\ao8 e server key seed=({ak6 e q with id:=(aq2 (aa4 (ak6 e q)).1).1},0):=by
 unfold ao8 at h⊢;by_cases h1:aq8 (ab8 e)=true
 ·rw[if_pos h1] at h⊢
  by_cases h2:(ab1 (ab8 e)).2=0
  ·rw[if_pos h2] at h⊢
   unfold bY7 at h⊢;by_cases h3:(ab4 (ab1 (ab8 e)).1).2=0
   ·rw[if_pos h3] at h⊢
    generalize hq:ah8 (ab4 (ab1 (ab8 e)).1).1 server key seed=p at*;unfold bY6 at h⊢;by_cases h4:p.2=0
    ·rw[if_pos h4] at h⊢
     unfold bY5 at h⊢;refine⟨p.1,h1,h2,h3,by rw[<-h4],?_⟩
     show (aa4 {ab8 e with hash:=aH1 (ab4 (ab1 (ab8 e)).1).1,sigs:=p.1}).2=0/\_=(({({ab8 e with hash:=aH1 (ab4 (ab1 (ab8 e)).1).1,sigs:=p.1}:T) with id:=(aq2 (aa4 {ab8 e with hash:=aH1 (ab4 (ab1 (ab8 e)).1).1,sigs:=p.1}).1).1}:T),(0:Int))
     by_cases h5:(aa4 {ab8 e with hash:=aH1 (ab4 (ab1 (ab8 e)).1).1,sigs:=p.1}).2=0
     ·rw[if_pos h5] at h⊢
      refine⟨h5,?_⟩;rw[if_pos (bl7 h5)]
     ·rw[if_neg h5] at h
      cases h
    ·rw[if_neg h4] at h
     exact absurd h h4
   ·rw[if_neg h3] at h
    exact absurd h h3
  ·rw[if_neg h2] at h
   cases h
 ·rw[if_neg h1] at h
  cases h
theorem dN5{e:T}{server key seed:bytes}(h:(ao8 e server key seed).2≠0):(ao8 e server key seed).1=zero:=by
 unfold ao8 bY7 bY6 bY5 at h⊢;repeat' split
 all_goals first|rfl|(exfalso;apply h;simp only[*,if_true])
theorem cN5{v:JV}(h:am2 v=true):ae1 (ab6 v).1 ab5=ae1 v ab5:=by
 obtain⟨e,ok⟩:=aV3 h;have:ae1 (ab6 (ofP ad2 (prs v))).1 ab5=ae1 (ofP ad2 (prs v)) ab5:=by
  rw[(bl4 ok).1,bH8];show ad6 ab5 (aq6 (prs v))=_
  rw[bH8];have ho:ad6 ab5 (av3 (prs v))=ad6 ab5 (prs v):=aP3 (p:=hasB ay4) (by decide) _
  unfold aq6;cases ad6 ad4 (prs v) with
  |none=>exact ho
  |some c=>
   dsimp only;split
   ·exact(aw0 (by decide) _ _).trans ho
   ·exact ho
 rwa [<-e] at this
theorem c79{v:JV}(h:(ab4 v).2=0):ae1 (ab4 v).1 ab5=ae1 v ab5:=by
 have hc:=aT3 h;obtain⟨e,ok⟩:=aV3 (aX5 hc);rw[bw6 hc,bH8,aw0 (by decide),<-bH8,<-e]
theorem cr5{v:JV}(h:(ab4 v).2=0):am2 (ab4 v).1=true:=dc8 (bP3 h).1
theorem get_put{v x:JV}{s:bytes}(h:(af8 v s x).2=0):ae1 (af8 v s x).1 s=some x:=by
 obtain⟨hk,hr,hx,hs,e⟩:=b37 h;obtain⟨e1,ok⟩:=aV3 (v:=v) (by unfold am2;rw[hr,decide_eq_true hk];rfl)
 have:ae1 (at6 (ofP ad2 (prs v)) s x) s=some x:=by
  rw[aZ6,aJ3 rfl];exact aT5 s x _
 rw[<-e1] at this;rw[e,this]
theorem dd7(s t:bytes)(x:JV):ae1 (at6 ad2 s x) t=if s=t then some x else none:=by
 have:ae1 (at6 (ofP ad2 []) s x) t=if s=t then some x else none:=by
  rw[aZ6,aJ3 rfl];rfl
 exact this
def bl1(v:JV)(server key:bytes)(t:JV):JV×Int:=
 if(Se.aB4 v&&(Id.aU7 server&&Se.cf2 key))=true then
  (if(Se.aj6 v).2=0 then
   (if(!(Se.ai0 (Se.ac0 v) server).2&&decide ((Se.ac0 v).items.length=8)||!(ae1 (Se.ai0 (Se.ac0 v) server).1 key).isSome&&decide ((Se.ai0 (Se.ac0 v) server).1.items.length=8))=true then(aa7,10)
    else if(af8 (Se.ai0 (Se.ac0 v) server).1 key t).2=0 then
     (if(af8 (Se.ac0 v) server (af8 (Se.ai0 (Se.ac0 v) server).1 key t).1).2=0 then
      af8 v Se.ab5 (af8 (Se.ac0 v) server (af8 (Se.ai0 (Se.ac0 v) server).1 key t).1).1
      else(aa7,(af8 (Se.ac0 v) server (af8 (Se.ai0 (Se.ac0 v) server).1 key t).1).2))
    else(aa7,(af8 (Se.ai0 (Se.ac0 v) server).1 key t).2))
   else(aa7,(Se.aj6 v).2))
 else(aa7,1)
theorem cl9(v:JV)(server key seed:bytes):Se.ba8 v server key seed=bl1 v server key (ad5 (ac5 aa6 (Ed.au6 seed (Se.aj6 v).1))):=by
 unfold Se.ba8 bl1;exact Eq.refl _
theorem cP4(s:bytes):ae1 ad2 s=none:=by
 have:=bH8 [] s;exact this
theorem dT0{v:JV}{server key:bytes}{t:JV}(h:(bl1 v server key t).2=0)(h0:ae1 v ab5=some ad2):ak9 (bl1 v server key t).1 Se.ab5=at6 ad2 server (at6 ad2 key t):=by
 have hs:Se.ac0 v=ad2:=by
  unfold Se.ac0;rw[show ae1 v Se.ab5=some ad2 from h0]
  rfl
 have ho:Se.ai0 ad2 server=(ad2,false):=by
  unfold Se.ai0;rw[cP4];rfl
 unfold bl1 at h⊢;rw[hs,ho] at h⊢;dsimp only at h⊢;by_cases h1:(Se.aB4 v&&(Id.aU7 server&&Se.cf2 key))=true
 ·rw[if_pos h1] at h⊢
  by_cases h2:(Se.aj6 v).2=0
  ·rw[if_pos h2] at h⊢
   rw[cP4,if_neg (by decide)] at h⊢
   by_cases h3:(af8 ad2 key t).2=0
   ·rw[if_pos h3] at h⊢
    by_cases h4:(af8 ad2 server (af8 ad2 key t).1).2=0
    ·rw[if_pos h4] at h⊢
     have e1:=(b37 h3).2.2.2.2;have e2:=(b37 h4).2.2.2.2;unfold ak9;rw[get_put h,e2,e1];rfl
    ·rw[if_neg h4] at h
     exact absurd h h4
   ·rw[if_neg h3] at h
    exact absurd h h3
  ·rw[if_neg h2] at h
   exact absurd h h2
 ·rw[if_neg h1] at h
  cases h
theorem ef8{v:JV}{server key seed:bytes}(h:(Se.ba8 v server key seed).2=0)(h0:ae1 v ab5=some ad2):ak9 (Se.ba8 v server key seed).1 Se.ab5=at6 ad2 server (at6 ad2 key (ad5 (ac5 aa6 (Ed.au6 seed (Se.aj6 v).1)))):=by
 rw[cl9] at h⊢;exact dT0 h h0
theorem cR8(e:T):(Se.ab5,e.sigs)∈ac3 e:=by
 unfold ac3;exact cI0 _ (by simp)
theorem cD8{e:T}{server key seed:bytes}{q:JV}(h3:(ab4 (ab1 (ab8 e)).1).2=0)(h2:(ab1 (ab8 e)).2=0)(hq:ah8 (ab4 (ab1 (ab8 e)).1).1 server key seed=(q,0)):q=at6 ad2 server (at6 ad2 key (ad5 (ac5 aa6 (Ed.au6 seed (Se.aj6 (ab6 (ab4 (ab1 (ab8 e)).1).1).1).1)))):=by
 unfold ah8 at hq;rw[if_pos (bP3 h3).1] at hq;have e1:ae1 (ab6 (ab4 (ab1 (ab8 e)).1).1).1 ab5=some ad2:=by
  rw[cN5 (cr5 h3),c79 h3];exact bn6 h2 (cR8 (ab8 e))
 have h5:=(Prod.mk.injEq ..).mp hq;rw[<-h5.1];exact ef8 h5.2 e1
theorem bE0{e:T}{s:bytes}(h:(aa4 e).2=0)(hs:(aq2 (aa4 e).1).1=s):aO1 {e with id:=s}=true:=by
 unfold aO1;rw[br4,decide_eq_true h,decide_eq_true (bl7 h),decide_eq_true hs];rfl
end Ev
end
section
namespace Cu
open Go V Fe
noncomputable def force{α:Type}(n:Nat)(k:Nat->α):α:=Nat.rec (k 0) (fun m _=>k (Nat.succ m)) n
theorem force_eq{α:Type}(n:Nat)(k:Nat->α):force n k=k n:=by cases n<;>rfl
def Is(l:List W)(n:Nat):Prop:=Lim 4503599627370496 l/\ag6 l%pF=n
theorem ak5{l m:List W}{a b:Nat}(h:Is l a)(k:Is m b):Is (aa9 l m) (a*b%pF):=by
 obtain⟨h1,rfl⟩:=h;obtain⟨k1,rfl⟩:=k;have t:=dx9 h1 k1;exact⟨t.1,by rw[t.2,bJ2]⟩
theorem aE7{l m:List W}{a b:Nat}(h:Is l a)(k:Is m b):Is (ah4 l m) ((a+b)%pF):=by
 obtain⟨h1,rfl⟩:=h;obtain⟨k1,rfl⟩:=k;have t:=dU2 h1 k1;exact⟨t.1,by rw[t.2,bK0]⟩
theorem aF7{l m:List W}{a b:Nat}(h:Is l a)(k:Is m b):Is (ae9 l m) ((a+(pF - b))%pF):=by
 obtain⟨h1,rfl⟩:=h;obtain⟨k1,rfl⟩:=k;have t:=aT0 h1 k1;refine⟨t.1,?_⟩;have t2:=t.2;generalize ag6 (ae9 l m)=x at*;generalize ag6 l=y at*;generalize ag6 m=z at*;unfold pF at*;omega
theorem bs9{n:Nat}{l:List W}(h:(decide (l.length=5)&&l.all fun x=>decide (x.toNat < n))=true):Lim n l:=by
 rw[xq3,decide_eq_true_eq,xq5] at h;exact⟨h.1,fun x hx=>of_decide_eq_true (h.2 x hx)⟩
theorem bi6:Is zeroE 0:=⟨bs9 (by kernel_rfl),by kernel_rfl⟩
theorem bH3:Is ax8 1:=⟨bs9 (by kernel_rfl),by kernel_rfl⟩
theorem aT2{l:List W}{a:Nat}(h:Is l a):al3 l=leN 32 a:=by
 obtain⟨⟨h1,h2⟩,rfl⟩:=h;exact dN2 ⟨h1,fun x hx=>Nat.lt_trans (h2 x hx) (by decide)⟩
def cQ5(n:Nat):Bool:=decide (((leN 32 n).getD 0 0&&&1)=1)
theorem dI2{l:List W}{a:Nat}(h:Is l a):bD3 l=cQ5 a:=by
 unfold bD3 cQ5;rw[aT2 h]
noncomputable def bh4(e:Nat)(n:List W)(k:Nat):Nat->Nat:=
 Nat.rec (motive:=fun _=>Nat->Nat) (fun x=>x) (fun j r x=>force (x*x%pF) fun y=>Bool.rec (r y) (force (y*e%pF) r) (bp2 n j)) k
theorem cU1{e:List W}{a:Nat}(n:List W)(h:Is e a): ∀k j x,j+k=256->Is (al4 e n j) x->Is (al8 e n) (bh4 a n k x)
 |0,j,x,hj,hx=>by
  have:j=256:=by omega
  subst this;exact hx
 |k+1,j,x,hj,hx=>by
  have e1:bh4 a n (k+1) x=force (x*x%pF) fun y=>Bool.rec (bh4 a n k y) (force (y*a%pF) (bh4 a n k)) (bp2 n k):=rfl
  rw[e1,force_eq];have h1:=ak5 hx hx;have h2:255 - j=k:=by omega
  have e2:al4 e n (j+1)=if bp2 n k=true then aa9 (aa9 (al4 e n j) (al4 e n j)) e else aa9 (al4 e n j) (al4 e n j):=by rw[al4,h2]
  cases hb:bp2 n k with
  |true=>
   rw[hb,if_pos rfl] at e2;show Is _ (force _ _)
   rw[force_eq];exact cU1 n h k (j+1) _ (by omega) (e2▸ak5 h1 h)
  |false=>
   rw[hb,if_neg (by decide)] at e2
   exact cU1 n h k (j+1) _ (by omega) (e2▸h1)
theorem bA5{e:List W}{a:Nat}(n:List W)(h:Is e a):Is (al8 e n) (bh4 a n 256 1):=cU1 n h 256 0 1 rfl bH3
structure Pt where
 x:Nat
 y:Nat
 z:Nat
 t:Nat
def Is3(q:List W)(x y z:Nat):Prop:=Is (pX q) x/\Is (pY q) y/\Is (pZ q) z
def IsP(q:List W)(x y z t:Nat):Prop:=Is3 q x y z/\Is (pT q) t
theorem dv1{a b c d:List W}(ha:a.length=5)(hb:b.length=5)(hc:c.length=5)(hd:d.length=5):pX (a++(b++(c++d)))=a/\pY (a++(b++(c++d)))=b/\pZ (a++(b++(c++d)))=c/\pT (a++(b++(c++d)))=d:=by
 match a,ha,b,hb,c,hc,d,hd with
 |[_,_,_,_,_],_,[_,_,_,_,_],_,[_,_,_,_,_],_,[_,_,_,_,_],_=>exact⟨rfl,rfl,rfl,rfl⟩
theorem eK7{a b c:List W}(ha:a.length=5)(hb:b.length=5)(hc:c.length=5):pX (a++(b++c))=a/\pY (a++(b++c))=b/\pZ (a++(b++c))=c:=by
 match a,ha,b,hb,c,hc with
 |[_,_,_,_,_],_,[_,_,_,_,_],_,[_,_,_,_,_],_=>exact⟨rfl,rfl,rfl⟩
theorem cf8{q:List W}{x y z:Nat}(h:Is3 q x y z):Is3 (q.take 15) x y z:=by
 unfold Is3 pX pY pZ at*;rw[bJ3,b03,b03,bJ3,bJ3];exact h
theorem cD4{e f g h:List W}{a b c d:Nat}(h1:Is e a)(h2:Is f b)(h3:Is g c)(h4:Is h d):IsP (ax4 e f g h) (a*b%pF) (c*d%pF) (b*c%pF) (a*d%pF):=by
 obtain⟨e1,e2,e3,e4⟩:=dv1 (ad8 e f) (ad8 g h) (ad8 f g) (ad8 e h);unfold ax4 IsP Is3;rw[e1,e2,e3,e4];exact⟨⟨ak5 h1 h2,ak5 h3 h4,ak5 h2 h3⟩,ak5 h1 h4⟩
theorem b70{x y:List W}{a b:Nat}(h1:Is x a)(h2:Is y b):IsP (ay0 x y) a b 1 (a*b%pF):=by
 obtain⟨e1,e2,e3,e4⟩:=dv1 h1.1.1 h2.1.1 (c:=ax8) rfl (ad8 x y);unfold ay0 IsP Is3;rw[e1,e2,e3,e4];exact⟨⟨h1,h2,bH3⟩,ak5 h1 h2⟩
def b59:Nat:=ag6 aD7%pF
theorem b69:Is aD7 b59:=⟨bs9 (by kernel_rfl),rfl⟩
def ap8:Nat:=(b59+b59)%pF
theorem d23:Is aW8 ap8:=aE7 b69 b69
noncomputable def co2{α:Type}(tw x y z t u v w s:Nat)(k:Nat->Nat->Nat->Nat->α):α:=
 force ((y+(pF - x))%pF*((v+(pF - u))%pF)%pF) fun a=>
 force ((y+x)%pF*((v+u)%pF)%pF) fun b=>
 force (t*s%pF*tw%pF) fun c=>
 force (z*w%pF) fun i=>
 force ((i+i)%pF) fun d=>
 force ((b+(pF - a))%pF) fun e=>
 force ((d+(pF - c))%pF) fun f=>
 force ((d+c)%pF) fun g=>
 force ((b+a)%pF) fun h=>
 force (e*f%pF) fun x=>
 force (g*h%pF) fun y=>
 force (f*g%pF) fun z=>
 force (e*h%pF) fun t=>k x y z t
theorem cU2{p q:List W}{x y z t u v w s:Nat}(hp:IsP p x y z t)(hq:IsP q u v w s): ∃X Y Z T,IsP (bb6 p q) X Y Z T/\ ∀(α:Type) (k:Nat->Nat->Nat->Nat->α),co2 ap8 x y z t u v w s k=k X Y Z T:=by
 obtain⟨⟨p1,p2,p3⟩,p4⟩:=hp;obtain⟨⟨q1,q2,q3⟩,q4⟩:=hq;have ha:=ak5 (aF7 p2 p1) (aF7 q2 q1);have hb:=ak5 (aE7 p2 p1) (aE7 q2 q1);have hc:=ak5 (ak5 p4 q4) d23;have hi:=ak5 p3 q3;have hd:=aE7 hi hi;exact⟨_,_,_,_,cD4 (aF7 hb ha) (aF7 hd hc) (aE7 hd hc) (aE7 hb ha),fun α k=>by simp only[co2,force_eq]⟩
noncomputable def du6{α:Type}(x y z:Nat)(k:Nat->Nat->Nat->Nat->α):α:=
 force (x*x%pF) fun a=>
 force (y*y%pF) fun b=>
 force ((x+y)%pF*((x+y)%pF)%pF) fun c=>
 force (z*z%pF) fun i=>
 force ((a+b)%pF) fun h=>
 force ((a+(pF - b))%pF) fun g=>
 force ((h+(pF - c))%pF) fun e=>
 force (((i+i)%pF+g)%pF) fun f=>
 force (e*f%pF) fun x=>
 force (g*h%pF) fun y=>
 force (f*g%pF) fun z=>
 force (e*h%pF) fun t=>k x y z t
theorem em8{q:List W}{x y z:Nat}(hq:Is3 q x y z): ∃X Y Z T,IsP (aC7 q) X Y Z T/\ ∀(α:Type) (k:Nat->Nat->Nat->Nat->α),du6 x y z k=k X Y Z T:=by
 obtain⟨q1,q2,q3⟩:=hq;have ha:=ak5 q1 q1;have hb:=ak5 q2 q2;have hc:=ak5 (aE7 q1 q2) (aE7 q1 q2);have hi:=ak5 q3 q3;have hh:=aE7 ha hb;have hg:=aF7 ha hb;exact⟨_,_,_,_,cD4 (aF7 hh hc) (aE7 (aE7 hi hi) hg) hg hh,fun α k=>by simp only[du6,force_eq]⟩
noncomputable def aV6(tw u v w s:Nat)(b:List UInt8)(k:Nat):Nat->Nat->Nat->Nat->Pt:=
 Nat.rec (motive:=fun _=>Nat->Nat->Nat->Nat->Pt) (fun x y z t=>⟨x,y,z,t⟩) (fun j r x y z _=>du6 x y z fun x y z t=>Bool.rec (r x y z t) (co2 tw x y z t u v w s r) (aJ6 b j)) k
theorem cf6{p:List W}{u v w s:Nat}(b:List UInt8)(hp:IsP p u v w s): ∀k j x y z t,j+k=256->IsP (aB6 p b j) x y z t->IsP (aV5 p b) (aV6 ap8 u v w s b k x y z t).x (aV6 ap8 u v w s b k x y z t).y (aV6 ap8 u v w s b k x y z t).z (aV6 ap8 u v w s b k x y z t).t
 |0,j,x,y,z,t,hj,hx=>by
  have:j=256:=by omega
  subst this;exact hx
 |k+1,j,x,y,z,t,hj,hx=>by
  obtain⟨X,Y,Z,T,h1,h2⟩:=em8 (cf8 hx.1);have e1:aV6 ap8 u v w s b (k+1) x y z t=du6 x y z fun x y z t=>Bool.rec (aV6 ap8 u v w s b k x y z t) (co2 ap8 x y z t u v w s (aV6 ap8 u v w s b k)) (aJ6 b k):=rfl
  rw[h2] at e1;have h3:255 - j=k:=by omega
  have e2:aB6 p b (j+1)=if aJ6 b k=true then bb6 (aC7 ((aB6 p b j).take 15)) p else aC7 ((aB6 p b j).take 15):=by rw[aB6,h3]
  cases hb:aJ6 b k with
  |true=>
   rw[hb,if_pos rfl] at e2;rw[hb] at e1;obtain⟨X',Y',Z',T',h4,h5⟩:=cU2 h1 hp;rw[<-e2] at h4;have e3:=e1.trans (h5 _ _);rw[e3];exact cf6 b hp k (j+1) _ _ _ _ (by omega) h4
  |false=>
   rw[hb,if_neg (by decide)] at e2
   rw[hb] at e1;rw[<-e2] at h1;have e3:aV6 ap8 u v w s b (k+1) x y z t=aV6 ap8 u v w s b k X Y Z T:=e1;rw[e3];exact cf6 b hp k (j+1) _ _ _ _ (by omega) h1
theorem d22:IsP bk0 0 1 1 0:=b70 bi6 bH3
theorem df1{p:List W}{u v w s:Nat}(b:List UInt8)(hp:IsP p u v w s){P:Pt}(e:aV6 ap8 u v w s b 256 0 1 1 0=P):IsP (aV5 p b) P.x P.y P.z P.t:=e▸cf6 b hp 256 0 0 1 1 0 rfl d22
noncomputable def bY4(x y z:Nat):List UInt8:=
 force (bh4 z aF8 256 1) fun i=>force (y*i%pF) fun a=>force (x*i%pF) fun b=>bv2 (leN 32 a) (cQ5 b)
theorem bX3{q:List W}{x y z:Nat}(h:Is3 q x y z):aA7 q=bY4 x y z:=by
 have hi:=bA5 aF8 h.2.2;unfold aA7 bY4;rw[force_eq,force_eq,force_eq,aT2 (ak5 h.2.1 hi),dI2 (ak5 h.1 hi)]
def bxG:Nat:=ag6 b84%pF
def byG:Nat:=ag6 b83%pF
theorem ec2:Is b84 bxG:=⟨bs9 (by kernel_rfl),rfl⟩
theorem ec1:Is b83 byG:=⟨bs9 (by kernel_rfl),rfl⟩
noncomputable def aX8(tw u v:Nat)(b:List UInt8):Pt:=force tw fun tw=>force u fun u=>force v fun v=>force (u*v%pF) fun s=>aV6 tw u v 1 s b 256 0 1 1 0
theorem cf7(b:List UInt8){P:Pt}(e:aX8 ap8 bxG byG b=P):IsP (aV5 be7 b) P.x P.y P.z P.t:=by
 unfold aX8 at e;simp only[force_eq] at e;exact df1 b (b70 ec2 ec1) e
theorem dh5{b:List UInt8}{P:Pt}{r:List UInt8}(e:aX8 ap8 bxG byG b=P)(h:bY4 P.x P.y P.z=r):aG9 b=r:=by
 unfold aG9;rw[bX3 (cf8 (cf7 b e).1),h]
noncomputable def cm4(tn e:Nat):Nat->Nat->Nat×Bool
 |0,_=>(0,false)
 |n+1,c=>if leN 32 (c*c%pF)=leN 32 e then(if cQ5 c=true then(pF - c)%pF else c,true) else force (c*tn%pF) (cm4 tn e n)
theorem df0{t e:List W}{tn a:Nat}(ht:Is t tn)(he:Is e a): ∀(n:Nat) (c:List W) (b:Nat),Is c b->Is (aK9 t e n c).1 (cm4 tn a n b).1/\(aK9 t e n c).2=(cm4 tn a n b).2
 |0,_,_,_=>⟨bi6,rfl⟩
 |n+1,c,b,h=>by
  rw[aK9,cm4,aT2 (ak5 h h),aT2 he,force_eq];by_cases h1:leN 32 (b*b%pF)=leN 32 a
  ·rw[if_pos h1,if_pos h1]
   refine⟨?_,rfl⟩;unfold bm2;rw[dI2 h];by_cases h2:cQ5 b=true
   ·rw[if_pos h2,if_pos h2]
    have h3:=aF7 bi6 h;rw[Nat.zero_add] at h3;exact h3
   ·rw[if_neg h2,if_neg h2]
    exact h
  ·rw[if_neg h1,if_neg h1]
   exact df0 ht he n _ _ (ak5 h ht)
def ck4:Nat:=ag6 aX9%pF
theorem de9:Is aX9 ck4:=⟨bs9 (by kernel_rfl),rfl⟩
noncomputable def bs6(e:Nat):Nat×Bool:=force ck4 fun t=>force (bh4 e aY2 256 1) (cm4 t e 2)
theorem dI1{e:List W}{a c:Nat}{b:Bool}(h:Is e a)(hr:bs6 a=(c,b)):Is (aB2 e).1 c/\(aB2 e).2=b:=by
 have:=df0 de9 h 2 _ _ (bA5 aY2 h);unfold bs6 at hr;rw[force_eq,force_eq] at hr;rw[hr] at this;exact this
noncomputable def cv2(y:Nat):Nat:=force (y*y%pF) fun q=>force ((q*b59%pF+1)%pF) fun d=>force (bh4 d aF8 256 1) fun i=>(q+(pF - 1))%pF*i%pF
theorem eF1{l:List W}{y:Nat}(h:Is l y):Is (xSq l) (cv2 y):=by
 have hq:=ak5 h h;have:=ak5 (aF7 hq bH3) (bA5 aF8 (aE7 (ak5 hq b69) bH3));unfold xSq sqF cv2;rw[force_eq,force_eq,force_eq];exact this
theorem dc9{b:List UInt8}{y c:Nat}(hb:b.length=32)(hy:leV (aF6 b)%pF=y)(h1:leN 32 y=aF6 b)(h2:bs6 (cv2 y)=(c,true))(h3:leN 32 c≠leN 32 0):(aI1 b).2=true/\ ∃x,(if bk8 b=true then(pF - c)%pF else c)=x/\IsP (aI1 b).1 x y 1 (x*y%pF):=by
 have hl:(aF6 b).length=32:=by unfold aF6;rw[List.length_set,hb]
 have hv:=cW0 hl;rw[hy] at hv;have hi:Is (au7 (aF6 b)) y:=hv;obtain⟨r1,r2⟩:=dI1 (eF1 hi) h2;unfold aI1;rw[aT2 hi,if_pos h1];unfold b46;rw[if_pos r2,aT2 r1,aT2 bi6,if_neg h3];by_cases hs:bk8 b=true
 ·rw[if_pos hs,if_pos hs]
  refine⟨rfl,_,rfl,?_⟩;have h5:=aF7 bi6 r1;rw[Nat.zero_add] at h5;exact b70 h5 hi
 ·rw[if_neg hs,if_neg hs]
  exact⟨rfl,_,rfl,b70 r1 hi⟩
theorem eC1{b r:List UInt8}{y c:Nat}(hb:b.length=32)(hy:leV (aF6 b)%pF=y)(h1:leN 32 y=aF6 b)(h2:bs6 (cv2 y)=(c,true))(h3:leN 32 c≠leN 32 0)(h4:bY4 ((pF - (if bk8 b=true then(pF - c)%pF else c))%pF) y 1=r):bo6 b=(r,0):=by
 obtain⟨g1,x,gx,g2⟩:=dc9 hb hy h1 h2 h3;rw[gx] at h4;unfold bo6 aQ8;rw[if_pos g1];have h5:=aF7 bi6 g2.1.1;rw[Nat.zero_add] at h5;obtain⟨e1,e2,e3⟩:=eK7 h5.1.1 g2.1.2.1.1.1 g2.1.2.2.1.1;have:aA7 (bc4 (aI1 b).1)=r:=by
  rw[<-h4];apply bX3
  unfold bc4 Is3;rw[e1,e2,e3];exact⟨h5,g2.1.2⟩
 rw[this]
noncomputable def eD2(tw:Nat)(P Q:Pt):List UInt8:=co2 tw P.x P.y P.z P.t Q.x Q.y Q.z Q.t fun x y z _=>bY4 x y z
theorem eD1{a p b r:List UInt8}{y c:Nat}{P Q:Pt}(hb:p.length=32)(hy:leV (aF6 p)%pF=y)(h1:leN 32 y=aF6 p)(h2:bs6 (cv2 y)=(c,true))(h3:leN 32 c≠leN 32 0){x t:Nat}(hx:(if bk8 p=true then(pF - c)%pF else c)=x)(ht:x*y%pF=t)(hP:aV6 ap8 x y 1 t a 256 0 1 1 0=P)(hQ:aX8 ap8 bxG byG b=Q)(h4:eD2 ap8 P Q=r):bw4 a p b=(r,0):=by
 obtain⟨g1,x',gx,g2⟩:=dc9 hb hy h1 h2 h3;have:x'=x:=gx.symm.trans hx;subst this;rw[ht] at g2;unfold bw4 aQ8;rw[if_pos g1];obtain⟨X,Y,Z,T,h5,h6⟩:=cU2 (df1 a g2 hP) (cf7 b hQ);have:aA7 (bo7 a b (aI1 p).1)=r:=by
  rw[<-h4];unfold eD2;rw[h6];exact bX3 (cf8 h5.1)
 rw[this]
end Cu
end
section
namespace Ed
open Go V Fe Sc Cu
def aw3:List UInt8:=[3,0,0,0,0,0,0,0,0,0,0,0,0,0,0,0,0,0,0,0,0,0,0,0,0,0,0,0,0,0,0,0]
theorem cM6:aA1 aw3=[191,212,231,77,109,219,240,133,119,26,161,89,201,28,84,101,237,211,6,84,11,210,200,105,208,58,205,174,122,224,238,234,216,237,89,131,20,125,86,239,70,91,149,93,78,74,12,226,31,28,40,26,141,85,224,141,53,216,22,245,81,99,84,63]:=by decide+kernel
def dS8:List UInt8:=[184,212,231,77,109,219,240,133,119,26,161,89,201,28,84,101,237,211,6,84,11,210,200,105,208,58,205,174,122,224,238,106]
theorem dB1:au3 aw3=dS8:=by unfold au3;rw[cM6];decide+kernel
def ez7:List UInt8:=[216,237,89,131,20,125,86,239,70,91,149,93,78,74,12,226,31,28,40,26,141,85,224,141,53,216,22,245,81,99,84,63]
theorem ez4:aL2 aw3=ez7:=by unfold aL2;rw[cM6];decide+kernel
def cO3:List UInt8:=[218,219,209,132,162,213,38,241,235,221,92,6,253,173,147,89,178,40,117,155,77,127,121,214,102,137,250,37,74,173,133,70]
theorem dT8:aX8 ap8 bxG byG dS8=⟨56405692230482464545604784115960435105928827986441749948754152243361124961132,45286876341192264074375528359528769008501024538557337215324421366020363174124,8247234788894269853583120264359546900735937451990611598645410728654266473192,43574705931537155450094437706946945989060911407261881085890199117865326121610⟩:=by kernel_rfl
theorem cn6:al9 aw3=cO3:=by unfold al9;rw[dB1];exact dh5 dT8 (by decide+kernel)
def bO4:List UInt8:=[123,34,97,117,116,104,95,101,118,101,110,116,115,34,58,91,93,44,34,99,111,110,116,101,110,116,34,58,123,34,99,114,101,97,116,111,114,34,58,34,64,97,58,104,34,125,44,34,100,101,112,116,104,34,58,49,44,34,104,97,115,104,101,115,34,58,123,34,115,104,97,50,53,54,34,58,34,89,110,79,69,90,74,76,121,100,57,71,84,87,83,68,121,53,50,117,49,54,102,116,72,73,77,43,71,56,71,55,101,114,50,78,50,116,108,110,74,43,66,99,34,125,44,34,111,114,105,103,105,110,95,115,101,114,118,101,114,95,116,115,34,58,48,44,34,112,114,101,118,95,101,118,101,110,116,115,34,58,91,93,44,34,114,111,111,109,95,105,100,34,58,34,33,114,58,104,34,44,34,115,101,110,100,101,114,34,58,34,64,97,58,104,34,44,34,115,116,97,116,101,95,107,101,121,34,58,34,34,44,34,116,121,112,101,34,58,34,109,46,114,111,111,109,46,99,114,101,97,116,101,34,125]
theorem ej8:aA1 (ez7++bO4)=[154,200,153,234,28,31,132,204,166,76,184,27,14,16,5,27,95,31,112,220,160,81,29,72,205,106,230,242,253,99,245,26,88,73,102,75,71,90,241,106,51,178,187,15,29,41,32,241,130,100,76,106,250,82,230,57,110,160,31,249,231,197,30,115]:=by decide+kernel
def dq3:List UInt8:=[78,11,136,143,138,5,227,98,133,211,139,236,222,91,132,7,0,179,251,69,250,33,69,168,49,243,184,54,62,186,1,8]
theorem eB9:bn3 aw3 bO4=dq3:=by unfold bn3 ax0;rw[ez4,ej8];decide+kernel
def r0:List UInt8:=[184,54,65,10,205,62,244,110,123,197,206,172,36,42,93,250,117,142,105,18,247,186,32,252,164,176,103,98,225,132,58,248]
theorem bF8:aX8 ap8 bxG byG dq3=⟨48538602071176322608598228348888294146356694324468821315037214052435119807588,7872476566481050567988345850893973096829532527820278243306899707550226821473,56922451352359990481039961441184361300061576249787557814579489497282177393265,41803995914186606858830310093269525172390010123308620366938899673839535902174⟩:=by kernel_rfl
theorem eS8:aG9 dq3=r0:=dh5 bF8 (by decide+kernel)
theorem eO9:aA1 (r0++(cO3++bO4))=[91,51,115,8,235,25,118,217,179,246,101,239,196,22,40,4,19,120,1,224,103,119,189,220,44,25,253,220,22,168,50,42,104,76,253,146,108,92,125,40,70,191,22,120,17,212,30,85,180,223,156,212,117,150,80,109,207,158,105,135,145,160,232,143]:=by decide+kernel
def k0:List UInt8:=[37,82,85,107,160,120,148,106,160,166,185,172,106,227,92,223,153,209,97,162,73,141,92,242,232,72,35,64,181,60,201,0]
theorem eE8:ax0 (r0++(cO3++bO4))=k0:=by unfold ax0;rw[eO9];decide+kernel
def s0:List UInt8:=[231,158,241,104,233,202,202,97,193,125,50,223,248,126,196,140,228,171,202,252,134,198,9,72,211,10,26,100,76,240,239,7]
theorem eS7:ax1 k0 dS8 dq3=s0:=by decide+kernel
theorem ef7:au6 aw3 bO4=r0++s0:=by
 unfold au6;rw[eB9,eS8,cn6,eE8,dB1,eS7]
def eC3:List UInt8:=[218,219,209,132,162,213,38,241,235,221,92,6,253,173,147,89,178,40,117,155,77,127,121,214,102,137,250,37,74,173,133,198]
theorem cN0:bs6 (cv2 31898086061597840061254374434819005103504529430023204751338217573563273173978)=(37465780952250151369641648731873544138529771113944773376421818212430486706308,true):=by kernel_rfl
theorem eC0:bo6 cO3=(eC3,0):=eC1 (y:=31898086061597840061254374434819005103504529430023204751338217573563273173978) (c:=37465780952250151369641648731873544138529771113944773376421818212430486706308) rfl (by decide+kernel) (by decide+kernel) cN0 (by decide+kernel) (by decide+kernel)
theorem dZ7:aV6 ap8 20430263666407946342143843772470409788105221218875508643306973791526078113641 31898086061597840061254374434819005103504529430023204751338217573563273173978 1 22599273389454596259442420546771963255983423977321225120895791974719187437866 k0 256 0 1 1 0=⟨46312280493643865042467727454274609571934932900102578385972436197763790786392,51454074504662376154573100744671694294411398503147931265442193433787529579196,54700483556663596316851040965423159676070553224164510660833607020170131348293,34125275028926224755278463088133277350814070210686349498030318308762514121411⟩:=by kernel_rfl
theorem dZ8:aX8 ap8 bxG byG s0=⟨18253126949783431598623468064692607156952688646163071155274872401865803018566,25253423181450724207081017194732363460186730468950861848852934466462491416317,49027039174653387185792935101754948579711337153168729208749353838154127261159,6436293553173553668729771232272364955321941646503823187243699897942132399980⟩:=by kernel_rfl
theorem eD0:bw4 k0 eC3 s0=(r0,0):=eD1 (y:=31898086061597840061254374434819005103504529430023204751338217573563273173978) (c:=37465780952250151369641648731873544138529771113944773376421818212430486706308) rfl (by decide+kernel) (by decide+kernel) cN0 (by decide+kernel) (x:=20430263666407946342143843772470409788105221218875508643306973791526078113641) (t:=22599273389454596259442420546771963255983423977321225120895791974719187437866) (by decide+kernel) (by decide+kernel) dZ7 dZ8 (by decide+kernel)
theorem dw9:aM7 cO3 bO4 (r0++s0)=true:=by
 unfold aM7;rw[show (r0++s0).drop 32=s0 from rfl,show (r0++s0).take 32=r0 from rfl,eE8,eC0,eD0]
 decide+kernel
end Ed
end
section
open Go V
namespace Ev
def aZ2:bytes:=[104]
def bi4:bytes:=[101,100,50,53,53,49,57,58,49]
def eI6:JV:=.mk 6 0 [] [[99,114,101,97,116,111,114]] [.mk 4 0 [64,97,58,104] [] []]
def ev0:T:=⟨[],[33,114,58,104],[64,97,58,104],[109,46,114,111,111,109,46,99,114,101,97,116,101],true,[],eI6,[],[],1,0,[],aa7⟩
theorem ep8:aq8 (ab8 ev0)=true:=by kernel_rfl
theorem dL4:(ab1 (ab8 ev0)).2=0:=by kernel_rfl
def dS1:bytes:=[98,115,132,100,146,242,119,209,147,89,32,242,231,107,181,233,251,71,32,207,134,240,110,222,175,99,118,182,89,201,248,23]
def cr7:bytes:=[89,110,79,69,90,74,76,121,100,57,71,84,87,83,68,121,53,50,117,49,54,102,116,72,73,77,43,71,56,71,55,101,114,50,78,50,116,108,110,74,43,66,99]
theorem dL5:ad1 (ab1 (ab8 ev0)).1=(dS1,0):=by kernel_rfl
theorem ec6:ac5 aa6 dS1=cr7:=by kernel_rfl
def w0:JV:=(af8 (ab1 (ab8 ev0)).1 ae0 (aw2 cr7)).1
theorem bQ1:ab4 (ab1 (ab8 ev0)).1=(w0,0):=by
 unfold ab4;rw[dL5,if_pos rfl];dsimp only;rw[ec6];kernel_rfl
theorem f_sum:aH1 w0=cr7:=by kernel_rfl
def do1:JV:=(ab6 w0).1
theorem eP2:(ab6 w0).2=0:=by kernel_rfl
theorem eP4:Se.aj6 do1=(Ed.bO4,0):=by kernel_rfl
def bU6:bytes:=Ed.r0++Ed.s0
def q0:JV:=at6 ad2 aZ2 (at6 ad2 bi4 (ad5 (ac5 aa6 bU6)))
theorem eH0:bl1 do1 aZ2 bi4 (ad5 (ac5 aa6 bU6))=(at6 do1 ab5 q0,0):=by kernel_rfl
theorem cX0:ah8 w0 aZ2 bi4 Ed.aw3=(q0,0):=by
 unfold ah8;rw[if_pos eP2,show (ab6 w0).1=do1 from rfl,cl9,eP4]
 dsimp only;rw[Ed.ef7,show Ed.r0++Ed.s0=bU6 from rfl,eH0]
 kernel_rfl
def cz0:T:={ab8 ev0 with hash:=cr7,sigs:=q0}
theorem eH6:ak6 ev0 q0=cz0:=by
 unfold ak6;rw[bQ1];dsimp only;rw[f_sum];kernel_rfl
theorem bQ0:(aa4 cz0).2=0:=by kernel_rfl
def fin0:T:={cz0 with id:=(aq2 (aa4 cz0).1).1}
theorem ep9:ao8 ev0 aZ2 bi4 Ed.aw3=(fin0,0):=by
 unfold ao8;rw[if_pos ep8,if_pos dL4];unfold bY7;rw[bQ1];dsimp only;rw[if_pos rfl,f_sum,cX0];unfold bY6;rw[if_pos rfl];show bY5 cz0=(fin0,0)
 unfold bY5;rw[if_pos bQ0,if_pos (bl7 bQ0)];rfl
theorem cX1:(aa4 fin0).2=0:=bQ0
theorem eH2:bq0 (aa4 fin0).1=(fin0,0):=by
 have:=bV2 cX1;rw[this];rfl
theorem ep7:aO1 fin0=true:=bE0 bQ0 rfl
def bN9:JV:=(aa4 cz0).1
theorem eH3:Se.aB4 (ab6 bN9).1=true:=by kernel_rfl
theorem eH4:Se.aj6 (ab6 bN9).1=(Ed.bO4,0):=by kernel_rfl
theorem eP3:ae1 (Se.ai0 (Se.ac0 (ab6 bN9).1) aZ2).1 bi4=some (ad5 (ac5 aa6 bU6)):=by kernel_rfl
theorem eP5:aZ5 aa6 (ac5 aa6 bU6)=(bU6,0):=by kernel_rfl
theorem eG9:Se.aO4 (ab6 bN9).1 aZ2 bi4 (Ed.al9 Ed.aw3)=0:=by
 unfold Se.aO4;rw[if_pos eH3,eH4,if_pos rfl,eP3];show Se.bI1 (aZ5 aa6 (ac5 aa6 bU6)) (Ed.al9 Ed.aw3) Ed.bO4=0
 rw[eP5,Ed.cn6];unfold Se.bI1;rw[if_pos ⟨rfl,rfl⟩];dsimp only;rw[show bU6=Ed.r0++Ed.s0 from rfl,Ed.dw9]
 rfl
theorem eH8:ad1 bN9=(dS1,0):=by kernel_rfl
theorem eH5:ae1 ((ae1 bN9 ae0).getD aa7) aD8=some (ad5 cr7):=by kernel_rfl
open Classical in
theorem eH7:bB0 bN9=true:=by
 unfold bB0;rw[eH8,eH5];dsimp only;rw[ec6,decide_eq_true rfl,decide_eq_true rfl];kernel_rfl
theorem eH1:(ab6 bN9).2=0:=by kernel_rfl
theorem d47:aU4 fin0 aZ2 bi4 (Ed.al9 Ed.aw3)=0:=by
 unfold aU4;rw[if_pos ep7];show bs0 bN9 aZ2 bi4 (Ed.al9 Ed.aw3)=0
 unfold bs0;rw[if_pos ⟨eH1,eG9⟩,if_pos eH7]
theorem d48:(if Id.ay5 64 fin0.sender=true then(Id.splitB fin0.sender).2.1 else[])=aZ2:=by kernel_rfl
end Ev
end
section
open Go V
namespace Ev
theorem en9(ns:List bytes)(s:bytes):decide (0<=bd3 ns s)=ns.contains s:=by
 rw[cg0];unfold hasB;induction ns with
 |nil=>rfl
 |cons a r ih=>rw[List.any_cons,List.contains_cons,ih,BEq.comm]
theorem dF6{l:List bytes}{i:Nat}(h:i < l.length):bc5 (l.take i) (l.drop i)=(Id.bH9 (l.getD i [])&&(!(l.take i).contains (l.getD i [])&&bc5 (l.take (i+1)) (l.drop (i+1)))):=by
 have e:l[i]?=some (l.getD i []):=by rw[cG9,xq1 h];rfl
 rw[bg1 e,cX6 e,bc5]
theorem de1(l:List bytes)(m:Nat)(H:List AObj)(hm:m<=1000):o8 Tryz.prog 42 [.sl .sh 1 (l.map .str),.lit (.int .i64 m)] H (fun y H'=>y=.bool (bw2 m l)/\H'=H):=by
 unfold bw2;by_cases hl:l.length<=m
 ·have hlc:((m:Int) < (l.length:Int))=False:=eq_false (by omega)
  rw[decide_eq_true hl,Bool.true_and];generalize hR:bc5 [] l=R;refine y8 [] [.tmp 4] 29 Tryz.func42 ?_;repeat' first|refine o6 ?_|simp -dsimp -implicitDefEqProofs only[go_sem,hlc]
  refine aa8 ab2 mixed [] [0,11,12] (fun i:Nat=>i<=l.length/\bc5 (l.take i) (l.drop i)=R) (fun i=>[(13,.lit (.int .i64 i))]) (fun _=>H) (fun i=>l.length - i) (by kernel_rfl) ?_ 0 ⟨by omega,hR⟩ y9 rfl
  rintro i ⟨hi,hI⟩
  by_cases h:i < l.length
  ·have hc:((i:Int) < (l.length:Int))=True:=eq_true (by omega)
   rw[dF6 h] at hI;have c1:=fun H=>Id.ev3 (l.getD i []) H
   have c2:=fun H=>bR7 (o:=.sh) (l.take i) (l.getD i []) H (by rw[List.length_take];omega)
   rw[en9] at c2;have htk:(l.map AV.str).take i=(l.take i).map AV.str:=b07.symm;cases he:Id.bH9 (l.getD i []) with
   |false=>
    rw[he] at hI c1;subst hI;repeat' first|refine o6 ?_|simp -dsimp -implicitDefEqProofs (disch:=assumption) only[go_sem,hc]|refine o5 (c1 _) ?_|fail
    exact o9 ⟨rfl,rfl⟩
   |true=>
    rw[he,Bool.true_and] at hI;rw[he] at c1;cases hd:(l.take i).contains (l.getD i []) with
    |true=>
     rw[hd] at hI c2;subst hI;repeat' first|refine o6 ?_|simp -dsimp -implicitDefEqProofs (disch:=assumption) only[go_sem,hc,htk,a99]|refine o5 (c1 _) ?_|refine o5 (c2 _) ?_|refine vcA ?_ ?_|omega
     exact o9 ⟨rfl,rfl⟩
    |false=>
     rw[hd] at hI c2;repeat' first|refine o6 ?_|simp -dsimp -implicitDefEqProofs (disch:=first|assumption|omega) only[go_sem,hc,htk,a99]|refine o5 (c1 _) ?_|refine o5 (c2 _) ?_|refine vcA ?_ ?_|omega
     refine again (i+1) ?_ ?_ rfl y9
     ·omega
     ·exact⟨by omega,hI⟩
  ·have hc:((i:Int) < (l.length:Int))=False:=eq_false (by omega)
   rw[bg0 (by omega)] at hI
   subst hI;repeat' first|refine o6 ?_|simp -dsimp -implicitDefEqProofs (disch:=omega) only[go_sem,hc]
   exact o9 ⟨rfl,rfl⟩
 ·have hlc:((m:Int) < (l.length:Int))=True:=eq_true (by omega)
  rw[decide_eq_false hl];refine y8 [] [.tmp 4] 29 Tryz.func42 ?_;repeat' first|refine o6 ?_|simp -dsimp -implicitDefEqProofs only[go_sem,hlc]
  exact o9 ⟨rfl,rfl⟩
theorem eE7(s:bytes)(H:List AObj)(hs:s.length<=1000):o8 Tryz.prog 40 [.str s] H (fun y H'=>y=.bool (cq8 s)/\H'=H):=by
 have c1:=fun H=>da5 s H (by omega)
 have c2:=fun H=>bS6 s [32] H (by omega)
 unfold cq8;generalize aP2 s=P at*;generalize Lib.contains s [32]=C at*;by_cases h0:s=[]
 ·have h0c:=eq_true h0
  subst h0;refine y8 [] [.tmp 2] 19 Tryz.func40 ?_;repeat' first|refine o6 ?_|simp -dsimp -implicitDefEqProofs only[go_sem]
  exact o9 ⟨rfl,rfl⟩
 ·have h0c:=eq_false h0
  rw[decide_eq_true h0,Bool.true_and];by_cases hl:s.length<=64
  ·rw[decide_eq_true hl,Bool.true_and]
   have hlc:((s.length:Int)<=64)=True:=eq_true (by omega)
   cases P with
   |false=>
    refine y8 [] [.tmp 2] 19 Tryz.func40 ?_;repeat' first|refine o6 ?_|simp -dsimp -implicitDefEqProofs only[go_sem,h0c,hlc]|refine o5 (c1 _) ?_|fail
    exact o9 ⟨rfl,rfl⟩
   |true=>
    refine y8 [] [.tmp 2] 19 Tryz.func40 ?_;repeat' first|refine o6 ?_|simp -dsimp -implicitDefEqProofs only[go_sem,h0c,hlc]|refine o5 (c1 _) ?_|refine o5 (c2 _) ?_|fail
    exact o9 ⟨rfl,rfl⟩
  ·rw[decide_eq_false hl,aH0]
   have hlc:((s.length:Int)<=64)=False:=eq_false (by omega)
   refine y8 [] [.tmp 2] 19 Tryz.func40 ?_;repeat' first|refine o6 ?_|simp -dsimp -implicitDefEqProofs only[go_sem,h0c,hlc]
   exact o9 ⟨rfl,rfl⟩
theorem dg1(e:T)(H:List AObj)(h1:e.room.length<=1000)(h2:e.sender.length<=1000)(h3:e.typ.length<=1000)(h4:aa2 e.content<=40000)(h5:e.key.length<=1000):o8 Tryz.prog 16 [av e] H (fun y H'=>y=.bool (aq8 e)/\H'=H):=by
 have c1:=fun H=>Id.dP7 e.room H (by omega)
 have c2:=fun H=>Id.cZ6 e.sender H (by omega)
 have c3:=fun H=>eE7 e.typ H (by omega)
 have c4:=fun H=>aF1 (o:=.sh) e.key H (by omega)
 have c5:=fun H=>aM0 e.content H h4
 have c6:=fun H=>de1 e.prev 20 H (by omega)
 have c7:=fun H=>de1 e.auth 10 H (by omega)
 unfold aq8;generalize Id.ay5 33 e.room=r1 at*;generalize Id.ay5 64 e.sender=r2 at*;generalize cq8 e.typ=r3 at*;generalize hv4:Lib.validD e.key=r4 at*;generalize ab3 12 e.content=r5 at*;generalize bw2 20 e.prev=r6 at*;generalize bw2 10 e.auth=r7 at*;unfold av cells;cases r1 with
 |false=>
  refine y8 [] [.tmp 2] 80 Tryz.func16 ?_;repeat' first|refine o6 ?_|simp -dsimp -implicitDefEqProofs (disch:=omega) only[go_sem]|refine o5 (c1 _) ?_|fail
  exact o9 ⟨rfl,rfl⟩
 |true=>
  cases r2 with
  |false=>
   refine y8 [] [.tmp 2] 80 Tryz.func16 ?_;repeat' first|refine o6 ?_|simp -dsimp -implicitDefEqProofs (disch:=omega) only[go_sem]|refine o5 (c1 _) ?_|refine o5 (c2 _) ?_|fail
   exact o9 ⟨rfl,rfl⟩
  |true=>
   cases r3 with
   |false=>
    refine y8 [] [.tmp 2] 80 Tryz.func16 ?_;repeat' first|refine o6 ?_|simp -dsimp -implicitDefEqProofs (disch:=omega) only[go_sem]|refine o5 (c1 _) ?_|refine o5 (c2 _) ?_|refine o5 (c3 _) ?_|fail
    exact o9 ⟨rfl,rfl⟩
   |true=>
    rw[Bool.true_and,Bool.true_and,Bool.true_and];by_cases hl:e.key.length<=255
    ·rw[decide_eq_true hl,Bool.true_and]
     have hlc:((255:Int) < (e.key.length:Int))=False:=eq_false (by omega)
     generalize hK:decide (e.key=[])=K;have hkc:(e.key=[])=(K=true):=by rw[<-hK,decide_eq_true_eq]
     generalize e.state=st;cases r4 with
     |false=>
      refine y8 [] [.tmp 2] 80 Tryz.func16 ?_;repeat' first|refine o6 ?_|simp -dsimp -implicitDefEqProofs (disch:=omega) only[go_sem,hlc]|refine o5 (c1 _) ?_|refine o5 (c2 _) ?_|refine o5 (c3 _) ?_|refine o5 (c4 _) ?_|fail
      exact o9 ⟨rfl,rfl⟩
     |true=>
      rw[Bool.true_and];by_cases hs:(st||K)=true
      ·rw[hs,Bool.true_and]
       have hsk:st=true\/(st=false/\K=true):=by
        cases st
        ·exact .inr ⟨rfl,hs⟩
        ·exact .inl rfl
       by_cases hn:1<=e.depth/\e.depth<=1099511627776/\0<=e.time/\e.time<=1099511627776
       ·obtain⟨n1,n2,n3,n4⟩:=hn
        have g1:(e.depth < 1)=False:=eq_false (by omega)
        have g2:((1099511627776:Int) < e.depth)=False:=eq_false (by omega)
        have g3:(e.time < 0)=False:=eq_false (by omega)
        have g4:((1099511627776:Int) < e.time)=False:=eq_false (by omega)
        rw[decide_eq_true ⟨n1,n2,n3,n4⟩,Bool.true_and];by_cases hk:e.content.kind=6
        ·have hk6:=eq_true hk
         rw[decide_eq_true hk,Bool.true_and];cases r5 with
         |false=>
          rcases hsk with rfl|⟨rfl,rfl⟩
          all_goals
           refine y8 [] [.tmp 2] 80 Tryz.func16 ?_;repeat' first|refine o6 ?_|simp -dsimp -implicitDefEqProofs (disch:=omega) only[go_sem,hlc,hkc,g1,g2,g3,g4,hk6,aj3,ak3,List.drop_zero,xq9]|refine o5 (c1 _) ?_|refine o5 (c2 _) ?_|refine o5 (c3 _) ?_|refine o5 (c4 _) ?_|refine o5 (c5 _) ?_|fail
           exact o9 ⟨rfl,rfl⟩
         |true=>
          rw[Bool.true_and];cases r6
          all_goals
           rcases hsk with rfl|⟨rfl,rfl⟩
           all_goals
            refine y8 [] [.tmp 2] 80 Tryz.func16 ?_;repeat' first|refine o6 ?_|simp -dsimp -implicitDefEqProofs (disch:=omega) only[go_sem,hlc,hkc,g1,g2,g3,g4,hk6,aj3,ak3,List.drop_zero,xq9]|refine o5 (c1 _) ?_|refine o5 (c2 _) ?_|refine o5 (c3 _) ?_|refine o5 (c4 _) ?_|refine o5 (c5 _) ?_|refine o5 (c6 _) ?_|refine o5 (c7 _) ?_|fail
            exact o9 ⟨rfl,rfl⟩
        ·have hk6:=eq_false hk
         rw[decide_eq_false hk,aH0];rcases hsk with rfl|⟨rfl,rfl⟩
         all_goals
          refine y8 [] [.tmp 2] 80 Tryz.func16 ?_;repeat' first|refine o6 ?_|simp -dsimp -implicitDefEqProofs (disch:=omega) only[go_sem,hlc,hkc,g1,g2,g3,g4,hk6,aj3,ak3,List.drop_zero,xq9]|refine o5 (c1 _) ?_|refine o5 (c2 _) ?_|refine o5 (c3 _) ?_|refine o5 (c4 _) ?_|fail
          exact o9 ⟨rfl,rfl⟩
       ·rw[decide_eq_false hn,aH0]
        rcases hsk with rfl|⟨rfl,rfl⟩
        all_goals
         by_cases g1:e.depth < 1
         ·have f1:=eq_true g1
          refine y8 [] [.tmp 2] 80 Tryz.func16 ?_;repeat' first|refine o6 ?_|simp -dsimp -implicitDefEqProofs (disch:=omega) only[go_sem,hlc,hkc,f1]|refine o5 (c1 _) ?_|refine o5 (c2 _) ?_|refine o5 (c3 _) ?_|refine o5 (c4 _) ?_|fail
          exact o9 ⟨rfl,rfl⟩
         ·have f1:=eq_false g1
          by_cases g2:1099511627776 < e.depth
          ·have f2:=eq_true g2
           refine y8 [] [.tmp 2] 80 Tryz.func16 ?_;repeat' first|refine o6 ?_|simp -dsimp -implicitDefEqProofs (disch:=omega) only[go_sem,hlc,hkc,f1,f2]|refine o5 (c1 _) ?_|refine o5 (c2 _) ?_|refine o5 (c3 _) ?_|refine o5 (c4 _) ?_|fail
           exact o9 ⟨rfl,rfl⟩
          ·have f2:=eq_false g2
           by_cases g3:e.time < 0
           ·have f3:=eq_true g3
            refine y8 [] [.tmp 2] 80 Tryz.func16 ?_;repeat' first|refine o6 ?_|simp -dsimp -implicitDefEqProofs (disch:=omega) only[go_sem,hlc,hkc,f1,f2,f3]|refine o5 (c1 _) ?_|refine o5 (c2 _) ?_|refine o5 (c3 _) ?_|refine o5 (c4 _) ?_|fail
            exact o9 ⟨rfl,rfl⟩
           ·have f3:=eq_false g3
            have f4:((1099511627776:Int) < e.time)=True:=eq_true (by omega)
            refine y8 [] [.tmp 2] 80 Tryz.func16 ?_;repeat' first|refine o6 ?_|simp -dsimp -implicitDefEqProofs (disch:=omega) only[go_sem,hlc,hkc,f1,f2,f3,f4]|refine o5 (c1 _) ?_|refine o5 (c2 _) ?_|refine o5 (c3 _) ?_|refine o5 (c4 _) ?_|fail
            exact o9 ⟨rfl,rfl⟩
      ·have hs':st=false/\K=false:=by
        cases st
        ·exact⟨rfl,by simpa using hs⟩
        ·exact absurd rfl hs
       obtain⟨rfl,rfl⟩:=hs';refine y8 [] [.tmp 2] 80 Tryz.func16 ?_;repeat' first|refine o6 ?_|simp -dsimp -implicitDefEqProofs (disch:=omega) only[go_sem,hlc,hkc]|refine o5 (c1 _) ?_|refine o5 (c2 _) ?_|refine o5 (c3 _) ?_|refine o5 (c4 _) ?_|fail
       exact o9 ⟨rfl,rfl⟩
    ·rw[decide_eq_false hl]
     have hlc:((255:Int) < (e.key.length:Int))=True:=eq_true (by omega)
     refine y8 [] [.tmp 2] 80 Tryz.func16 ?_;repeat' first|refine o6 ?_|simp -dsimp -implicitDefEqProofs (disch:=omega) only[go_sem,hlc]|refine o5 (c1 _) ?_|refine o5 (c2 _) ?_|refine o5 (c3 _) ?_|fail
     exact o9 ⟨rfl,rfl⟩
end Ev
end
section
open Go V
namespace Ev
theorem ct6{H M:List AObj}{v w:JV}(h:v=w):Done H (fun y H'=>y=jAV v/\H'=H) (jAV w) (H++M):=by
 subst h;exact aa5 _ (Le.refl _) (ae5 _) ⟨rfl,rfl⟩
theorem dy0(s:bytes)(H:List AObj):o8 Tryz.prog 77 [.str s] H (fun y H'=>y=jAV (ad5 s)/\H'=H):=by
 refine y8 [] [.cell 2 25] 5 Tryz.func77 ?_;repeat' simp -dsimp -implicitDefEqProofs (disch:=(simp only[ll];omega)) only[go_sem]
 exact am0 b67 (ct6 rfl)
theorem bO0(n:Int)(H:List AObj):o8 Tryz.prog 79 [.lit (.int .i64 n)] H (fun y H'=>y=jAV (bh9 n)/\H'=H):=by
 refine y8 [] [.cell 2 25] 5 Tryz.func79 ?_;repeat' simp -dsimp -implicitDefEqProofs (disch:=(simp only[ll];omega)) only[go_sem]
 exact am0 b67 (ct6 rfl)
def d19(H:List AObj)(l:List bytes):List AObj:=H++[.cells (.one 25) au5,.cells (.one 25) [.lit (.int .i64 5),.lit (.int .i64 0),.str [],.sl .full 0 [],.sl (.tok (H.length+2)) 5 ((l.map ad5).map jAV)],.grow 5 l.length none]
theorem dc0(l:List bytes)(H:List AObj)(hl:l.length<=1000):o8 Tryz.prog 78 [.sl .sh 1 (l.map .str)] H (fun y H'=>y=jAV (aC9 l)/\H'=H):=by
 have c1:=fun s H=>dy0 s H
 have mS: ∀(a:List bytes) (b:bytes),(a.map ad5).map jAV++[jAV (ad5 b)]=((a++[b]).map ad5).map jAV:=fun a b=>by simp
 refine y8 [1000005,1000005001003] [.cell 2 25] 22 Tryz.func78 ?_;repeat' simp -dsimp -implicitDefEqProofs only[go_sem]
 refine cg9 (H.length+1) 4 5 (by simp;exact⟨rfl,rfl⟩) rfl (by decide) ?_
 refine aa8 ab2 mixed [1000005,1000005001003] [2,3,7,8] (fun i:Nat=>i<=l.length) (fun i=>[(9,.int .i64 i)]) (fun i=>d19 H (l.take i)) (fun i=>l.length - i) (by kernel_rfl) ?_ 0 (by omega) y9 (by simp[d19,au5])
 intro i hi;unfold d19;dsimp only[au5];by_cases h:i < l.length
 ·have hc:((i:Int) < (l.length:Int))=True:=eq_true (by omega)
  have e:l.take i++[l.getD i []]=l.take (i+1):=by
   have e:l[i]?=some (l.getD i []):=by rw[cG9,xq1 h];rfl
   rw[bg1 e]
  have hn:(l.take i).length=i:=by rw[List.length_take];omega
  repeat' first|refine o6 ?_|simp -dsimp -implicitDefEqProofs (disch:=first|assumption|omega|simp only[ll];omega) only[go_sem,hc,mS,e]|refine o5 (c1 _ _) ?_|refine⟨_,_,c1 _ _,?_⟩|refine vcA ?_ ?_|omega
  refine again (i+1) ?_ ?_ ?_ y9
  ·omega
  ·omega
  ·rw[List.length_take,bt9 (by omega)]
 ·have hc:((i:Int) < (l.length:Int))=False:=eq_false (by omega)
  rw[al2 (by omega:l.length<=i)]
  repeat' first|refine o6 ?_|simp -dsimp -implicitDefEqProofs (disch:=(simp only[ll];omega)) only[go_sem,hc]
  exact am0 (bX1 ao3 aG7 (ns:=[]) (is:=l.map ad5)) (ct6 rfl)
theorem dd6(n:bytes)(v:JV):aD1 (n,v)=.agg [.str n,.lit (.int .i64 v.kind),.lit (.int .i64 v.num),.str v.text,.sl .sh 1 (v.names.map .str),.sl .sh 5 (v.items.map jAV)]:=dK2.symm
theorem dg6{H M:List AObj}{o:Own}{l:Prs}{xs:List AV}(h:xs=l.map aD1):Done H (fun y H'=>y=.sl .sh 6 (l.map aD1)/\H'=H) (.sl o 6 xs) (H++M):=by
 subst h;exact aa5 _ aG7 bG9 ⟨rfl,rfl⟩
abbrev dg4(e:T):Prs:=[(aY6,aC9 e.auth),(aY4,aC9 e.prev),(ad4,e.content),(aO2,bh9 e.depth),(ae0,aw2 e.hash),(bc6,bh9 e.time),(bc7,ad5 e.room),(aL5,ad5 e.sender),(Se.ab5,e.sigs),(aB5,ad5 e.typ)]
theorem d45(e:T)(H:List AObj)(h1:e.prev.length<=1000)(h2:e.auth.length<=1000):o8 Tryz.prog 44 [av e] H (fun y H'=>y=.sl .sh 6 ((ac3 e).map aD1)/\H'=H):=by
 have c1:=fun s H=>dy0 s H
 have c2:=fun n H=>bO0 n H
 have c3:=fun H=>dc0 e.prev H h1
 have c4:=fun H=>dc0 e.auth H h2
 unfold av cells ac3;refine aw8 ab2 mixed [1000002,1000002005002,1000002009002,1000002009006,1000002009013,1000002009019,1000002009023,1000002009027,1000002009034,1000002012002,1000002012006,1000002015002,1000002015006,1000002015013,1000002015019,1000002015023,1000002015027,1000002015034,1000002018002,1000002018006,1000002018013,1000002022002,1000002022006,1000002022013,1000002022019,1000002026002,1000002026006,1000002026013,1000002026019,1000002026023,1000002030002,1000002030006,1000002030013,1000002030019,1000002030023,1000002030027,1000002030034,1000002033002,1000002033006,1000002033013,1000002033019,1000002033023,1000002033027] 2 (rs:=[.tmp 2]) (n:=58) Tryz.func44 rfl rfl rfl rfl (nlb rfl) (by kernel_rfl) ?_
 repeat' first|simp -dsimp -implicitDefEqProofs (disch:=first|omega|simp only[ll];omega) only[go_sem]|refine o5 (c1 _ _) ?_|refine⟨_,_,c1 _ _,?_⟩|fail
 refine cu5 H.length (sh:=.one 25) (cs':=af0 (aw2 e.hash)) (by rw[aW1];rfl) (.cons (Le.refl _) (.cons (Le.refl _) (.cons (Le.refl _) (.cons aG7 (.cons aG7 .nil))))) ?_
 rw[bn5];unfold af0;refine aE1 ab2 mixed [1000002,1000002005002,1000002009002,1000002009006,1000002009013,1000002009019,1000002009023,1000002009027,1000002009034,1000002012002,1000002012006,1000002015002,1000002015006,1000002015013,1000002015019,1000002015023,1000002015027,1000002015034,1000002018002,1000002018006,1000002018013,1000002022002,1000002022006,1000002022013,1000002022019,1000002026002,1000002026006,1000002026013,1000002026019,1000002026023,1000002030002,1000002030006,1000002030013,1000002030019,1000002030023,1000002030027,1000002030034,1000002033002,1000002033006,1000002033013,1000002033019,1000002033023,1000002033027] (by kernel_rfl) ?_
 cases hst:e.state with
 |false=>
  repeat' first|refine o6 ?_|simp -dsimp -implicitDefEqProofs (disch:=omega) only[go_sem,hst,aj3,ak3,List.drop_zero,xq9]|refine o5 (c1 _ _) ?_|refine⟨_,_,c1 _ _,?_⟩|refine o5 (c2 _ _) ?_|refine⟨_,_,c2 _ _,?_⟩|refine o5 (c3 _) ?_|refine⟨_,_,c3 _,?_⟩|refine o5 (c4 _) ?_|refine⟨_,_,c4 _,?_⟩|fail
  exact dg6 (l:=dg4 e) (by simp only[List.map_cons,List.map_nil,dd6];rfl)
 |true=>
  repeat' first|refine o6 ?_|simp -dsimp -implicitDefEqProofs (disch:=first|omega|simp only[ll];omega) only[go_sem,hst,aj3,ak3,List.drop_zero,xq9]|refine o5 (c1 _ _) ?_|refine⟨_,_,c1 _ _,?_⟩|refine o5 (c2 _ _) ?_|refine⟨_,_,c2 _ _,?_⟩|refine o5 (c3 _) ?_|refine⟨_,_,c3 _,?_⟩|refine o5 (c4 _) ?_|refine⟨_,_,c4 _,?_⟩|fail
  exact dg6 (l:=dg4 e++[(aQ1,ad5 e.key)]) (by simp only[List.cons_append,List.nil_append,List.map_cons,List.map_nil,dd6];rfl)
end Ev
end
section
open Go V
namespace Ev
theorem el0{m:Nat}{x:AV}(h:Low m x:=by(first|(first|exact .lit _|exact .str _|exact .any|exact af5|exact ah5|exact .mp _ _ (by omega)|exact .msl _ _ _ _ (by omega)|exact af6 (fun k e=>by cases e)|exact ae5 _|exact ak1|exact ak0|exact an0|exact am9 _)|(refine ah9 ?_;repeat(first|exact ac4|(refine aa3 ?_ ?_;focus(first|exact .lit _|exact .str _|exact .any|exact af5|exact ah5|exact .mp _ _ (by omega)|exact .msl _ _ _ _ (by omega)|exact af6 (fun k e=>by cases e)|exact ae5 _|exact ak1|exact ak0|exact an0|exact am9 _))))|(refine aB8 ?_;repeat(first|exact ac4|(refine aa3 ?_ ?_;focus(first|exact .lit _|exact .str _|exact .any|exact af5|exact ah5|exact .mp _ _ (by omega)|exact .msl _ _ _ _ (by omega)|exact af6 (fun k e=>by cases e)|exact ae5 _|exact ak1|exact ak0|exact an0|exact am9 _)))))):Low m x:=h
structure Bd(e:T):Prop where
 room:e.room.length<=1000
 sender:e.sender.length<=1000
 typ:e.typ.length<=1000
 key:e.key.length<=1000
 content:aa2 e.content<=9000
 sigs:aa2 e.sigs<=9000
 hash:e.hash.length<=9000
theorem d80{e:T}(hf:aq8 e=true)(hb:Bd e): ∀p∈ac3 e,aa2 p.2<=10000/\p.1.length<=10000:=by
 obtain⟨h1,h2,h3,h4,_,⟨h5,h6⟩,h7,h8⟩:=bw9 hf;have e1:=bp9 h6;have e2:=bp9 h8;have b1:=hb.content;have b2:=hb.sigs;have b3:=hb.hash;have hc: ∀p∈ac3 e,p∈[(aY6,aC9 e.auth),(aY4,aC9 e.prev),(ad4,e.content),(aO2,bh9 e.depth),(ae0,aw2 e.hash),(bc6,bh9 e.time),(bc7,ad5 e.room),(aL5,ad5 e.sender),(Se.ab5,e.sigs),(aB5,ad5 e.typ)]\/p=(aQ1,ad5 e.key):=by
  intro p hp;unfold ac3 at hp;rw[aR3] at hp;rcases hp with hp|hp
  ·exact .inl hp
  ·split at hp
   ·exact .inr (cj0.1 hp)
   ·cases hp
 intro p hp;rcases hc p hp with h|rfl
 ·simp only[xq8,aK4,or_false] at h
  rcases h with rfl|rfl|rfl|rfl|rfl|rfl|rfl|rfl|rfl|rfl
  all_goals
   refine⟨?_,dk4 rfl⟩;simp only[aD4,bM2,cd5,e1,e2];omega
 ·refine⟨?_,dk4 rfl⟩
  simp only[aD4];omega
theorem bP9(e:T):(ac3 e).length<=1000:=by
 unfold ac3;rw[List.length_append];split<;>simp
theorem aS9(e:T)(H:List AObj)(hf:aq8 e=true)(hb:Bd e):o8 Tryz.prog 17 [av e] H (fun y H'=>y=af9 (ab1 e)/\H'=H):=by
 have h1:=bw9 hf;have c1:=fun H=>d45 e H (by have:=h1.prev.1;omega) (by have:=h1.auth.1;omega)
 have c2:=fun H=>dP9 (ac3 e) H (bP9 e) (d80 hf hb)
 unfold af9 at c2;unfold ab1;generalize aB7 (ac3 e)=q at*;unfold av cells at*;refine y8 [] [.cell 2 25,.tmp 3] 9 Tryz.func17 ?_;repeat' first|simp -dsimp -implicitDefEqProofs (disch:=(simp only[ll];omega)) only[go_sem]|refine o5 (c1 _) ?_|refine o5 (c2 _) ?_|fail
 exact ah1 rfl
theorem dc4{e:T}(hf:aq8 e=true)(hb:Bd e):aa2 (ab1 e).1<=30000:=by
 have:=cl4 hf;have b1:=hb.content;have b2:=hb.sigs;have b3:=hb.hash;omega
theorem aI9{e:T}(hb:Bd e):aa2 (aa4 e).1<=30000:=by
 by_cases h:(aa4 e).2=0
 ·obtain⟨_,hf,_,_,hv⟩:=aS8 h
  rw[hv];exact dc4 hf hb
 ·have:(aa4 e).1=aa7:=by
   unfold aa4 at h⊢;split
   ·split
    ·rename_i h1 h2
     rw[if_pos h1,if_pos h2] at h;exact absurd rfl h
    ·rfl
   ·rfl
  rw[this];decide
theorem a00(e:T)(H:List AObj)(hb:Bd e):o8 Tryz.prog 7 [av e] H (fun y H'=>y=af9 (aa4 e)/\H'=H):=by
 have c1:=fun H=>dg1 e H hb.room hb.sender hb.typ (by have:=hb.content;omega) hb.key
 unfold aa4;by_cases hk:e.sigs.kind=6
 ·have hkc:=eq_true hk
  by_cases hf:aq8 e=true
  ·rw[if_pos ⟨hk,hf⟩]
   have c2:=fun H=>aS9 e H hf hb
   have hs:=dc4 hf hb;have c3:=fun H=>d96 (ab1 e).1 H (by omega)
   rw[hf] at c1;unfold af9 at c2;generalize ab1 e=q at*;unfold av cells at*;by_cases hq:q.2=0
   ·have hqc:=eq_true hq
    by_cases hl:aV8 q.1<=8192
    ·have hlc:(8192 < aV8 q.1)=False:=eq_false (by omega)
     rw[if_pos ⟨hq,hl⟩];refine y8 [] [.cell 2 25,.tmp 3] 30 Tryz.func7 ?_;repeat' first|refine o6 ?_|simp -dsimp -implicitDefEqProofs (disch:=omega) only[go_sem,hkc,hqc,hlc,aj3,ak3,List.drop_zero,xq9]|refine o5 (c1 _) ?_|refine o5 (c2 _) ?_|refine o5 (c3 _) ?_|fail
     exact ah1 rfl
    ·have hlc:(8192 < aV8 q.1)=True:=eq_true (by omega)
     rw[if_neg fun h=>hl h.2]
     refine y8 [] [.cell 2 25,.tmp 3] 30 Tryz.func7 ?_;repeat' first|refine o6 ?_|simp -dsimp -implicitDefEqProofs (disch:=omega) only[go_sem,hkc,hqc,hlc,aj3,ak3,List.drop_zero,xq9]|refine o5 (c1 _) ?_|refine o5 (c2 _) ?_|refine o5 (c3 _) ?_|fail
     exact am0 (ax3 le_zero) (ah1 rfl)
   ·have hqc:=eq_false hq
    rw[if_neg fun h=>hq h.1]
    refine y8 [] [.cell 2 25,.tmp 3] 30 Tryz.func7 ?_;repeat' first|refine o6 ?_|simp -dsimp -implicitDefEqProofs (disch:=omega) only[go_sem,hkc,hqc,aj3,ak3,List.drop_zero,xq9]|refine o5 (c1 _) ?_|refine o5 (c2 _) ?_|fail
    exact am0 (ax3 le_zero) (ah1 rfl)
  ·rw[if_neg fun h=>hf h.2]
   rw[eq_false_of_ne_true hf] at c1;unfold av cells at*;refine y8 [] [.cell 2 25,.tmp 3] 30 Tryz.func7 ?_;repeat' first|refine o6 ?_|simp -dsimp -implicitDefEqProofs (disch:=omega) only[go_sem,hkc,aj3,ak3,List.drop_zero,xq9]|refine o5 (c1 _) ?_|fail
   exact am0 (ax3 le_zero) (ah1 rfl)
 ·have hkc:=eq_false hk
  rw[if_neg fun h=>hk h.1]
  unfold av cells at*;refine y8 [] [.cell 2 25,.tmp 3] 30 Tryz.func7 ?_;repeat' first|refine o6 ?_|simp -dsimp -implicitDefEqProofs (disch:=omega) only[go_sem,hkc,aj3,ak3,List.drop_zero,xq9]
  exact am0 (ax3 le_zero) (ah1 rfl)
theorem aF1(e:T)(H:List AObj)(hb:Bd e):o8 Tryz.prog 10 [av e] H (fun y H'=>y=.bool (aO1 e)/\H'=H):=by
 have c1:=fun H=>a00 e H hb
 have hs:=aI9 hb;have hr:=a06 (aa4 e).1;have c2:=fun H=>c05 (aa4 e).1 H (by omega) (by omega)
 unfold aO1;unfold af9 at c1;unfold aE6 at c2;generalize hn:aq2 (aa4 e).1=n at*;clear hn hs hr;generalize aa4 e=q at*;unfold av cells at*;by_cases hq:q.2=0
 ·have hqc:=eq_true hq
  rw[decide_eq_true hq,Bool.true_and];by_cases h2:n.2=0
  ·have hnc:=eq_true h2
   rw[decide_eq_true h2,Bool.true_and];refine y8 [] [.tmp 2] 26 Tryz.func10 ?_;repeat' first|refine o6 ?_|simp -dsimp -implicitDefEqProofs (disch:=omega) only[go_sem,hqc,hnc,aj3,ak3,List.drop_zero,xq9]|refine o5 (c1 _) ?_|refine o5 (c2 _) ?_|fail
   exact aE5 ⟨rfl,rfl⟩
  ·have hnc:=eq_false h2
   rw[decide_eq_false h2];refine y8 [] [.tmp 2] 26 Tryz.func10 ?_;repeat' first|refine o6 ?_|simp -dsimp -implicitDefEqProofs only[go_sem,hqc,hnc,aj3,ak3,List.drop_zero,xq9]|refine o5 (c1 _) ?_|refine o5 (c2 _) ?_|fail
   exact aE5 ⟨rfl,rfl⟩
 ·have hqc:=eq_false hq
  rw[decide_eq_false hq];refine y8 [] [.tmp 2] 26 Tryz.func10 ?_;repeat' first|refine o6 ?_|simp -dsimp -implicitDefEqProofs only[go_sem,hqc,aj3,ak3,List.drop_zero,xq9]|refine o5 (c1 _) ?_|fail
  exact aE5 ⟨rfl,rfl⟩
theorem cA9(v:JV)(s:bytes):aa2 (ak9 v s)<=aa2 v:=by
 have:=aC4 (v:=v) (s:=s);unfold ak9;cases hg:ae1 v s with
 |none=>exact aA2 v
 |some x=>rwa [hg] at this
theorem bP4(v:JV)(s:bytes)(H:List AObj)(hv:aa2 v<=40000):o8 Tryz.prog 26 [jAV v,.str s] H (fun y H'=>y=jAV (ak9 v s)/\H'=H):=by
 have hgn:=ax7 (n:=100000) (v:=v) (by omega)
 have c1:=fun H=>bm3 v s H hgn.1 hgn.2
 unfold aQ7 at c1;unfold ak9;generalize (ae1 v s).getD aa7=x at*;generalize (ae1 v s).isSome=b at*;refine y8 [] [.cell 4 25] 15 Tryz.func26 ?_;repeat' first|simp -dsimp -implicitDefEqProofs (disch:=(simp only[ll];omega)) only[go_sem]|refine o5 (c1 _) ?_|fail
 exact ct6 rfl
theorem bH6(v:JV)(s:bytes)(H:List AObj)(hv:aa2 v<=40000):o8 Tryz.prog 25 [jAV v,.str s] H (fun y H'=>y=.str (ak9 v s).text/\H'=H):=by
 have c1:=fun H=>bP4 v s H hv
 generalize ak9 v s=x at*;refine y8 [] [.tmp 4] 9 Tryz.func25 ?_;repeat' first|simp -dsimp -implicitDefEqProofs (disch:=omega) only[go_sem]|refine o5 (c1 _) ?_|fail
 exact o9 ⟨rfl,rfl⟩
theorem cD6(v:JV)(s:bytes)(H:List AObj)(hv:aa2 v<=40000):o8 Tryz.prog 28 [jAV v,.str s] H (fun y H'=>y=.lit (.int .i64 (ak9 v s).num)/\H'=H):=by
 have c1:=fun H=>bP4 v s H hv
 generalize ak9 v s=x at*;refine y8 [] [.tmp 4] 9 Tryz.func28 ?_;repeat' first|simp -dsimp -implicitDefEqProofs (disch:=omega) only[go_sem]|refine o5 (c1 _) ?_|fail
 exact o9 ⟨rfl,rfl⟩
theorem dI7(v:JV)(H:List AObj)(hv:aa2 v<=40000):o8 Tryz.prog 19 [jAV v] H (fun y H'=>y=.str (aH1 v)/\H'=H):=by
 have c1:=fun H=>bP4 v ae0 H hv
 have hs:=cA9 v ae0;have c2:=fun H=>bH6 (ak9 v ae0) aD8 H (by omega)
 unfold aH1;generalize hx:ak9 v ae0=x at*;generalize (ak9 x aD8).text=t at*;unfold ae0 at c1;unfold aD8 at c2;refine y8 [] [.tmp 2] 7 Tryz.func19 ?_;repeat' first|simp -dsimp -implicitDefEqProofs only[go_sem]|refine o5 (c1 _) ?_|refine o5 (c2 _) ?_|fail
 exact o9 ⟨rfl,rfl⟩
theorem d07{m k:Nat}(h:k < m){l:List bytes}:Low m (.sl (.tok k) 1 (l.map .str)):=.sl _ _ _ (fun k e=>by cases e;exact h) fun x hx=>by
 rw[aN8] at hx;obtain⟨s,_,rfl⟩:=xq6.1 hx;exact .str _
theorem cV0(v:JV)(s:bytes)(H:List AObj)(hv:aa2 v<=40000):o8 Tryz.prog 27 [jAV v,.str s] H (fun y H'=>y=.sl .sh 1 ((textsOf (ak9 v s)).map .str)/\H'=H):=by
 have c1:=fun H=>bP4 v s H hv
 have hs:=cA9 v s;have hgn:=ax7 (n:=40000) (v:=ak9 v s) (by omega)
 unfold textsOf;generalize ak9 v s=x at*;have hx:=hgn.2;refine y8 [] [.tmp 4] 24 Tryz.func27 ?_;repeat' first|simp -dsimp -implicitDefEqProofs only[go_sem]|refine o5 (c1 _) ?_|fail
 refine bI7 5 1 rfl (by decide) (fun h=>absurd rfl h) ?_
 refine aa8 ab2 mixed [] [4,11,12] (fun i:Nat=>i<=x.items.length) (fun i=>[(13,.lit (.int .i64 i)),(5,.sl (.tok H.length) 1 (((x.items.take i).map JV.text).map .str))]) (fun i=>H++[.grow 1 i none]) (fun i=>x.items.length - i) (by kernel_rfl) ?_ 0 (by omega) y9 rfl
 intro i hi;by_cases h:i < x.items.length
 ·have hc:((i:Int) < (x.items.length:Int))=True:=eq_true (by omega)
  have hm:((x.items.take i).map JV.text).map AV.str++[AV.str (x.items.getD i aa7).text]=((x.items.take (i+1)).map JV.text).map AV.str:=by
   have e:x.items[i]?=some (x.items.getD i aa7):=by rw[cG9,xq1 h];rfl
   rw[bg1 e];simp
  have hn:(x.items.take i).length=i:=by rw[List.length_take];omega
  repeat' first|refine o6 ?_|simp -dsimp -implicitDefEqProofs (disch:=first|assumption|omega) only[go_sem,hc,hm,hn]|refine vcA ?_ ?_|omega
  refine an7 (H.length+1) ([.cells (.one 25) (af0 (x.items.getD i aa7))]) (i+1) ?_ ?_ ?_ ?_ ?_ (by repeat(first|exact ah0|(refine ag1 ?_ ?_;focus(first|exact d07 (by omega)|exact el0)))) ?_ y9
  ·omega
  ·omega
  ·rw[List.append_assoc]
   rfl
  ·simp
  ·simp
  ·exact a15 (fun o ho sh cs e=>by
    rw[cj0] at ho;subst ho;cases e)
 ·have hc:((i:Int) < (x.items.length:Int))=False:=eq_false (by omega)
  rw[al2 (by omega:x.items.length<=i)]
  repeat' first|refine o6 ?_|simp -dsimp -implicitDefEqProofs only[go_sem,hc]
  exact aa5 _ aG7 ak0 ⟨rfl,rfl⟩
end Ev
end
section
open Go V
namespace Ev
theorem eE0{m:Nat}(e:T):Low m (av e):=aB8 (by
 unfold cells;repeat(first|exact ac4|(refine aa3 ?_ ?_;focus(first|exact .lit _|exact .str _|exact ak0|exact ak1))))
theorem b75{H M:List AObj}{e:T}{n:Int}{x:AV}(h:x=av e):Done H (fun y H'=>y=.tup [av e,.lit (.int .i64 n)]/\H'=H) (.tup [x,.lit (.int .i64 n)]) (H++M):=by
 subst h;exact aa5 _ (Le.refl _) (ah9 (aa3 (eE0 e) (aa3 (.lit _) ac4))) ⟨rfl,rfl⟩
theorem d09:Le (.agg [.str [],.str [],.str [],.str [],.lit (.bool false),.str [],.lit (.int .i64 0),.lit (.int .i64 0),.str [],.sl .full 0 [],.sl .full 0 [],.sl .full 0 [],.sl .full 0 [],.lit (.int .i64 0),.lit (.int .i64 0),.str [],.lit (.int .i64 0),.lit (.int .i64 0),.str [],.sl .full 0 [],.sl .full 0 []]) (av zero):=by
 refine cq6 ?_;show LeAll _ (cells zero)
 unfold cells zero;repeat(first|exact LeAll.nil|(refine LeAll.cons ?_ ?_;focus(first|exact Le.refl _|exact ao3)))
theorem aG0{H M:List AObj}{n:Int}:Done H (fun y H'=>y=.tup [av zero,.lit (.int .i64 n)]/\H'=H) (.tup [.agg [.str [],.str [],.str [],.str [],.lit (.bool false),.str [],.lit (.int .i64 0),.lit (.int .i64 0),.str [],.sl .full 0 [],.sl .full 0 [],.sl .full 0 [],.sl .full 0 [],.lit (.int .i64 0),.lit (.int .i64 0),.str [],.lit (.int .i64 0),.lit (.int .i64 0),.str [],.sl .full 0 [],.sl .full 0 []],.lit (.int .i64 n)]) (H++M):=
 am0 (ax3 d09) (b75 rfl)
open Classical in
theorem cZ9(v:JV)(H:List AObj)(hv:aa2 v<=30000)(hb:Bd (ofJ v)):o8 Tryz.prog 8 [jAV v] H (fun y H'=>y=bl2 (bq0 v)/\H'=H):=by
 have c1:=fun H=>aM0 v H (by omega)
 have hgn:=ax7 (n:=100000) (v:=v) (by omega)
 have c2:=fun H=>bm3 v aQ1 H hgn.1 hgn.2
 have t1:=fun H=>bH6 v bc7 H (by omega)
 have t2:=fun H=>bH6 v aL5 H (by omega)
 have t3:=fun H=>bH6 v aB5 H (by omega)
 have t4:=fun H=>bH6 v aQ1 H (by omega)
 have t5:=fun H=>bP4 v ad4 H (by omega)
 have t6:=fun H=>cV0 v aY4 H (by omega)
 have t7:=fun H=>cV0 v aY6 H (by omega)
 have t8:=fun H=>cD6 v aO2 H (by omega)
 have t9:=fun H=>cD6 v bc6 H (by omega)
 have t10:=fun H=>dI7 v H (by omega)
 have t11:=fun H=>bP4 v Se.ab5 H (by omega)
 have c8:=fun H=>a00 (ofJ v) H hb
 have hso:=aI9 hb;have c9:=fun H=>dP5 (aa4 (ofJ v)).1 v H (by omega) (by omega)
 have hr:=a06 v;have c10:=fun H=>c05 v H (by omega) (by omega)
 unfold bq0 am2;generalize aa4 (ofJ v)=q at*;generalize aq2 v=n at*;unfold ofJ av cells at*;unfold aQ7 at c2;dsimp only at c8;generalize (ak9 v bc7).text=x1 at*;generalize (ak9 v aL5).text=x2 at*;generalize (ak9 v aB5).text=x3 at*;generalize (ak9 v aQ1).text=x4 at*;generalize ak9 v ad4=x5 at*;generalize textsOf (ak9 v aY4)=x6 at*;generalize textsOf (ak9 v aY6)=x7 at*;generalize (ak9 v aO2).num=x8 at*;generalize (ak9 v bc6).num=x9 at*;generalize aH1 v=x10 at*;generalize ak9 v Se.ab5=x11 at*;generalize (ae1 v aQ1).getD aa7=y1 at*;generalize (ae1 v aQ1).isSome=y2 at*;unfold bc7 at t1;unfold aL5 at t2;unfold aB5 at t3;unfold aQ1 at c2 t4;unfold ad4 at t5;unfold aY4 at t6;unfold aY6 at t7;unfold aO2 at t8;unfold bc6 at t9;unfold Se.ab5 at t11;unfold af9 at c8;unfold aE6 at c10;unfold bl2;by_cases hk:v.kind=6
 ·have hkc:=eq_true hk
  rw[decide_eq_true hk,Bool.true_and];cases hR:ab3 12 v with
  |false=>
   rw[hR] at c1;rw[if_neg (by decide)]
   refine y8 [7] [.cell 2 27,.tmp 3] 76 Tryz.func8 ?_;repeat' first|refine o6 ?_|simp -dsimp -implicitDefEqProofs (disch:=first|omega|simp only[ll];omega) only[go_sem,hkc]|refine o5 (c1 _) ?_|refine⟨_,_,c1 _,?_⟩|fail
   exact aG0
  |true=>
   rw[hR] at c1 c9;rw[if_pos rfl];by_cases hq:q.2=0
   ·have hqc:=eq_true hq
    by_cases hs:ab3 12 q.1=true/\q.1=v
    ·have hsc:(ab3 12 q.1&&true&&decide (q.1=v))=true:=by rw[hs.1,decide_eq_true hs.2];rfl
     rw[hsc] at c9;rw[if_pos ⟨hq,hs.1,rfl,hs.2⟩];by_cases hn:n.2=0
     ·have hnc:=eq_true hn
      rw[if_pos hn];refine y8 [7,2000029,2000031,2000033,2000036,2000038,2000040,2000042,2000044,2000046,2000048,2000050,1000005,1000005000024,1000005001024,1000005002024,1000005003024,1000005004024,1000005005024,1000005007024,1000005008024,1000005009024,1000005010024,1000005011024,1000005012024,1000005013024,1000005014024,1000005015024,1000005016024,1000005017024,1000005018024,1000005019024,1000005020024,1000005021024,1000005022024] [.cell 2 27,.tmp 3] 76 Tryz.func8 ?_;repeat' first|refine o6 ?_|simp -dsimp -implicitDefEqProofs (disch:=first|omega|simp only[ll];omega) only[go_sem,hkc,hqc,hnc]|refine o5 (c1 _) ?_|refine⟨_,_,c1 _,?_⟩|refine o5 (c2 _) ?_|refine⟨_,_,c2 _,?_⟩|refine o5 (t1 _) ?_|refine⟨_,_,t1 _,?_⟩|refine o5 (t2 _) ?_|refine⟨_,_,t2 _,?_⟩|refine o5 (t3 _) ?_|refine⟨_,_,t3 _,?_⟩|refine o5 (t4 _) ?_|refine⟨_,_,t4 _,?_⟩|refine o5 (t5 _) ?_|refine⟨_,_,t5 _,?_⟩|refine o5 (t6 _) ?_|refine⟨_,_,t6 _,?_⟩|refine o5 (t7 _) ?_|refine⟨_,_,t7 _,?_⟩|refine o5 (t8 _) ?_|refine⟨_,_,t8 _,?_⟩|refine o5 (t9 _) ?_|refine⟨_,_,t9 _,?_⟩|refine o5 (t10 _) ?_|refine⟨_,_,t10 _,?_⟩|refine o5 (t11 _) ?_|refine⟨_,_,t11 _,?_⟩|refine o5 (c8 _) ?_|refine⟨_,_,c8 _,?_⟩|refine o5 (c9 _) ?_|refine⟨_,_,c9 _,?_⟩|refine o5 (c10 _) ?_|refine⟨_,_,c10 _,?_⟩|refine vcA ?_ ?_
      exact b75 rfl
     ·have hnc:=eq_false hn
      rw[if_neg hn];refine y8 [7,2000029,2000031,2000033,2000036,2000038,2000040,2000042,2000044,2000046,2000048,2000050,1000005,1000005000024,1000005001024,1000005002024,1000005003024,1000005004024,1000005005024,1000005007024,1000005008024,1000005009024,1000005010024,1000005011024,1000005012024,1000005013024,1000005014024,1000005015024,1000005016024,1000005017024,1000005018024,1000005019024,1000005020024,1000005021024,1000005022024] [.cell 2 27,.tmp 3] 76 Tryz.func8 ?_;repeat' first|refine o6 ?_|simp -dsimp -implicitDefEqProofs (disch:=first|omega|simp only[ll];omega) only[go_sem,hkc,hqc,hnc]|refine o5 (c1 _) ?_|refine⟨_,_,c1 _,?_⟩|refine o5 (c2 _) ?_|refine⟨_,_,c2 _,?_⟩|refine o5 (t1 _) ?_|refine⟨_,_,t1 _,?_⟩|refine o5 (t2 _) ?_|refine⟨_,_,t2 _,?_⟩|refine o5 (t3 _) ?_|refine⟨_,_,t3 _,?_⟩|refine o5 (t4 _) ?_|refine⟨_,_,t4 _,?_⟩|refine o5 (t5 _) ?_|refine⟨_,_,t5 _,?_⟩|refine o5 (t6 _) ?_|refine⟨_,_,t6 _,?_⟩|refine o5 (t7 _) ?_|refine⟨_,_,t7 _,?_⟩|refine o5 (t8 _) ?_|refine⟨_,_,t8 _,?_⟩|refine o5 (t9 _) ?_|refine⟨_,_,t9 _,?_⟩|refine o5 (t10 _) ?_|refine⟨_,_,t10 _,?_⟩|refine o5 (t11 _) ?_|refine⟨_,_,t11 _,?_⟩|refine o5 (c8 _) ?_|refine⟨_,_,c8 _,?_⟩|refine o5 (c9 _) ?_|refine⟨_,_,c9 _,?_⟩|refine o5 (c10 _) ?_|refine⟨_,_,c10 _,?_⟩|refine vcA ?_ ?_
      exact aG0
    ·have hsc:(ab3 12 q.1&&true&&decide (q.1=v))=false:=by
      rw[Bool.and_true];rcases Classical.em (ab3 12 q.1=true) with h1|h1
      ·rw[decide_eq_false fun h2=>hs ⟨h1,h2⟩,Bool.and_false]
      ·rw[eq_false_of_ne_true h1,aH0]
     rw[hsc] at c9;rw[if_neg fun h=>hs ⟨h.2.1,h.2.2.2⟩]
     refine y8 [7,2000029,2000031,2000033,2000036,2000038,2000040,2000042,2000044,2000046,2000048,2000050,1000005,1000005000024,1000005001024,1000005002024,1000005003024,1000005004024,1000005005024,1000005007024,1000005008024,1000005009024,1000005010024,1000005011024,1000005012024,1000005013024,1000005014024,1000005015024,1000005016024,1000005017024,1000005018024,1000005019024,1000005020024,1000005021024,1000005022024] [.cell 2 27,.tmp 3] 76 Tryz.func8 ?_;repeat' first|refine o6 ?_|simp -dsimp -implicitDefEqProofs (disch:=first|omega|simp only[ll];omega) only[go_sem,hkc,hqc]|refine o5 (c1 _) ?_|refine⟨_,_,c1 _,?_⟩|refine o5 (c2 _) ?_|refine⟨_,_,c2 _,?_⟩|refine o5 (t1 _) ?_|refine⟨_,_,t1 _,?_⟩|refine o5 (t2 _) ?_|refine⟨_,_,t2 _,?_⟩|refine o5 (t3 _) ?_|refine⟨_,_,t3 _,?_⟩|refine o5 (t4 _) ?_|refine⟨_,_,t4 _,?_⟩|refine o5 (t5 _) ?_|refine⟨_,_,t5 _,?_⟩|refine o5 (t6 _) ?_|refine⟨_,_,t6 _,?_⟩|refine o5 (t7 _) ?_|refine⟨_,_,t7 _,?_⟩|refine o5 (t8 _) ?_|refine⟨_,_,t8 _,?_⟩|refine o5 (t9 _) ?_|refine⟨_,_,t9 _,?_⟩|refine o5 (t10 _) ?_|refine⟨_,_,t10 _,?_⟩|refine o5 (t11 _) ?_|refine⟨_,_,t11 _,?_⟩|refine o5 (c8 _) ?_|refine⟨_,_,c8 _,?_⟩|refine o5 (c9 _) ?_|refine⟨_,_,c9 _,?_⟩|refine vcA ?_ ?_
     exact aG0
   ·have hqc:=eq_false hq
    rw[if_neg fun h=>hq h.1]
    refine y8 [7,2000029,2000031,2000033,2000036,2000038,2000040,2000042,2000044,2000046,2000048,2000050,1000005,1000005000024,1000005001024,1000005002024,1000005003024,1000005004024,1000005005024,1000005007024,1000005008024,1000005009024,1000005010024,1000005011024,1000005012024,1000005013024,1000005014024,1000005015024,1000005016024,1000005017024,1000005018024,1000005019024,1000005020024,1000005021024,1000005022024] [.cell 2 27,.tmp 3] 76 Tryz.func8 ?_;repeat' first|refine o6 ?_|simp -dsimp -implicitDefEqProofs (disch:=first|omega|simp only[ll];omega) only[go_sem,hkc,hqc]|refine o5 (c1 _) ?_|refine⟨_,_,c1 _,?_⟩|refine o5 (c2 _) ?_|refine⟨_,_,c2 _,?_⟩|refine o5 (t1 _) ?_|refine⟨_,_,t1 _,?_⟩|refine o5 (t2 _) ?_|refine⟨_,_,t2 _,?_⟩|refine o5 (t3 _) ?_|refine⟨_,_,t3 _,?_⟩|refine o5 (t4 _) ?_|refine⟨_,_,t4 _,?_⟩|refine o5 (t5 _) ?_|refine⟨_,_,t5 _,?_⟩|refine o5 (t6 _) ?_|refine⟨_,_,t6 _,?_⟩|refine o5 (t7 _) ?_|refine⟨_,_,t7 _,?_⟩|refine o5 (t8 _) ?_|refine⟨_,_,t8 _,?_⟩|refine o5 (t9 _) ?_|refine⟨_,_,t9 _,?_⟩|refine o5 (t10 _) ?_|refine⟨_,_,t10 _,?_⟩|refine o5 (t11 _) ?_|refine⟨_,_,t11 _,?_⟩|refine o5 (c8 _) ?_|refine⟨_,_,c8 _,?_⟩|refine vcA ?_ ?_
    exact aG0
 ·have hkc:=eq_false hk
  rw[decide_eq_false hk,aH0,if_neg (by decide)]
  refine y8 [7] [.cell 2 27,.tmp 3] 76 Tryz.func8 ?_;repeat' first|refine o6 ?_|simp -dsimp -implicitDefEqProofs (disch:=first|omega|simp only[ll];omega) only[go_sem,hkc]
  exact aG0
end Ev
end
section
open Go V
namespace Ev
def aS2(server key seed:bytes):AV:=.agg (.str server::.str key::seed.map o7)
theorem bR3(e:T)(H:List AObj)(hs:e.sender.length<=10000):o8 Tryz.prog 14 [av e] H (fun y H'=>y=.str (if Id.ay5 64 e.sender=true then(Id.splitB e.sender).2.1 else[])/\H'=H):=by
 have c1:=fun H=>Id.cZ6 e.sender H hs
 have c2:=fun H=>Id.eu7 e.sender H hs
 unfold av cells;generalize Id.splitB e.sender=p at*;cases hn:Id.ay5 64 e.sender with
 |true=>
  rw[hn] at c1;refine y8 [] [.tmp 2] 18 Tryz.func14 ?_;repeat' first|refine o6 ?_|simp -dsimp -implicitDefEqProofs (disch:=omega) only[go_sem]|refine o5 (c1 _) ?_|refine o5 (c2 _) ?_|fail
  exact o9 ⟨rfl,rfl⟩
 |false=>
  rw[hn] at c1;refine y8 [] [.tmp 2] 18 Tryz.func14 ?_;repeat' first|refine o6 ?_|simp -dsimp -implicitDefEqProofs (disch:=omega) only[go_sem]|refine o5 (c1 _) ?_|fail
  exact o9 ⟨rfl,rfl⟩
theorem dm6(v:JV):aa2 (Se.ac0 v)<=aa2 v:=by
 have:=aC4 (v:=v) (s:=Se.ab5);unfold Se.ac0;cases hg:ae1 v Se.ab5 with
 |none=>exact aA2 v
 |some x=>rwa [hg] at this
theorem dz9(v:JV)(s:bytes):aa2 (Se.ai0 v s).1<=aa2 v:=by
 have:=aC4 (v:=v) (s:=s);unfold Se.ai0;cases hg:ae1 v s with
 |none=>exact aA2 v
 |some x=>rwa [hg] at this
theorem dm7(v:JV)(server key:bytes)(t:JV):aa2 (bl1 v server key t).1<=3*aa2 v+server.length+key.length+aa2 t+20:=by
 have h0:=aA2 v;have hz:aa2 aa7=1:=rfl;have h1:=dm6 v;have h2:=dz9 (Se.ac0 v) server;have hn: ∀n:bytes,al5 n=1+n.length:=fun n=>rfl
 have h3:=a05 (v:=(Se.ai0 (Se.ac0 v) server).1) (s:=key) (x:=t);have h4:=a05 (v:=Se.ac0 v) (s:=server) (x:=(af8 (Se.ai0 (Se.ac0 v) server).1 key t).1);have h5:=a05 (v:=v) (s:=Se.ab5) (x:=(af8 (Se.ac0 v) server (af8 (Se.ai0 (Se.ac0 v) server).1 key t).1).1);have h6:al5 Se.ab5=11:=rfl;rw[hn] at h3 h4;unfold bl1;repeat' split
 all_goals first|(dsimp only;omega)|omega
theorem dm8(v:JV)(server key seed:bytes):aa2 (Se.ba8 v server key seed).1<=3*aa2 v+server.length+key.length+107:=by
 have h:=dm7 v server key (ad5 (ac5 aa6 (Ed.au6 seed (Se.aj6 v).1)));rw[aD4,az4,Ed.bM4] at h;rw[cl9];omega
theorem dS4(v:JV)(server key seed:bytes)(H:List AObj)(hv:aa2 v<=12000)(h1:server.length<=1000)(h2:key.length<=1000)(hd:seed.length=32):o8 Tryz.prog 20 [jAV v,aS2 server key seed] H (fun y H'=>y=af9 (ah8 v server key seed)/\H'=H):=by
 have c1:=fun H=>bR6 v H (by omega)
 have hr:=a06 v;have c2:=fun H=>Se.cZ8 (ab6 v).1 server key seed H (by omega) h1 h2 hd
 have hz:=dm8 (ab6 v).1 server key seed;have c3:=fun H=>bP4 (Se.ba8 (ab6 v).1 server key seed).1 Se.ab5 H (by omega)
 unfold ah8;unfold aS2;unfold af9 at c1 c2;generalize ab6 v=r at*;generalize Se.ba8 r.1 server key seed=q at*;generalize ak9 q.1 Se.ab5=g at*;unfold Se.ab5 at c3;by_cases hp:r.2=0
 ·have hpc:=eq_true hp
  rw[if_pos hp];refine y8 [6] [.cell 4 25,.tmp 5] 32 Tryz.func20 ?_;repeat' first|refine o6 ?_|simp -dsimp -implicitDefEqProofs (disch:=first|omega|simp only[ll];omega) only[go_sem,hpc,ac1,hd]|refine o5 (c1 _) ?_|refine o5 (c2 _) ?_|refine o5 (c3 _) ?_|fail
  exact ah1 rfl
 ·have hpc:=eq_false hp
  rw[if_neg hp];refine y8 [6] [.cell 4 25,.tmp 5] 32 Tryz.func20 ?_;repeat' first|refine o6 ?_|simp -dsimp -implicitDefEqProofs (disch:=(simp only[ll];omega)) only[go_sem,hpc,ac1,hd]|refine o5 (c1 _) ?_|fail
  exact am0 (ax3 le_zero) (ah1 rfl)
theorem et2{e:T}(hb:Bd e):Bd (ab8 e):=⟨hb.room,hb.sender,hb.typ,hb.key,hb.content,(by decide:aa2 ad2<=9000),aP7 _⟩
theorem dA1{e:T}(hf:aq8 (ab8 e)=true)(hb:Bd e):aa2 (ab1 (ab8 e)).1<=11600:=by
 have:=cl4 hf;have h1:=hb.content;have h2:aa2 (ab8 e).sigs=1:=rfl;have h3:(ab8 e).hash.length=0:=rfl;have h4:(ab8 e).content=e.content:=rfl;rw[h2,h3,h4] at this;omega
theorem bg4{v:JV}(h:(ab4 v).2=0):(aH1 (ab4 v).1).length<=9000:=by
 unfold aH1 ak9;rw[cr6 h,Option.getD_some,b48,Option.getD_some];show (ac5 aa6 (ad1 v).1).length<=9000
 rw[az4,be1];decide
theorem cM2(s:bytes)(x:JV):aa2 (at6 ad2 s x)=2+s.length+aa2 x:=by
 have:at6 ad2 s x=ofP ad2 [(s,x)]:=aZ6 ad2 [] s x;rw[this,aZ3,av4];show 1+0+(1+s.length+aa2 x+0)=_
 omega
theorem cz5{e:T}{server key seed:bytes}{q:JV}(hb:Bd e)(h1:server.length<=1000)(h2:key.length<=1000)(hm:(ab1 (ab8 e)).2=0)(h3:(ab4 (ab1 (ab8 e)).1).2=0)(hq:ah8 (ab4 (ab1 (ab8 e)).1).1 server key seed=(q,0)):Bd (ak6 e q):=by
 have h5:=cD8 h3 hm hq;refine⟨hb.room,hb.sender,hb.typ,hb.key,hb.content,?_,bg4 h3⟩;show aa2 q<=9000
 rw[h5,cM2,cM2,aD4,az4,Ed.bM4];omega
def fc(e:T)(id hash:bytes)(k n:Int)(t:bytes)(ns is:List AV):List AV:=[.str id,.str e.room,.str e.sender,.str e.typ,.lit (.bool e.state),.str e.key,.lit (.int .i64 e.content.kind),.lit (.int .i64 e.content.num),.str e.content.text,.sl .sh 1 (e.content.names.map .str),.sl .sh 5 (e.content.items.map jAV),.sl .sh 1 (e.prev.map .str),.sl .sh 1 (e.auth.map .str),.lit (.int .i64 e.depth),.lit (.int .i64 e.time),.str hash,.lit (.int .i64 k),.lit (.int .i64 n),.str t,.sl .sh 1 ns,.sl .sh 5 is]
theorem c95(e:T)(q:JV×Int):bY6 {ab8 e with hash:=aH1 (ab4 (ab1 (ab8 e)).1).1} q=if q.2=0 then(if(aa4 (ak6 e q.1)).2=0 then(if(aq2 (aa4 (ak6 e q.1)).1).2=0 then({ak6 e q.1 with id:=(aq2 (aa4 (ak6 e q.1)).1).1},0) else(zero,(aq2 (aa4 (ak6 e q.1)).1).2)) else(zero,3)) else(zero,q.2):=id rfl
theorem di1(e:T)(server key seed:bytes)(H:List AObj)(hb:Bd e)(h1:server.length<=1000)(h2:key.length<=1000)(hd:seed.length=32):o8 Tryz.prog 6 [av e,aS2 server key seed] H (fun y H'=>y=bl2 (ao8 e server key seed)/\H'=H):=by
 have hbb:=et2 hb;have c1: ∀H,o8 Tryz.prog 16 [.agg (fc e [] [] 6 0 [] [] [])] H (fun y H'=>y=.bool (aq8 (ab8 e))/\H'=H):=fun H=>dg1 (ab8 e) H hb.room hb.sender hb.typ (by have:=hb.content;show aa2 e.content<=_;omega) hb.key
 have le:LeAll [.str [],.str e.room,.str e.sender,.str e.typ,.lit (.bool e.state),.str e.key,.lit (.int .i64 e.content.kind),.lit (.int .i64 e.content.num),.str e.content.text,.sl .sh 1 (e.content.names.map .str),.sl .sh 5 (e.content.items.map jAV),.sl .sh 1 (e.prev.map .str),.sl .sh 1 (e.auth.map .str),.lit (.int .i64 e.depth),.lit (.int .i64 e.time),.str [],.lit (.int .i64 6),.lit (.int .i64 0),.str [],.sl .full 0 [],.sl .full 0 []] (fc e [] [] 6 0 [] [] []):=by
  unfold fc;repeat(first|exact LeAll.nil|(refine LeAll.cons ?_ ?_;focus(first|exact Le.refl _|exact ao3)))
 unfold bl2 ao8;unfold av cells aS2;refine aw8 ab2 mixed [2,6] 2 (rs:=[.cell 4 27,.tmp 5]) (n:=67) Tryz.func6 rfl rfl rfl rfl (nlb rfl) (by kernel_rfl) ?_
 repeat' simp -dsimp -implicitDefEqProofs only[go_sem,ac1,aj3,ak3,List.drop_zero,xq9]
 refine cu5 H.length (by rw[aW1];rfl) le ?_
 rw[bn5];unfold fc at c1⊢;by_cases hf:aq8 (ab8 e)=true
 ·rw[if_pos hf]
  rw[hf] at c1;have c2: ∀H,o8 Tryz.prog 17 [.agg (fc e [] [] 6 0 [] [] [])] H (fun y H'=>y=af9 (ab1 (ab8 e))/\H'=H):=fun H=>aS9 (ab8 e) H hf hbb
  have s1:=dA1 hf hb;unfold fc af9 at c2;by_cases hm:(ab1 (ab8 e)).2=0
  ·have hmc:=eq_true hm
   rw[if_pos hm];unfold bY7;have c3:=fun H=>d99 (ab1 (ab8 e)).1 H (by omega)
   have s2:=c52 (ab1 (ab8 e)).1;have c4:=fun H=>dI7 (ab4 (ab1 (ab8 e)).1).1 H (by omega)
   have c5:=fun H=>dS4 (ab4 (ab1 (ab8 e)).1).1 server key seed H (by omega) h1 h2 hd
   unfold af9 at c3 c5;unfold aS2 at c5;by_cases h3:(ab4 (ab1 (ab8 e)).1).2=0
   ·have h3c:=eq_true h3
    rw[if_pos h3];rw[c95];by_cases h4:(ah8 (ab4 (ab1 (ab8 e)).1).1 server key seed).2=0
    ·have h4c:=eq_true h4
     rw[if_pos h4];have hbf:Bd (ak6 e (ah8 (ab4 (ab1 (ab8 e)).1).1 server key seed).1):=cz5 hb h1 h2 hm h3 (by rw[<-h4])
     have s3:=aI9 hbf;have c6: ∀H,o8 Tryz.prog 7 [.agg (fc e [] (aH1 (ab4 (ab1 (ab8 e)).1).1) (ah8 (ab4 (ab1 (ab8 e)).1).1 server key seed).1.kind (ah8 (ab4 (ab1 (ab8 e)).1).1 server key seed).1.num (ah8 (ab4 (ab1 (ab8 e)).1).1 server key seed).1.text ((ah8 (ab4 (ab1 (ab8 e)).1).1 server key seed).1.names.map .str) ((ah8 (ab4 (ab1 (ab8 e)).1).1 server key seed).1.items.map jAV))] H (fun y H'=>y=af9 (aa4 (ak6 e (ah8 (ab4 (ab1 (ab8 e)).1).1 server key seed).1))/\H'=H):=fun H=>a00 (ak6 e (ah8 (ab4 (ab1 (ab8 e)).1).1 server key seed).1) H hbf
     have hav: ∀s,AV.agg (fc e s (aH1 (ab4 (ab1 (ab8 e)).1).1) (ah8 (ab4 (ab1 (ab8 e)).1).1 server key seed).1.kind (ah8 (ab4 (ab1 (ab8 e)).1).1 server key seed).1.num (ah8 (ab4 (ab1 (ab8 e)).1).1 server key seed).1.text ((ah8 (ab4 (ab1 (ab8 e)).1).1 server key seed).1.names.map .str) ((ah8 (ab4 (ab1 (ab8 e)).1).1 server key seed).1.items.map jAV))=av {ak6 e (ah8 (ab4 (ab1 (ab8 e)).1).1 server key seed).1 with id:=s}:=fun s=>rfl
     have s4:=a06 (aa4 (ak6 e (ah8 (ab4 (ab1 (ab8 e)).1).1 server key seed).1)).1;have c7:=fun H=>c05 (aa4 (ak6 e (ah8 (ab4 (ab1 (ab8 e)).1).1 server key seed).1)).1 H (by omega) (by omega)
     unfold fc af9 at c6;unfold fc at hav;unfold aE6 at c7;clear hbf s3 s4;generalize ab1 (ab8 e)=m at*;generalize ab4 m.1=w at*;generalize ah8 w.1 server key seed=q at*;generalize aH1 w.1=hs at*;generalize ak6 e q.1=fe at*;generalize aa4 fe=ob at*;generalize aq2 ob.1=nm at*;by_cases h5:ob.2=0
     ·have h5c:=eq_true h5
      rw[if_pos h5];by_cases h6:nm.2=0
      ·have h6c:=eq_true h6
       rw[if_pos h6];refine aE1 ab2 mixed [2,6] (by kernel_rfl) ?_
       repeat' first|refine o6 ?_|simp -dsimp -implicitDefEqProofs only[go_sem,hmc,h3c,h4c,h5c,h6c,ac1,hd,aj3,ak3,List.drop_zero,xq9]|refine o5 (c1 _) ?_|refine o5 (c2 _) ?_|refine o5 (c3 _) ?_|refine o5 (c4 _) ?_|refine o5 (c5 _) ?_|refine o5 (c6 _) ?_|refine o5 (c7 _) ?_|fail
       exact b75 (hav _)
      ·have h6c:=eq_false h6
       rw[if_neg h6];refine aE1 ab2 mixed [2,6] (by kernel_rfl) ?_
       repeat' first|refine o6 ?_|simp -dsimp -implicitDefEqProofs only[go_sem,hmc,h3c,h4c,h5c,h6c,ac1,hd,aj3,ak3,List.drop_zero,xq9]|refine o5 (c1 _) ?_|refine o5 (c2 _) ?_|refine o5 (c3 _) ?_|refine o5 (c4 _) ?_|refine o5 (c5 _) ?_|refine o5 (c6 _) ?_|refine o5 (c7 _) ?_|fail
       exact aG0
     ·have h5c:=eq_false h5
      rw[if_neg h5];refine aE1 ab2 mixed [2,6] (by kernel_rfl) ?_
      repeat' first|refine o6 ?_|simp -dsimp -implicitDefEqProofs only[go_sem,hmc,h3c,h4c,h5c,ac1,hd,aj3,ak3,List.drop_zero,xq9]|refine o5 (c1 _) ?_|refine o5 (c2 _) ?_|refine o5 (c3 _) ?_|refine o5 (c4 _) ?_|refine o5 (c5 _) ?_|refine o5 (c6 _) ?_|fail
      exact aG0
    ·have h4c:=eq_false h4
     rw[if_neg h4];generalize ab1 (ab8 e)=m at*;generalize ab4 m.1=w at*;generalize ah8 w.1 server key seed=q at*;generalize aH1 w.1=hs at*;refine aE1 ab2 mixed [2,6] (by kernel_rfl) ?_
     repeat' first|refine o6 ?_|simp -dsimp -implicitDefEqProofs only[go_sem,hmc,h3c,h4c,ac1,hd,aj3,ak3,List.drop_zero,xq9]|refine o5 (c1 _) ?_|refine o5 (c2 _) ?_|refine o5 (c3 _) ?_|refine o5 (c4 _) ?_|refine o5 (c5 _) ?_|fail
     exact aG0
   ·have h3c:=eq_false h3
    rw[if_neg h3];generalize ab1 (ab8 e)=m at*;generalize ab4 m.1=w at*;refine aE1 ab2 mixed [2,6] (by kernel_rfl) ?_
    repeat' first|refine o6 ?_|simp -dsimp -implicitDefEqProofs only[go_sem,hmc,h3c,aj3,ak3,List.drop_zero,xq9]|refine o5 (c1 _) ?_|refine o5 (c2 _) ?_|refine o5 (c3 _) ?_|fail
    exact aG0
  ·have hmc:=eq_false hm
   rw[if_neg hm];generalize ab1 (ab8 e)=m at*;refine aE1 ab2 mixed [2,6] (by kernel_rfl) ?_
   repeat' first|refine o6 ?_|simp -dsimp -implicitDefEqProofs only[go_sem,hmc,aj3,ak3,List.drop_zero,xq9]|refine o5 (c1 _) ?_|refine o5 (c2 _) ?_|fail
   exact aG0
 ·rw[if_neg hf]
  rw[eq_false_of_ne_true hf] at c1;refine aE1 ab2 mixed [2,6] (by kernel_rfl) ?_
  repeat' first|refine o6 ?_|simp -dsimp -implicitDefEqProofs only[go_sem,aj3,ak3,List.drop_zero,xq9]|refine o5 (c1 _) ?_|fail
  exact aG0
end Ev
end
section
open Go V
namespace Ev
theorem aZ8(e:T)(server key seed pub:bytes)(H:List AObj)(hb:Bd e)(h2:key.length<=1000)(hd:seed.length=32)(hp:pub.length=32):o8 Tryz.prog 12 [av e,aS2 server key seed,.agg (pub.map o7)] H (fun y H'=>y=.lit (.int .i64 (aU4 e server key pub))/\H'=H):=by
 have c1:=fun H=>aF1 e H hb
 have c2:=fun H=>a00 e H hb
 have s1:=aI9 hb;have c3:=fun H=>bR6 (aa4 e).1 H (by omega)
 have s2:=a06 (aa4 e).1;have c4:=fun H=>Se.aZ8 (ab6 (aa4 e).1).1 server key pub H (by omega) h2 hp
 have c5:=fun H=>eM1 (aa4 e).1 H (by omega)
 unfold aU4;have hor:aO1 e=true->(aa4 e).2=0:=fun h=>by
  unfold aO1 at h;rw[xq3,decide_eq_true_eq] at h;exact h.1
 unfold bs0;unfold af9 at c2 c3;unfold aS2;generalize bB0 (aa4 e).1=ft at*;generalize ab6 (aa4 e).1=rd at*;generalize Se.aO4 rd.1 server key pub=vs at*;generalize aa4 e=ob at*;generalize aO1 e=re at*;unfold av cells at*;cases re with
 |false=>
  rw[if_neg (by decide)]
  refine y8 [] [.tmp 6] 43 Tryz.func12 ?_;repeat' first|refine o6 ?_|simp -dsimp -implicitDefEqProofs only[go_sem,ac1,hd,hp,aj3,ak3,List.drop_zero,xq9]|refine o5 (c1 _) ?_|fail
  exact o9 ⟨rfl,rfl⟩
 |true=>
  have hoc:=eq_true (hor rfl);rw[if_pos rfl];by_cases hr:rd.2=0
  ·have hrc:=eq_true hr
   by_cases hv:vs=0
   ·have hvc:=eq_true hv
    rw[if_pos ⟨hr,hv⟩];cases ft with
    |true=>
     refine y8 [] [.tmp 6] 43 Tryz.func12 ?_;repeat' first|refine o6 ?_|simp -dsimp -implicitDefEqProofs (disch:=omega) only[go_sem,hoc,hrc,hvc,ac1,hd,hp,aj3,ak3,List.drop_zero,xq9]|refine o5 (c1 _) ?_|refine o5 (c2 _) ?_|refine o5 (c3 _) ?_|refine o5 (c4 _) ?_|refine o5 (c5 _) ?_|fail
     exact aa5 _ (Le.refl _) (.lit _) ⟨rfl,rfl⟩
    |false=>
     refine y8 [] [.tmp 6] 43 Tryz.func12 ?_;repeat' first|refine o6 ?_|simp -dsimp -implicitDefEqProofs (disch:=omega) only[go_sem,hoc,hrc,hvc,ac1,hd,hp,aj3,ak3,List.drop_zero,xq9]|refine o5 (c1 _) ?_|refine o5 (c2 _) ?_|refine o5 (c3 _) ?_|refine o5 (c4 _) ?_|refine o5 (c5 _) ?_|fail
     exact aa5 _ (Le.refl _) (.lit _) ⟨rfl,rfl⟩
   ·have hvc:=eq_false hv
    rw[if_neg fun h=>hv h.2]
    refine y8 [] [.tmp 6] 43 Tryz.func12 ?_;repeat' first|refine o6 ?_|simp -dsimp -implicitDefEqProofs (disch:=omega) only[go_sem,hoc,hrc,hvc,ac1,hd,hp,aj3,ak3,List.drop_zero,xq9]|refine o5 (c1 _) ?_|refine o5 (c2 _) ?_|refine o5 (c3 _) ?_|refine o5 (c4 _) ?_|fail
    exact aa5 _ (Le.refl _) (.lit _) ⟨rfl,rfl⟩
  ·have hrc:=eq_false hr
   rw[if_neg fun h=>hr h.1]
   refine y8 [] [.tmp 6] 43 Tryz.func12 ?_;repeat' first|refine o6 ?_|simp -dsimp -implicitDefEqProofs only[go_sem,hoc,hrc,ac1,hd,hp,aj3,ak3,List.drop_zero,xq9]|refine o5 (c1 _) ?_|refine o5 (c2 _) ?_|refine o5 (c3 _) ?_|fail
   exact aa5 _ (Le.refl _) (.lit _) ⟨rfl,rfl⟩
end Ev
end
section
open Go V
namespace Ev
theorem dh8(l:List bytes)(H:List AObj)(hl:l.length<=1000):o8 Tryz.prog 32 [.sl .sh 1 (l.map .str),.sl .sh 1 (l.map .str)] H (fun y H'=>y=.bool true/\H'=H):=by
 refine y8 [1000006] [.tmp 4] 26 Tryz.func32 ?_;repeat' first|refine o6 ?_|simp -dsimp -implicitDefEqProofs only[go_sem]
 refine aa8 ab2 mixed [1000006] [0,1] (fun i:Nat=>i<=l.length) (fun i=>[(5,.lit (.int .i64 i))]) (fun _=>H) (fun i=>l.length - i) (by kernel_rfl) ?_ 0 (by omega) y9 rfl
 intro i hi;by_cases h:i < l.length
 ·have hc:((i:Int) < (l.length:Int))=True:=eq_true (by omega)
  repeat' first|refine o6 ?_|simp -dsimp -implicitDefEqProofs (disch:=first|assumption|omega) only[go_sem,hc]|refine vcA ?_ ?_
  refine again (i+1) ?_ ?_ rfl y9
  ·omega
  ·omega
 ·have hc:((i:Int) < (l.length:Int))=False:=eq_false (by omega)
  repeat' first|refine o6 ?_|simp -dsimp -implicitDefEqProofs only[go_sem,hc]
  exact o9 ⟨rfl,rfl⟩
open Classical in
theorem bZ7(e:T)(H:List AObj)(hb:Bd e)(h1:e.prev.length<=1000)(h2:e.auth.length<=1000):o8 Tryz.prog 11 [av e,av e] H (fun y H'=>y=.bool true/\H'=H):=by
 have c1:=fun H=>di2 e.content e.content H (by have:=hb.content;omega)
 have c2:=fun H=>di2 e.sigs e.sigs H (by have:=hb.sigs;omega)
 have c3:=fun H=>dh8 e.prev H h1
 have c4:=fun H=>dh8 e.auth H h2
 have e1:decide (e.content=e.content)=true:=decide_eq_true rfl;have e2:decide (e.sigs=e.sigs)=true:=decide_eq_true rfl;rw[e1] at c1;rw[e2] at c2;unfold av cells;refine y8 [] [.tmp 4] 94 Tryz.func11 ?_;repeat' first|simp -dsimp -implicitDefEqProofs (disch:=omega) only[go_sem,aj3,ak3,List.drop_zero,xq9]|refine o5 (c1 _) ?_|refine o5 (c2 _) ?_|refine o5 (c3 _) ?_|refine o5 (c4 _) ?_|refine vcA ?_ ?_
 exact o9 ⟨rfl,rfl⟩
end Ev
end
section
open Go V
namespace Ev
def Sm(e:T):Prop:=weigh e.content 9000+weigh e.sigs 9000+(e.prev.length:Int)+(e.auth.length:Int)<=9000/\(e.room.length:Int)<=1000/\(e.sender.length:Int)<=1000/\(e.typ.length:Int)<=1000/\(e.key.length:Int)<=1000/\(e.hash.length:Int)<=9000/\(e.prev.length:Int)<=100/\(e.auth.length:Int)<=100
open Classical in
noncomputable def bw7(e:T):Bool:=decide (¬Sm e)
open Classical in
theorem df8{e:T}(h: ¬Sm e):bw7 e=true:=decide_eq_true h
open Classical in
theorem eo5{e:T}(h:Sm e):bw7 e=false:=decide_eq_false fun k=>k h
theorem dJ0{e:T}(h:bw7 e=false):Sm e:=Classical.byContradiction fun k=>by rw[df8 k] at h;cases h
theorem cz2{H:List AObj}{e:T}(h: ¬Sm e):Done H (fun y H'=>y=.bool (bw7 e)/\H'=H) (.lit (.bool true)) H:=by
 rw[df8 h];exact o9 ⟨rfl,rfl⟩
theorem eq5{H:List AObj}{e:T}(h:Sm e):Done H (fun y H'=>y=.bool (bw7 e)/\H'=H) (.lit (.bool false)) H:=by
 rw[eo5 h];exact o9 ⟨rfl,rfl⟩
theorem eM7{e:T}(h:Sm e):Bd e:=by
 obtain⟨h0,h1,h2,h3,h4,h5,h6,h7⟩:=h;have w1:=bu2 e.content 9000 (by decide)
 have w2:=bu2 e.sigs 9000 (by decide)
 have e1:=w1.2.2.1 (by omega)
 have e2:=w2.2.2.1 (by omega)
 exact⟨by omega,by omega,by omega,by omega,by omega,by omega,by omega⟩
theorem ev2(e:T)(H:List AObj):o8 Tryz.prog 5 [av e] H (fun y H'=>y=.bool (bw7 e)/\H'=H):=by
 have c1:=fun H=>dh7 e.content 9000 H (by decide) (by decide)
 have c2:=fun H=>dh7 e.sigs 9000 H (by decide) (by decide)
 have w1:=bu2 e.content 9000 (by decide)
 have w2:=bu2 e.sigs 9000 (by decide)
 unfold av cells;by_cases hp:100 < e.prev.length
 ·have hpc:((100:Int) < (e.prev.length:Int))=True:=eq_true (by omega)
  refine y8 [1000001,1000001004002,1000001008002,1000001008005,1000001012002,1000001012005] [.tmp 2] 63 Tryz.func5 ?_;repeat' first|refine o6 ?_|simp -dsimp -implicitDefEqProofs (disch:=omega) only[go_sem,hpc,aj3,ak3,List.drop_zero,xq9]|refine o5 (c1 _) ?_|refine⟨_,_,c1 _,?_⟩|refine o5 (c2 _) ?_|refine⟨_,_,c2 _,?_⟩|refine vcA ?_ ?_|refine ac8 fun _=>?_
  all_goals exact cz2 (by unfold Sm;omega)
 ·have hpc:((100:Int) < (e.prev.length:Int))=False:=eq_false (by omega)
  by_cases ha:100 < e.auth.length
  ·have hac:((100:Int) < (e.auth.length:Int))=True:=eq_true (by omega)
   refine y8 [1000001,1000001004002,1000001008002,1000001008005,1000001012002,1000001012005] [.tmp 2] 63 Tryz.func5 ?_;repeat' first|refine o6 ?_|simp -dsimp -implicitDefEqProofs (disch:=omega) only[go_sem,hpc,hac,aj3,ak3,List.drop_zero,xq9]|refine o5 (c1 _) ?_|refine⟨_,_,c1 _,?_⟩|refine o5 (c2 _) ?_|refine⟨_,_,c2 _,?_⟩|refine vcA ?_ ?_|refine ac8 fun _=>?_
   all_goals exact cz2 (by unfold Sm;omega)
  ·have hac:((100:Int) < (e.auth.length:Int))=False:=eq_false (by omega)
   refine y8 [1000001,1000001004002,1000001008002,1000001008005,1000001012002,1000001012005] [.tmp 2] 63 Tryz.func5 ?_;repeat' first|refine o6 ?_|simp -dsimp -implicitDefEqProofs (disch:=omega) only[go_sem,hpc,hac,aj3,ak3,List.drop_zero,xq9]|refine o5 (c1 _) ?_|refine⟨_,_,c1 _,?_⟩|refine o5 (c2 _) ?_|refine⟨_,_,c2 _,?_⟩|refine vcA ?_ ?_|refine ac8 fun _=>?_
   all_goals first|exact cz2 (by unfold Sm;omega)|exact eq5 (by unfold Sm;omega)
end Ev
end
section
open Go V
namespace Ev
theorem dN8:Bd ev0:=⟨by decide,by decide,by decide,by decide,by decide+kernel,by decide+kernel,by decide⟩
theorem aH3:Bd fin0:=by
 have hm:=dL4;have h3:(ab4 (ab1 (ab8 ev0)).1).2=0:=by rw[bQ1]
 have h4:ah8 (ab4 (ab1 (ab8 ev0)).1).1 aZ2 bi4 Ed.aw3=(q0,0):=by rw[bQ1];exact cX0
 have h:=cz5 (q:=q0) dN8 (by decide) (by decide) hm h3 h4
 rw[eH6] at h;exact⟨h.room,h.sender,h.typ,h.key,h.content,h.sigs,h.hash⟩
theorem ed9{g:FuncId}{A:AV}{e:T}{x:AV}{R:AV->List AObj->Prop}{H:List AObj}(h:o8 Tryz.prog g [av e,x] H R)(hl:Le A (av e)):o8 Tryz.prog g [A,x] H R:=h.weak rfl (fun j y z h1 h2=>by
 match j with
 |0=>cases h1;cases h2;exact hl
 |1=>cases h1;cases h2;exact Le.refl _
 |j+2=>simp at h1)
theorem eE4{o:Own}{s:Nat}{xs ys:List AV}(hl:xs.length=ys.length)(h:LeAll (aa1 xs) (aa1 ys))(hy: ∀y∈ys,y.flat.length=s/\y.okv=true):Le (.sl o s xs) (.sl .sh s ys):=fun _ _ _ _ r=>by
 obtain⟨_,hg⟩:=h.get;cases r with
 |sl _ _ _ a len cap val hl' hcap hs hc hr hf ha ho=>
  exact .sl .sh s ys a len cap val (hl'.trans hl) hcap hy (fun j x e=>by
   obtain⟨x',hx,_⟩:=hg j x e;exact hc j x' hx) (fun j x e=>by
   obtain⟨x',hx,hle⟩:=hg j x e;exact hle _ _ _ _ (hr j x' hx)) (fun e=>by cases e) ha (fun k e=>by cases e)
theorem d14(t:bytes):Le (.sl .full 5 [.agg [.lit (.int .i64 4),.lit (.int .i64 0),.str t,.sl .full 0 [],.sl .full 0 []]]) (.sl .sh 5 ([JV.mk 4 0 t [] []].map jAV)):=
 eE4 rfl (.cons (Le.refl _) (.cons (Le.refl _) (.cons (Le.refl _) (.cons ao3 (.cons ao3 .nil))))) fun y hy=>by
  rw[List.map_cons,List.map_nil,cj0] at hy;subst hy;exact⟨rfl,rfl⟩
theorem eE5:Le (.agg [.str [],.str [33,114,58,104],.str [64,97,58,104],.str [109,46,114,111,111,109,46,99,114,101,97,116,101],.lit (.bool true),.str [],.lit (.int .i64 6),.lit (.int .i64 0),.str [],.sl .full 1 [.str [99,114,101,97,116,111,114]],.sl .full 5 [.agg [.lit (.int .i64 4),.lit (.int .i64 0),.str [64,97,58,104],.sl .full 0 [],.sl .full 0 []]],.sl .full 0 [],.sl .full 0 [],.lit (.int .i64 1),.lit (.int .i64 0),.str [],.lit (.int .i64 0),.lit (.int .i64 0),.str [],.sl .full 0 [],.sl .full 0 []]) (av ev0):=by
 refine cq6 ?_;show LeAll _ (cells ev0)
 unfold cells ev0 eI6;repeat(first|exact LeAll.nil|(refine LeAll.cons ?_ ?_;focus(first|exact Le.refl _|exact ao3|exact aG7|exact d14 _)))
def sgL:List AV:=.str aZ2::.str bi4::Ed.aw3.map o7
theorem eS6:ag0 (AV.str [104]::AV.str [101,100,50,53,53,49,57,58,49]::[AV.lit (.int .u8 0),AV.lit (.int .u8 0),AV.lit (.int .u8 0),AV.lit (.int .u8 0),AV.lit (.int .u8 0),AV.lit (.int .u8 0),AV.lit (.int .u8 0),AV.lit (.int .u8 0),AV.lit (.int .u8 0),AV.lit (.int .u8 0),AV.lit (.int .u8 0),AV.lit (.int .u8 0),AV.lit (.int .u8 0),AV.lit (.int .u8 0),AV.lit (.int .u8 0),AV.lit (.int .u8 0),AV.lit (.int .u8 0),AV.lit (.int .u8 0),AV.lit (.int .u8 0),AV.lit (.int .u8 0),AV.lit (.int .u8 0),AV.lit (.int .u8 0),AV.lit (.int .u8 0),AV.lit (.int .u8 0),AV.lit (.int .u8 0),AV.lit (.int .u8 0),AV.lit (.int .u8 0),AV.lit (.int .u8 0),AV.lit (.int .u8 0),AV.lit (.int .u8 0),AV.lit (.int .u8 0),AV.lit (.int .u8 0)]) 2 ((List.replicate 32 (AV.lit (.int .u8 0))).set 0 (.lit (.int .u8 3)))=sgL:=rfl
theorem eS5:sgL.all AV.scalar=true:=rfl
theorem eS4:sgL.length=34:=rfl
theorem eS3:ag0 (AV.str []::AV.str []::[AV.lit (.int .u8 0),AV.lit (.int .u8 0),AV.lit (.int .u8 0),AV.lit (.int .u8 0),AV.lit (.int .u8 0),AV.lit (.int .u8 0),AV.lit (.int .u8 0),AV.lit (.int .u8 0),AV.lit (.int .u8 0),AV.lit (.int .u8 0),AV.lit (.int .u8 0),AV.lit (.int .u8 0),AV.lit (.int .u8 0),AV.lit (.int .u8 0),AV.lit (.int .u8 0),AV.lit (.int .u8 0),AV.lit (.int .u8 0),AV.lit (.int .u8 0),AV.lit (.int .u8 0),AV.lit (.int .u8 0),AV.lit (.int .u8 0),AV.lit (.int .u8 0),AV.lit (.int .u8 0),AV.lit (.int .u8 0),AV.lit (.int .u8 0),AV.lit (.int .u8 0),AV.lit (.int .u8 0),AV.lit (.int .u8 0),AV.lit (.int .u8 0),AV.lit (.int .u8 0),AV.lit (.int .u8 0),AV.lit (.int .u8 0)]) 0 sgL=sgL:=rfl
theorem ey2:(sgL.drop 2).take 32=Ed.aw3.map o7:=rfl
theorem eS1:((List.replicate 32 (AV.lit (.int .u8 0))).set 0 (.lit (.int .u8 3))).all AV.scalar=true:=rfl
theorem eS2:sgL.take 34=sgL:=rfl
theorem eu0(H:List AObj):o8 Tryz.prog 4 [] H (fun y H'=>y=.bool true/\H'=H):=by
 have c1:=fun H=>ed9 (di1 ev0 aZ2 bi4 Ed.aw3 H dN8 (by decide) (by decide) rfl) eE5
 rw[ep9] at c1;have c2:=fun H=>a00 fin0 H aH3
 have s2:=aI9 aH3;have hof:ofJ (aa4 fin0).1={fin0 with id:=[]}:=bl5 cX1;have c3:=fun H=>cZ9 (aa4 fin0).1 H s2 (by rw[hof];exact⟨aH3.room,aH3.sender,aH3.typ,aH3.key,aH3.content,aH3.sigs,aH3.hash⟩)
 rw[eH2] at c3;have c4:=fun H=>bZ7 fin0 H aH3 (by decide) (by decide)
 have c5:=fun H=>Ed.c04 Ed.aw3 H rfl
 have c6:=fun H=>aZ8 fin0 aZ2 bi4 Ed.aw3 (Ed.al9 Ed.aw3) H aH3 (by decide) rfl (by rw[Ed.cn6];rfl)
 rw[d47] at c6;have c7:=fun H=>bR3 fin0 H (by have:=aH3.sender;omega)
 rw[d48] at c7;have hq:=eq_true cX1;clear hof;unfold af9 at c2;unfold bl2 at c1 c3;dsimp only at c1 c3;have hsg:aS2 aZ2 bi4 Ed.aw3=.agg sgL:=rfl;rw[hsg] at c1 c6;have c5': ∀H,o8 Tryz.prog 13 [.agg ((sgL.drop 2).take 32)] H (fun y H'=>y=.agg ((Ed.al9 Ed.aw3).map o7)/\H'=H):=c5
 have hpl:((Ed.al9 Ed.aw3).map o7).length=32:=by rw[Ed.cn6];rfl
 rw[ey2] at c5';generalize aa4 fin0=ob at*;generalize Ed.al9 Ed.aw3=pb at*;unfold av cells at c1 c2 c3 c4 c6 c7;generalize fin0=fe at*;have g1:=eS6;have g2:=eS5;have g3:=eS4;have g4:=eS3;have g5:=ey2;have g6:=eS2;have g7:=eS1;unfold aZ2 at c7;generalize sgL=sg at*;refine y8 [1000005,1000005016020,1000005017020] [.tmp 0] 59 Tryz.func4 ?_;repeat' first|refine o6 ?_|simp -dsimp -implicitDefEqProofs (disch:=first|omega|simp only[ll];omega) only[go_sem,g1,g2,g3,g4,g5,g6,g7,hq,ac1,aj3,ak3,List.drop_zero,xq9]|refine o5 (c1 _) ?_|refine⟨_,_,c1 _,?_⟩|refine o5 (c2 _) ?_|refine⟨_,_,c2 _,?_⟩|refine o5 (c3 _) ?_|refine⟨_,_,c3 _,?_⟩|refine o5 (c4 _) ?_|refine⟨_,_,c4 _,?_⟩|refine o5 (c5' _) ?_|refine⟨_,_,c5' _,?_⟩|refine o5 (c6 _) ?_|refine⟨_,_,c6 _,?_⟩|refine o5 (c7 _) ?_|refine⟨_,_,c7 _,?_⟩|refine vcA ?_ ?_
 exact aE5 ⟨rfl,rfl⟩
end Ev
end
section
open Go V
theorem dR3: ∀i:Fin 64,aD9 aa6 (aa6.getD i.val 0)=(i.val:Int):=by decide+kernel
theorem eI1{b:bytes}{j:Nat}(h:j < (8*b.length+5)/6):aD9 aa6 ((ac5 aa6 b).getD j 0)=(aD5 b j:Int):=by
 have:(ac5 aa6 b).getD j 0=aa6.getD (aD5 b j) 0:=by
  unfold ac5;rw[List.getD,ak8,aI7 h];rfl
 rw[this];exact dR3 ⟨_,dS6 b j⟩
theorem dA4(b:bytes)(j:Nat):aD5 (b.drop 3) j=aD5 b (j+4):=by
 have hb: ∀k,aJ6 (b.drop 3) k=aJ6 b (k+24):=fun k=>by
  unfold aJ6;rw[show (k+24)/8=k/8+3 by omega,show (k+24)%8=k%8 by omega,List.getD,aP9,List.getD,bJ9 3]
 have hp: ∀k t,aV2 (b.drop 3) k t=aV2 b (k+24) t:=fun k t=>by
  induction t with
  |zero=>rfl
  |succ t ih=>rw[aV2,aV2,ih,hb,show k+t+24=k+24+t by omega]
 unfold aD5;rw[hp,show 6*(j+4)=6*j+24 by omega]
theorem d56(b:bytes)(h:3<=b.length):(ac5 aa6 b).drop 4=ac5 aa6 (b.drop 3):=by
 refine aW4 fun j=>?_
 rw[aP9];unfold ac5;rw[ak8,ak8,List.length_drop];by_cases hj:j < (8*(b.length - 3)+5)/6
 ·rw[aI7 (by omega),aI7 hj]
  simp only[Option.map_some];rw[dA4,bJ9 4 j]
 ·rw[av1 (by simp;omega),av1 (by simp;omega)]
  rfl
theorem dx6: ∀(k:Nat) (b out:bytes),b.length<=k->unB aa6 k (ac5 aa6 b) out=(out++b,0)
 |0,b,out,h=>by
  rw[aR5 (by omega:b.length=0),List.append_nil]
  rfl
 |k+1,b,out,h=>by
  have hl:=az4 aa6 b;by_cases h0:b=[]
  ·subst h0
   rw[unB,if_pos (aR5 (by rw[hl];rfl)),List.append_nil]
  ·have hp:0 < b.length:=aR1.2 h0
   have hne:ac5 aa6 b≠[]:=fun e=>by rw[e] at hl;simp at hl;omega
   have hx: ∀i,i < min 4 (ac5 aa6 b).length->sxt aa6 (ac5 aa6 b) (min 4 (ac5 aa6 b).length) i=(aD5 b i:Int):=fun i hi=>by
    unfold sxt;rw[if_pos hi,eI1 (by omega)]
   have hy: ∀i,¬i < min 4 (ac5 aa6 b).length->sxt aa6 (ac5 aa6 b) (min 4 (ac5 aa6 b).length) i=0:=fun i hi=>if_neg hi
   have hbad:cg7 aa6 (ac5 aa6 b) (min 4 (ac5 aa6 b).length)=false:=by
    unfold cg7;rw[cH5];intro i _;by_cases hi:i < min 4 (ac5 aa6 b).length
    ·rw[hx i hi];simp
    ·rw[hy i hi];decide
   have g:=cl5 b 0;have s0:=dA8 b 0;have s1:=dA7 b 0;have s2:=dA6 b 0;have s3:=dA5 b 0;simp only[by5,Nat.zero_add] at s0 s1 s2 s3;have t0:=(b.getD 0 0).toNat_lt;have t1:=(b.getD 1 0).toNat_lt;have t2:=(b.getD 2 0).toNat_lt;rw[unB,if_neg hne,if_neg (by rw[hbad];decide)]
   have hbits: ∀a b' c d:Int,sxt aa6 (ac5 aa6 b) (min 4 (ac5 aa6 b).length) 0=a->sxt aa6 (ac5 aa6 b) (min 4 (ac5 aa6 b).length) 1=b'->sxt aa6 (ac5 aa6 b) (min 4 (ac5 aa6 b).length) 2=c->sxt aa6 (ac5 aa6 b) (min 4 (ac5 aa6 b).length) 3=d->aC0 aa6 (ac5 aa6 b) (min 4 (ac5 aa6 b).length) 4=((a.toNat*64+b'.toNat)*64+c.toNat)*64+d.toNat:=fun a b' c d e1 e2 e3 e4=>by
    simp only[aC0,e1,e2,e3,e4,by6,Nat.zero_add]
   have key: ∃m,min 4 (ac5 aa6 b).length=m+1/\1<=m/\aC0 aa6 (ac5 aa6 b) (min 4 (ac5 aa6 b).length) 4%2^(8*(4 - (m+1)))=0/\(bd6 (aC0 aa6 (ac5 aa6 b) (min 4 (ac5 aa6 b).length) 4)).take m=b.take 3:=by
    match b,h0,hp with
    |[x],_,_=>
     have hm:min 4 (ac5 aa6 [x]).length=2:=by rw[hl];simp only[List.length_cons,List.length_nil];omega
     rw[hbits _ _ _ _ (hx 0 (by omega)) (hx 1 (by omega)) (hy 2 (by omega)) (hy 3 (by omega)),s0,s1,hm]
     refine⟨1,rfl,xq0 _,?_,?_⟩
     ·simp;omega
     ·show [UInt8.ofNat _]=[x]
      congr 1
      apply aZ0.1
      simp at t0⊢
      omega
    |[x,y],_,_=>
     have hm:min 4 (ac5 aa6 [x,y]).length=3:=by rw[hl];simp only[List.length_cons,List.length_nil];omega
     rw[hbits _ _ _ _ (hx 0 (by omega)) (hx 1 (by omega)) (hx 2 (by omega)) (hy 3 (by omega)),s0,s1,s2,hm]
     refine⟨2,rfl,by decide,?_,?_⟩
     ·simp at t0 t1⊢;omega
     ·show [UInt8.ofNat _,UInt8.ofNat _]=[x,y]
      congr 1
      ·apply aZ0.1
       simp at t0 t1⊢
       omega
      ·congr 1
       apply aZ0.1
       simp at t0 t1⊢
       omega
    |x::y::z::r,_,_=>
     have hm:min 4 (ac5 aa6 (x::y::z::r)).length=4:=by rw[hl];simp only[List.length_cons];omega
     rw[hbits _ _ _ _ (hx 0 (by omega)) (hx 1 (by omega)) (hx 2 (by omega)) (hx 3 (by omega)),s0,s1,s2,s3,hm]
     refine⟨3,rfl,by decide,by simp[Nat.mod_one],?_⟩
     show [UInt8.ofNat _,UInt8.ofNat _,UInt8.ofNat _]=[x,y,z]
     simp at t0 t1 t2
     congr 1
     ·apply aZ0.1
      simp
      omega
     ·congr 1
      ·apply aZ0.1
       simp
       omega
      ·congr 1
       apply aZ0.1
       simp
       omega
   obtain⟨m,e1,e2,e3,e4⟩:=key;rw[e1] at e3 e4⊢;rw[if_neg (by rintro(h1|h1);· omega
                                                             ·exact h1 e3),show m+1 - 1=m by omega,e4]
   have hd:(ac5 aa6 b).drop (m+1)=ac5 aa6 (b.drop 3):=by
    by_cases h3:3<=b.length
    ·rw[<-d56 b h3,show m+1=4 by omega]
    ·rw[bg0 (by omega),bg0 (by omega)]
     rfl
   rw[hd,dx6 k (b.drop 3) _ (by rw[List.length_drop];omega),List.append_assoc,bJ6]
theorem el7(b:bytes):aZ5 aa6 (ac5 aa6 b)=(b,0):=by
 unfold aZ5;have h: ∀(n m:Nat) (s out:bytes),s.length<=n->n<=m->unB aa6 m s out=unB aa6 n s out:=by
  intro n;induction n with
  |zero=>
   intro m s out h _;rw[aR5 (by omega:s.length=0)]
   cases m<;>simp[unB]
  |succ n ih=>
   intro m s out h hm;obtain⟨m,rfl⟩: ∃j,m=j+1:=⟨m - 1,by omega⟩
   rw[unB,unB];by_cases h0:s=[]
   ·rw[if_pos h0,if_pos h0]
   ·have hp:0 < s.length:=aR1.2 h0
    rw[ih m _ _ (by rw[List.length_drop];omega) (by omega)]
 have hl:=az4 aa6 b;rw[<-h _ ((ac5 aa6 b).length+b.length) _ _ (xq0 _) (by omega)]
 have:=dx6 ((ac5 aa6 b).length+b.length) b [] (by omega)
 rwa [List.nil_append] at this
end
end Go.Proofs.YtpplfhfoljjipaaGreatDoor
