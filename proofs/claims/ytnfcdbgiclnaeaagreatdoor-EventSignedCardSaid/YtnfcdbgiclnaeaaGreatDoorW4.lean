/- Sums of bytes: sixteen words are taken into the state. -/
import Derived.Test.YtnfcdbgiclnaeaaGreatDoorW3
import Derived.RangeFuncIn
import Derived.RangeFuncLeaves
import Derived.Test.YtnfcdbgiclnaeaaGreatDoorW1
set_option linter.unusedVariables false
set_option linter.unusedSimpArgs false
set_option maxRecDepth 10000
set_option maxHeartbeats 4000000
namespace Go.Proofs.YtnfcdbgiclnaeaaGreatDoor
section
open Go V
theorem bI5(i:Nat)(H:List AObj)(hi:i < 80):o9 Tryz.prog 190 [.lit (.int .i64 (i:Int))] H (fun y H'=>y=wAV .u32 (kOf 32 i)/\H'=H):=by
 have hk: ∀j,j < 80->IntKind.u32.wrap ((be9.getD j 0/4294967296:Nat):Int)=((kOf 32 j).toNat:Int):=by
  intro j hj;have h1:kOf 32 j=BitVec.ofNat 32 (be9.getD j 0/4294967296):=rfl;rw[h1,aA8];simp[IntKind.wrap,IntKind.signed,IntKind.bits]
 have h:=hk i hi;refine y7 [] [.tmp 2] 8 Tryz.func190 rfl rfl rfl rfl (nlb rfl) (by kernel_rfl) ?_
 repeat' first|refine o6 ?_|simp -dsimp -implicitDefEqProofs (disch:=first|assumption|omega|simp only[ll];omega) only[go_sem,h]|refine vcJ ?_ ?_<;>intro _|refine vcA ?_ ?_;focus(repeat'(first|omega|assumption|refine vcA ?_ ?_);done)|omega|refine o7 (fun _=>?_)
 exact y5 ⟨rfl,rfl⟩
theorem bo9{x:BitVec 32}(a b c:Nat):[a,b,c].foldl (fun o n=>o^^^x.rotateRight n) (0:BitVec 32)=bigT x (a,b,c):=by
 simp[bigT]
theorem aW5{x:BitVec 32}(a b c:Nat):[a,b].foldl (fun o n=>o^^^x.rotateRight n) (0:BitVec 32)^^^(x>>>c)=aE0 x (a,b,c):=by
 simp[aE0]
theorem bv4(x:BitVec 32)(H:List AObj):o9 Tryz.prog 191 [wAV .u32 x] H (fun y H'=>y=wAV .u32 (bigT x (2,13,22))/\H'=H):=by
 have ht:=fun H=>bh8 (o:=.full) x [2,13,22] H (by decide) (by decide)
 rw[bo9] at ht;refine y7 [] [.tmp 2] 6 Tryz.func191 rfl rfl rfl rfl (nlb rfl) (by kernel_rfl) ?_
 repeat' first|refine o6 ?_|simp -dsimp -implicitDefEqProofs (disch:=first|assumption|omega|simp only[ll];omega) only[go_sem]|refine o5 (ht _) ?_|refine⟨_,_,ht _,?_⟩|refine vcJ ?_ ?_<;>intro _|refine vcA ?_ ?_;focus(repeat'(first|omega|assumption|refine vcA ?_ ?_);done)|omega|refine o7 (fun _=>?_)
 exact y5 ⟨rfl,rfl⟩
theorem bv3(x:BitVec 32)(H:List AObj):o9 Tryz.prog 193 [wAV .u32 x] H (fun y H'=>y=wAV .u32 (bigT x (6,11,25))/\H'=H):=by
 have ht:=fun H=>bh8 (o:=.full) x [6,11,25] H (by decide) (by decide)
 rw[bo9] at ht;refine y7 [] [.tmp 2] 6 Tryz.func193 rfl rfl rfl rfl (nlb rfl) (by kernel_rfl) ?_
 repeat' first|refine o6 ?_|simp -dsimp -implicitDefEqProofs (disch:=first|assumption|omega|simp only[ll];omega) only[go_sem]|refine o5 (ht _) ?_|refine⟨_,_,ht _,?_⟩|refine vcJ ?_ ?_<;>intro _|refine vcA ?_ ?_;focus(repeat'(first|omega|assumption|refine vcA ?_ ?_);done)|omega|refine o7 (fun _=>?_)
 exact y5 ⟨rfl,rfl⟩
theorem bv2(x:BitVec 32)(H:List AObj):o9 Tryz.prog 194 [wAV .u32 x] H (fun y H'=>y=wAV .u32 (aE0 x (7,18,3))/\H'=H):=by
 have ht:=fun H=>bh8 (o:=.full) x [7,18] H (by decide) (by decide)
 have hs:=aW5 (x:=x) 7 18 3;refine y7 [] [.tmp 2] 9 Tryz.func194 rfl rfl rfl rfl (nlb rfl) (by kernel_rfl) ?_
 repeat' first|refine o6 ?_|simp -dsimp -implicitDefEqProofs (disch:=first|assumption|omega|simp only[ll];omega) only[go_sem,d97,hs]|refine o5 (ht _) ?_|refine⟨_,_,ht _,?_⟩|refine vcJ ?_ ?_<;>intro _|refine vcA ?_ ?_;focus(repeat'(first|omega|assumption|refine vcA ?_ ?_);done)|omega|refine o7 (fun _=>?_)
 exact y5 ⟨rfl,rfl⟩
theorem bv1(x:BitVec 32)(H:List AObj):o9 Tryz.prog 195 [wAV .u32 x] H (fun y H'=>y=wAV .u32 (aE0 x (17,19,10))/\H'=H):=by
 have ht:=fun H=>bh8 (o:=.full) x [17,19] H (by decide) (by decide)
 have hs:=aW5 (x:=x) 17 19 10;refine y7 [] [.tmp 2] 9 Tryz.func195 rfl rfl rfl rfl (nlb rfl) (by kernel_rfl) ?_
 repeat' first|refine o6 ?_|simp -dsimp -implicitDefEqProofs (disch:=first|assumption|omega|simp only[ll];omega) only[go_sem,dT8,hs]|refine o5 (ht _) ?_|refine⟨_,_,ht _,?_⟩|refine vcJ ?_ ?_<;>intro _|refine vcA ?_ ?_;focus(repeat'(first|omega|assumption|refine vcA ?_ ?_);done)|omega|refine o7 (fun _=>?_)
 exact y5 ⟨rfl,rfl⟩
theorem b09{xs:List AV}{H:List AObj}(hu: ∀y∈xs,y.flat.length=1/\y.okv=true)(hne:xs≠[])(hl:xs.length<=100000):o9 Tryz.prog 237 [.sl .sh 1 xs] H (fun y H'=>y=.sl (.tok H.length) 1 xs/\H'=H++[.grow 1 xs.length none]):=by
 have hpos:=aS7.2 hne;refine y7 [] [.tmp 2] 8 Tryz.func237 rfl rfl rfl rfl (nlb rfl) (by kernel_rfl) ?_
 repeat' first|refine o6 ?_|simp -dsimp -implicitDefEqProofs (disch:=first|assumption|omega|simp only[ll];omega) only[go_sem,hne]|refine vcJ ?_ ?_<;>intro _|refine vcA ?_ ?_;focus(repeat'(first|omega|assumption|refine vcA ?_ ?_);done)|omega|refine o7 (fun _=>?_)
 exact aI0 ⟨rfl,rfl⟩
theorem bq1{H:List AObj}{k:Nat}{x:AObj}(h:H[k]?=some x):H.set k x=H:=by
 apply aV9
 intro j;rw[aZ4];split
 ·rename_i e
  subst e;rw[if_pos (y9 h),h]
 ·rfl
theorem bj7{H M:List AObj}{k:Nat}{o:AObj}(h:k < H.length):(H.set k o++M)[k]?=some o:=by
 rw[xq4 (by rw[List.length_set];exact h),ay5 h]
theorem bA8{H M:List AObj}{k:Nat}{o x:AObj}(h:k < H.length):(H.set k o++M).set k x=H.set k x++M:=by
 rw[bs5 _ _ (by rw[List.length_set];exact h),List.set_set]
theorem bE7{H₀:List AObj}{k:Nat}{o:AObj}{M:List AObj}{R:AV->List AObj->Prop}{x:AV}(y:AV)(hle:Le x y)(hx:Low H₀.length y)(hcs: ∀sh cs,o=.cells sh cs-> ∀y∈cs,Low H₀.length y)(hr:R y (H₀.set k o)):Done H₀ R x (H₀.set k o++M):=by
 unfold Done;refine⟨y,(H₀.set k o++M).take H₀.length,bo5 hle (xq0 _) hx fun i sh cs hi e=>?_,?_⟩
 ·rw[xq4 (by rw[List.length_set];exact hi)] at e
  rw[aZ4] at e;split at e
  ·rename_i hk
   subst hk;rw[if_pos (by exact hi)] at e
   exact .inr (hcs sh cs (Option.some.inj e))
  ·exact .inl e
 ·rw[bG6 (by rw[List.length_set];exact xq0 _),ak5 (by rw[List.length_set];exact xq0 _)]
  exact hr
theorem cq6{H₀:List AObj}{k:Nat}{o:AObj}{M:List AObj}{R:AV->List AObj->Prop}{x:AV}(hx:Low H₀.length x)(hcs: ∀sh cs,o=.cells sh cs-> ∀y∈cs,Low H₀.length y)(hr:R x (H₀.set k o)):Done H₀ R x (H₀.set k o++M):=bE7 x (Le.refl x) hx hcs hr
def aQ7(s:Sha.St 32):List AV:=[wAV .u32 s.a,wAV .u32 s.b,wAV .u32 s.c,wAV .u32 s.d,wAV .u32 s.e,wAV .u32 s.f,wAV .u32 s.g,wAV .u32 s.h,.lit (.int .i64 64),.fn (.func 190) [] [],.fn (.func 191) [] [],.fn (.func 193) [] [],.fn (.func 194) [] [],.fn (.func 195) [] []]
def am6(s:Sha.St 32):AObj:=.cells (.one 224) (aQ7 s)
theorem bB6{m:Nat}{s:Sha.St 32}: ∀sh cs,am6 s=.cells sh cs-> ∀y∈cs,Low m y:=fun sh cs h y hy=>by
 unfold am6 aQ7 at h;cases h
 simp only[ai9,aG2,or_false] at hy;rcases hy with rfl|rfl|rfl|rfl|rfl|rfl|rfl|rfl|rfl|rfl|rfl|rfl|rfl|rfl
 all_goals first|exact .lit _|exact .fn _ _ _ (fun _ h=>by cases h) (fun _ h=>by cases h)
def ao2:List AV:=[.lit (.int .i64 64),.fn (.func 190) [] [],.fn (.func 191) [] [],.fn (.func 193) [] [],.fn (.func 194) [] [],.fn (.func 195) [] []]
theorem bv9(s:Sha.St 32):am6 s=.cells (.one 224) (s.list.map (wAV .u32)++ao2):=rfl
def ap4(s t:List (BitVec 32))(i:Nat):List (BitVec 32):=(List.range 8).map fun j=>if j < i then s.getD j 0+t.getD j 0 else s.getD j 0
theorem bo0(s t:List (BitVec 32))(i:Nat):(ap4 s t i).length=8:=by simp[ap4]
theorem bJ9(s t:Sha.St 32):ap4 s.list t.list 0=s.list:=rfl
theorem bY4(s t:Sha.St 32):ap4 s.list t.list 8=(Sha.add s t).list:=rfl
theorem bY3{s t:List (BitVec 32)}{i:Nat}(h:i < 8):(ap4 s t i).set i ((ap4 s t i).getD i 0+t.getD i 0)=ap4 s t (i+1):=by
 have hg: ∀i j,(ap4 s t i)[j]?=if j < 8 then some (if j < i then s.getD j 0+t.getD j 0 else s.getD j 0) else none:=fun i j=>by
  unfold ap4;rw[ak6];by_cases h1:j < 8
  ·rw[aM3 h1,if_pos h1]
   rfl
  ·rw[av9 (by simp;omega),if_neg h1]
   rfl
 apply aV9
 intro j;have hgd:(ap4 s t i).getD i 0=s.getD i 0:=by rw[List.getD,hg,if_pos h,if_neg (by omega)];rfl
 rw[aZ4,hg,hg,hgd,bo0];by_cases h1:j < 8
 ·rw[if_pos h1,if_pos h1]
  split
  ·rename_i e
   subst e;rw[if_pos (by omega)]
  ·rename_i e
   by_cases h3:j < i
   ·rw[if_pos h3,if_pos (by omega)]
   ·rw[if_neg h3,if_neg (by omega)]
 ·rw[if_neg h1,if_neg h1,if_neg (by omega)]
theorem ci0(M:List (BitVec 32))(s:Sha.St 32)(i:Nat):ad2.steps M s (i+1)=⟨(ad2.steps M s i).h+bigT (ad2.steps M s i).e (6,11,25)+((ad2.steps M s i).e&&&(ad2.steps M s i).f^^^ ~~~ (ad2.steps M s i).e&&&(ad2.steps M s i).g)+kOf 32 i+M.getD i 0+(bigT (ad2.steps M s i).a (2,13,22)+((ad2.steps M s i).a&&&(ad2.steps M s i).b^^^(ad2.steps M s i).a&&&(ad2.steps M s i).c^^^(ad2.steps M s i).b&&&(ad2.steps M s i).c)),
  (ad2.steps M s i).a,(ad2.steps M s i).b,(ad2.steps M s i).c,(ad2.steps M s i).d+((ad2.steps M s i).h+bigT (ad2.steps M s i).e (6,11,25)+((ad2.steps M s i).e&&&(ad2.steps M s i).f^^^ ~~~ (ad2.steps M s i).e&&&(ad2.steps M s i).g)+kOf 32 i+M.getD i 0),(ad2.steps M s i).e,(ad2.steps M s i).f,(ad2.steps M s i).g⟩:=by
 rw[Sha.steps];generalize ad2.steps M s i=t;rfl
theorem ch1(s:Sha.St 32)(m:List (BitVec 32)):ad2.take s m=Sha.add s (ad2.steps (ad2.sched m 48) s 64):=rfl
theorem cy2{k:Nat}{s:Sha.St 32}{H:List AObj}(m:List (BitVec 32))(hk:H[k]?=some (am6 s))(hm:m.length=16):
  o9 Tryz.prog 221 [.mp k 0,.agg (m.map (wAV .u32))] H (fun x H'=>x=.tup []/\H'=H.set k (am6 (ad2.take s m))):=by
 have hkl:=y9 hk;unfold am6 aQ7 at hk;have hc:=fun H=>b09 (xs:=m.map (wAV .u32)) (H:=H) (fun y hy=>by obtain⟨z,_,rfl⟩:=xq9.1 hy;exact⟨rfl,rfl⟩) (by intro e;have:=congrArg List.length e;simp at this;rw[this] at hm;cases hm) (by simp;omega)
 have hk1: ∀M,(H++M)[k]?=H[k]?:=fun M=>xq4 hkl
 refine y7 [1000005,1000005005015,1000005005032,1000005021015,1000005021032,1000005026015,1000005031015,1000006,1000010,1000010020006,1000017] [] 195 Tryz.func221 rfl rfl rfl rfl (nlb rfl) (by kernel_rfl) ?_
 repeat' first|refine o6 ?_|simp -dsimp -implicitDefEqProofs (disch:=first|assumption|omega|simp only[ll];omega) only[go_sem,dm4,ac4,hm]|refine o5 (hc _) ?_|refine⟨_,_,hc _,?_⟩|refine vcJ ?_ ?_<;>intro _|refine vcA ?_ ?_;focus(repeat'(first|omega|assumption|refine vcA ?_ ?_);done)|omega|refine o7 (fun _=>?_)
 refine aa5 aa7 mixed [1000005,1000005005015,1000005005032,1000005021015,1000005021032,1000005026015,1000005031015,1000006,1000010,1000010020006,1000017] [0] (fun n:Nat=>n<=48) (fun n=>[(4,.sl (.tok H.length) 1 ((ad2.sched m n).map (wAV .u32))),(5,.lit (.int .i64 ((16+n:Nat):Int)))]) (fun n=>H++[.grow 1 (16+n) none]) (fun n=>48 - n) (by kernel_rfl) ?_ 0 (by omega) y8 (by simp[hm])
 ·intro n hn
  have hl:=ad2.sched_len m n;rw[hm] at hl;have hs:ad2.sched m (n+1)=ad2.sched m n++[(ad2.sched m n).getD n 0+aE0 ((ad2.sched m n).getD (n+1) 0) (7,18,3)+(ad2.sched m n).getD (n+9) 0+aE0 ((ad2.sched m n).getD (n+14) 0) (17,19,10)]:=by
   show ad2.sched m n++[ad2.next (ad2.sched m n)]=_
   unfold Sha.next;rw[hl,show 16+n - 16=n by omega,show 16+n - 15=n+1 by omega,show 16+n - 7=n+9 by omega,show 16+n - 2=n+14 by omega]
   rfl
  have hM:=fun x=>eg3 (K:=.u32) (ad2.sched m n) x
  have z1:(((16+n:Nat):Int) - 16).toNat=n:=by omega
  have z2:(((16+n:Nat):Int) - 15).toNat=n+1:=by omega
  have z3:(((16+n:Nat):Int) - 7).toNat=n+9:=by omega
  have z4:(((16+n:Nat):Int) - 2).toNat=n+14:=by omega
  by_cases h:n < 48
  ·have hc:(((16+n:Nat):Int) < 64)=True:=eq_true (by omega)
   generalize ad2.sched m n=M at*;repeat' first|refine o6 ?_|simp -dsimp -implicitDefEqProofs (disch:=first|assumption|omega|simp only[ll];omega) only[go_sem,hk,hk1,hc,z1,z2,z3,z4,ac1,hM]|refine o5 (bv2 _ _) ?_|refine⟨_,_,bv2 _ _,?_⟩|refine o5 (bv1 _ _) ?_|refine⟨_,_,bv1 _ _,?_⟩|refine vcJ ?_ ?_<;>intro _|refine vcA ?_ ?_;focus(repeat'(first|omega|assumption|refine vcA ?_ ?_);done)|omega|refine o7 (fun _=>?_)
   rw[<-hs];refine again (n+1) ?_ ?_ ?_ y8
   ·omega
   ·omega
   ·rw[hl]
    rfl
  ·obtain rfl:n=48:=by omega
   have hc:(((16+48:Nat):Int) < 64)=False:=eq_false (by omega)
   have hsl:=fun i=>ci0 (ad2.sched m 48) s i
   have hT:=ch1 s m;rw[hT];generalize ad2.sched m 48=M at*;have hl64:M.length=64:=by omega
   repeat' first|refine o6 ?_|simp -dsimp -implicitDefEqProofs (disch:=first|assumption|omega|simp only[ll];omega) only[go_sem,hk,hk1,hc,hl64]|refine vcJ ?_ ?_<;>intro _|refine vcA ?_ ?_;focus(repeat'(first|omega|assumption|refine vcA ?_ ?_);done)|omega|refine o7 (fun _=>?_)
   refine aa5 aa7 mixed [1000005,1000005005015,1000005005032,1000005021015,1000005021032,1000005026015,1000005031015,1000006,1000010,1000010020006,1000017] [0,106,107] (fun i:Nat=>i<=64) (fun i=>[(6,wAV .u32 (ad2.steps M s i).a),(7,wAV .u32 (ad2.steps M s i).b),(8,wAV .u32 (ad2.steps M s i).c),(9,wAV .u32 (ad2.steps M s i).d),(10,wAV .u32 (ad2.steps M s i).e),(11,wAV .u32 (ad2.steps M s i).f),(12,wAV .u32 (ad2.steps M s i).g),(13,wAV .u32 (ad2.steps M s i).h),(108,.lit (.int .i64 i))]) (fun _=>H++[.grow 1 (16+48) none]) (fun i=>64 - i) (by kernel_rfl) ?_ 0 (by omega) y8 rfl
   intro i hi;by_cases h:i < 64
   ·have hs2:=hsl i
    have hM2:=ac1 (K:=.u32) (m:=M) (i:=i) (by omega)
    generalize hst:ad2.steps M s i=st at*;have hic:((i:Int) < 64)=True:=eq_true (by omega)
    repeat' first|refine o6 ?_|simp -dsimp -implicitDefEqProofs (disch:=first|assumption|omega|simp only[ll];omega) only[go_sem,hk,hk1,hM2,hic]|refine o5 (bv3 _ _) ?_|refine⟨_,_,bv3 _ _,?_⟩|refine o5 (bI5 i _ (by omega)) ?_|refine⟨_,_,bI5 i _ (by omega),?_⟩|refine o5 (bv4 _ _) ?_|refine⟨_,_,bv4 _ _,?_⟩|refine vcJ ?_ ?_<;>intro _|refine vcA ?_ ?_;focus(repeat'(first|omega|assumption|refine vcA ?_ ?_);done)|omega|refine o7 (fun _=>?_)
    refine again (i+1) ?_ ?_ rfl ?_
    ·omega
    ·omega
    ·rw[hs2]
     exact y8
   ·obtain rfl:i=64:=by omega
    generalize ad2.steps M s 64=t at*;have hk0:H.set k (.cells (.one 224) ((ap4 s.list t.list 0).map (wAV .u32)++ao2))=H:=by
     rw[bJ9];exact bq1 hk
    have hm0: ∀M,H++M=H.set k (.cells (.one 224) ((ap4 s.list t.list 0).map (wAV .u32)++ao2))++M:=fun M=>by rw[hk0]
    repeat' first|refine o6 ?_|simp -dsimp -implicitDefEqProofs (disch:=first|assumption|omega|simp only[ll];omega) only[go_sem]|refine vcJ ?_ ?_<;>intro _|refine vcA ?_ ?_;focus(repeat'(first|omega|assumption|refine vcA ?_ ?_);done)|omega|refine o7 (fun _=>?_)
    refine aa5 aa7 mixed [1000005,1000005005015,1000005005032,1000005021015,1000005021032,1000005026015,1000005031015,1000006,1000010,1000010020006,1000017] [] (fun i:Nat=>i<=8) (fun i=>[(179,.lit (.int .i64 i)),(178,.agg (t.list.map (wAV .u32))),(0,.mp k 0)]) (fun i=>H.set k (.cells (.one 224) ((ap4 s.list t.list i).map (wAV .u32)++ao2))++[.grow 1 64 none]) (fun i=>8 - i) (by kernel_rfl) ?_ 0 (by omega) y8 (hm0 _)
    intro i hi;have hg: ∀o M,(H.set k o++M)[k]?=some o:=fun o M=>bj7 hkl
    have hset: ∀o x M,(H.set k o++M).set k x=H.set k x++M:=fun o x M=>bA8 hkl
    have hL:=bo0 s.list t.list i;have htl:t.list.length=8:=rfl;by_cases h:i < 8
    ·have hic:((i:Int) < 8)=True:=eq_true (by omega)
     have hms:=bY3 (s:=s.list) (t:=t.list) h;have hg1:((ap4 s.list t.list i).map (wAV .u32)++ao2).getD i .any=wAV .u32 ((ap4 s.list t.list i).getD i 0):=by
      rw[cq1 (by rw[List.length_map];omega),ac1 (by omega)]
     have hg2:(t.list.map (wAV .u32)).getD i .any=wAV .u32 (t.list.getD i 0):=ac1 (by omega)
     have hs1: ∀x,((ap4 s.list t.list i).map (wAV .u32)++ao2).set i (wAV .u32 x)=((ap4 s.list t.list i).set i x).map (wAV .u32)++ao2:=fun x=>by
      rw[bs5 _ _ (by rw[List.length_map];omega),ao7]
     repeat' first|refine o6 ?_|simp -dsimp -implicitDefEqProofs (disch:=first|assumption|omega|simp only[ll];omega) only[go_sem,hg,hset,hic,hL,htl,hg1,hg2,hs1,hms]|refine vcJ ?_ ?_<;>intro _|refine vcA ?_ ?_;focus(repeat'(first|omega|assumption|refine vcA ?_ ?_);done)|omega|refine o7 (fun _=>?_)
     refine again (i+1) ?_ ?_ ?_ y8
     ·omega
     ·omega
     ·rfl
    ·obtain rfl:i=8:=by omega
     repeat' first|refine o6 ?_|simp -dsimp -implicitDefEqProofs (disch:=first|assumption|omega|simp only[ll];omega) only[go_sem]|refine vcJ ?_ ?_<;>intro _|refine vcA ?_ ?_;focus(repeat'(first|omega|assumption|refine vcA ?_ ?_);done)|omega|refine o7 (fun _=>?_)
     rw[bY4,<-bv9];exact cq6 (ag8 ab6) bB6 ⟨rfl,rfl⟩
theorem sk1{H M:List AObj}{k:Nat}{o a:AObj}:(H.set k o++(a::M))[H.length]?=some a:=by
 rw[xq7 (by rw[List.length_set];exact xq0 _),List.length_set,ao8];rfl
theorem sk2{H M:List AObj}{k:Nat}{o a b:AObj}:(H.set k o++(a::b::M))[H.length+1]?=some b:=by
 rw[xq7 (by rw[List.length_set];omega),List.length_set,aI1];rfl
theorem eb0{H M:List AObj}{k:Nat}{o a x:AObj}:(H.set k o++(a::M)).set H.length x=H.set k o++(x::M):=by
 rw[az4 _ _ (by rw[List.length_set];exact xq0 _),List.length_set,ao8];rfl
theorem ea9{H M:List AObj}{k:Nat}{o a b x:AObj}:(H.set k o++(a::b::M)).set (H.length+1) x=H.set k o++(a::x::M):=by
 rw[az4 _ _ (by rw[List.length_set];omega),List.length_set,aI1];rfl
attribute [go_sem] sk1 sk2 eb0 ea9
end
section
open Go V
theorem aA6: ∀(zs cs:List AV) (off:Nat),off+zs.length<=cs.length->af0 cs off zs=cs.take off++zs++cs.drop (off+zs.length)
 |[],cs,off,_=>by simp[af0]
 |x::r,cs,off,h=>by
  rw[List.length_cons] at h;rw[af0,aA6 r (cs.set off x) (off+1) (by rw[List.length_set];omega)]
  have h1:(cs.set off x).take (off+1)=cs.take off++[x]:=by
   rw[List.take_set,aZ1 (by omega),az4 _ _ (by rw[List.length_take];omega)]
   simp[bl4 (show off<=cs.length by omega)]
  have h2:(cs.set off x).drop (off+1+r.length)=cs.drop (off+1+r.length):=by
   rw[List.drop_set,if_pos (by omega)]
  rw[h1,h2,List.length_cons,show off+(r.length+1)=off+1+r.length by omega]
  simp
def aR6(n8 t:Nat):List UInt8:=(List.range 8).map fun k=>if 7 - k < t then UInt8.ofNat (n8/256^(7 - k)) else 0
def aN3(w:Nat)(b:List UInt8)(t:Nat):List UInt8:=b++128::(List.replicate (an2 w b.length - 8 - (b.length+1)) 0++aR6 (8*b.length) t)
theorem aJ0{w n:Nat}(hw:w=32\/w=64):n+9<=an2 w n/\an2 w n<=n+1+w/4+2*w:=by
 unfold an2;rcases hw with rfl|rfl
 ·simp only[Nat.reduceDiv,Nat.reduceMul];omega
 ·simp only[Nat.reduceDiv,Nat.reduceMul];omega
theorem bC0{w:Nat}{b:List UInt8}{t:Nat}(hw:w=32\/w=64):(aN3 w b t).length=an2 w b.length:=by
 have:=aJ0 (n:=b.length) hw;unfold aN3 aR6;simp
 omega
theorem c45(n8:Nat):aR6 n8 0=List.replicate 8 0:=by
 unfold aR6;simp
 rfl
theorem dh8{n8 t:Nat}(h:n8/256^t=0):aR6 n8 t=bytesOf 8 n8:=by
 unfold aR6 bytesOf;refine bW2 fun k hk=>?_
 have hk8:=aZ8.1 hk;split
 ·congr 2
 ·rename_i h1
  have h2:n8/256^(7 - k)=0:=by
   have e:7 - k=t+(7 - k - t):=by omega
   rw[e,Nat.pow_add,<-cZ2,h,Nat.zero_div]
  rw[show 8 - 1 - k=7 - k by omega,h2]
  rfl
theorem bC1{w:Nat}{b:List UInt8}{t:Nat}(h:8*b.length/256^t=0):aN3 w b t=padded w b:=by
 unfold aN3 padded;rw[dh8 h]
theorem dh7{n8 t:Nat}(h:t < 8):(aR6 n8 t).set (7 - t) (UInt8.ofNat (n8/256^t))=aR6 n8 (t+1):=by
 have hl: ∀t,(aR6 n8 t).length=8:=fun t=>by simp[aR6]
 have hg: ∀t j,(aR6 n8 t)[j]?=if j < 8 then some (if 7 - j < t then UInt8.ofNat (n8/256^(7 - j)) else 0) else none:=fun t j=>by
  unfold aR6;rw[ak6];by_cases h1:j < 8
  ·rw[aM3 h1,if_pos h1]
   rfl
  ·rw[av9 (by simp;omega),if_neg h1]
   rfl
 apply aV9
 intro j;rw[aZ4,hg,hg,hl];by_cases h1:j < 8
 ·rw[if_pos h1,if_pos h1]
  split
  ·rename_i e
   rw[if_pos (by omega),if_pos (by omega),show 7 - j=t by omega]
  ·rename_i e
   by_cases h3:7 - j < t
   ·rw[if_pos h3,if_pos (by omega)]
   ·rw[if_neg h3,if_neg (by omega)]
 ·rw[if_neg h1,if_neg h1,if_neg (by omega)]
theorem cB7{w:Nat}{b:List UInt8}{t:Nat}(hw:w=32\/w=64)(h:t < 8):(aN3 w b t).set (an2 w b.length - 1 - t) (UInt8.ofNat (8*b.length/256^t))=aN3 w b (t+1):=by
 have:=aJ0 (n:=b.length) hw;unfold aN3;rw[az4 _ _ (by omega),show an2 w b.length - 1 - t - b.length=(an2 w b.length - 2 - t - b.length)+1 by omega,List.set_cons_succ,az4 _ _ (by rw[List.length_replicate];omega),List.length_replicate,
  show an2 w b.length - 2 - t - b.length - (an2 w b.length - 8 - (b.length+1))=7 - t by omega,dh7 h]
theorem co2{w:Nat}{b:List UInt8}(hw:w=32\/w=64):(b++List.replicate (an2 w b.length - b.length) 0).set b.length 128=aN3 w b 0:=by
 have:=aJ0 (n:=b.length) hw;rw[az4 _ _ (xq0 _),ao8,show an2 w b.length - b.length=(an2 w b.length - 8 - (b.length+1))+8+1 by omega,cZ1,List.set_cons_zero]
 unfold aN3;rw[c45,cu3]
theorem ea5{n t:Nat}(h:n/256^t≠0)(hn:n < 18446744073709551616):t < 8:=by
 rcases am5 t 8 with h1|h1
 ·exact h1
 ·exfalso
  refine h (b42 (aC9 hn ?_));exact ay6 (by decide:18446744073709551616<=256^8) (cf9 (by decide) h1)
theorem bX9{w:Nat}{n:Nat}(hw:w=32)(h:(n:Int) < 1099511627776):((n:Int)+1+8)+(64 - ((n:Int)+1+8)%64)%64=((an2 w n:Nat):Int):=by
 subst hw;unfold an2;simp only[Nat.reduceDiv,Nat.reduceMul];omega
theorem b08(n:Nat)(H:List AObj)(h:n<=1000000000):o9 Tryz.prog 165 [.lit (.int .i64 (n:Int)),.lit (.int .i64 32)] H (fun y H'=>y=.lit (.int .i64 ((an2 32 n:Nat):Int))/\H'=H):=by
 have hp:=bX9 (w:=32) (n:=n) rfl (by omega)
 have h1:((n:Int) < 0)=False:=eq_false (by omega)
 have h2:(1099511627776 < (n:Int))=False:=eq_false (by omega)
 refine y7 [] [.tmp 4] 37 Tryz.func165 rfl rfl rfl rfl (nlb rfl) (by kernel_rfl) ?_
 repeat' first|refine o6 ?_|simp -dsimp -implicitDefEqProofs (disch:=first|assumption|omega|simp only[ll];omega) only[go_sem,h1,h2]|refine vcJ ?_ ?_<;>intro _|refine vcA ?_ ?_;focus(repeat'(first|omega|assumption|refine vcA ?_ ?_);done)|omega|refine o7 (fun _=>?_)
 rw[hp];exact y5 ⟨rfl,rfl⟩
theorem eb1{n t:Nat}:n/256^t/256=n/256^(t+1):=by rw[Nat.pow_succ,cZ2]
theorem c35{n:Nat}:IntKind.u8.wrap (n:Int)=((UInt8.ofNat n).toNat:Int):=by
 rw[dU0];simp
theorem bY0{o:Own}(b:List UInt8)(H:List AObj)(h:b.length<=100000000):o9 Tryz.prog 113 [.sl o 1 (b.map o8),.lit (.int .i64 32)] H (fun y H'=>y=.sl .sh 1 ((padded 32 b).map o8)/\H'=H):=by
 have hb:=aJ0 (w:=32) (n:=b.length) (.inl rfl);have hP:=fun H=>b08 b.length H (by omega)
 have hz:=co2 (w:=32) (b:=b) (.inl rfl);have hlen:=fun t=>bC0 (w:=32) (b:=b) (t:=t) (.inl rfl)
 generalize hN:an2 32 b.length=N at*;have hrep:ag4 [AV.lit (.int .u8 0)] N=(List.replicate N (0:UInt8)).map o8:=by rw[bl2,aS6];rfl
 have hcp:af0 ((List.replicate N (0:UInt8)).map o8) 0 (b.map o8)=(b++List.replicate (N - b.length) 0).map o8:=by
  rw[aA6 _ _ _ (by simp;omega)]
  simp
 have hst:((b++List.replicate (N - b.length) (0:UInt8)).map o8).set b.length (.lit (.int .u8 128))=(aN3 32 b 0).map o8:=by
  rw[<-hz,ao7];rfl
 have h0:((b.length:Int)*8)=((8*b.length/256^0:Nat):Int):=by rw[Nat.pow_zero,Nat.div_one];omega
 refine y7 [] [.tmp 4] 39 Tryz.func113 rfl rfl rfl rfl (nlb rfl) (by kernel_rfl) ?_
 repeat' first|refine o6 ?_|simp -dsimp -implicitDefEqProofs (disch:=first|assumption|omega|simp only[ll];omega) only[go_sem,hrep,hcp,hst,h0]|refine o5 (hP _) ?_|refine vcJ ?_ ?_<;>intro _|refine vcA ?_ ?_;focus(repeat'(first|omega|assumption|refine vcA ?_ ?_);done)|omega|refine o7 (fun _=>?_)
 refine aa5 aa7 mixed [] [4,5] (fun t:Nat=>t<=8) (fun t=>[(6,.lit (.int .u64 ((8*b.length/256^t:Nat):Int))),(7,.lit (.int .i64 ((N - 1 - t:Nat):Int)))]) (fun t=>H++[.cells (.one 5) ((aN3 32 b t).map o8)]) (fun t=>8*b.length/256^t) (by kernel_rfl) ?_ 0 (by omega) y8 rfl
 intro t ht;have hl:=hlen t;have hs:=eb1 (n:=8*b.length) (t:=t);have hT:=fun h:t < 8=>cB7 (w:=32) (b:=b) (t:=t) (.inl rfl) h
 have hE:=fun h=>bC1 (w:=32) (b:=b) (t:=t) h
 have hlt:=fun h=>ea5 (n:=8*b.length) (t:=t) h (by omega)
 rw[hN] at hT;generalize hn:8*b.length/256^t=n at*;generalize hn':8*b.length/256^(t+1)=n' at*;have hnn:n<=800000000:=by rw[<-hn];exact ay6 (Nat.div_le_self _ _) (by omega)
 by_cases h1:n=0
 ·subst h1
  rw[hE rfl];repeat' first|refine o6 ?_|simp -dsimp -implicitDefEqProofs (disch:=first|assumption|omega|simp only[ll];omega) only[go_sem]|refine vcJ ?_ ?_<;>intro _|refine vcA ?_ ?_;focus(repeat'(first|omega|assumption|refine vcA ?_ ?_);done)|omega|refine o7 (fun _=>?_)
  refine bo6 (.sl .sh 1 ((padded 32 b).map o8)) (.msl _ _ _ _ _ (.one 5) ((padded 32 b).map o8) _ (xq0 _) (by simp) (by simp;rw[<-hE rfl,hl]) (fun x hx=>by obtain⟨c,_,rfl⟩:=xq9.1 hx;exact⟨rfl,rfl⟩) (by rw[al9 o8 (fun _=>rfl)];simp) fun j c y e1 e2=>?_) ⟨rfl,rfl⟩
  rw[al9 o8 (fun _=>rfl)] at e2
  rw[Nat.zero_add] at e1;rw[e1] at e2;cases e2
  refine .low _ ?_;obtain⟨c,_,rfl⟩:=xq9.1 (bs2 e1);exact .lit _
 ·have h8:=hlt h1
  have hset:((aN3 32 b t).map o8).set (N - 1 - t) (.lit (.int .u8 (IntKind.u8.wrap (n:Int))))=(aN3 32 b (t+1)).map o8:=by
   rw[<-hT h8,ao7,c35];rfl
  have hc:(0 < (n:Int))=True:=eq_true (by omega)
  repeat' first|refine o6 ?_|simp -dsimp -implicitDefEqProofs (disch:=first|assumption|omega|simp only[ll];omega) only[go_sem,hc,hset,hs]|refine vcJ ?_ ?_<;>intro _|refine vcA ?_ ?_;focus(repeat'(first|omega|assumption|refine vcA ?_ ?_);done)|omega|refine o7 (fun _=>?_)
  refine again (t+1) ?_ ?_ rfl y8
  ·have:n'=n/256:=hs.symm
   omega
  ·omega
end
section
namespace V
open Go
variable {ds:List Deferred}
def NC(o:Obj):Prop:= ∀a t f,o≠ .cells a t f
theorem aw4(r:Loop):NC (.loop r):=fun _ _ _ e=>by cases e
theorem aK5(x:Option (List Deferred)):NC (.deferred x):=fun _ _ _ e=>by cases e
section
variable {w:World}{r:Nat}{o o':Obj}
theorem aT1(h:w.heap[r]?=some o)(hn:NC o)(hn':NC o')(a:Addr):(w.putObj r o').cell? a=w.cell? a:=by
 have hr:=(bO2.1 h).1;unfold World.cell?;by_cases e:a.block=r
 ·rw[e,World.putObj_heap_same hr,h]
  cases o' with
  |cells x y z=>exact absurd rfl (hn' x y z)
  |_=>cases o with
   |cells x y z=>exact absurd rfl (hn x y z)
   |_=>rfl
 ·rw[World.putObj_heap_other e]
theorem b83(h:w.heap[r]?=some o)(hn:NC o)(hn':NC o')(a:Addr):(w.putObj r o').frozen? a=w.frozen? a:=by
 have hr:=(bO2.1 h).1;unfold World.frozen?;by_cases e:a.block=r
 ·rw[e,World.putObj_heap_same hr,h]
  cases o' with
  |cells x y z=>exact absurd rfl (hn' x y z)
  |_=>cases o with
   |cells x y z=>exact absurd rfl (hn x y z)
   |_=>rfl
 ·rw[World.putObj_heap_other e]
theorem aU5(h:w.heap[r]?=some o)(hn:NC o){b:Nat}{arr:Array Value}{T:TypeId}{fr:Nat×Nat}(hb:w.heap[b]?=some (.cells arr T fr)):(w.putObj r o').heap[b]?=some (.cells arr T fr):=by
 have:b≠r:=fun e=>by
  subst e;rw[h] at hb;cases hb
  exact hn _ _ _ rfl
 rw[World.putObj_heap_other this];exact hb
end
theorem Rel.turn{G:Gh}{H H':List AObj}{w w':World}(hc: ∀a,w'.cell? a=w.cell? a)(hH: ∀(k:Nat) o,H[k]?=some o->(∃o',H'[k]?=some o')/\(o.isBlk=true-> ∃o',H'[k]?=some o'/\o'.isBlk=true)/\(∀s n t,o=.grow s n t->H'[k]?=some o)){x:AV}{v:Value}(r:Rel G H w x v):Rel G H' w' x v:=by
 induction r with
 |any v=>exact .any v
 |lit v=>exact .lit v
 |str l=>exact .str l
 |sl o s xs a len cap val hl hcap hs hcc hr hf ha ho ih=>
  exact .sl o s xs a len cap val hl hcap hs (fun j x e=>let ⟨b,off,h1,h2,h3⟩:=hcc j x e;⟨b,off,h1,h2,(hc _).trans h3⟩) ih hf ha (fun k e=>let ⟨n,t,e1,h⟩:=ho k e;⟨n,t,(hH k _ e1).2.2 _ _ _ rfl,h⟩)
 |agg cs arr hl hr ih=>exact .agg cs arr hl ih
 |tup cs arr hl hr ih=>exact .tup cs arr hl ih
 |ip x b off val hcc hr ih=>exact .ip x b off val (fun j y e=>⟨(hcc j y e).1,(hc _).trans (hcc j y e).2⟩) ih
 |mp k off o h1 ho=>obtain⟨o',h2,h3⟩:=(hH k o h1).2.1 ho;exact .mp k off o' h2 h3
 |msl k off len cap o h1 ho hcap=>obtain⟨o',h2,h3⟩:=(hH k o h1).2.1 ho;exact .msl k off len cap o' h2 h3 hcap
 |mrow k len o h1 ho hcap=>obtain⟨o',h2,h3⟩:=(hH k o h1).2.1 ho;exact .mrow k len o' h2 h3 hcap
 |fn f fs cs fa ca hf hc' hrf hrc ih1 ih2=>exact .fn f fs cs fa ca hf hc' ih1 ih2
 |ifc t x v hr ih=>exact .ifc t x v ih
 |err u v=>exact .err u v
 |data x a len cap hr hc' ih=>exact .data x a len cap ih hc'
 |yld k l o ho e=>obtain⟨o',h2⟩:=(hH k o ho).1;exact .yld k l o' h2 e
theorem bI8{H:List AObj}: ∀(k:Nat) o,H[k]?=some o->(∃o',H[k]?=some o')/\(o.isBlk=true-> ∃o',H[k]?=some o'/\o'.isBlk=true)/\(∀s n t,o=.grow s n t->H[k]?=some o):=fun _ o h=>⟨⟨o,h⟩,fun hb=>⟨o,h,hb⟩,fun _ _ _ _=>h⟩
theorem co8{H:List AObj}{k:Nat}{r r':Loop}{E E':Env}(hk:H[k]?=some (.loop r E)): ∀(i:Nat) o,H[i]?=some o->(∃o',(H.set k (.loop r' E'))[i]?=some o')/\(o.isBlk=true-> ∃o',(H.set k (.loop r' E'))[i]?=some o'/\o'.isBlk=true)/\(∀s n t,o=.grow s n t->(H.set k (.loop r' E'))[i]?=some o):=fun i o h=>by
 have hs:(H.set k (AObj.loop r' E'))[k]?=some (.loop r' E'):=ay5 (y9 hk);by_cases e:i=k
 ·subst e
  rw[hk] at h;cases h
  exact⟨⟨_,hs⟩,fun hb=>(by cases hb),fun s n t e=>(by cases e)⟩
 ·have:(H.set k (.loop r' E'))[i]?=some o:=by rw[ar5 (Ne.symm e)];exact h
  exact⟨⟨o,this⟩,fun hb=>⟨o,this,hb⟩,fun _ _ _ _=>this⟩
theorem HInv.turn{G:Gh}{H:List AObj}{w:World}(hi:HInv G H w){k l:Nat}{r:Loop}{E:Env}(r':Loop)(hk:H[k]?=some (.loop r E))(hl:G.lp k=some l)(ht:r'.tmps=r.tmps):HInv G (H.set k (.loop r' E)) (w.putObj l (.loop r')):=by
 obtain⟨himm,hrec,henv⟩:=hi.tabs.2.2.2 k l r E hl hk;have hkl:=y9 hk;have hsz:l < w.heap.size:=(bO2.1 hrec).1;have hc:=fun a=>aT1 (o':=.loop r') hrec (aw4 _) (aw4 _) a
 have hf:=fun a=>b83 (o':=.loop r') hrec (aw4 _) (aw4 _) a
 have tr: ∀{x v},Rel G H w x v->Rel G (H.set k (.loop r' E)) (w.putObj l (.loop r')) x v:=fun h=>h.turn hc (co8 hk)
 have bk: ∀(i:Nat) o,(∀r E,o≠ .loop r E)->(H.set k (.loop r' E))[i]?=some o->H[i]?=some o:=fun i o ho h=>by
  by_cases e:i=k
  ·subst e
   rw[ay5 hkl] at h;cases h
   exact absurd rfl (ho _ _)
  ·rw[ar5 (Ne.symm e)] at h
   exact h
 refine⟨fun b off e=>by rw[World.putObj_size];exact hi.lt b off e,fun i sh cs e=>?_,fun i s n t e=>?_,fun i j b e1 e2=>?_,⟨⟨fun g j v e=>⟨(hi.tabs.1.1 g j v e).1,(hc _).trans (hi.tabs.1.1 g j v e).2⟩,fun g t e=>⟨(hi.tabs.1.2.1 g t e).1,let ⟨u,v,h⟩:=(hi.tabs.1.2.1 g t e).2;⟨u,v,(hc _).trans h⟩⟩,fun g e=>⟨(hi.tabs.1.2.2 g e).1,let ⟨n,h⟩:=(hi.tabs.1.2.2 g e).2;⟨n,(hc _).trans h⟩⟩⟩,fun i m e=>by rw[World.putObj_size];exact hi.tabs.2.1 i m e,hi.tabs.2.2.1,fun i m r1 E1 e1 e2=>?_⟩⟩
 ·obtain⟨arr,T,fr,hb,hs,hr,hn,hz,hsh⟩:=hi.cells i sh cs (bk i _ (fun _ _ e=>by cases e) e)
  exact⟨arr,T,fr,aU5 hrec (aw4 _) hb,hs,fun j x v ex ev=>tr (hr j x v ex ev),hn,fun off ho=>(hf _).trans (hz off ho),hsh⟩
 ·obtain⟨h0,h1,h2,hty⟩:=hi.grow i s n t (bk i _ (fun _ _ e=>by cases e) e)
  refine⟨h0,h1,fun hn=>?_,an6 hty rfl (xq0 _) (fun b arr e fr hb=>⟨arr,aU5 hrec (aw4 _) hb,rfl⟩) (fun b off arr e fr _ _ _ _ hx _=>hx)⟩
  obtain⟨b,off,arr,T,fr,ea,hb,hle,hj⟩:=h2 hn;exact⟨b,off,arr,T,fr,ea,aU5 hrec (aw4 _) hb,hle,fun j h3 h4=>⟨(hj j h3 h4).1,(hf _).trans (hj j h3 h4).2⟩⟩
 ·have hs: ∀i b,site G (H.set k (.loop r' E)) i=some b->site G H i=some b:=fun i b e=>by
   unfold site at e⊢;cases ho:(H.set k (AObj.loop r' E))[i]? with
   |none=>rw[ho] at e;cases e
   |some o=>
    rw[ho] at e;cases o with
    |loop _ _=>cases e
    |gone=>cases e
    |cells _ _=>rw[bk i _ (fun _ _ e=>by cases e) ho];exact e
    |grow _ _ _=>rw[bk i _ (fun _ _ e=>by cases e) ho];exact e
  exact hi.apart i j b (hs i b e1) (hs j b e2)
 ·by_cases e:i=k
  ·subst e
   rw[hl] at e1;cases e1
   rw[ay5 hkl] at e2;cases e2
   exact⟨himm,World.putObj_heap_same hsz,fun t=>⟨(henv t).1,by rw[ht];exact tr (henv t).2⟩⟩
  ·rw[ar5 (Ne.symm e)] at e2
   obtain⟨h1,h2,h3⟩:=hi.tabs.2.2.2 i m r1 E1 e1 e2;have hne:m≠l:=fun h=>e (hi.tabs.2.2.1 i k l (by rw[<-h];exact e1) hl)
   exact⟨h1,(World.putObj_heap_other hne).trans h2,fun t=>⟨(h3 t).1,tr (h3 t).2⟩⟩
def busy(r:Loop):Loop:={r with state:=.busy}
theorem dK2{r:Loop}{p:Nat}{v:Value}(hp:r.params= #[p]):(r.params.zip #[v]).foldl (fun t (q,x)=>t.setIfInBounds q x) r.tmps=r.tmps.setIfInBounds p v:=by rw[hp];simp
theorem bG2{P:Program}{k n p:Nat}{r:Loop}{E:Env}{arg:AV}{H B:List AObj}(hk:H[k]?=some (.loop r E))(hst:r.state=.ready)(hpd:r.pending=none)(hp:r.params= #[p])(hn:r.tmps.size=n)(hpn:p < n)
  (h:AW P n r.assign (Ex (fun env1 H1=>AW P n r.body (fun e env2 H2=>e=.normal/\H2=B) env1 (H1.set k (.loop (busy r) E))/\H1[k]?=some (.loop r E)) (fun _ _ _=>False)) ((p,arg)::E) H):
  aV6 P k [arg] H (fun x H2=>x=.lit (.bool true)/\H2=B.set k (.loop r E)):=by
 intro ro N G w vs l hi ha hl;obtain⟨himm,hrec,henv⟩:=hi.tabs.2.2.2 k l r E hl hk;obtain⟨v,rfl,hv⟩: ∃v,vs= #[v]/\Rel G H w arg v:=by
  obtain⟨h1,h2⟩:=ha;have:vs.size=1:=h1;refine⟨vs[0],?_,h2 0 arg _ rfl (xq2 (by omega))⟩
  apply Array.ext
  ·simp[this]
  ·intro i h1 h2
   have:i=0:=by omega
   subst this;rfl
 refine⟨r.fn,_,r.assign,r.body,run_yield hrec (by rw[hp];rfl),?_⟩
 rw[dK2 hp];refine roundIn_of_wpIn trivial ?_;have s0:Sat n [] G ((p,arg)::E) H {tmps:=r.tmps.setIfInBounds p v,defers:=[]} w:=by
  refine⟨by simp[hn],rfl,fun t=>?_,hi⟩
  simp only[get];rw[cH3 (by rw[hn];exact hpn)]
  by_cases e:p=t
  ·simp only[e,if_true];exact hv
  ·simp only[e,if_false];exact(henv t).2
 refine wpIn_mono (h (some l) N [] G _ w s0) fun e a1 w1 ⟨G1,env1,H1,s1,st1,q⟩=>?_
 cases e with
 |normal=>
  obtain⟨q,hk1⟩:=q;have hl1:G1.lp k=some l:=by rw[st1.lp];exact hl
  obtain⟨himm1,hrec1,henv1⟩:=s1.inv.tabs.2.2.2 k l r E hl1 hk1;have hsz1:l < w1.heap.size:=(bO2.1 hrec1).1;refine⟨_,run_beginRound hrec1 hst,?_⟩;have hc1:=fun a=>aT1 (o':=.loop (busy r)) hrec1 (aw4 _) (aw4 _) a
  have s2:Sat n [] G1 env1 (H1.set k (.loop (busy r) E)) a1 (w1.putObj l (.loop (busy r))):=⟨s1.size,s1.defers,fun t=>(s1.env t).turn hc1 (co8 hk1),s1.inv.turn (busy r) hk1 hl1 rfl⟩
  refine wpIn_mono (q (some l) N [] G1 a1 _ s2) fun e a3 w3 ⟨G3,env3,H3,s3,st3,hq⟩=>?_
  obtain⟨rfl,rfl⟩:=hq;have hkb:(H1.set k (AObj.loop (busy r) E))[k]?=some (.loop (busy r) E):=ay5 (y9 hk1);have hk3:H3[k]?=some (.loop (busy r) E):=by
   have:=st3.obj k;rw[hkb] at this;exact this.1
  have hl3:G3.lp k=some l:=by rw[st3.lp];exact hl1
  obtain⟨himm3,hrec3,henv3⟩:=s3.inv.tabs.2.2.2 k l _ E hl3 hk3;have hsz3:l < w3.heap.size:=(bO2.1 hrec3).1;have hback:({busy r with state:=.ready,pending:=none}:Loop)=r:=by
   obtain⟨a,b,c,d,e,f,g,i⟩:=r;simp only at hst hpd;subst hst hpd;rfl
  have hend:=run_endRound (P:=P) none hrec3;simp only[Option.isNone_none,if_true] at hend;rw[hback] at hend;refine⟨_,_,hend,.bool true,.lit (.bool true),G3,H3.set k (.loop r E),rfl,s3.inv.turn r hk3 hl3 rfl,?_,.lit _,rfl,rfl⟩;have hc3:=fun a=>aT1 (o':=.loop r) hrec3 (aw4 _) (aw4 _) a
  refine⟨?_,?_,?_,?_,fun b off h=>st3.imm _ _ (st1.imm _ _ h),fun b off h=>?_,fun b h=>?_,fun i=>?_⟩
  ·exact st3.os.trans st1.os
  ·exact st3.tape.trans st1.tape
  ·exact st3.output.trans st1.output
  ·have:=st1.size
   have:=st3.size;rw[World.putObj_size] at this⊢;omega
  ·exact(hc3 _).trans ((st3.cell b off (st1.imm _ _ h)).trans ((hc1 _).trans (st1.cell b off h)))
  ·have h3:=st3.whole b fun off=>st1.imm _ _ (h off)
   have h1:=st1.whole b h;by_cases e:b=l
   ·subst e
    rw[World.putObj_heap_same hsz3,<-h1,hrec1]
   ·exact(World.putObj_heap_other e).trans (h3.trans ((World.putObj_heap_other e).trans h1))
  ·have o1:=st1.obj i
   have o3:=st3.obj i;by_cases e:i=k
   ·subst e
    rw[hk] at o1⊢;rw[hkb] at o3;exact⟨ay5 (y9 hk3),o3.2.1.trans o1.2.1,o3.2.2.trans o1.2.2⟩
   ·rw[ar5 (Ne.symm e)] at o3
    have:=co4 o1 o3;unfold aK4 at this⊢;rw[ar5 (Ne.symm e)];exact this
 |_=>exact q.elim
def aG4(G:Gh)(f:Nat->Option Nat):Gh:={G with lp:=f}
theorem Rel.lp{G:Gh}{H:List AObj}{w:World}{f:Nat->Option Nat}(hf: ∀k,k < H.length->f k=G.lp k){x:AV}{v:Value}(r:Rel G H w x v):Rel (aG4 G f) H w x v:=by
 induction r with
 |any v=>exact .any v
 |lit v=>exact .lit v
 |str l=>exact .str l
 |sl o s xs a len cap val hl hcap hs hcc hr hf ha ho ih=>exact .sl o s xs a len cap val hl hcap hs hcc ih hf ha ho
 |agg cs arr hl hr ih=>exact .agg cs arr hl ih
 |tup cs arr hl hr ih=>exact .tup cs arr hl ih
 |ip x b off val hcc hr ih=>exact .ip x b off val hcc ih
 |mp k off o h1 ho=>exact .mp (G:=aG4 G f) k off o h1 ho
 |msl k off len cap o h1 ho hcap=>exact .msl (G:=aG4 G f) k off len cap o h1 ho hcap
 |mrow k len o h1 ho hcap=>exact .mrow (G:=aG4 G f) k len o h1 ho hcap
 |fn f fs cs fa ca hf hc' hrf hrc ih1 ih2=>exact .fn f fs cs fa ca hf hc' ih1 ih2
 |ifc t x v hr ih=>exact .ifc t x v ih
 |err u v=>exact .err u v
 |data x a len cap hr hc' ih=>exact .data x a len cap ih hc'
 |yld k l o ho e=>exact .yld k l o ho ((hf k (y9 ho)).trans e)
theorem HInv.lp{G:Gh}{H:List AObj}{w:World}(hi:HInv G H w){f:Nat->Option Nat}(hf: ∀k,k < H.length->f k=G.lp k)(hb: ∀k l,f k=some l->l < w.heap.size)(hj: ∀k k' l,f k=some l->f k'=some l->k=k'):HInv (aG4 G f) H w:=by
 refine⟨hi.lt,fun k sh cs e=>?_,hi.grow,hi.apart,hi.tabs.1,hb,hj,fun k l r E e1 e2=>?_⟩
 ·obtain⟨arr,T,fr,h1,hs,hr,hn,hz,hsh⟩:=hi.cells k sh cs e
  exact⟨arr,T,fr,h1,hs,fun j x v ex ev=>(hr j x v ex ev).lp hf,hn,hz,hsh⟩
 ·have e1':f k=some l:=e1
  rw[hf k (y9 e2)] at e1';obtain⟨h1,h2,h3⟩:=hi.tabs.2.2.2 k l r E e1' e2;exact⟨h1,h2,fun t=>⟨(h3 t).1,(h3 t).2.lp hf⟩⟩
theorem HInv.put{G:Gh}{H:List AObj}{w:World}(hi:HInv G H w){l:Nat}{o o':Obj}(h:w.heap[l]?=some o)(hn:NC o)(hn':NC o')(hl: ∀k,G.lp k≠some l):HInv G H (w.putObj l o'):=by
 have hc:=fun a=>aT1 (o':=o') h hn hn' a
 have hf:=fun a=>b83 (o':=o') h hn hn' a
 have tr: ∀{x v},Rel G H w x v->Rel G H (w.putObj l o') x v:=fun h=>h.turn hc bI8
 refine⟨fun b off e=>by rw[World.putObj_size];exact hi.lt b off e,fun i sh cs e=>?_,fun i s n t e=>?_,hi.apart,⟨⟨fun g j v e=>⟨(hi.tabs.1.1 g j v e).1,(hc _).trans (hi.tabs.1.1 g j v e).2⟩,fun g t e=>⟨(hi.tabs.1.2.1 g t e).1,let ⟨u,v,h⟩:=(hi.tabs.1.2.1 g t e).2;⟨u,v,(hc _).trans h⟩⟩,fun g e=>⟨(hi.tabs.1.2.2 g e).1,let ⟨n,h⟩:=(hi.tabs.1.2.2 g e).2;⟨n,(hc _).trans h⟩⟩⟩,fun i m e=>by rw[World.putObj_size];exact hi.tabs.2.1 i m e,hi.tabs.2.2.1,fun i m r1 E1 e1 e2=>?_⟩⟩
 ·obtain⟨arr,T,fr,hb,hs,hr,hn2,hz,hsh⟩:=hi.cells i sh cs e
  exact⟨arr,T,fr,aU5 h hn hb,hs,fun j x v ex ev=>tr (hr j x v ex ev),hn2,fun off ho=>(hf _).trans (hz off ho),hsh⟩
 ·obtain⟨h0,h1,h2,hty⟩:=hi.grow i s n t e
  refine⟨h0,h1,fun hn2=>?_,an6 hty rfl (xq0 _) (fun b arr e fr hb=>⟨arr,aU5 h hn hb,rfl⟩) (fun b off arr e fr _ _ _ _ hx _=>hx)⟩
  obtain⟨b,off,arr,T,fr,ea,hb,hle,hj⟩:=h2 hn2;exact⟨b,off,arr,T,fr,ea,aU5 h hn hb,hle,fun j h3 h4=>⟨(hj j h3 h4).1,(hf _).trans (hj j h3 h4).2⟩⟩
 ·obtain⟨h1,h2,h3⟩:=hi.tabs.2.2.2 i m r1 E1 e1 e2
  have hne:m≠l:=fun h=>hl i (by rw[<-h];exact e1)
  exact⟨h1,(World.putObj_heap_other hne).trans h2,fun t=>⟨(h3 t).1,tr (h3 t).2⟩⟩
theorem Step.put{G G':Gh}{H H':List AObj}{w w':World}(st:Step G H w G' H' w'){l:Nat}{o o':Obj}(h:w'.heap[l]?=some o)(hn:NC o)(hn':NC o')(hl: ¬ ∀off,G.imm l off):Step G H w G' H' (w'.putObj l o'):=
 ⟨st.os,st.tape,st.output,by rw[World.putObj_size];exact st.size,st.imm,fun b off e=>(aT1 h hn hn' _).trans (st.cell b off e),fun b e=>(World.putObj_heap_other (fun e'=>by subst e';exact hl e)).trans (st.whole b e),st.obj⟩
theorem cm7{H:List AObj}{x:AObj}: ∀(k:Nat) o,H[k]?=some o->(∃o',(H++[x])[k]?=some o')/\(o.isBlk=true-> ∃o',(H++[x])[k]?=some o'/\o'.isBlk=true)/\(∀s n t,o=.grow s n t->(H++[x])[k]?=some o):=fun k o h=>by
 have:(H++[x])[k]?=some o:=by rw[xq4 (y9 h)];exact h
 exact⟨⟨o,this⟩,fun hb=>⟨o,this,hb⟩,fun _ _ _ _=>this⟩
theorem HInv.tell{G:Gh}{H:List AObj}{w:World}(hi:HInv G H w){l:Nat}{r:Loop}{E:Env}(hl:G.lp H.length=some l)(himm: ∀off,G.imm l off)(hrec:w.heap[l]?=some (.loop r))(henv: ∀t,Rel G H w (get E t) (r.tmps.getD t undef)):HInv G (H++[.loop r E]) w:=by
 have tr: ∀{x v},Rel G H w x v->Rel G (H++[.loop r E]) w x v:=fun h=>h.turn (fun _=>rfl) cm7
 have bk: ∀(i:Nat) o,(∀r E,o≠ .loop r E)->(H++[.loop r E])[i]?=some o->H[i]?=some o:=fun i o ho h=>by
  rcases am5 i H.length with hi|hi
  ·rw[xq4 hi] at h;exact h
  ·rw[xq7 hi] at h
   cases hn:i - H.length with
   |zero=>rw[hn] at h;cases h;exact absurd rfl (ho _ _)
   |succ n=>rw[hn] at h;cases h
 refine⟨hi.lt,fun i sh cs e=>?_,fun i s n t e=>hi.grow i s n t (bk i _ (fun _ _ e=>by cases e) e),fun i j b e1 e2=>?_,hi.tabs.1,hi.tabs.2.1,hi.tabs.2.2.1,fun i m r1 E1 e1 e2=>?_⟩
 ·obtain⟨arr,T,fr,hb,hs,hr,hn2,hz,hsh⟩:=hi.cells i sh cs (bk i _ (fun _ _ e=>by cases e) e)
  exact⟨arr,T,fr,hb,hs,fun j x v ex ev=>tr (hr j x v ex ev),hn2,hz,hsh⟩
 ·have hs: ∀i b,site G (H++[.loop r E]) i=some b->site G H i=some b:=fun i b e=>by
   unfold site at e⊢;cases ho:(H++[AObj.loop r E])[i]? with
   |none=>rw[ho] at e;cases e
   |some o=>
    rw[ho] at e;cases o with
    |loop _ _=>cases e
    |gone=>cases e
    |cells _ _=>rw[bk i _ (fun _ _ e=>by cases e) ho];exact e
    |grow _ _ _=>rw[bk i _ (fun _ _ e=>by cases e) ho];exact e
  exact hi.apart i j b (hs i b e1) (hs j b e2)
 ·rcases am5 i H.length with hil|hil
  ·rw[xq4 hil] at e2
   obtain⟨h1,h2,h3⟩:=hi.tabs.2.2.2 i m r1 E1 e1 e2;exact⟨h1,h2,fun t=>⟨(h3 t).1,tr (h3 t).2⟩⟩
  ·rw[xq7 hil] at e2
   cases hn:i - H.length with
   |succ n=>rw[hn] at e2;cases e2
   |zero=>
    rw[hn] at e2;cases e2
    obtain rfl:i=H.length:=by omega
    rw[hl] at e1;cases e1
    exact⟨himm,hrec,fun t=>⟨(henv t).low,tr (henv t)⟩⟩
def Marks(G:Gh)(w:World)(b0:Nat):List Deferred->Prop
 |[]=>True
 |d::r=>(∃D,d={target:=.collected D,args:= #[]}/\b0<=D/\(∀off,G.imm D off)/\(∀k,G.lp k≠some D)/\w.heap[D]?=some (.deferred (some []))/\ ∀d'∈r,d'≠d)/\Marks G w b0 r
def cw7(n:Nat)(ds:List Deferred)(G:Gh)(H:List AObj)(w:World)(Q:Exit->Env->List AObj->Prop):Exit->Act->World->Prop:=
 fun e a' w'=> ∃ms G' env' H',Sat n (ms++ds) G' env' H' a' w'/\Step G H w G' H' w'/\Marks G' w' w.heap.size ms/\Q e env' H'
def AWm(P:Program)(n:Nat)(c:Code)(Q:Exit->Env->List AObj->Prop)(env:Env)(H:List AObj):Prop:=
 ∀N ds G a w,Sat n ds G env H a w->c.wpIn (fw none) N P (cw7 n ds G H w Q) a w
section
variable {P:Program}{n:Nat}{Q:Exit->Env->List AObj->Prop}{env:Env}{H:List AObj}
theorem aV3{c:Code}(h:AW P n c Q env H):AWm P n c Q env H:=fun N ds G a w s=>
 wpIn_mono (h none N ds G a w s) fun _ _ _ ⟨G',env',H',s',st,q⟩=>⟨[],G',env',H',s',st,trivial,q⟩
theorem Marks.step{G G':Gh}{H H':List AObj}{w w':World}{b0:Nat}(st:Step G H w G' H' w'): ∀{ms:List Deferred},Marks G w b0 ms->Marks G' w' b0 ms
 |[],_=>trivial
 |d::r,⟨⟨D,h1,h2,h3,h4,h5,h6⟩,hr⟩=>⟨⟨D,h1,h2,fun off=>st.imm _ _ (h3 off),by rw[st.lp];exact h4,(st.whole D h3).trans h5,h6⟩,hr.step st⟩
theorem Marks.le{G:Gh}{w:World}{b0 b1:Nat}(h:b0<=b1): ∀{ms:List Deferred},Marks G w b1 ms->Marks G w b0 ms
 |[],_=>trivial
 |d::r,⟨⟨D,h1,h2,h3⟩,hr⟩=>⟨⟨D,h1,by omega,h3⟩,hr.le h⟩
theorem Marks.lt{G:Gh}{w:World}{b0:Nat}: ∀{ms:List Deferred},Marks G w b0 ms-> ∀d∈ms,∃D,d={target:=.collected D,args:= #[]}/\b0<=D/\D < w.heap.size
 |[],_,d,hd=>by cases hd
 |d::r,⟨⟨D,h1,h2,h3,h4,h5,h6⟩,hr⟩,d',hd=>by
  rcases ai9.1 hd with rfl|hd
  ·exact⟨D,h1,h2,(bO2.1 h5).1⟩
  ·exact hr.lt d' hd
theorem Marks.app{G:Gh}{w:World}{b0 b1:Nat}{ms1:List Deferred}(h1:Marks G w b0 ms1)(hlt: ∀d∈ms1,∃D,d={target:=.collected D,args:= #[]}/\D < b1)(hb:b0<=b1): ∀{ms2:List Deferred},Marks G w b1 ms2->Marks G w b0 (ms2++ms1)
 |[],_=>h1
 |d::r,⟨⟨D,e1,e2,e3,e4,e5,e6⟩,hr⟩=>⟨⟨D,e1,by omega,e3,e4,e5,fun d' hd=>by
  rcases aP7.1 hd with hd|hd
  ·exact e6 d' hd
  ·obtain⟨D',e7,e8⟩:=hlt d' hd
   intro e;rw[e7,e1] at e;injection e with e
   injection e with e
   omega⟩,h1.app hlt hb hr⟩
theorem cw7.trans{ms:List Deferred}{ds:List Deferred}{G G':Gh}{H H':List AObj}{w w':World}(hs:Step G H w G' H' w')(hm:Marks G' w' w.heap.size ms){e:Exit}{a:Act}{w'':World}(h:cw7 n (ms++ds) G' H' w' Q e a w''):cw7 n ds G H w Q e a w'':=by
 obtain⟨ms2,G'',env'',H'',s,st,hm2,q⟩:=h;exact⟨ms2++ms,G'',env'',H'',by rw[List.append_assoc];exact s,hs.trans st,(hm.step st).app (fun d hd=>let ⟨D,e1,_,e3⟩:=hm.lt d hd;⟨D,e1,e3⟩) hs.size hm2,q⟩
theorem bl0{x y:Code}(h:AWm P n x (Ex (fun env H=>AWm P n y Q env H) Q) env H):AWm P n (.seq x y) Q env H:=fun N ds G a w s=>by
 refine wpIn_seq (wpIn_mono (h N ds G a w s) fun e a' w' ⟨ms,G',env',H',s',st,hm,q⟩=>?_)
 cases e with
 |normal=>exact wpIn_mono (q N (ms++ds) G' a' w' s') fun _ _ _ p=>p.trans st hm
 |_=>exact⟨ms,G',env',H',s',st,hm,q⟩
theorem cr4{id:Nat}{c:Code}(h:AWm P n c (InB id Q) env H):AWm P n (.block id c) Q env H:=fun N ds G a w s=>
 wpIn_block (wpIn_mono (h N ds G a w s) fun e a' w' ⟨ms,G',env',H',s',st,hm,q⟩=>by
  cases e with
  |exit id'=>
   simp only[Exit.inBlock];simp only[InB] at q;split<;>rename_i hid
   ·exact⟨ms,G',env',H',s',st,hm,by simpa [hid] using q⟩
   ·exact⟨ms,G',env',H',s',st,hm,by simpa [hid] using q⟩
  |_=>exact⟨ms,G',env',H',s',st,hm,q⟩)
theorem cV6{G:Gh}{H:List AObj}{w:World}(hi:HInv G H w){k:Nat}{sh:Shape}{cs:List AV}(h:H[k]?=some (.cells sh cs)): ∀x∈cs,Low H.length x:=fun x hx=>by
 obtain⟨arr,T,fr,_,hl,hr,_⟩:=hi.cells k sh cs h;obtain⟨j,hj⟩:=ar7.1 hx;have:j < arr.size:=by have:=y9 hj;omega
 exact(hr j x arr[j] hj (xq2 this)).low
theorem cr2{g:Operand}{ps:Array Tmp}{assign body:Code}{gf:FuncId}{caps:List AV}{fn:Func}(hg:ev env g=.fn (.func gf) [] caps)(hfn:P.funcs[gf]?=some fn)(hbody:fn.body.isSome=true)(hname:(fn.name== "runtime.NumGoroutine")=false)
  (h: ∀r:Loop,r.state=.ready->r.pending=none->r.params=ps->r.assign=assign->r.body=body->r.tmps.size=n->
   o9 P gf (.yld H.length::caps) (H++[.loop r env]) (fun _ H'=> ∃H2 M,H'=H2++ .loop r env::M/\H2.length=H.length/\(∀(k:Nat) sh cs,H2[k]?=some (.cells sh cs)->H[k]?=some (.cells sh cs)\/ ∀x∈cs,Low H.length x)/\Q .normal env H2)):
  AWm P n (.rangeFunc g ps assign body) Q env H:=fun N ds G a w s=>by
 have hge:=s.ev g;rw[hg] at hge;generalize hv:a.eval g=gv at hge;cases hge with
 |fn _ _ _ fa lb hf hc hrf hrc=>
 obtain rfl:fa= #[]:=c06 hf;refine wpIn_rangeFunc fun f0 _=>?_
 obtain⟨rec,hrec⟩: ∃rec:Loop,rec={state:=.ready,pending:=none,fn:=f0,tmps:=a.tmps,params:=ps,assign,body,defers:=w.heap.size}:=⟨_,rfl⟩;obtain⟨W1,hW1⟩: ∃W1,(w.alloc (.deferred (some []))).alloc (.loop rec)=W1:=⟨_,rfl⟩;have hL1:W1.heap[w.heap.size+1]?=some (.loop rec):=by
  rw[<-hW1];have:=World.alloc_heap_new (w.alloc (.deferred (some []))) (.loop rec);rwa [World.size_alloc] at this
 have hK1:W1.heap[w.heap.size]?=some (.deferred (some [])):=by
  rw[<-hW1];exact(RowKit.Below.heap_alloc _ _ _ (by simp)).trans (World.alloc_heap_new w _)
 have hm1:More w W1:=by rw[<-hW1];exact((More.refl w).alloc _).alloc _
 have hsz1:W1.heap.size=w.heap.size+2:=by rw[<-hW1];simp
 let f1:Nat->Option Nat:=fun i=>if i=H.length then some (w.heap.size+1) else if i < H.length then G.lp i else none
 have hf1: ∀k,k < H.length->f1 k=(aH6 G w W1).lp k:=fun k hk=>by
  show (if k=H.length then some (w.heap.size+1) else if k < H.length then G.lp k else none)=G.lp k
  rw[if_neg (by omega),if_pos hk]
 have hfb: ∀k l,f1 k=some l->l < W1.heap.size:=fun k l e=>by
  have e:(if k=H.length then some (w.heap.size+1) else if k < H.length then G.lp k else none)=some l:=e
  split at e
  ·cases e;omega
  ·split at e
   ·have:=s.inv.tabs.2.1 k l e
    omega
   ·cases e
 have hfj: ∀k k' l,f1 k=some l->f1 k'=some l->k=k':=fun k k' l e e'=>by
  have e:(if k=H.length then some (w.heap.size+1) else if k < H.length then G.lp k else none)=some l:=e
  have e':(if k'=H.length then some (w.heap.size+1) else if k' < H.length then G.lp k' else none)=some l:=e'
  split at e
  ·cases e
   split at e'
   ·omega
   ·split at e'
    ·have:=s.inv.tabs.2.1 k' _ e'
     omega
    ·cases e'
  ·split at e
   ·split at e'
    ·cases e'
     have:=s.inv.tabs.2.1 k _ e;omega
    ·split at e'
     ·exact s.inv.tabs.2.2.1 k k' l e e'
     ·cases e'
   ·cases e
 have hi1:HInv (aG4 (aH6 G w W1) f1) H W1:=(hm1.inv s.inv).lp hf1 hfb hfj;have himm: ∀b,w.heap.size<=b->b < W1.heap.size-> ∀off,(aG4 (aH6 G w W1) f1).imm b off:=fun b h1 h2 off=>.inr ⟨h1,h2⟩
 have tr1: ∀{x v},Rel G H w x v->Rel (aG4 (aH6 G w W1) f1) H W1 x v:=fun r=>(r.mono (hm1.step s.inv)).lp hf1
 have hlp:f1 H.length=some (w.heap.size+1):=if_pos rfl;have hi2:HInv (aG4 (aH6 G w W1) f1) (H++[.loop rec env]) W1:=hi1.tell hlp (himm _ (by omega) (by omega)) hL1 (fun t=>by
  rw[hrec];exact tr1 (s.env t))
 have tr2: ∀{x v},Rel G H w x v->Rel (aG4 (aH6 G w W1) f1) (H++[.loop rec env]) W1 x v:=fun r=>(tr1 r).turn (fun _=>rfl) cm7
 have hargs:av8 (aG4 (aH6 G w W1) f1) (H++[.loop rec env]) W1 (.yld H.length::caps) (#[.func (.yield (w.heap.size+1)) #[] #[]]++lb):=by
  refine⟨by simp[hc];omega,fun j x v ex ev=>?_⟩
  cases j with
  |zero=>
   rw[bz5 (by simp)] at ev
   cases ex
   cases ev
   exact .yld _ _ (.loop rec env) (by simp) hlp
  |succ j=>
   simp only[List.getElem?_cons_succ] at ex;rw[c05 (by simp)] at ev
   exact tr2 (hrc j x v ex (by simpa using ev))
 have hcall:=(h rec (by rw[hrec]) (by rw[hrec]) (by rw[hrec]) (by rw[hrec]) (by rw[hrec]) (by rw[hrec];exact s.size)) _ W1 _ hi2 hargs
 have hcalls:=hcall.calls hfn hbody hname;have eg: ∀args w,(callFunc gf args).run P w=.ok (.enter gf args) w:=fun args w=>by
  have hb':fn.body≠none:=by intro e;rw[e] at hbody;cases hbody
  have hn':fn.name≠ "runtime.NumGoroutine" :=by simpa using hname
  simp[callFunc,hfn,hb',hn']
 refine⟨w.heap.size+1,[{target:=.collected w.heap.size,args:= #[]}],W1,{target:=.fn (.func gf) lb,args:= #[.func (.yield (w.heap.size+1)) #[] #[]]},W1,gf,
  #[.func (.yield (w.heap.size+1)) #[] #[]]++lb,W1,?_,?_,fun _ _=>trivial,?_,fun e=>?_,?_⟩
 ·rw[<-hW1,hrec];exact run_enterLoop_outer _ _ _ _ _
 ·simp only[resolve,hv]
  simp[go_sem]
 ·simp only[invoke]
  exact eg _ _
 ·simp[fw,Fence.wide] at e
 ·refine cd8 (Calls.mono hcalls ?_)
  rintro e w3 ⟨v,rfl,x,G3,H3,hi3,st3,hx3,H2,M,rfl,hlen,hlow,hq⟩
  have hst:rec.state=.ready:=by rw[hrec]
  have hpd:rec.pending=none:=by rw[hrec]
  have hlp3:G3.lp H.length=some (w.heap.size+1):=by rw[st3.lp];exact hlp
  have hlpk: ∀k,k < H.length->G3.lp k=G.lp k:=fun k hk=>by rw[st3.lp];exact hf1 k hk
  have hk3:(H2++ .loop rec env::M)[H.length]?=some (.loop rec env):=by
   rw[xq7 (by omega),hlen,ao8];rfl
  obtain⟨himm3,hrec3,_⟩:=hi3.tabs.2.2.2 H.length _ _ _ hlp3 hk3;have htake:(H2++AObj.loop rec env::M).take H.length=H2:=by rw[<-hlen,aZ2]
  have hsz3:=st3.size;refine⟨_,_,run_endLoop hrec3 (by rw[hst];simp),?_⟩
  rw[hpd];have hne: ∀k,G.lp k≠some (w.heap.size+1):=fun k e=>by have:=s.inv.tabs.2.1 k _ e;omega
  have hneD: ∀k,G.lp k≠some w.heap.size:=fun k e=>by have:=s.inv.tabs.2.1 k _ e;omega
  have hc4:=fun x a=>aT1 (o':=.loop x) hrec3 (aw4 _) (aw4 _) a
  have hcut:=hi3.cut H.length (fun k sh cs hk e=>by
   rw[xq4 (by omega)] at e
   rcases hlow k sh cs e with h|h
   ·exact cV6 s.inv h
   ·exact h)
  rw[htake] at hcut;have hcut2:=hcut.lp (f:=G.lp) (fun k hk=>(hlpk k (by omega)).symm) (fun k l e=>by have:=s.inv.tabs.2.1 k l e;omega) s.inv.tabs.2.2.1
  have tr4: ∀{x v o},Rel G H w x v->Rel (aG4 G3 G.lp) H2 (w3.putObj (w.heap.size+1) (.loop o)) x v:=fun r=>by
   have h3:=((tr2 r).mono st3).cut H.length r.low;rw[htake] at h3;exact(h3.lp (f:=G.lp) (fun k hk=>(hlpk k (by omega)).symm)).turn (hc4 _) bI8
  have hD3:w3.heap[w.heap.size]?=some (.deferred (some [])):=(st3.whole _ (himm _ (xq0 _) (by omega))).trans hK1
  refine⟨[{target:=.collected w.heap.size,args:= #[]}],aG4 G3 G.lp,env,H2,⟨s.size,by rw[<-s.defers],fun t=>tr4 (s.env t),hcut2.put hrec3 (aw4 _) (aw4 _) hne⟩,?_,?_,hq⟩
  ·refine⟨?_,st3.tape.trans hm1.tape,st3.output.trans hm1.output,by rw[World.putObj_size];omega,fun b off e=>st3.imm _ _ (.inl e),fun b off e=>?_,fun b e=>?_,fun k=>?_⟩
   ·exact congrArg (fun o=>(o,G.lp)) (st3.osEq.trans hm1.os)
   ·exact(hc4 _ _).trans ((st3.cell b off (.inl e)).trans (World.cell?_of_block (w:=w) (hm1.old b (s.inv.lt b off e))))
   ·have hlt:=s.inv.lt b 0 (e 0)
    exact(World.putObj_heap_other (by omega)).trans ((st3.whole b fun off=>.inl (e off)).trans (hm1.old b hlt))
   ·have o3:=st3.obj k
    rcases am5 k H.length with hk|hk
    ·rw[xq4 hk] at o3
     unfold aK4 at o3⊢;rw[xq4 (by omega)] at o3
     exact o3
    ·rw[av9 hk]
     exact bk0 (av9 (by omega))
  ·refine⟨⟨w.heap.size,rfl,xq0 _,fun off=>st3.imm _ _ (himm _ (xq0 _) (by omega) off),hneD,(World.putObj_heap_other (by omega)).trans hD3,fun d' hd=>by cases hd⟩,trivial⟩
end
theorem dL0{P:Program}{L:Tab}(hL:ac6 P L){fn:Func}{n:Nat}{rs:List ResultVar}(hrs:fn.results.toList=rs){H H':List AObj}{R:AV->List AObj->Prop}{G G':Gh}{w w':World}{env':Env}{a:Act}(hi:HInv G H w)(s:Sat n ds G' env' H' a w')(st:Step G H w G' H' w')(hfin:Fin L rs H R env' H'):
  ∃v,(results fn a.tmps).run P w'=.ok v w'/\ ∃x G'' H'',HInv G'' H'' w'/\Step G H w G'' H'' w'/\Rel G'' H'' w' x v/\R x H'':=by
 unfold Fin at hfin;split at hfin
 ·rename_i p xs hres
  obtain⟨hp,x,H'',hends,hR⟩:=hfin;obtain⟨us,hrun,hlen,hrel⟩:=ci6 (P:=P) hL s rs hres hp;have hres':(results fn a.tmps).run P w'=.ok (if h:us.length=1 then us[0] else .tuple us.toArray) w':=by
   rw[b76,c07,hrs];simp only[Sem.run_bind,Sem.run_map];rw[hrun];simp only[Result.andThen_ok,Sem.run_pure,aM2,List.getElem_toArray]
  have hrx:Rel G' H' w' (aQ6 xs) (if h:us.length=1 then us[0] else .tuple us.toArray):=by
   unfold aQ6;split
   ·have h1:us.length=1:=by simpa using hlen
    rw[dif_pos h1];exact hrel 0 _ _ rfl (by simp[h1])
   ·rename_i hne
    have h1:us.length≠1:=by
     intro h1;rw[hlen] at h1;obtain⟨y,hy⟩:=List.length_eq_one_iff.1 h1;exact hne y hy
    rw[dif_neg h1];exact .tup _ _ (by simpa using hlen) fun j x v e e'=>hrel j x v e (by simpa using e')
  obtain⟨G'',hi'',st'',hrx''⟩:=hends G w G' w' _ hi s.inv st hrx;exact⟨_,hres',x,G'',H'',hi'',st'',hrx'',hR⟩
 ·exact hfin.elim
theorem bU9{P:Program}{F:Fence}{N:Nat}{fn:Func}{n:Nat}{H H':List AObj}{G G':Gh}{w:World}{env':Env}{a:Act}{R:Ending->World->Prop}(hi:HInv G H w)
  (hend: ∀w',Sat n a.defers G' env' H' a w'->Step G H w G' H' w'-> ∃v,(results fn a.tmps).run P w'=.ok v w'/\R (.returned v) w'):
  ∀(ms:List Deferred) (w':World),Sat n a.defers G' env' H' a w'->Step G H w G' H' w'->Marks G' w' w.heap.size ms->LeavesInM F N P fn a.tmps R ms .returning w'
 |[],w',s,st,_=>hend w' s st
 |d::r,w',s,st,⟨⟨D,h1,h2,h3,h4,h5,h6⟩,hr⟩=>by
  have hnD: ¬ ∀off,G.imm D off:=fun e=>by have:=hi.lt D 0 (e 0);omega
  have hc:=fun x=>aT1 (o':=.deferred none) h5 (aK5 _) (aK5 _) x
  refine⟨by simp,.inl ⟨D,w'.putObj D (.deferred none),by rw[h1],run_takeDeferred h5,?_⟩⟩
  refine bU9 hi hend r _ ⟨s.size,s.defers,fun t=>(s.env t).turn hc bI8,s.inv.put h5 (aK5 _) (aK5 _) h4⟩ (st.put h5 (aK5 _) (aK5 _) hnD) ?_
  have: ∀(ms:List Deferred),(∀d'∈ms,d'≠d)->Marks G' w' w.heap.size ms->Marks G' (w'.putObj D (.deferred none)) w.heap.size ms:=by
   intro ms;induction ms with
   |nil=>intro _ _;trivial
   |cons d2 r2 ih=>
    rintro hne ⟨⟨D2,k1,k2,k3,k4,k5,k6⟩,hr2⟩
    refine⟨⟨D2,k1,k2,k3,k4,?_,k6⟩,ih (fun d' hd=>hne d' (aC8 _ hd)) hr2⟩
    have:D2≠D:=fun e=>hne d2 (ax1 ..) (by rw[k1,h1,e])
    exact(World.putObj_heap_other this).trans k5
  exact this r h6 hr
theorem bG3{P:Program}{L:Tab}(hL:ac6 P L){f:FuncId}{fn:Func}{c:Code}{n:Nat}{rs:List ResultVar}{args:List AV}{H:List AObj}{R:AV->List AObj->Prop}(hf:P.funcs[f]?=some fn)(hb:fn.body=some c)(hname:(fn.name== "runtime.NumGoroutine")=false)(hn:fn.ntmps=n)
  (hrs:fn.results.toList=rs) (hargs:args.length<=n) (h:AWm P n c (bF8 L rs H R) (aH5 0 args) H):o9 P f args H R:=by
 intro G w vs hi hr;refine .inl ⟨fn,hf,by rw[hb];rfl,hname,?_⟩
 have hs0:Sat n [] G (aH5 0 args) H {tmps:=vs++Array.replicate (fn.ntmps - vs.size) undef,defers:=[]} w:=by
  refine⟨by simp[hr.1];omega,rfl,fun t=>?_,hi⟩
  rw[bZ8];simp only[aL0,if_true,aV8];by_cases ht:t < args.length
  ·rw[xq1 ht]
   have hv:t < vs.size:=by rw[hr.1];exact ht
   rw[ap6,bz5 hv,xq2 hv];exact hr.2 t _ _ (xq1 ht) (xq2 hv)
  ·rw[av9 (by omega)]
   exact .any _
 refine(callsIn_wide (n:=0)).1 (callsIn_of_wp_marks (F:=fw none) hf hb trivial (wpIn_mono (h 0 [] G _ w hs0) fun e a w' hq=>?_))
 obtain⟨ms,G',env',H',s,st,hm,q⟩:=hq;have hd:a.defers=ms:=by rw[s.defers,List.append_nil]
 have key:Fin L rs H R env' H'->LeavesInM (fw none) 0 P fn a.tmps (fun e w'=> ∃v,e=.returned v/\ ∃x G' H',HInv G' H' w'/\Step G H w G' H' w'/\Rel G' H' w' x v/\R x H') a.defers .returning w':=fun hfin=>by
  rw[hd];refine bU9 hi (fun w' s st=>?_) ms w' (by rw[hd,<-List.append_nil ms];exact s) st hm
  obtain⟨v,h1,x,G'',H'',h2⟩:=dL0 hL hrs hi s st hfin;exact⟨v,h1,v,rfl,x,G'',H'',h2⟩
 cases e with
 |normal=>exact key q
 |ret=>exact key q
 |exit _=>exact q.elim
 |goto _=>exact q.elim
 |panic _=>exact q.elim
 |outgrown=>exact q.elim
end V
end
section
open Go V
theorem cY6{xs:List AV}{n:Nat}{H:List AObj}(hn:1<=n)(hn2:n<=1000000):o9 Tryz.prog 163 [.sl .sh 1 xs,.lit (.int .i64 (n:Int))] H (fun y H'=>y=.fn (.func 201) [] [.ip (.sl .sh 1 xs),.ip (.lit (.int .i64 (n:Int)))]/\H'=H):=by
 have h1:((n:Int) < 1)=False:=eq_false (by omega)
 refine y7 [] [.tmp 4] 9 Tryz.func163 rfl rfl rfl rfl (nlb rfl) (by kernel_rfl) ?_
 repeat' first|refine o6 ?_|simp -dsimp -implicitDefEqProofs (disch:=first|assumption|omega|simp only[ll];omega) only[go_sem,h1]|refine vcJ ?_ ?_<;>intro _|refine vcA ?_ ?_;focus(repeat'(first|omega|assumption|refine vcA ?_ ?_);done)|omega|refine o7 (fun _=>?_)
 exact y5 ⟨rfl,rfl⟩
theorem cJ5{k c n:Nat}(b:List UInt8)(Hs:Nat->List AObj)(hn:1<=n)(hc:b.length=c*n)(hb:b.length<=1000000000)(hlen:(Hs 0).length<=(Hs c).length)
  (hy: ∀i,i < c->aV6 Tryz.prog k [.sl .full 1 (((b.drop (i*n)).take n).map o8)] (Hs i) (fun x H'=>x=.lit (.bool true)/\H'=Hs (i+1))):
  o9 Tryz.prog 201 [.yld k,.ip (.sl .sh 1 (b.map o8)),.ip (.lit (.int .i64 (n:Int)))] (Hs 0) (fun x H'=>x=.tup []/\H'=Hs c):=by
 refine y7 [1000003] [] 31 Tryz.func201 rfl rfl rfl rfl (nlb rfl) (by kernel_rfl) ?_
 repeat' first|refine o6 ?_|simp -dsimp -implicitDefEqProofs (disch:=first|assumption|omega|simp only[ll];omega) only[go_sem]|refine vcJ ?_ ?_<;>intro _|refine vcA ?_ ?_;focus(repeat'(first|omega|assumption|refine vcA ?_ ?_);done)|omega|refine o7 (fun _=>?_)
 refine aa5 aa7 mixed [1000003] [0,1,2] (fun i:Nat=>i<=c) (fun i=>[(4,.lit (.int .i64 ((i*n:Nat):Int)))]) Hs (fun i=>c - i) (by kernel_rfl) ?_ 0 (by omega) y8 rfl
 intro i hi;by_cases hic:i < c
 ·have h1:(i+1)*n<=c*n:=aM5 n (by omega)
  have h2:(i+1)*n=i*n+n:=by rw[aC7,bz4]
  have hY:=hy i hic;rw[h2] at h1;generalize hin:i*n=a at*;have hlt:((a:Int) < ((b.length:Nat):Int))=True:=eq_true (by omega)
  have hm:min ((n:Int)) (((b.length - a:Nat)):Int)=(n:Int):=by omega
  have hz:((a:Int)+(n:Int)).toNat - a=n:=by omega
  repeat' first|refine o6 ?_|simp -dsimp -implicitDefEqProofs (disch:=first|assumption|omega|simp only[ll];omega) only[go_sem,hlt,hm,hz]|refine cK0 (hY) ?_|refine vcJ ?_ ?_<;>intro _|refine vcA ?_ ?_;focus(repeat'(first|omega|assumption|refine vcA ?_ ?_);done)|omega|refine o7 (fun _=>?_)
  refine again (i+1) ?_ ?_ ?_ y8
  ·omega
  ·omega
  ·rfl
 ·obtain rfl:i=c:=by omega
  have hlt:(((i*n:Nat):Int) < ((b.length:Nat):Int))=False:=eq_false (by omega)
  repeat' first|refine o6 ?_|simp -dsimp -implicitDefEqProofs (disch:=first|assumption|omega|simp only[ll];omega) only[go_sem,hlt]|refine vcJ ?_ ?_<;>intro _|refine vcA ?_ ?_;focus(repeat'(first|omega|assumption|refine vcA ?_ ?_);done)|omega|refine o7 (fun _=>?_)
  exact ad7 _ (Le.refl _) hlen ⟨rfl,rfl⟩
def ao5(s:Sha.St 32)(b:List UInt8)(i:Nat):Sha.St 32:=((chunks 64 b).take i).foldl (fun s c=>ad2.take s (wordsOf 32 c)) s
theorem bD9{s:Sha.St 32}{b:List UInt8}{i:Nat}(h:i < b.length/64):ao5 s b (i+1)=ad2.take (ao5 s b i) (wordsOf 32 ((b.drop (i*64)).take 64)):=by
 have hl:(chunks 64 b).length=b.length/64:=by simp[chunks]
 unfold ao5;rw[aZ1 (by omega),b36]
 simp[chunks]
theorem dz4(x:BitVec 32):IntKind.u32.wrap ((x.toNat:Int)*256)=((x<<<8).toNat:Int):=by
 rw[bs4,bs3];simp[IntKind.wrap,IntKind.signed,IntKind.bits]
theorem dU4(x:BitVec 32)(b:UInt8):IntKind.u32.wrap (((BitVec.ofInt IntKind.u32.bits (x.toNat:Int)|||BitVec.ofInt IntKind.u32.bits (b.toNat:Int)).toNat:Nat):Int)=((x|||BitVec.ofNat 32 b.toNat).toNat:Int):=by
 have:(b.toNat:Int)=((BitVec.ofNat 32 b.toNat).toNat:Int):=by
  rw[aA8,aA7 (by have:=b.toNat_lt;omega)]
 rw[this,u32_or]
theorem cK2{P:Program}{n:Nat}{c:Code}{env:Env}{H B:List AObj}(hB:H.length<=B.length)(hlow: ∀(k:Nat) sh cs,B[k]?=some (.cells sh cs)->H[k]?=some (.cells sh cs)\/ ∀x∈cs,Low B.length x)(h:AW P n c (fun e _ H2=>e=.normal/\ ∃M,H2=B++M) env H):AW P n c (fun e _ H2=>e=.normal/\H2=B) env H:=fun ro N ds G a w s=>by
 refine wpIn_mono (h ro N ds G a w s) fun e a' w' ⟨G',env',H',s',st,he,M,hM⟩=>?_
 subst hM;have hcut:=s'.inv.cut B.length (fun k sh cs hk e=>by
  rw[xq4 hk] at e;rcases hlow k sh cs e with h|h
  ·exact fun x hx=>(cV6 s.inv h x hx).mono hB
  ·exact h)
 rw[aZ2] at hcut;refine⟨G',[],B,⟨s'.size,s'.defers,fun t=>.any _,hcut⟩,?_,he,rfl⟩
 refine⟨st.os,st.tape,st.output,st.size,st.imm,st.cell,st.whole,fun k=>?_⟩
 have o:=st.obj k;rcases am5 k H.length with hk|hk
 ·unfold aK4 at o⊢
  rw[xq4 (by omega)] at o
  exact o
 ·rw[av9 hk] at o⊢
  intro r E e;rcases am5 k B.length with hb|hb
  ·exact o r E (by rw[xq4 hb];exact e)
  ·rw[av9 hb] at e;cases e
theorem bytes4(x:Nat):bytesOf 4 x=[UInt8.ofNat (x/16777216),UInt8.ofNat (x/65536),UInt8.ofNat (x/256),UInt8.ofNat x]:=by
 have:bytesOf 4 x=[UInt8.ofNat (x/256^3),UInt8.ofNat (x/256^2),UInt8.ofNat (x/256^1),UInt8.ofNat (x/256^0)]:=rfl;rw[this];simp
theorem db1(a:List UInt8)(n:Nat):a.map o8++[.lit (.int .u8 (IntKind.u8.wrap (n:Int)))]=(a++[UInt8.ofNat n]).map o8:=by
 rw[c35];simp[o8]
theorem bH5{blk:List UInt8}{j:Nat}(hb:blk.length=64)(h:j < 64):((wordsOf 32 (blk.take j)).map (wAV .u32)).set (j/4) (wAV .u32 ((wordsOf 32 (blk.take j)).getD (j/4) 0<<<8|||BitVec.ofNat 32 (blk.getD j 0).toNat))=(wordsOf 32 (blk.take (j+1))).map (wAV .u32):=by
 have hl:(blk.take j).length=j:=by rw[List.length_take];omega
 have:=bH6 (w:=32) (l:=blk.take j) (b:=blk.getD j 0) (by decide) (by rw[hl];show j < 16*4;omega)
 rw[hl] at this;rw[<-ao7];congr 1
 rw[aZ1 (by omega),show blk[j]'(by omega)=blk.getD j 0 by simp[List.getD,xq1 (show j < blk.length by omega)]]
 exact this.symm
theorem ci4{k:Nat}{s:Sha.St 32}{H:List AObj}{r:Loop}{E:Env}{assign body:Code}(blk:List UInt8)(hkl:k < H.length)(hbl:blk.length=64)(hE:get E 3=.ip (.mp k 0)/\get E 5=.ip (.lit (.int .i64 4)))
  (hr1:r.state=.ready) (hr2:r.pending=none) (hr3:r.params= #[19]) (hr6:r.tmps.size=67) (hr4:r.assign=assign) (hr5:r.body=body)
  (hA:AW Tryz.prog 67 assign (Ex (fun env1 H1=>AW Tryz.prog 67 body (fun e _ H2=>e=.normal/\H2=H.set k (am6 (ad2.take s (wordsOf 32 blk)))++[.loop (busy r) E]) env1 (H1.set H.length (.loop (busy r) E))/\H1[H.length]?=some (.loop r E)) (fun _ _ _=>False)) ((19,.sl .full 1 (blk.map o8))::E) (H.set k (am6 s)++[.loop r E])):
  aV6 Tryz.prog H.length [.sl .full 1 (blk.map o8)] (H.set k (am6 s)++[.loop r E]) (fun x H'=>x=.lit (.bool true)/\H'=H.set k (am6 (ad2.take s (wordsOf 32 blk)))++[.loop r E]):=by
 have hlen: ∀o,(H.set k o).length=H.length:=fun o=>List.length_set
 have hat: ∀o x,(H.set k o++[x])[H.length]?=some x:=fun o x=>by
  rw[xq7 (by rw[hlen];exact xq0 _),hlen,ao8]
  rfl
 have hst: ∀o x y,(H.set k o++[x]).set H.length y=H.set k o++[y]:=fun o x y=>by
  rw[az4 _ _ (by rw[hlen];exact xq0 _),hlen,ao8]
  rfl
 have:=bG2 (P:=Tryz.prog) (k:=H.length) (n:=67) (p:=19) (r:=r) (E:=E) (arg:=.sl .full 1 (blk.map o8)) (H:=H.set k (am6 s)++[.loop r E]) (B:=H.set k (am6 (ad2.take s (wordsOf 32 blk)))++[.loop (busy r) E]) (hat _ _) hr1 hr2 hr3 hr6 (by omega) (by rw[hr4,hr5];exact hA)
 rw[hst] at this;exact this
theorem df3{k:Nat}{s:Sha.St 32}{H:List AObj}(b:List UInt8)(hk:H[k]?=some (am6 s))(hb:b.length=b.length/64*64)(hb2:b.length<=1000000000):
  o9 Tryz.prog 196 [.mp k 0,.sl .sh 1 (b.map o8),.lit (.int .i64 4)] H (fun x H'=>x=.sl .sh 1 (((ao5 s b (b.length/64)).list.flatMap fun x=>bytesOf 4 x.toNat).map o8)/\H'=H.set k (am6 (ao5 s b (b.length/64)))):=by
 have hkl:=y9 hk;refine bG3 aa7 (rs:=[.tmp 6]) (n:=67) Tryz.func196 rfl rfl rfl rfl (nlb rfl) ?_;refine bl0 (aV3 (ai8 aa7 mixed (mu:=[]) _ ?ok ?_));case ok=>kernel_rfl
 repeat' first|refine o6 ?_|simp -dsimp -implicitDefEqProofs (disch:=first|assumption|omega|simp only[ll];omega) only[go_sem]|refine vcJ ?_ ?_<;>intro _|refine vcA ?_ ?_;focus(repeat'(first|omega|assumption|refine vcA ?_ ?_);done)|omega|refine o7 (fun _=>?_)
 refine bl0 ?_;refine bl0 (aV3 (ai8 aa7 mixed (mu:=[]) _ ?ok ?_));case ok=>kernel_rfl
 have hch:=fun H=>cY6 (xs:=b.map o8) (n:=64) (H:=H) (by omega) (by omega)
 repeat' first|refine o6 ?_|simp -dsimp -implicitDefEqProofs (disch:=first|assumption|omega|simp only[ll];omega) only[go_sem]|refine o5 (hch _) ?_|refine vcJ ?_ ?_<;>intro _|refine vcA ?_ ?_;focus(repeat'(first|omega|assumption|refine vcA ?_ ?_);done)|omega|refine o7 (fun _=>?_)
 refine cr4 ?_;refine cr2 rfl Tryz.func201 rfl rfl ?_;intro r hr1 hr2 hr3 hr4 hr5 hr6;have hs0:ao5 s b 0=s:=rfl;have h0:H.set k (am6 (ao5 s b 0))=H:=by rw[hs0];exact bq1 hk
 generalize hE:[(18,AV.fn (.func 201) [] [.ip (.sl .sh 1 (b.map o8)),.ip (.lit (.int .i64 64))]),(17,.int .i64 64),(16,.lit (.int .i64 4)),(15,.sl .sh 1 (b.map o8)),(6,.sl .full 0 []),(5,.ip (.lit (.int .i64 4))),(3,.ip (.mp k 0)),(0,.mp k 0),(1,.sl .sh 1 (b.map o8)),(2,.lit (.int .i64 4))]=E;have hE3:get E 3=.ip (.mp k 0):=by rw[<-hE];rfl
 have hE5:get E 5=.ip (.lit (.int .i64 4)):=by rw[<-hE];rfl
 have hE6:get E 6=.sl .full 0 []:=by rw[<-hE];rfl
 have hC:=cJ5 (k:=H.length) (c:=b.length/64) (n:=64) b (fun i=>H.set k (am6 (ao5 s b i))++[.loop r E]) (by omega) hb hb2 (by simp) (fun i hi=>by
  have hbl:((b.drop (i*64)).take 64).length=64:=by rw[List.length_take,List.length_drop];omega
  rw[bD9 hi];generalize (b.drop (i*64)).take 64=blk at*;generalize ao5 s b i=st at*;refine ci4 blk hkl hbl ⟨hE3,hE5⟩ hr1 hr2 hr3 hr6 hr4 hr5 ?_;have hlen: ∀o,(H.set k o).length=H.length:=fun o=>List.length_set
  have hat: ∀o x,(H.set k o++[x])[H.length]?=some x:=fun o x=>by
   rw[xq7 (by rw[hlen];exact xq0 _),hlen,ao8]
   rfl
  have hst: ∀o x y,(H.set k o++[x]).set H.length y=H.set k o++[y]:=fun o x y=>by
   rw[az4 _ _ (by rw[hlen];exact xq0 _),hlen,ao8]
   rfl
  have hnl: ∀sh cs,AObj.loop (busy r) E≠ .cells sh cs:=fun _ _ h=>by cases h
  generalize AObj.loop (busy r) E=lpb at*;generalize AObj.loop r E=lp at*;subst hE;refine ai8 aa7 mixed (mu:=[]) _ ?ok ?_;case ok=>kernel_rfl
  repeat' first|refine o6 ?_|simp -dsimp -implicitDefEqProofs (disch:=first|assumption|omega|simp only[ll];omega) only[go_sem]|refine vcJ ?_ ?_<;>intro _|refine vcA ?_ ?_;focus(repeat'(first|omega|assumption|refine vcA ?_ ?_);done)|omega|refine o7 (fun _=>?_)
  all_goals first|exact hat _ _|rw[hst]|skip
  refine cK2 (by simp) (fun j sh cs e=>?_) (ai8 aa7 mixed (mu:=[1000007]) _ ?ok ?_)
  case ok=>kernel_rfl
  ·rcases am5 j H.length with hj|hj
   ·by_cases hjk:j=k
    ·subst hjk
     rw[xq4 (by rw[hlen];exact hj),ay5 hj] at e
     exact .inr (bB6 sh cs (Option.some.inj e))
    ·rw[xq4 (by rw[hlen];exact hj),ar5 (Ne.symm hjk)] at e
     exact .inl (by rw[xq4 (by rw[hlen];exact hj),ar5 (Ne.symm hjk)];exact e)
   ·rw[xq7 (by rw[hlen];exact hj),hlen] at e
    cases hn:j - H.length with
    |zero=>rw[hn] at e;exact absurd (Option.some.inj e) (hnl _ _)
    |succ n=>rw[hn] at e;cases e
  repeat' first|refine o6 ?_|simp -dsimp -implicitDefEqProofs (disch:=first|assumption|omega|simp only[ll];omega) only[go_sem]|refine vcJ ?_ ?_<;>intro _|refine vcA ?_ ?_;focus(repeat'(first|omega|assumption|refine vcA ?_ ?_);done)|omega|refine o7 (fun _=>?_)
  refine aa5 aa7 mixed [1000007] [3,5,8,20,21] (fun j:Nat=>j<=64) (fun j=>[(22,.lit (.int .i64 j))]) (fun j=>H.set k (am6 st)++[lpb,.cells (.one 247) ((wordsOf 32 (blk.take j)).map (wAV .u32))]) (fun j=>64 - j) (by kernel_rfl) ?_ 0 (by omega) y8 (by rw[ag5,bT4,aS6];rfl)
  intro j hj;have hwl:=bs8 32 (blk.take j);by_cases hjl:j < 64
  ·have hws:=bH5 hbl hjl
   have hjc:((j:Int) < 64)=True:=eq_true (by omega)
   have z1:((j:Int)/4).toNat=j/4:=by omega
   have hgw:=ac1 (K:=.u32) (m:=wordsOf 32 (blk.take j)) (i:=j/4) (by omega)
   repeat' first|refine o6 ?_|simp -dsimp -implicitDefEqProofs (disch:=first|assumption|omega|simp only[ll];omega) only[go_sem,hjc,hbl,z1,hwl,hgw,dz4,dU4,hws]|refine vcJ ?_ ?_<;>intro _|refine vcA ?_ ?_;focus(repeat'(first|omega|assumption|refine vcA ?_ ?_);done)|omega|refine o7 (fun _=>?_)
   refine again (j+1) ?_ ?_ ?_ y8
   ·omega
   ·omega
   ·rfl
  ·obtain rfl:j=64:=by omega
   rw[ak5 (by omega)] at hwl⊢
   repeat' first|refine o6 ?_|simp -dsimp -implicitDefEqProofs (disch:=first|assumption|omega|simp only[ll];omega) only[go_sem,hbl,hwl,bj7 hkl,bA8 hkl]|refine o5 (cy2 (s:=st) (wordsOf 32 blk) (bj7 hkl) hwl) ?_|refine vcJ ?_ ?_<;>intro _|refine vcA ?_ ?_;focus(repeat'(first|omega|assumption|refine vcA ?_ ?_);done)|omega|refine o7 (fun _=>?_)
   exact⟨[.cells (.one 247) ((wordsOf 32 blk).map (wAV .u32))],by simp⟩)
 rw[h0] at hC;refine hC.mono fun x H' ⟨_,hH⟩=>⟨H.set k (am6 (ao5 s b (b.length/64))),[],hH,by simp,fun j sh cs e=>?_,?_⟩
 ·by_cases hjk:j=k
  ·subst hjk
   rw[ay5 hkl] at e;exact .inr (bB6 sh cs (Option.some.inj e))
  ·rw[ar5 (Ne.symm hjk)] at e
   exact .inl e
 ·rw[bL3,bL9]
  clear hC h0 hs0 hE3 hE5 hE6;subst hE;generalize ao5 s b (b.length/64)=st at*;have hro:am6 st=.cells (.one 224) (st.list.map (wAV .u32)++ao2):=bv9 st;have hlw:=fun(m:Nat)=>bB6 (m:=m) (s:=st)
  rw[hro] at hlw⊢;have hsl:st.list.length=8:=rfl;generalize st.list=hl at*;have ht8:(hl.map (wAV .u32)++ao2).take 8=hl.map (wAV .u32):=cu2 (by rw[List.length_map];exact hsl)
  have hat0:(H.set k (.cells (.one 224) (hl.map (wAV .u32)++ao2)))[k]?=some (.cells (.one 224) (hl.map (wAV .u32)++ao2)):=ay5 hkl;have hlen: ∀o,(H.set k o).length=H.length:=fun o=>List.length_set
  generalize hq:(hl.map (wAV .u32)++ao2)=qs at*;have hql:8<=qs.length:=by rw[<-hq,List.length_append,List.length_map];omega
  refine aV3 (ai8 aa7 mixed (mu:=[]) _ ?ok ?_);case ok=>kernel_rfl
  repeat' first|refine o6 ?_|simp -dsimp -implicitDefEqProofs (disch:=first|assumption|omega|simp only[ll];omega) only[go_sem,hat0,ht8,hql]|refine vcJ ?_ ?_<;>intro _|refine vcA ?_ ?_;focus(repeat'(first|omega|assumption|refine vcA ?_ ?_);done)|omega|refine o7 (fun _=>?_)
  refine by7 11 1 rfl (by decide) (fun h=>absurd rfl h) ?_
  rw[List.length_set];refine aa5 aa7 mixed [] [5,6] (fun i:Nat=>i<=8) (fun i=>[(47,.agg (hl.map (wAV .u32))),(48,.lit (.int .i64 i)),(11,.sl (.tok H.length) 1 (((hl.take i).flatMap fun x=>bytesOf 4 x.toNat).map o8))]) (fun i=>H.set k (.cells (.one 224) qs)++[.grow 1 (4*i) none]) (fun i=>8 - i) (by kernel_rfl) ?_ 0 (by omega) y8 rfl
  intro i hi;have hfl: ∀l:List (BitVec 32),(l.flatMap fun x=>bytesOf 4 x.toNat).length=4*l.length:=fun l=>by
   induction l with
   |nil=>rfl
   |cons x r ih=>rw[bO1,List.length_append,ih,bu2,List.length_cons];omega
  by_cases hi8:i < 8
  ·have hic:((i:Int) < 8)=True:=eq_true (by omega)
   have hgx:=ac1 (K:=.u32) (m:=hl) (i:=i) (by omega)
   have hnx:(hl.take (i+1)).flatMap (fun x=>bytesOf 4 x.toNat)=(hl.take i).flatMap (fun x=>bytesOf 4 x.toNat)++bytesOf 4 (hl.getD i 0).toNat:=by
    rw[aZ1 (by omega),b35,List.getD,xq1 (by omega)]
    simp
   have hol:=hfl (hl.take i);rw[List.length_take,bl4 (by omega)] at hol
   rw[bytes4] at hnx;generalize (hl.take i).flatMap (fun x=>bytesOf 4 x.toNat)=out at*
   generalize hl.getD i 0=x at*;obtain⟨g,g0,g1,g2,g3,g4,gl⟩: ∃g:Nat->List UInt8,out=g 0/\g 0++[UInt8.ofNat (x.toNat/16777216)]=g 1/\g 1++[UInt8.ofNat (x.toNat/65536)]=g 2/\g 2++[UInt8.ofNat (x.toNat/256)]=g 3/\g 3++[UInt8.ofNat x.toNat]=g 4/\ ∀q,q<=4->(g q).length=4*i+q:=
    ⟨fun q=>out++[UInt8.ofNat (x.toNat/16777216),UInt8.ofNat (x.toNat/65536),UInt8.ofNat (x.toNat/256),UInt8.ofNat x.toNat].take q,by simp,by simp,by simp,by simp,by simp,fun q hq=>by rw[List.length_append,List.length_take,hol];simp only[List.length_cons,List.length_nil];omega⟩
   have hnx4:(hl.take (i+1)).flatMap (fun x=>bytesOf 4 x.toNat)=g 4:=by
    rw[hnx,g0,<-g4,<-g3,<-g2,<-g1];simp
   clear hnx;subst g0;repeat' first|refine o6 ?_|simp -dsimp -implicitDefEqProofs (disch:=first|assumption|omega|simp only[ll];omega) only[go_sem,hic,hgx,hsl]|refine vcJ ?_ ?_<;>intro _|refine vcA ?_ ?_;focus(repeat'(first|omega|assumption|refine vcA ?_ ?_);done)|omega|refine o7 (fun _=>?_)
   refine aa5 aa7 mixed [] [5,6,13,47,48] (fun q:Nat=>q<=4) (fun q=>[(14,.lit (.int .i64 (3 - (q:Int)))),(11,.sl (.tok H.length) 1 ((g q).map o8))]) (fun q=>H.set k (.cells (.one 224) qs)++[.grow 1 (4*i+q) none]) (fun q=>4 - q) (by kernel_rfl) ?_ 0 (by omega) y8 rfl
   intro q hq4;have hmB:=fun a n=>db1 a n
   have hmB0: ∀a:List UInt8,a.map o8++[.lit (.int .u8 ((x.toNat/16777216:Nat):Int))]=(a++[UInt8.ofNat (x.toNat/16777216)]).map o8:=fun a=>by
    rw[<-db1,IntWalk.u8_in _ (by have:=x.isLt;omega)]
   have hgq:=gl q hq4;have p24:(x.toNat:Int).fdiv 16777216=((x.toNat/16777216:Nat):Int):=an0 (by decide)
   have p16:(x.toNat:Int).fdiv 65536=((x.toNat/65536:Nat):Int):=an0 (by decide)
   have p8:(x.toNat:Int).fdiv 256=((x.toNat/256:Nat):Int):=an0 (by decide)
   rcases(by omega:q=0\/q=1\/q=2\/q=3\/q=4) with rfl|rfl|rfl|rfl|rfl
   ·repeat' first|refine o6 ?_|simp -dsimp -implicitDefEqProofs (disch:=first|assumption|omega|simp only[ll];omega) only[go_sem,hmB,hmB0,g1,hgq]|refine vcJ ?_ ?_<;>intro _|refine vcA ?_ ?_;focus(repeat'(first|omega|assumption|refine vcA ?_ ?_);done)|omega|refine o7 (fun _=>?_)
    refine again (1) ?_ ?_ ?_ y8
    ·omega
    ·omega
    ·rfl
   ·repeat' first|refine o6 ?_|simp -dsimp -implicitDefEqProofs (disch:=first|assumption|omega|simp only[ll];omega) only[go_sem,hmB,hmB0,g2,hgq]|refine vcJ ?_ ?_<;>intro _|refine vcA ?_ ?_;focus(repeat'(first|omega|assumption|refine vcA ?_ ?_);done)|omega|refine o7 (fun _=>?_)
    refine again (2) ?_ ?_ ?_ y8
    ·omega
    ·omega
    ·rfl
   ·repeat' first|refine o6 ?_|simp -dsimp -implicitDefEqProofs (disch:=first|assumption|omega|simp only[ll];omega) only[go_sem,hmB,hmB0,g3,hgq]|refine vcJ ?_ ?_<;>intro _|refine vcA ?_ ?_;focus(repeat'(first|omega|assumption|refine vcA ?_ ?_);done)|omega|refine o7 (fun _=>?_)
    refine again (3) ?_ ?_ ?_ y8
    ·omega
    ·omega
    ·rfl
   ·repeat' first|refine o6 ?_|simp -dsimp -implicitDefEqProofs (disch:=first|assumption|omega|simp only[ll];omega) only[go_sem,hmB,hmB0,g4,hgq,Nat.div_one]|refine vcJ ?_ ?_<;>intro _|refine vcA ?_ ?_;focus(repeat'(first|omega|assumption|refine vcA ?_ ?_);done)|omega|refine o7 (fun _=>?_)
    refine again (4) ?_ ?_ ?_ y8
    ·omega
    ·omega
    ·rfl
   ·repeat' first|refine o6 ?_|simp -dsimp -implicitDefEqProofs (disch:=first|assumption|omega|simp only[ll];omega) only[go_sem]|refine vcJ ?_ ?_<;>intro _|refine vcA ?_ ?_;focus(repeat'(first|omega|assumption|refine vcA ?_ ?_);done)|omega|refine o7 (fun _=>?_)
    rw[<-hnx4];refine again (i+1) ?_ ?_ ?_ y8
    ·omega
    ·omega
    ·rfl
  ·obtain rfl:i=8:=by omega
   have htk:hl.take 8=hl:=ak5 (by omega)
   rw[htk];repeat' first|refine o6 ?_|simp -dsimp -implicitDefEqProofs (disch:=first|assumption|omega|simp only[ll];omega) only[go_sem]|refine vcJ ?_ ?_<;>intro _|refine vcA ?_ ?_;focus(repeat'(first|omega|assumption|refine vcA ?_ ?_);done)|omega|refine o7 (fun _=>?_)
   exact bE7 (.sl .sh 1 ((hl.flatMap fun x=>bytesOf 4 x.toNat).map o8)) aC5 (ae4) (hlw _) ⟨rfl,rfl⟩
def bu3(i:Nat):List (BitVec 32):=(List.range 8).map fun j=>if j < i then hOf 32 j else 0
theorem cJ8(i:Nat):(bu3 i).length=8:=by simp[bu3]
theorem dO5{i:Nat}(h:i < 8):(bu3 i).set i (hOf 32 i)=bu3 (i+1):=by
 have hg: ∀i j,(bu3 i)[j]?=if j < 8 then some (if j < i then hOf 32 j else 0) else none:=fun i j=>by
  unfold bu3;rw[ak6];by_cases h1:j < 8
  ·rw[aM3 h1,if_pos h1]
   rfl
  ·rw[av9 (by simp;omega),if_neg h1]
   rfl
 apply aV9
 intro j;rw[aZ4,hg,hg,cJ8];by_cases h1:j < 8
 ·rw[if_pos h1,if_pos h1]
  split
  ·rename_i e
   subst e;rw[if_pos (by omega)]
  ·rename_i e
   by_cases h3:j < i
   ·rw[if_pos h3,if_pos (by omega)]
   ·rw[if_neg h3,if_neg (by omega)]
 ·rw[if_neg h1,if_neg h1,if_neg (by omega)]
theorem d29(i:Nat):IntKind.u32.wrap ((ba6.getD i 0/4294967296:Nat):Int)=((hOf 32 i).toNat:Int):=by
 have h1:hOf 32 i=BitVec.ofNat 32 (ba6.getD i 0/4294967296):=rfl;rw[h1,aA8];simp[IntKind.wrap,IntKind.signed,IntKind.bits]
theorem bW6(b:List UInt8):(ao5 (aD3 32) (padded 32 b) ((padded 32 b).length/64)).list.flatMap (fun x=>bytesOf 4 x.toNat)=sum256 b:=by
 have hl:(chunks 64 (padded 32 b)).length=(padded 32 b).length/64:=by simp[chunks]
 unfold ao5;rw[<-hl,aZ6];rfl
theorem bB9(b:List UInt8):(padded 32 b).length=an2 32 b.length:=by
 have:=bC0 (w:=32) (b:=b) (t:=8*b.length) (.inl rfl);rw[bC1] at this
 ·exact this
 ·exact b42 (Nat.lt_pow_self (by decide))
theorem aq5{m:Nat}{l:List UInt8}:Low m (.agg (l.map o8)):=.agg _ fun x hx=>by
 obtain⟨c,_,rfl⟩:=xq9.1 hx;exact .lit _
theorem dy1{o o2:Own}(l:List UInt8)(H:List AObj)(hl:l.length<=1000000):o9 Tryz.prog 114 [.sl o 1 [.sl o2 1 (l.map o8)],.sl .full 0 []] H (fun y H'=>y=.sl .sh 1 (l.map o8)/\H'=H):=by
 refine y7 [] [.tmp 4] 92 Tryz.func114 rfl rfl rfl rfl (nlb rfl) (by kernel_rfl) ?_
 repeat' first|refine o6 ?_|simp -dsimp -implicitDefEqProofs (disch:=first|assumption|omega|simp only[ll];omega) only[go_sem]|refine vcJ ?_ ?_<;>intro _|refine vcA ?_ ?_;focus(repeat'(first|omega|assumption|refine vcA ?_ ?_);done)|omega|refine o7 (fun _=>?_)
 all_goals exact aa3 (.sl .sh 1 (l.map o8)) aC5 ae4 ⟨rfl,rfl⟩
theorem dP7{o o2:Own}(l:List UInt8)(H:List AObj)(hl:l.length<=1000000):o9 Tryz.prog 142 [.sl o 1 [.sl o2 1 (l.map o8)]] H (fun y H'=>y=.agg ((sum256 l).map o8)/\H'=H):=by
 have hJ:=fun H=>dy1 (o:=o) (o2:=o2) l H hl
 have hP:=fun H=>bY0 (o:=.sh) l H (by omega)
 have hpl:=aJ0 (w:=32) (n:=l.length) (.inl rfl);have hpd:=bB9 l;have hp64:(padded 32 l).length=(padded 32 l).length/64*64:=by
  rw[hpd];unfold an2;omega
 have hS:=bW6 l;have hsl:=bA3 l;generalize padded 32 l=pd at*;have hr: ∀H:List AObj,∀o1 o2:AObj,(H++[o1,o2])[H.length+1]?=some o2:=fun H o1 o2=>by
  rw[xq7 (by omega),aI1]
  rfl
 have hA:=fun(o1:AObj)=>df3 (k:=H.length+1) (s:=aD3 32) (H:=H++[o1,.cells (.one 224) ((bu3 8).map (wAV .u32)++ao2)]) pd (by rw[hr];rfl) hp64 (by omega)
 rw[hS] at hA;have hset: ∀(H:List AObj) (o1 o2 x:AObj),(H++[o1,o2]).set (H.length+1) x=H++[o1,x]:=fun H o1 o2 x=>by
  rw[az4 _ _ (by omega),aI1]
  rfl
 have hft:(aa0 ((sum256 l).map o8)).take 32=(sum256 l).map o8:=by
  rw[al9 o8 (fun _=>rfl),ak5 (by rw[List.length_map];omega)]
 have hat:af0 (List.replicate 32 (AV.lit (.int .u8 0))) 0 ((sum256 l).map o8)=(sum256 l).map o8:=by
  rw[aA6 _ _ _ (by simp;omega)]
  simp[hsl]
 have htk:((sum256 l).map o8).take 32=(sum256 l).map o8:=ak5 (by rw[List.length_map];omega)
 generalize sum256 l=sm at*;generalize ao5 (aD3 32) pd (pd.length/64)=fs at*;refine y7 [7] [.cell 2 28] 29 Tryz.func142 rfl rfl rfl rfl (nlb rfl) (by kernel_rfl) ?_
 repeat' first|refine o6 ?_|simp -dsimp -implicitDefEqProofs (disch:=first|assumption|omega|simp only[ll];omega) only[go_sem]|refine vcJ ?_ ?_<;>intro _|refine vcA ?_ ?_;focus(repeat'(first|omega|assumption|refine vcA ?_ ?_);done)|omega|refine o7 (fun _=>?_)
 refine aa5 aa7 mixed [7] [0,2,3,8] (fun i:Nat=>i<=8) (fun i=>[(9,.lit (.int .i64 i))]) (fun i=>H++[.cells (.one 28) (List.replicate 32 (.lit (.int .u8 0))),.cells (.one 224) ((bu3 i).map (wAV .u32)++ao2)]) (fun i=>8 - i) (by kernel_rfl) ?_ 0 (by omega) y8 rfl
 intro i hi;have hbl:=cJ8 i;by_cases h:i < 8
 ·have hic:((i:Int) < 8)=True:=eq_true (by omega)
  have hms:=dO5 h;have ho:=d29 i;have hs1: ∀x,((bu3 i).map (wAV .u32)++ao2).set i (wAV .u32 x)=((bu3 i).set i x).map (wAV .u32)++ao2:=fun x=>by
   rw[bs5 _ _ (by rw[List.length_map];omega),ao7]
  repeat' first|refine o6 ?_|simp -dsimp -implicitDefEqProofs (disch:=first|assumption|omega|simp only[ll];omega) only[go_sem,hic,ho,hs1,hms,hbl]|refine vcJ ?_ ?_<;>intro _|refine vcA ?_ ?_;focus(repeat'(first|omega|assumption|refine vcA ?_ ?_);done)|omega|refine o7 (fun _=>?_)
  refine again (i+1) ?_ ?_ ?_ y8
  ·omega
  ·omega
  ·rfl
 ·obtain rfl:i=8:=by omega
  have hal:(sm.map o8).all AV.scalar=true:=xq6.2 (a19 fun _=>rfl)
  repeat' first|refine o6 ?_|simp -dsimp -implicitDefEqProofs (disch:=first|assumption|omega|simp only[ll];omega) only[go_sem,hset,hft,hat,htk,hsl,hal]|refine o5 (hJ _) ?_|refine o5 (hP _) ?_|refine o5 (hA _) ?_|refine vcJ ?_ ?_<;>intro _|refine vcA ?_ ?_;focus(repeat'(first|omega|assumption|refine vcA ?_ ?_);done)|omega|refine o7 (fun _=>?_)
  exact aa3 _ (Le.refl _) aq5 ⟨rfl,rfl⟩
end
section
def ba5(b:List UInt8)(k:Nat):Nat:=(b.getD (k/8) 0).toNat/2^(7 - k%8)%2
def bP9(b:List UInt8)(k:Nat):Nat->Nat
 |0=>0
 |t+1=>2*bP9 b k t+ba5 b (k+t)
def aR7(b:List UInt8)(j:Nat):Nat:=bP9 b (6*j) 6
def ae7(letters b:List UInt8):List UInt8:=(List.range ((8*b.length+5)/6)).map fun j=>letters.getD (aR7 b j) 0
theorem aB4(letters b:List UInt8):(ae7 letters b).length=(8*b.length+5)/6:=by simp[ae7]
theorem ao6(b:List UInt8){k q r:Nat}(h:k=8*q+r)(hr:r < 8):ba5 b k=(b.getD q 0).toNat/2^(7 - r)%2:=by
 unfold ba5;rw[show k/8=q by omega,show k%8=r by omega]
theorem eb8(b:List UInt8)(q:Nat):aR7 b (4*q)=(b.getD (3*q) 0).toNat/4:=by
 simp only[aR7,bP9];rw[ao6 b (q:=3*q) (r:=0) (by omega) (by omega),ao6 b (q:=3*q) (r:=1) (by omega) (by omega),ao6 b (q:=3*q) (r:=2) (by omega) (by omega),ao6 b (q:=3*q) (r:=3) (by omega) (by omega),ao6 b (q:=3*q) (r:=4) (by omega) (by omega),ao6 b (q:=3*q) (r:=5) (by omega) (by omega)]
 have:=(b.getD (3*q) 0).toNat_lt;generalize (b.getD (3*q) 0).toNat=x at*;simp only[Nat.reduceSub,Nat.reducePow];omega
theorem eb7(b:List UInt8)(q:Nat):aR7 b (4*q+1)=(b.getD (3*q) 0).toNat%4*16+(b.getD (3*q+1) 0).toNat/16:=by
 simp only[aR7,bP9];rw[ao6 b (q:=3*q) (r:=6) (by omega) (by omega),ao6 b (q:=3*q) (r:=7) (by omega) (by omega),ao6 b (q:=3*q+1) (r:=0) (by omega) (by omega),ao6 b (q:=3*q+1) (r:=1) (by omega) (by omega),ao6 b (q:=3*q+1) (r:=2) (by omega) (by omega),ao6 b (q:=3*q+1) (r:=3) (by omega) (by omega)]
 have:=(b.getD (3*q) 0).toNat_lt;have:=(b.getD (3*q+1) 0).toNat_lt;generalize (b.getD (3*q) 0).toNat=x at*;generalize (b.getD (3*q+1) 0).toNat=y at*;simp only[Nat.reduceSub,Nat.reducePow];omega
theorem eb6(b:List UInt8)(q:Nat):aR7 b (4*q+2)=(b.getD (3*q+1) 0).toNat%16*4+(b.getD (3*q+2) 0).toNat/64:=by
 simp only[aR7,bP9];rw[ao6 b (q:=3*q+1) (r:=4) (by omega) (by omega),ao6 b (q:=3*q+1) (r:=5) (by omega) (by omega),ao6 b (q:=3*q+1) (r:=6) (by omega) (by omega),ao6 b (q:=3*q+1) (r:=7) (by omega) (by omega),ao6 b (q:=3*q+2) (r:=0) (by omega) (by omega),ao6 b (q:=3*q+2) (r:=1) (by omega) (by omega)]
 have:=(b.getD (3*q+1) 0).toNat_lt;have:=(b.getD (3*q+2) 0).toNat_lt;generalize (b.getD (3*q+1) 0).toNat=x at*;generalize (b.getD (3*q+2) 0).toNat=y at*;simp only[Nat.reduceSub,Nat.reducePow];omega
theorem eb5(b:List UInt8)(q:Nat):aR7 b (4*q+3)=(b.getD (3*q+2) 0).toNat%64:=by
 simp only[aR7,bP9];rw[ao6 b (q:=3*q+2) (r:=2) (by omega) (by omega),ao6 b (q:=3*q+2) (r:=3) (by omega) (by omega),ao6 b (q:=3*q+2) (r:=4) (by omega) (by omega),ao6 b (q:=3*q+2) (r:=5) (by omega) (by omega),ao6 b (q:=3*q+2) (r:=6) (by omega) (by omega),ao6 b (q:=3*q+2) (r:=7) (by omega) (by omega)]
 have:=(b.getD (3*q+2) 0).toNat_lt;generalize (b.getD (3*q+2) 0).toNat=x at*;simp only[Nat.reduceSub,Nat.reducePow];omega
theorem c68(b:List UInt8)(q i:Nat)(hi:i < 4):aR7 b (4*q+i)=((b.getD (3*q) 0).toNat*65536+(b.getD (3*q+1) 0).toNat*256+(b.getD (3*q+2) 0).toNat)/2^(18 - 6*i)%64:=by
 have h0:=eb8 b q;have h1:=eb7 b q;have h2:=eb6 b q;have h3:=eb5 b q;have:=(b.getD (3*q) 0).toNat_lt;have:=(b.getD (3*q+1) 0).toNat_lt;have:=(b.getD (3*q+2) 0).toNat_lt;generalize (b.getD (3*q) 0).toNat=x at*;generalize (b.getD (3*q+1) 0).toNat=y at*;generalize (b.getD (3*q+2) 0).toNat=z at*;match i,hi with
 |0,_=>rw[av1,h0];simp only[Nat.reduceSub,Nat.reducePow,Nat.reduceMul];omega
 |1,_=>rw[h1];simp only[Nat.reduceSub,Nat.reducePow,Nat.reduceMul];omega
 |2,_=>rw[h2];simp only[Nat.reduceSub,Nat.reducePow,Nat.reduceMul];omega
 |3,_=>rw[h3];simp only[Nat.reduceSub,Nat.reducePow,Nat.reduceMul];omega
end
section
open Go V
end
section
open Go V
end
section
open Go V
theorem dH5{m:Nat}{x:AV}(h:Low m x:=by(first|(first|exact .lit _|exact .str _|exact .any|exact ae4|exact ag3|exact .mp _ _ (by omega)|exact .msl _ _ _ _ (by omega)|exact ae6 (fun k e=>by cases e)|exact ad4 _|exact ai5|exact ai4|exact al2|exact al1 _)|(refine ag8 ?_;repeat(first|exact ab6|(refine aa2 ?_ ?_;focus(first|exact .lit _|exact .str _|exact .any|exact ae4|exact ag3|exact .mp _ _ (by omega)|exact .msl _ _ _ _ (by omega)|exact ae6 (fun k e=>by cases e)|exact ad4 _|exact ai5|exact ai4|exact al2|exact al1 _))))|(refine ay0 ?_;repeat(first|exact ab6|(refine aa2 ?_ ?_;focus(first|exact .lit _|exact .str _|exact .any|exact ae4|exact ag3|exact .mp _ _ (by omega)|exact .msl _ _ _ _ (by omega)|exact ae6 (fun k e=>by cases e)|exact ad4 _|exact ai5|exact ai4|exact al2|exact al1 _)))))):Low m x:=h
def bC9(f:JV->Nat)(l:List JV)(i:Nat):Nat:=((l.take i).map f).foldl max 0
theorem db0{f:JV->Nat}{l:List JV}{i:Nat}(h:i < l.length):bC9 f l (i+1)=max (bC9 f l i) (f (l.getD i aa4)):=by
 unfold bC9;rw[b40,xq1 h,List.getD,xq1 h,b46,b36];rfl
theorem do4{f:JV->Nat}{l:List JV}:bC9 f l l.length=(l.map f).foldl max 0:=by unfold bC9;rw[aZ6]
theorem aY2{m:Nat}: ∀(l:List Nat) (a:Nat),a<=m->(∀x∈l,x<=m)->l.foldl max a<=m
 |[],a,h,_=>h
 |b::l,a,h,k=>aY2 l (max a b) (Nat.max_le.2 ⟨h,k b (ax1 ..)⟩) fun x hx=>k x (aC8 _ hx)
theorem cJ2: ∀(d:Nat) (v:JV),ak3 d v<=d
 |0,v=>by simp[ak3]
 |d+1,v=>by
  rw[ak3];split
  ·have:=aY2 (m:=d) (v.items.map (ak3 d)) 0 (aL0 _) fun x hx=>by
    obtain⟨y,_,rfl⟩:=xq9.1 hx;exact cJ2 d y
   omega
  ·omega
theorem dH3(d:Nat)(l:List JV)(i:Nat):bC9 (ak3 d) l i<=d:=aY2 _ _ (aL0 _) fun x hx=>by
 obtain⟨y,_,rfl⟩:=xq9.1 hx;exact cJ2 d y
theorem ek5: ∀(d:Nat) (v:JV) (w:Int) (H:List AObj),w=(d:Int)->d<=13->aa1 v<=40000->o9 Tryz.prog 137 [jAV v,.lit (.int .i64 w)] H (fun x H'=>x=.int .i64 (ak3 d v:Nat)/\H'=H):=by
 intro d;induction d with
 |zero=>
  intro v w H hw hd hs;subst hw;refine y7 [] [.tmp 4] 36 Tryz.func137 rfl rfl rfl rfl (nlb rfl) (by kernel_rfl) ?_
  repeat' first|refine o6 ?_|simp -dsimp -implicitDefEqProofs (disch:=first|assumption|omega|simp only[ll];omega) only[go_sem]|refine vcJ ?_ ?_<;>intro _|refine vcA ?_ ?_;focus(repeat'(first|omega|assumption|refine vcA ?_ ?_);done)|omega|refine o7 (fun _=>?_)
  exact y5 ⟨rfl,rfl⟩
 |succ d ih=>
  intro v w H hw hd hs;subst hw;have h2:=aI3 v;have h3: ∀i,i < v.items.length->aa1 (v.items.getD i aa4)<=40000:=fun i hi=>by have:=aM8 (v:=v) (aw5 (d:=aa4) hi);omega
  refine y7 [] [.tmp 4] 36 Tryz.func137 rfl rfl rfl rfl (nlb rfl) (by kernel_rfl) ?_
  repeat' first|refine o6 ?_|simp -dsimp -implicitDefEqProofs (disch:=first|assumption|omega|simp only[ll];omega) only[go_sem]|refine vcJ ?_ ?_<;>intro _|refine vcA ?_ ?_;focus(repeat'(first|omega|assumption|refine vcA ?_ ?_);done)|omega|refine o7 (fun _=>?_)
  ·rename_i h4 h5 h6
   exact y5 ⟨by rw[ak3,if_neg (by omega)];rfl,rfl⟩
  all_goals
   have hk:v.kind=5\/v.kind=6:=by omega
   refine aa5 aa7 mixed [] [1,4,21,22] (fun i:Nat=>i<=v.items.length) (fun i=>[(23,.int .i64 i),(5,.int .i64 (bC9 (ak3 d) v.items i:Nat))]) (fun _=>H) (fun i=>v.items.length - i) (by kernel_rfl) ?_ 0 (by omega) y8 rfl
   rintro i hi
   have h4:=h3 i;have h5:=dH3 d v.items i;have h6:= @db0 (ak3 d) v.items i;repeat' first|refine o6 ?_|simp -dsimp -implicitDefEqProofs (disch:=first|assumption|omega|simp only[ll];omega) only[go_sem]|refine o5 (ih _ _ _ (by omega) (by omega) (h4 (by omega))) ?_|refine vcJ ?_ ?_<;>intro _|refine vcA ?_ ?_;focus(repeat'(first|omega|assumption|refine vcA ?_ ?_);done)|omega|refine o7 (fun _=>?_)
   ·have h7:=h6 (by omega)
    refine aV4 (i+1) ?_ ?_ (by repeat(first|exact af9|(refine af1 ?_ ?_;focus exact dH5))) y8
    ·omega
    ·omega
   ·obtain rfl:i=v.items.length:=by omega
    refine y5 ⟨int_eq ?_,rfl⟩;rw[ak3,if_pos hk,<-do4];omega
theorem bZ2{v:JV}{s:bytes}(hk:v.kind=6):(aX9 v.names s < 0->ad3 v s=none)/\(0<=aX9 v.names s->(v.items.length:Int)<=aX9 v.names s->ad3 v s=none)/\(0<=aX9 v.names s->aX9 v.names s < (v.items.length:Int)->ad3 v s=some (v.items.getD (aX9 v.names s).toNat aa4)):=by
 unfold ad3 aX9;rw[if_pos hk];cases h:v.names.findIdx? (fun n=>n==s) with
 |none=>exact⟨fun _=>rfl,fun h=>absurd h (by decide),fun h=>absurd h (by decide)⟩
 |some i=>
  refine⟨fun h=>absurd h (by simp only;omega),fun _ h=>?_,fun _ h=>?_⟩
  ·simp only at h⊢
   exact av9 (by omega)
  ·simp only at h⊢
   rw[Int.toNat_natCast,List.getD,xq1 (by omega)]
   rfl
def aL7(v:JV)(s:bytes):AV:=.tup [jAV ((ad3 v s).getD aa4),.bool (ad3 v s).isSome]
theorem be1(v:JV)(s:bytes)(H:List AObj)(h1:v.names.length<=100000)(h2:v.items.length<=100000):o9 Tryz.prog 28 [jAV v,.str s] H (fun x H'=>x=aL7 v s/\H'=H):=by
 refine y7 [] [.cell 4 25,.tmp 5] 30 Tryz.func28 rfl rfl rfl rfl (nlb rfl) (by kernel_rfl) ?_
 repeat' first|refine o6 ?_|simp -dsimp -implicitDefEqProofs (disch:=first|assumption|omega|simp only[ll];omega) only[go_sem]|refine o5 (cY5 v.names s _ (by omega)) ?_|refine vcJ ?_ ?_<;>intro _|refine vcA ?_ ?_;focus(repeat'(first|omega|assumption|refine vcA ?_ ?_);done)|omega|refine o7 (fun _=>?_)
 ·rename_i h3
  refine aa3 (.tup [jAV aa4,.bool false]) (aH4 (.cons bR4 (.cons (Le.refl _) .nil))) (ag8 (aa2 (ad4 _) (aa2 (.lit _) ab6))) ⟨?_,rfl⟩;rw[aL7,ad3,if_neg h3];rfl
 ·rename_i h3 h4
  refine aa3 (.tup [jAV aa4,.bool false]) (aH4 (.cons bR4 (.cons (Le.refl _) .nil))) (ag8 (aa2 (ad4 _) (aa2 (.lit _) ab6))) ⟨?_,rfl⟩;rw[aL7,(bZ2 h3).1 h4];rfl
 ·rename_i h3 h4 h5
  refine aa3 (.tup [jAV aa4,.bool false]) (aH4 (.cons bR4 (.cons (Le.refl _) .nil))) (ag8 (aa2 (ad4 _) (aa2 (.lit _) ab6))) ⟨?_,rfl⟩;rw[aL7,(bZ2 h3).2.1 h4 h5];rfl
 ·rename_i h3 h4 h5
  refine aa3 _ (Le.refl _) (ag8 (aa2 (ad4 _) (aa2 (.lit _) ab6))) ⟨?_,rfl⟩;rw[aL7,(bZ2 h3).2.2 h4 h5];rfl
open Classical in
theorem d49: ∀(v w:JV) (H:List AObj),aa1 v<=40000->o9 Tryz.prog 65 [jAV v,jAV w] H (fun x H'=>x=.bool (decide (v=w))/\H'=H):=by
 refine JV.induct fun k n t ns is ih w H hs=>?_
 obtain⟨k',n',t',ns',is'⟩:=w;have h1:=aO6 (.mk k n t ns is);have h2:=aI3 (.mk k n t ns is);have h3: ∀x∈is,aa1 x<=40000:=fun x hx=>by have:=aM8 (v:=.mk k n t ns is) hx;omega
 refine y7 [] [.tmp 4] 38 Tryz.func65 rfl rfl rfl rfl (nlb rfl) (by kernel_rfl) ?_
 repeat' first|refine o6 ?_|simp -dsimp -implicitDefEqProofs (disch:=first|assumption|omega|simp only[ll];omega) only[go_sem]|refine o5 (d87 _ _ _ (by omega)) ?_|refine o5 (cR8 _ _ _ _ (by omega) (fun x hx y M=>ih x hx y _ (h3 x hx))) ?_|refine vcJ ?_ ?_<;>intro _|refine vcA ?_ ?_;focus(repeat'(first|omega|assumption|refine vcA ?_ ?_);done)|omega|refine o7 (fun _=>?_)
 all_goals
  refine y5 ⟨ad5 ?_,rfl⟩;clear ih h1 h2 h3 hs;rw[cf7];simp_all [JV.kind,JV.num,JV.text,JV.names,JV.items]
  try exact decide_eq_true_iff
theorem dy5(v:JV)(H:List AObj)(hs:aa1 v<=40000):o9 Tryz.prog 75 [jAV v] H (fun x H'=>x=.int .i64 (ak3 13 v:Nat)/\H'=H):=by
 refine y7 [] [.tmp 2] 5 Tryz.func75 rfl rfl rfl rfl (nlb rfl) (by kernel_rfl) ?_
 repeat' first|refine o6 ?_|simp -dsimp -implicitDefEqProofs (disch:=first|assumption|omega|simp only[ll];omega) only[go_sem]|refine o5 (ek5 13 v _ _ (by omega) (by omega) hs) ?_|refine vcJ ?_ ?_<;>intro _|refine vcA ?_ ?_;focus(repeat'(first|omega|assumption|refine vcA ?_ ?_);done)|omega|refine o7 (fun _=>?_)
 exact y5 ⟨rfl,rfl⟩
end
section
open Go V
section
variable {H M:List AObj}{k:Nat}{o x:AObj}
theorem cE9(h:k < H.length):(H.set k o++M)[k]?=some o:=by rw[xq4 (by rw[List.length_set];exact h)];exact hss h
theorem ck3:(H.set k o++M)[H.length]?=M[0]?:=by rw[xq7 (by rw[List.length_set];exact xq0 _),List.length_set,ao8]
theorem c55:(H.set k o++M).set H.length x=H.set k o++M.set 0 x:=by rw[az4 _ _ (by rw[List.length_set];exact xq0 _),List.length_set,ao8]
theorem ea7(h:k < H.length):(H.set k o++M).set k x=H.set k x++M:=by rw[bs5 _ _ (by rw[List.length_set];exact h),List.set_set]
end
structure QS where
 r:bytes
 o:bytes
 a:AV
 e:Int
theorem cq8{H₀:List AObj}{k:Nat}{o:AObj}{M:List AObj}{R:AV->List AObj->Prop}{x:AV}(hx:Low H₀.length x)(hlow:o=o)(hcs: ∀sh cs,o=.cells sh cs-> ∀y∈cs,Low H₀.length y)(hr:R x (H₀.set k o)):Done H₀ R x (H₀.set k o++M):=by
 unfold Done;refine⟨x,(H₀.set k o++M).take H₀.length,bo5 (Le.refl x) (xq0 _) hx fun i sh cs hi e=>?_,?_⟩
 ·rw[xq4 (by rw[List.length_set];exact hi)] at e
  rcases an9 e with⟨_,e'⟩|⟨_,e',_⟩
  ·exact .inl e'
  ·exact .inr (hcs sh cs e'.symm)
 ·rw[bG6 (by rw[List.length_set];exact xq0 _),ak5 (by rw[List.length_set];exact xq0 _)]
  exact hr
end
section
namespace V
open Go
theorem eq2{G:Gh}{H:List AObj}{w:World}(hi:HInv G H w){k i s z:Nat}{sh:Shape}{cs:List AV}(hk:H[k]?=some (.cells sh cs))(hci:cs[i]?=some (.sl .full z []))(hs:0 < s):
  ∃G',HInv G' (H.set k (.cells sh (cs.set i (.sl (.tok H.length) s [])))++[.grow s 0 none]) w/\Step G H w G' (H.set k (.cells sh (cs.set i (.sl (.tok H.length) s [])))++[.grow s 0 none]) w:=by
 have hkl:=y9 hk;obtain⟨arr,T,fr,hb,hsz,hr,hf1,hf2,hsh⟩:=hi.cells k sh cs hk;have hil:=y9 hci;obtain⟨v,hv⟩: ∃v,arr[i]?=some v:=⟨_,xq2 (by omega)⟩
 have r:=hr i _ v hci hv;have r0:=r;cases r with
 |sl _ _ _ ad len cap val hl hcap hs' hc hr' hf ha ho=>
  obtain⟨hi1,st1,r1⟩:=cE4 none hi r0 hs (fun h=>absurd rfl h) (fun h=>absurd rfl h)
  have hk1:(H++[AObj.grow s ([]:List AV).length none])[k]?=some (.cells sh cs):=by rw[xq4 hkl];exact hk
  have hrel:aM0 (az1 G H.length ad cap) (H++[AObj.grow s ([]:List AV).length none]) w (cs.set i (.sl (.tok H.length) s [])) arr:=by
   refine⟨by rw[List.length_set];exact hsz,fun j x u e1 e2=>?_⟩
   rcases an9 e1 with⟨_,e1'⟩|⟨rfl,e1',_⟩
   ·exact(hr j x u e1' e2).mono st1
   ·subst e1'
    rw[hv] at e2;cases e2
    exact r1
  have hown:(az1 G H.length ad cap).own k=G.own k:=by simp[az1];intro e;omega
  obtain⟨hi2,st2⟩:=ci5 hi1 hk1 (sh':=sh) (cs':=cs.set i (.sl (.tok H.length) s [])) hb hrel (by rw[List.length_set];exact bc5 hown hsh)
  have hset:(H++[AObj.grow s ([]:List AV).length none]).set k (.cells sh (cs.set i (.sl (.tok H.length) s [])))=H.set k (.cells sh (cs.set i (.sl (.tok H.length) s [])))++[.grow s 0 none]:=bs5 _ _ hkl;rw[hset] at hi2 st2;exact⟨_,hi2,st1.trans st2⟩
theorem b05{P:Program}{n:Nat}{c:Code}{Q:Exit->Env->List AObj->Prop}{env:Env}{H:List AObj}(k i s:Nat){z:Nat}{sh:Shape}{cs:List AV}(hk:H[k]?=some (.cells sh cs))(hci:cs[i]?=some (.sl .full z []))(hs:0 < s)
  (h:AW P n c Q env (H.set k (.cells sh (cs.set i (.sl (.tok H.length) s [])))++[.grow s 0 none])):AW P n c Q env H:=by
 intro ro N ds G a w sat;obtain⟨G',hi,st⟩:=eq2 sat.inv hk hci hs;exact wpIn_mono (h ro N ds G' a w ⟨sat.size,sat.defers,fun u=>(sat.env u).mono st,hi⟩) fun _ _ _ p=>p.trans st
theorem dI1{xs ys:List AV}(h:LeAll xs ys){j:Nat}{y:AV}(e:ys[j]?=some y): ∃x,xs[j]?=some x/\Le x y:=h.get.2 j y e
theorem leC{G:Gh}{H:List AObj}{w:World}(hi:HInv G H w){k:Nat}{sh:Shape}{cs cs':List AV}(hk:H[k]?=some (.cells sh cs))(hle:LeAll cs cs'):HInv G (H.set k (.cells sh cs')) w/\Step G H w G (H.set k (.cells sh cs')) w:=by
 obtain⟨arr,T,fr,hb,hsz,hr,hf1,hf2,hsh⟩:=hi.cells k sh cs hk;have hl:=hle.get.1;have hrel:aM0 G H w cs' arr:=⟨by omega,fun j x u e1 e2=>by
  obtain⟨z,hz,hzx⟩:=dI1 hle e1;exact hzx _ _ _ _ (hr j z u hz e2)⟩
 exact ci5 hi hk (sh':=sh) (cs':=cs') hb hrel (by rw[<-hl];exact hsh)
theorem ce6{P:Program}{n:Nat}{c:Code}{Q:Exit->Env->List AObj->Prop}{env:Env}{H:List AObj}(k:Nat){sh:Shape}{cs cs':List AV}(hk:H[k]?=some (.cells sh cs))(hle:LeAll cs cs')
  (h:AW P n c Q env (H.set k (.cells sh cs'))):AW P n c Q env H:=by
 intro ro N ds G a w sat;obtain⟨hi,st⟩:=leC sat.inv hk hle;exact wpIn_mono (h ro N ds G a w ⟨sat.size,sat.defers,fun u=>(sat.env u).mono st,hi⟩) fun _ _ _ p=>p.trans st
theorem c67{H₀ H' M:List AObj}{env env':Env}(h:aG1 env env')(hlen:H₀.length<=H'.length)(hl:bp5 H'.length env')(hobj: ∀(k:Nat) (sh:Shape) (cs:List AV),H'[k]?=some (.cells sh cs)->H₀[k]?=some (.cells sh cs)\/ ∀y∈cs,Low H'.length y):Shift H₀ env (H'++M) env' H':=fun G₀ w₀ G w vs h0 hi hs r=>by
 have htk:(H'++M).take H'.length=H':=aZ2;have hc:=hi.cut H'.length fun k sh cs hk e y hy=>by
  rw[xq4 hk] at e;rcases hobj k sh cs e with e|e
  ·obtain⟨arr,T,fr,hb',hsz,hr',_⟩:=h0.cells k sh cs e
   obtain⟨j,hj⟩:=ar7.1 hy;have hja:j < arr.size:=aC9 (y9 hj) hsz;exact((hr' j y _ hj (xq2 hja)).low).mono hlen
  ·exact e y hy
 have hs':=hs.cut (m:=H'.length) hlen;rw[htk] at hc hs';refine⟨G,hc,hs',fun t=>?_⟩
 have:=(h t _ _ _ _ (r t)).cut H'.length (hl t);rwa [htk] at this
theorem am1{α:Type}{I:α->Prop}{E:α->Env}{Hf:α->List AObj}{m:α->Nat}{x:α}{env:Env}{H:List AObj}(mm:Nat)(M:List AObj)(y:α)(hm:m y < m x)(hI:I y)(hH:H=Hf y++M)(h1:(Hf y).length=mm)(h2:(Hf x).length<=mm)(hL:bp5 mm (E y))
  (hobj: ∀(k:Nat) (sh:Shape) (cs:List AV),(Hf y)[k]?=some (.cells sh cs)->(Hf x)[k]?=some (.cells sh cs)\/ ∀z∈cs,Low mm z) (hE:aG1 env (E y)):be3 I E Hf m x env H:=by
 subst hH;subst h1;exact cR0 y hm hI (c67 hE h2 hL hobj)
theorem aU7{H L L':List AObj}{m:Nat}(h: ∀o∈L',∀(sh:Shape) (cs:List AV),o=.cells sh cs-> ∀z∈cs,Low m z): ∀(k:Nat) (sh:Shape) (cs:List AV),(H++L')[k]?=some (.cells sh cs)->(H++L)[k]?=some (.cells sh cs)\/ ∀z∈cs,Low m z:=fun k sh cs e=>by
 by_cases hk:k < H.length
 ·rw[xq4 hk] at e
  exact .inl (by rw[xq4 hk];exact e)
 ·rw[xq7 (by omega)] at e
  exact .inr (h _ (bs2 e) sh cs rfl)
end V
end
section
open Go V
theorem d00{m:Nat}{x:AV}(h:Low m x:=by(first|(first|exact .lit _|exact .str _|exact .any|exact ae4|exact ag3|exact .mp _ _ (by omega)|exact .msl _ _ _ _ (by omega)|exact ae6 (fun k e=>by cases e)|exact ad4 _|exact ai5|exact ai4|exact al2|exact al1 _)|(refine ag8 ?_;repeat(first|exact ab6|(refine aa2 ?_ ?_;focus(first|exact .lit _|exact .str _|exact .any|exact ae4|exact ag3|exact .mp _ _ (by omega)|exact .msl _ _ _ _ (by omega)|exact ae6 (fun k e=>by cases e)|exact ad4 _|exact ai5|exact ai4|exact al2|exact al1 _))))|(refine ay0 ?_;repeat(first|exact ab6|(refine aa2 ?_ ?_;focus(first|exact .lit _|exact .str _|exact .any|exact ae4|exact ag3|exact .mp _ _ (by omega)|exact .msl _ _ _ _ (by omega)|exact ae6 (fun k e=>by cases e)|exact ad4 _|exact ai5|exact ai4|exact al2|exact al1 _)))))):Low m x:=h
theorem dC7{x y z:Nat}(hx:x < 256)(hy:y < 256)(hz:z < 256):IntKind.i64.wrap (((BitVec.ofInt IntKind.i64.bits (IntKind.i64.wrap (((BitVec.ofInt IntKind.i64.bits ((x:Int)*65536)|||BitVec.ofInt IntKind.i64.bits ((y:Int)*256)).toNat:Nat):Int))|||BitVec.ofInt IntKind.i64.bits (z:Int)).toNat:Nat):Int)=((x*65536+y*256+z:Nat):Int):=by
 show IntKind.i64.wrap (((BitVec.ofInt 64 (IntKind.i64.wrap (((BitVec.ofInt 64 ((x:Int)*65536)|||BitVec.ofInt 64 ((y:Int)*256)).toNat:Nat):Int))|||BitVec.ofInt 64 (z:Int)).toNat:Nat):Int)=_
 have h1:x*65536+y*256=x*65536|||y*256:=by
  have:=b39 (b:=y*256) (i:=16) (by omega) x
  rw[show 2^16*x=x*65536 by omega] at this
  exact this
 have h2:x*65536+y*256+z=(x*65536+y*256)|||z:=by
  have:=b39 (b:=z) (i:=8) (by omega) (x*256+y)
  rw[show 2^8*(x*256+y)=x*65536+y*256 by omega] at this
  exact this
 rw[show (x:Int)*65536=((x*65536:Nat):Int) by omega,show (y:Int)*256=((y*256:Nat):Int) by omega,ce0 (w:=64) (by omega) (by omega),<-h1,IntWalk.i64_in ((x*65536+y*256:Nat):Int) (by omega),ce0 (w:=64) (by omega) (by omega),<-h2,IntWalk.i64_in _ (by omega)]
theorem br9{a:Int}(h:0<=a/\a < 18446744073709551616):((BitVec.ofInt IntKind.i64.bits a&&&BitVec.ofInt IntKind.i64.bits 63).toNat:Int)=a%64:=bg2 (k:=64) (m:=6) h.1 h.2 (by omega)
def adB(k g i:Nat):AV:=if g=0/\i=0 then .lit (.pointer none) else .mp k 0
theorem dx2{k g i:Nat}:aJ5 k (adB k g i):=by
 unfold adB;split
 ·exact cY1
 ·exact ae1
theorem ce9{k g i:Nat}:adB k g (i+1)=.mp k 0:=if_neg (by omega)
theorem et4{k g i:Nat}:adB k (g+1) i=.mp k 0:=if_neg (by omega)
def bj3(H:List AObj)(a:AV)(o:bytes):List AObj:=H++[aB7 141 (H.length+1) a o,aL2 o.length]
theorem du7{H:List AObj}{a b:AV}{o p:bytes}{mm:Nat}(hb:aJ5 H.length b)(hmm:H.length+2<=mm): ∀(j:Nat) (sh:Shape) (cs:List AV),(bj3 H b p)[j]?=some (.cells sh cs)->(bj3 H a o)[j]?=some (.cells sh cs)\/ ∀z∈cs,Low mm z:=fun j sh cs e=>by
 unfold bj3 at e⊢;rcases am5 j H.length with hj|hj
 ·rw[xq4 hj] at e⊢
  exact .inl e
 ·right
  rw[xq7 hj] at e;cases hn:j - H.length with
  |zero=>
   rw[hn] at e;unfold aB7 at e;cases e
   intro z hz;simp only[ai9,aG2,or_false] at hz;rcases hz with rfl|rfl
   ·rcases hb with rfl|rfl
    ·exact .lit _
    ·exact .mp _ _ (by omega)
   ·refine .sl _ _ _ (fun k e=>by cases e;omega) fun x hx=>?_
    rw[al9 o8 (fun _=>rfl)] at hx
    obtain⟨c,_,rfl⟩:=xq9.1 hx;exact .lit _
  |succ n=>
   rw[hn] at e;cases n with
   |zero=>unfold aL2 at e;cases e
   |succ n=>simp at e
def by0(letters:bytes)(x y z n:Nat):bytes:=(List.range (n+1)).map fun i=>letters.getD ((x*65536+y*256+z)/2^(18 - 6*i)%64) 0
theorem dM1{letters b:bytes}{g n:Nat}(hn:n=min 3 (b.length - 3*g))(h:3*g < b.length):(ae7 letters b).take (4*g)++by0 letters (b.getD (3*g) 0).toNat (b.getD (3*g+1) 0).toNat (b.getD (3*g+2) 0).toNat n=(ae7 letters b).take (4*(g+1)):=by
 have hl:=aB4 letters b;have hk:4*g+(n+1)=min (4*(g+1)) ((8*b.length+5)/6):=by omega
 apply List.ext_getElem
 ·simp only[List.length_append,List.length_take,by0,List.length_map,List.length_range,hl]
  omega
 ·intro j h1 h2
  rw[List.length_take,hl] at h2;rw[List.getElem_take];have hen: ∀i (hi:i < (ae7 letters b).length),(ae7 letters b)[i]=letters.getD (aR7 b i) 0:=fun i hi=>by simp[ae7]
  rw[hen];by_cases hj:j < 4*g
  ·rw[List.getElem_append_left (by rw[List.length_take,hl];omega),List.getElem_take,hen]
  ·obtain⟨i,rfl⟩: ∃i,j=4*g+i:=⟨j - 4*g,by omega⟩
   have hi:i < n+1:=by omega
   rw[List.getElem_append_right (by rw[List.length_take,hl];omega)]
   have hlt:4*g+i - ((ae7 letters b).take (4*g)).length=i:=by rw[List.length_take,hl];omega
   simp only[hlt,by0,List.getElem_map,List.getElem_range];rw[c68 b g i (by omega)]
theorem cI8{o:Own}(letters b:bytes)(H:List AObj)(hL:letters.length=64)(h:b.length<=10000000):o9 Tryz.prog 138 [.str letters,.sl o 1 (b.map o8)] H (fun y H'=>y=.str (ae7 letters b)/\H'=H):=by
 refine y7 [3000005005,1000005] [.tmp 4] 53 Tryz.func138 rfl rfl rfl rfl (nlb rfl) (by kernel_rfl) ?_
 repeat' first|refine o6 ?_|simp -dsimp -implicitDefEqProofs (disch:=first|assumption|omega|simp only[ll];omega) only[go_sem]|refine vcJ ?_ ?_<;>intro _|refine vcA ?_ ?_;focus(repeat'(first|omega|assumption|refine vcA ?_ ?_);done)|omega|refine o7 (fun _=>?_)
 refine aa5 aa7 mixed [3000005005,1000005] [0,4,5] (fun g:Nat=>3*g<=b.length+2) (fun g=>[(1,.sl .sh 1 ((b.drop (3*g)).map o8))]) (fun g=>bj3 H (adB H.length g 0) ((ae7 letters b).take (4*g))) (fun g=>b.length+3 - 3*g) (by kernel_rfl) ?_ 0 (by omega) y8 rfl
 intro g hg;by_cases hlt:3*g < b.length
 ·obtain⟨n,hn⟩: ∃n,n=min 3 (b.length - 3*g):=⟨_,rfl⟩
  have hnx:=dM1 (letters:=letters) hn hlt;have hc0:(0 < ((b.length - 3*g:Nat):Int))=True:=eq_true (by omega)
  have hmin:min (3:Int) ((b.length - 3*g:Nat):Int)=(n:Int):=by omega
  have hdr:(b.drop (3*g+n))=b.drop (3*(g+1)):=by
   rcases(by omega:n=3\/b.length<=3*g+n) with h|h
   ·rw[h];rfl
   ·rw[bl6 h,bl6 (by omega)]
  have hcp:af0 [.lit (.int .u8 0),.lit (.int .u8 0),.lit (.int .u8 0)] 0 (((b.drop (3*g)).take (n - 0)).map o8)=[.lit (.int .u8 ((b.getD (3*g) 0).toNat:Int)),.lit (.int .u8 ((b.getD (3*g+1) 0).toNat:Int)),.lit (.int .u8 ((b.getD (3*g+2) 0).toNat:Int))]:=by
   rw[aV8];have g0:b.getD (3*g) 0=(b.drop (3*g)).getD 0 0:=by simp[List.getD]
   have g1:b.getD (3*g+1) 0=(b.drop (3*g)).getD 1 0:=by simp[List.getD]
   have g2:b.getD (3*g+2) 0=(b.drop (3*g)).getD 2 0:=by simp[List.getD]
   have hl:(b.drop (3*g)).length=b.length - 3*g:=List.length_drop;rw[g0,g1,g2];generalize b.drop (3*g)=r at*;rcases r with _|⟨x,_|⟨y,_|⟨z,r⟩⟩⟩
   ·simp at hl;omega
   ·obtain rfl:n=1:=by simp at hl;omega
    rfl
   ·obtain rfl:n=2:=by simp at hl;omega
    rfl
   ·obtain rfl:n=3:=by simp at hl;omega
    rfl
  have hX:(ae7 letters b).length<=20000000:=by rw[aB4];omega
  have hXl:((ae7 letters b).take (4*g)).length<=20000000:=by rw[List.length_take];omega
  have x0:=(b.getD (3*g) 0).toNat_lt;have x1:=(b.getD (3*g+1) 0).toNat_lt;have x2:=(b.getD (3*g+2) 0).toNat_lt;have hor:=dC7 x0 x1 x2;generalize (ae7 letters b).take (4*g)=X at*;unfold bj3;repeat' first|refine o6 ?_|simp -dsimp -implicitDefEqProofs (disch:=first|assumption|omega|simp only[ll];omega) only[go_sem,hc0,hmin,hdr,hcp,hor]|refine vcJ ?_ ?_<;>intro _|refine vcA ?_ ?_;focus(repeat'(first|omega|assumption|refine vcA ?_ ?_);done)|omega|refine o7 (fun _=>?_)
  obtain⟨N,hN⟩: ∃N,N=(b.getD (3*g) 0).toNat*65536+(b.getD (3*g+1) 0).toNat*256+(b.getD (3*g+2) 0).toNat:=⟨_,rfl⟩;have hNl:N < 16777216:=by omega
  obtain⟨P,hP⟩: ∃P,P=by0 letters (b.getD (3*g) 0).toNat (b.getD (3*g+1) 0).toNat (b.getD (3*g+2) 0).toNat n:=⟨_,rfl⟩;have hPl:P.length=n+1:=by rw[hP];simp[by0]
  have hPg: ∀i,i < n+1->P.take (i+1)=P.take i++[letters.getD (N/2^(18 - 6*i)%64) 0]:=fun i hi=>by
   rw[aZ1 (by omega)]
   congr 1
   subst hP;simp[by0,hN]
  rw[<-hP] at hnx;rw[<-hN];generalize [AV.lit (.int .u8 ((b.getD (3*g) 0).toNat:Int)),.lit (.int .u8 ((b.getD (3*g+1) 0).toNat:Int)),.lit (.int .u8 ((b.getD (3*g+2) 0).toNat:Int))]=gc;refine aa5 aa7 mixed [3000005005,1000005] [0,1,4,5,8,38] (fun i:Nat=>i<=n+1) (fun i=>[(39,.lit (.int .i64 i))]) (fun i=>H++[aB7 141 (H.length+1) (adB H.length g i) (X++P.take i),aL2 (X++P.take i).length,.cells (.one 170) gc]) (fun i=>n+1 - i) (by kernel_rfl) ?_ 0 (by omega) y8 (by simp)
  intro i hi;have hB: ∀x y z:AObj,(H++[x,y,z])[H.length]?=some x:=fun x y z=>by rw[xq7 (xq0 _),ao8];rfl
  have hG: ∀x y z:AObj,(H++[x,y,z])[H.length+1]?=some y:=fun x y z=>by rw[xq7 (by omega),aI1];rfl
  have hst: ∀x y z u v:AObj,((H++[x,y,z]).set H.length u).set (H.length+1) v=H++[u,v,z]:=fun x y z u v=>by
   rw[az4 _ _ (xq0 _),ao8,az4 _ _ (by omega),aI1]
   rfl
  have hpl:(P.take i).length<=4:=by rw[List.length_take];omega
  by_cases hin:i < n+1
  ·have hic:((i:Int) < (n:Int)+1)=True:=eq_true (by omega)
   have hpn:=hPg i hin;have hap:X++P.take i++[letters.getD (N/2^(18 - 6*i)%64) 0]=X++P.take (i+1):=by rw[hpn,List.append_assoc]
   have hw:=fun c=>bV6 (T:=141) (k:=H.length) (m:=H.length+1) (a:=adB H.length g i) (bs:=X++P.take i) (c:=c) (H:=H++[aB7 141 (H.length+1) (adB H.length g i) (X++P.take i),aL2 (X++P.take i).length,.cells (.one 170) gc]) d69 (hB _ _ _) dx2 (hG _ _ _) (by rw[List.length_append];omega)
   have hw2:=hw (letters.getD (N/2^(18 - 6*i)%64) 0);rw[hst,hap] at hw2;have hlt64:(((N/2^(18 - 6*i)%64:Nat)):Int) < 64:=by omega
   have hidx:(((N:Int).fdiv (2^(18 - 6*i))%64)).toNat=N/2^(18 - 6*i)%64:=by
    rw[an0 (b37 (Int.pow_pos (by decide)))]
    have:((2:Int)^(18 - 6*i))=((2^(18 - 6*i):Nat):Int):=by simp
    rw[this,Int.toNat_natCast];omega
   obtain⟨Z,hZ⟩: ∃Z,Z=X++P.take i:=⟨_,rfl⟩;obtain⟨Z',hZ'⟩: ∃Z',Z'=X++P.take (i+1):=⟨_,rfl⟩;rw[<-hZ,<-hZ'] at hw2;rw[<-hZ];clear hw hap hidx hpn;rcases(by omega:i=0\/i=1\/i=2\/i=3) with rfl|rfl|rfl|rfl
   ·simp only[Nat.reduceMul,Nat.reduceSub,Nat.reducePow] at hw2
    have e1:(((N/262144:Nat):Int)%64).toNat=N/262144%64:=by omega
    have e2:(N:Int).fdiv 262144=((N/262144:Nat):Int):=an0 (by decide)
    repeat' first|refine o6 ?_|simp -dsimp -implicitDefEqProofs (disch:=first|assumption|omega|simp only[ll];omega) only[go_sem,hic,hL,br9,e1]|refine o5 (hw2) ?_|refine vcJ ?_ ?_<;>intro _|refine vcA ?_ ?_;focus(repeat'(first|omega|assumption|refine vcA ?_ ?_);done)|omega|refine o7 (fun _=>?_)
    refine again (1) ?_ ?_ ?_ y8
    ·omega
    ·omega
    ·rw[hZ',ce9]
   ·simp only[Nat.reduceMul,Nat.reduceSub,Nat.reducePow] at hw2
    have e1:(((N/4096:Nat):Int)%64).toNat=N/4096%64:=by omega
    have e2:(N:Int).fdiv 4096=((N/4096:Nat):Int):=an0 (by decide)
    repeat' first|refine o6 ?_|simp -dsimp -implicitDefEqProofs (disch:=first|assumption|omega|simp only[ll];omega) only[go_sem,hic,hL,br9,e1]|refine o5 (hw2) ?_|refine vcJ ?_ ?_<;>intro _|refine vcA ?_ ?_;focus(repeat'(first|omega|assumption|refine vcA ?_ ?_);done)|omega|refine o7 (fun _=>?_)
    refine again (2) ?_ ?_ ?_ y8
    ·omega
    ·omega
    ·rw[hZ',ce9]
   ·simp only[Nat.reduceMul,Nat.reduceSub,Nat.reducePow] at hw2
    have e1:(((N/64:Nat):Int)%64).toNat=N/64%64:=by omega
    have e2:(N:Int).fdiv 64=((N/64:Nat):Int):=an0 (by decide)
    repeat' first|refine o6 ?_|simp -dsimp -implicitDefEqProofs (disch:=first|assumption|omega|simp only[ll];omega) only[go_sem,hic,hL,br9,e1]|refine o5 (hw2) ?_|refine vcJ ?_ ?_<;>intro _|refine vcA ?_ ?_;focus(repeat'(first|omega|assumption|refine vcA ?_ ?_);done)|omega|refine o7 (fun _=>?_)
    refine again (3) ?_ ?_ ?_ y8
    ·omega
    ·omega
    ·rw[hZ',ce9]
   ·simp only[Nat.reduceMul,Nat.reduceSub,Nat.reducePow] at hw2
    have e1:(((N/1:Nat):Int)%64).toNat=N/1%64:=by omega
    have e2:(N:Int).fdiv 1=((N/1:Nat):Int):=an0 (by decide)
    repeat' first|refine o6 ?_|simp -dsimp -implicitDefEqProofs (disch:=first|assumption|omega|simp only[ll];omega) only[go_sem,hic,hL,br9,e1]|refine o5 (hw2) ?_|refine vcJ ?_ ?_<;>intro _|refine vcA ?_ ?_;focus(repeat'(first|omega|assumption|refine vcA ?_ ?_);done)|omega|refine o7 (fun _=>?_)
    refine again (4) ?_ ?_ ?_ y8
    ·omega
    ·omega
    ·rw[hZ',ce9]
  ·obtain rfl:i=n+1:=by omega
   have htk:P.take (n+1)=P:=ak5 (by omega)
   rw[htk,hnx,ce9];have hic:(((n+1:Nat):Int) < (n:Int)+1)=False:=eq_false (by omega)
   repeat' first|refine o6 ?_|simp -dsimp -implicitDefEqProofs (disch:=first|assumption|omega|simp only[ll];omega) only[go_sem,hic]|refine vcJ ?_ ?_<;>intro _|refine vcA ?_ ?_;focus(repeat'(first|omega|assumption|refine vcA ?_ ?_);done)|omega|refine o7 (fun _=>?_)
   refine am1 (H.length+2) ([.cells (.one 170) gc]) (g+1) ?_ ?_ ?_ ?_ ?_ (by repeat(first|exact af9|(refine af1 ?_ ?_;focus exact d00))) ?_ y8
   ·omega
   ·omega
   ·simp[bj3,et4]
   ·simp[bj3]
   ·simp[bj3]
   ·exact du7 dx2 (xq0 _)
 ·have hc0:(0 < ((b.length - 3*g:Nat):Int))=False:=eq_false (by omega)
  have htk:(ae7 letters b).take (4*g)=ae7 letters b:=ak5 (by rw[aB4];omega)
  have hX:(ae7 letters b).length<=20000000:=by rw[aB4];omega
  rw[htk];generalize ae7 letters b=Y at*;unfold bj3;have hS:=cL0 (T:=141) (k:=H.length) (m:=H.length+1) (a:=adB H.length g 0) (bs:=Y) (H:=H++[aB7 141 (H.length+1) (adB H.length g 0) Y,aL2 Y.length]) (by rw[xq7 (xq0 _),ao8];rfl) (by rw[xq7 (by omega),aI1];rfl) (by omega)
  repeat' first|refine o6 ?_|simp -dsimp -implicitDefEqProofs (disch:=first|assumption|omega|simp only[ll];omega) only[go_sem,hc0]|refine o5 (hS) ?_|refine vcJ ?_ ?_<;>intro _|refine vcA ?_ ?_;focus(repeat'(first|omega|assumption|refine vcA ?_ ?_);done)|omega|refine o7 (fun _=>?_)
  exact aa3 _ (Le.refl _) (.str _) ⟨rfl,rfl⟩
theorem cL7{o:Own}(b:bytes)(H:List AObj)(h:b.length<=10000000):o9 Tryz.prog 80 [.sl o 1 (b.map o8)] H (fun y H'=>y=.str (ae7 [65,66,67,68,69,70,71,72,73,74,75,76,77,78,79,80,81,82,83,84,85,86,87,88,89,90,97,98,99,100,101,102,103,104,105,106,107,108,109,110,111,112,113,114,115,116,117,118,119,120,121,122,48,49,50,51,52,53,54,55,56,57,43,47] b)/\H'=H):=by
 have he:=fun H=>cI8 (o:=o) [65,66,67,68,69,70,71,72,73,74,75,76,77,78,79,80,81,82,83,84,85,86,87,88,89,90,97,98,99,100,101,102,103,104,105,106,107,108,109,110,111,112,113,114,115,116,117,118,119,120,121,122,48,49,50,51,52,53,54,55,56,57,43,47] b H rfl h
 refine y7 [] [.tmp 2] 5 Tryz.func80 rfl rfl rfl rfl (nlb rfl) (by kernel_rfl) ?_
 repeat' first|refine o6 ?_|simp -dsimp -implicitDefEqProofs (disch:=first|assumption|omega|simp only[ll];omega) only[go_sem]|refine o5 (he _) ?_|refine vcJ ?_ ?_<;>intro _|refine vcA ?_ ?_;focus(repeat'(first|omega|assumption|refine vcA ?_ ?_);done)|omega|refine o7 (fun _=>?_)
 exact y5 ⟨rfl,rfl⟩
theorem eo1{o:Own}(b:bytes)(H:List AObj)(h:b.length<=10000000):o9 Tryz.prog 86 [.sl o 1 (b.map o8)] H (fun y H'=>y=.str (ae7 [65,66,67,68,69,70,71,72,73,74,75,76,77,78,79,80,81,82,83,84,85,86,87,88,89,90,97,98,99,100,101,102,103,104,105,106,107,108,109,110,111,112,113,114,115,116,117,118,119,120,121,122,48,49,50,51,52,53,54,55,56,57,45,95] b)/\H'=H):=by
 have he:=fun H=>cI8 (o:=o) [65,66,67,68,69,70,71,72,73,74,75,76,77,78,79,80,81,82,83,84,85,86,87,88,89,90,97,98,99,100,101,102,103,104,105,106,107,108,109,110,111,112,113,114,115,116,117,118,119,120,121,122,48,49,50,51,52,53,54,55,56,57,45,95] b H rfl h
 refine y7 [] [.tmp 2] 5 Tryz.func86 rfl rfl rfl rfl (nlb rfl) (by kernel_rfl) ?_
 repeat' first|refine o6 ?_|simp -dsimp -implicitDefEqProofs (disch:=first|assumption|omega|simp only[ll];omega) only[go_sem]|refine o5 (he _) ?_|refine vcJ ?_ ?_<;>intro _|refine vcA ?_ ?_;focus(repeat'(first|omega|assumption|refine vcA ?_ ?_);done)|omega|refine o7 (fun _=>?_)
 exact y5 ⟨rfl,rfl⟩
end
section
open Go V
def spB(c:UInt8):Bool:=decide (c=32)||decide (9<=c.toNat/\c.toNat<=13)
theorem a05(c:UInt8):bI2 c.toNat=if spB c=true then 1 else 0:=by
 unfold bI2 spB;have h:c=32↔c.toNat=32:=⟨fun e=>by rw[e];rfl,fun e=>cf5.1 e⟩
 by_cases h1:c=32
 ·simp[h1]
 ·by_cases h2:9<=c.toNat/\c.toNat<=13
  ·simp[h1,h2]
  ·have h3: ¬c.toNat=32:=fun e=>h1 (h.2 e)
   rw[if_neg (by omega)]
   simp[h1,h2]
def fieldsGo:bytes->bytes->List bytes
 |[],cur=>if cur=[] then[] else[cur]
 |c::r,cur=>if spB c=true then(if cur=[] then fieldsGo r [] else cur::fieldsGo r []) else fieldsGo r (cur++[c])
def aV1(s:bytes):List bytes:=fieldsGo s []
def cntF:bytes->Bool->Nat
 |[],_=>0
 |c::r,p=>(if p&&!spB c then 1 else 0)+cntF r (spB c)
theorem bj2: ∀(s cur:bytes),(fieldsGo s cur).length=cntF s (decide (cur=[]))+if cur=[] then 0 else 1
 |[],cur=>by
  unfold fieldsGo cntF;split<;>rfl
 |c::r,cur=>by
  unfold fieldsGo cntF;by_cases h:spB c=true
  ·rw[if_pos h,h]
   by_cases h2:cur=[]
   ·rw[if_pos h2,if_pos h2,bj2 r []]
    simp
   ·rw[if_neg h2,if_neg h2,List.length_cons,bj2 r []]
    simp
  ·rw[if_neg h,bj2 r (cur++[c])]
   have h0:spB c=false:=by simpa using h
   rw[h0,if_neg (by simp)]
   by_cases h2:cur=[]
   ·simp[h2];omega
   ·simp[h2]
theorem bE2(s:bytes):(aV1 s).length=cntF s true:=by
 have:=bj2 s [];rw[if_pos rfl] at this;exact this
theorem dM9{s:bytes}{i:Nat}(h:i < s.length)(p:Bool):cntF (s.drop i) p=(if p&&!spB (s.getD i 0) then 1 else 0)+cntF (s.drop (i+1)) (spB (s.getD i 0)):=by
 rw[bs7 h,cntF,List.getD,xq1 h];rfl
theorem cX7: ∀(s:bytes) (p:Bool),cntF s p<=s.length
 |[],_=>xq0 _
 |c::r,p=>by
  have:=cX7 r (spB c);unfold cntF;split<;>simp<;>omega
theorem aR2{s:bytes}{i:Nat}(h:i < s.length)(cur:bytes):fieldsGo (s.drop i) cur=if spB (s.getD i 0)=true then(if cur=[] then fieldsGo (s.drop (i+1)) [] else cur::fieldsGo (s.drop (i+1)) []) else fieldsGo (s.drop (i+1)) (cur++[s.getD i 0]):=by
 rw[bs7 h,fieldsGo,List.getD,xq1 h];rfl
def aH0(s:bytes)(a b:Nat):bytes:=(s.drop a).take (b - a)
theorem b88{s:bytes}{a b:Nat}(hab:a<=b)(h:b < s.length):aH0 s a b++[s.getD b 0]=aH0 s a (b+1):=by
 unfold aH0;have e:s[a+(b - a)]'(by omega)=s[b]:=by congr 1;omega
 rw[show b+1 - a=(b - a)+1 by omega,aZ1 (by rw[List.length_drop];omega),List.getElem_drop,List.getD,xq1 h,e]
 rfl
theorem piece_nil(s:bytes)(a:Nat):aH0 s a a=[]:=by simp[aH0]
theorem piece_ne{s:bytes}{a b:Nat}(hab:a < b)(h:b<=s.length):aH0 s a b≠[]:=fun e=>by
 have h2:=congrArg List.length e;unfold aH0 at h2;rw[List.length_take,List.length_drop,List.length_nil] at h2;omega
def gF(F:List bytes)(na:Nat):List bytes:=F.take na++List.replicate (F.length - na) []
theorem ds8(F:List bytes){na:Nat}(h:na<=F.length):(gF F na).length=F.length:=by
 unfold gF;rw[List.length_append,List.length_take,List.length_replicate];omega
theorem d38(F:List bytes):gF F 0=List.replicate F.length []:=by simp[gF]
theorem cc2(F:List bytes):gF F F.length=F:=by simp[gF]
theorem cc1{F R:List bytes}{na:Nat}{p:bytes}(h:F=F.take na++p::R)(hna:na<=F.length):na < F.length/\(gF F na).set na p=gF F (na+1)/\F=F.take (na+1)++R:=by
 have hl:=congrArg List.length h;rw[List.length_append,List.length_take,List.length_cons] at hl;have hlt:na < F.length:=by omega
 have ht:F.take (na+1)=F.take na++[p]:=by
  have h2:F[na]?=some p:=by
   rw[h,xq7 (by rw[List.length_take];omega),List.length_take,bl4 (by omega),ao8]
   rfl
  rw[aZ1 hlt];rw[xq1 hlt] at h2;rw[Option.some.inj h2]
 refine⟨hlt,?_,by rw[ht,List.append_assoc];exact h⟩
 unfold gF;rw[ht,az4 _ _ (by rw[List.length_take];omega),List.length_take,bl4 (by omega),ao8,show F.length - na=(F.length - (na+1))+1 by omega,cZ1,List.set_cons_zero]
 simp
end
section
open Go V
theorem bi6{x y:Nat}(hx:x < 2^8)(hy:y < 2^8):IntKind.u8.wrap ((BitVec.ofInt IntKind.u8.bits (x:Int)|||BitVec.ofInt IntKind.u8.bits (y:Int)).toNat:Int)=((x|||y:Nat):Int):=by
 show IntKind.u8.wrap ((BitVec.ofInt 8 (x:Int)|||BitVec.ofInt 8 (y:Int)).toNat:Int)=_
 rw[ce0 hx hy,bb7 (bV9 hx hy)]
theorem cG9:IntKind.i64.wrap (((BitVec.ofInt IntKind.i64.bits (if IntKind.i64.signed=true then -1 else IntKind.i64.max)^^^BitVec.ofInt IntKind.i64.bits 0).toNat:Nat):Int)= -1:=by decide
theorem cG8:IntKind.i64.wrap (((BitVec.ofInt IntKind.i64.bits (if IntKind.i64.signed=true then -1 else IntKind.i64.max)^^^BitVec.ofInt IntKind.i64.bits 1).toNat:Nat):Int)= -2:=by decide
theorem dJ6:IntKind.i64.wrap (((BitVec.ofInt IntKind.i64.bits 0&&&BitVec.ofInt IntKind.i64.bits (-1)).toNat:Nat):Int)=0:=by decide
theorem dJ5:IntKind.i64.wrap (((BitVec.ofInt IntKind.i64.bits 1&&&BitVec.ofInt IntKind.i64.bits (-1)).toNat:Nat):Int)=1:=by decide
theorem dJ4:IntKind.i64.wrap (((BitVec.ofInt IntKind.i64.bits 0&&&BitVec.ofInt IntKind.i64.bits (-2)).toNat:Nat):Int)=0:=by decide
theorem dJ3:IntKind.i64.wrap (((BitVec.ofInt IntKind.i64.bits 1&&&BitVec.ofInt IntKind.i64.bits (-2)).toNat:Nat):Int)=0:=by decide
def cx5(b:Bool):Int:=if b then 1 else 0
theorem bd9{H:List AObj}(F:List bytes):Done H (fun y H'=>y=.sl .sh 1 (F.map .str)/\H'=H) (.msl H.length 0 F.length F.length) (H++[.cells (.one 9) (F.map .str)]):=by
 have hfl:aa0 (F.map AV.str)=F.map AV.str:=al9 AV.str (fun _=>rfl) F
 refine bo6 (.sl .sh 1 (F.map .str)) (.msl _ _ _ _ _ (.one 9) (F.map .str) _ (xq0 _) (by simp) (by simp) (fun x hx=>by obtain⟨c,_,rfl⟩:=xq9.1 hx;exact⟨rfl,rfl⟩) (by rw[hfl];simp) fun j c y e1 e2=>?_) ⟨rfl,rfl⟩
 rw[hfl] at e2;rw[Nat.zero_add,e2] at e1;cases e1
 obtain⟨c,_,rfl⟩:=xq9.1 (bs2 e2);exact .low _ (.str _)
theorem dQ6(s:bytes)(H:List AObj)(ha: ∀c∈s,c.toNat < 128)(hl:s.length<=100000):o9 Tryz.prog 87 [.str s] H (fun y H'=>y=.sl .sh 1 ((aV1 s).map .str)/\H'=H):=by
 have hN:=bE2 s;have hNl:=cX7 s true;refine y7 [] [.tmp 2] 106 Tryz.func87 rfl rfl rfl rfl (nlb rfl) (by kernel_rfl) ?_
 repeat' first|refine o6 ?_|simp -dsimp -implicitDefEqProofs (disch:=first|assumption|omega|simp only[ll];omega) only[go_sem]|refine vcJ ?_ ?_<;>intro _|refine vcA ?_ ?_;focus(repeat'(first|omega|assumption|refine vcA ?_ ?_);done)|omega|refine o7 (fun _=>?_)
 refine aa5 aa7 mixed [] [0,2] (fun p:Nat×Nat×Bool×Nat=>p.1<=s.length/\p.2.1+cntF (s.drop p.1) p.2.2.1=cntF s true/\p.2.2.2 < 128) (fun p=>[(3,.lit (.int .i64 p.2.1)),(4,.lit (.int .i64 (cx5 p.2.2.1))),(5,.lit (.int .u8 p.2.2.2)),(6,.lit (.int .i64 p.1))]) (fun _=>H) (fun p=>s.length - p.1) (by kernel_rfl) ?_ (0,0,true,0) ⟨by omega,by simp,by decide⟩ y8 rfl
 rintro⟨i,n,w,v⟩ ⟨hi,hc,hv⟩
 dsimp only at hi hc hv⊢;by_cases hil:i < s.length
 ·have hic:((i:Int) < ((s.length:Nat):Int))=True:=eq_true (by omega)
  rw[dM9 hil] at hc;have hsp:=a05 (s.getD i 0);have hc128:(s.getD i 0).toNat < 128:=ha _ (by rw[List.getD,xq1 hil];exact aM4 hil)
  have hor:=bi6 (x:=v) (y:=(s.getD i 0).toNat) (by omega) (by omega)
  have hvl:(v|||(s.getD i 0).toNat) < 128:=bV9 (n:=7) (by omega) (by omega)
  generalize (v|||(s.getD i 0).toNat)=v' at*
  cases hb:spB (s.getD i 0) with
  |true=>
   rw[hb] at hc hsp;rw[if_pos rfl] at hsp;cases w with
   |true=>
    repeat' first|refine o6 ?_|simp -dsimp -implicitDefEqProofs (disch:=first|assumption|omega|simp only[ll];omega) only[go_sem,hic,hor,hsp,cx5,cG8,dJ3]|refine vcJ ?_ ?_<;>intro _|refine vcA ?_ ?_;focus(repeat'(first|omega|assumption|refine vcA ?_ ?_);done)|omega|refine o7 (fun _=>?_)
    refine again ((i+1,n,true,v')) ?_ ?_ rfl y8
    ·dsimp only;omega
    ·exact⟨by dsimp only;omega,by simpa using hc,hvl⟩
   |false=>
    repeat' first|refine o6 ?_|simp -dsimp -implicitDefEqProofs (disch:=first|assumption|omega|simp only[ll];omega) only[go_sem,hic,hor,hsp,cx5,cG8,dJ4]|refine vcJ ?_ ?_<;>intro _|refine vcA ?_ ?_;focus(repeat'(first|omega|assumption|refine vcA ?_ ?_);done)|omega|refine o7 (fun _=>?_)
    refine again ((i+1,n,true,v')) ?_ ?_ rfl y8
    ·dsimp only;omega
    ·exact⟨by dsimp only;omega,by simpa using hc,hvl⟩
  |false=>
   rw[hb] at hc hsp;rw[if_neg (by decide)] at hsp
   cases w with
   |true=>
    repeat' first|refine o6 ?_|simp -dsimp -implicitDefEqProofs (disch:=first|assumption|omega|simp only[ll];omega) only[go_sem,hic,hor,hsp,cx5,cG9,dJ5]|refine vcJ ?_ ?_<;>intro _|refine vcA ?_ ?_;focus(repeat'(first|omega|assumption|refine vcA ?_ ?_);done)|omega|refine o7 (fun _=>?_)
    refine again ((i+1,n+1,false,v')) ?_ ?_ rfl y8
    ·dsimp only;omega
    ·exact⟨by dsimp only;omega,by simp at hc⊢;omega,hvl⟩
   |false=>
    repeat' first|refine o6 ?_|simp -dsimp -implicitDefEqProofs (disch:=first|assumption|omega|simp only[ll];omega) only[go_sem,hic,hor,hsp,cx5,cG9,dJ6]|refine vcJ ?_ ?_<;>intro _|refine vcA ?_ ?_;focus(repeat'(first|omega|assumption|refine vcA ?_ ?_);done)|omega|refine o7 (fun _=>?_)
    refine again ((i+1,n,false,v')) ?_ ?_ rfl y8
    ·dsimp only;omega
    ·exact⟨by dsimp only;omega,by simpa using hc,hvl⟩
 ·obtain rfl:i=s.length:=by omega
  have hic:(((s.length:Nat):Int) < ((s.length:Nat):Int))=False:=eq_false (by omega)
  rw[b34,cntF,av1] at hc;have hv8:(128<=(v:Int))=False:=eq_false (by omega)
  rw[<-hN] at hc hNl;unfold aV1 at*;obtain⟨F,hF⟩: ∃F,F=fieldsGo s []:=⟨_,rfl⟩;rw[<-hF] at hc hNl⊢;subst hc;have hz:ag4 [AV.str []] F.length=(gF F 0).map AV.str:=by rw[bl2,d38,aS6]
  have hFl:F.length<=100000:=by omega
  clear hN hNl;repeat' first|refine o6 ?_|simp -dsimp -implicitDefEqProofs (disch:=first|assumption|omega|simp only[ll];omega) only[go_sem,hic,hv8,hz]|refine vcJ ?_ ?_<;>intro _|refine vcA ?_ ?_;focus(repeat'(first|omega|assumption|refine vcA ?_ ?_);done)|omega|refine o7 (fun _=>?_)
  refine aa5 aa7 mixed [] [0,2,9,10,11] (fun i:Nat=>i<=s.length/\fieldsGo (s.drop i) []=F) (fun i=>[(12,.lit (.int .i64 i))]) (fun _=>H++[.cells (.one 9) ((gF F 0).map .str)]) (fun i=>s.length - i) (by kernel_rfl) ?_ 0 ⟨by omega,hF.symm⟩ y8 rfl
  rintro i ⟨hi,hd⟩
  by_cases hil:i < s.length
  ·have hic:((i:Int) < ((s.length:Nat):Int))=True:=eq_true (by omega)
   have hsp:=a05 (s.getD i 0);have hc128:(s.getD i 0).toNat < 128:=ha _ (by rw[List.getD,xq1 hil];exact aM4 hil)
   have hfd:=aR2 hil [];cases hb:spB (s.getD i 0) with
   |true=>
    rw[hb,if_pos rfl] at hsp;rw[hb,if_pos rfl,if_pos rfl] at hfd;repeat' first|refine o6 ?_|simp -dsimp -implicitDefEqProofs (disch:=first|assumption|omega|simp only[ll];omega) only[go_sem,hic,hsp]|refine vcJ ?_ ?_<;>intro _|refine vcA ?_ ?_;focus(repeat'(first|omega|assumption|refine vcA ?_ ?_);done)|omega|refine o7 (fun _=>?_)
    refine again (i+1) ?_ ?_ rfl y8
    ·omega
    ·exact⟨by omega,by rw[<-hfd];exact hd⟩
   |false=>
    rw[hb,if_neg (by decide)] at hsp
    repeat' first|refine o6 ?_|simp -dsimp -implicitDefEqProofs (disch:=first|assumption|omega|simp only[ll];omega) only[go_sem,hic,hsp]|refine vcJ ?_ ?_<;>intro _|refine vcA ?_ ?_;focus(repeat'(first|omega|assumption|refine vcA ?_ ?_);done)|omega|refine o7 (fun _=>?_)
    refine aa5 aa7 mixed [] [0,2,9] (fun p:Nat×Nat×Nat=>p.2.1<=p.1/\p.1<=s.length/\p.2.2<=F.length/\F=F.take p.2.2++fieldsGo (s.drop p.1) (aH0 s p.2.1 p.1)/\(p.2.1 < s.length->spB (s.getD p.2.1 0)=false)) (fun p=>[(10,.lit (.int .i64 p.2.2)),(11,.lit (.int .i64 p.2.1)),(12,.lit (.int .i64 p.1))]) (fun p=>H++[.cells (.one 9) ((gF F p.2.2).map .str)]) (fun p=>s.length - p.1) (by kernel_rfl) ?_ (i,i,0) ⟨xq0 _,hi,aL0 _,by rw[piece_nil,hd];simp,fun _=>hb⟩ y8 rfl
    rintro⟨i,fs,na⟩ ⟨hfi,hi,hna,hd,hfs⟩
    dsimp only at hfi hi hna hd hfs⊢;have hgl:=ds8 F hna;by_cases hil:i < s.length
    ·have hic:((i:Int) < ((s.length:Nat):Int))=True:=eq_true (by omega)
     have hsp:=a05 (s.getD i 0);have hc128:(s.getD i 0).toNat < 128:=ha _ (by rw[List.getD,xq1 hil];exact aM4 hil)
     have hfd:=aR2 hil (aH0 s fs i);cases hb:spB (s.getD i 0) with
     |false=>
      rw[hb,if_neg (by decide)] at hsp
      rw[hb,if_neg (by decide),b88 hfi hil] at hfd
      repeat' first|refine o6 ?_|simp -dsimp -implicitDefEqProofs (disch:=first|assumption|omega|simp only[ll];omega) only[go_sem,hic,hsp]|refine vcJ ?_ ?_<;>intro _|refine vcA ?_ ?_;focus(repeat'(first|omega|assumption|refine vcA ?_ ?_);done)|omega|refine o7 (fun _=>?_)
      refine again ((i+1,fs,na)) ?_ ?_ rfl y8
      ·dsimp only;omega
      ·exact⟨by dsimp only;omega,by dsimp only;omega,hna,by rw[<-hfd];exact hd,hfs⟩
     |true=>
      rw[hb,if_pos rfl] at hsp;have hlt:fs < i:=by
       rcases am5 fs i with h|h
       ·exact h
       ·obtain rfl:fs=i:=by omega
        rw[hfs hil] at hb;cases hb
      rw[hb,if_pos rfl,if_neg (piece_ne hlt (by omega))] at hfd
      rw[hfd] at hd;obtain⟨hnl,hgs,hd2⟩:=cc1 hd hna;have hst:((gF F na).map AV.str).set na (.str ((s.drop fs).take (i - fs)))=(gF F (na+1)).map .str:=by
       rw[<-hgs,ao7];rfl
      repeat' first|refine o6 ?_|simp -dsimp -implicitDefEqProofs (disch:=first|assumption|omega|simp only[ll];omega) only[go_sem,hic,hsp,hgl,hst]|refine vcJ ?_ ?_<;>intro _|refine vcA ?_ ?_;focus(repeat'(first|omega|assumption|refine vcA ?_ ?_);done)|omega|refine o7 (fun _=>?_)
      refine aa5 aa7 mixed [] [0,2,9,10,11,57,58,59,60,61,62,63,64,65,66,67,68,69,70,71,72,73,74,75,76,77,78,79] (fun j:Nat=>j<=s.length/\i < j/\F=F.take (na+1)++fieldsGo (s.drop j) []) (fun j=>[(12,.lit (.int .i64 j)),(10,.lit (.int .i64 ((na+1:Nat):Int)))]) (fun _=>H++[.cells (.one 9) ((gF F (na+1)).map .str)]) (fun j=>s.length - j) (by kernel_rfl) ?_ (i+1) ⟨by omega,by omega,hd2⟩ y8 rfl
      rintro j ⟨hj,hij,hdj⟩
      by_cases hjl:j < s.length
      ·have hjc:((j:Int) < ((s.length:Nat):Int))=True:=eq_true (by omega)
       have hspj:=a05 (s.getD j 0);have hcj:(s.getD j 0).toNat < 128:=ha _ (by rw[List.getD,xq1 hjl];exact aM4 hjl)
       have hfj:=aR2 hjl [];cases hbj:spB (s.getD j 0) with
       |true=>
        rw[hbj,if_pos rfl] at hspj;rw[hbj,if_pos rfl,if_pos rfl] at hfj;repeat' first|refine o6 ?_|simp -dsimp -implicitDefEqProofs (disch:=first|assumption|omega|simp only[ll];omega) only[go_sem,hjc,hspj]|refine vcJ ?_ ?_<;>intro _|refine vcA ?_ ?_;focus(repeat'(first|omega|assumption|refine vcA ?_ ?_);done)|omega|refine o7 (fun _=>?_)
        refine again (j+1) ?_ ?_ rfl y8
        ·omega
        ·exact⟨by omega,by omega,by rw[<-hfj];exact hdj⟩
       |false=>
        rw[hbj,if_neg (by decide)] at hspj
        repeat' first|refine o6 ?_|simp -dsimp -implicitDefEqProofs (disch:=first|assumption|omega|simp only[ll];omega) only[go_sem,hjc,hspj]|refine vcJ ?_ ?_<;>intro _|refine vcA ?_ ?_;focus(repeat'(first|omega|assumption|refine vcA ?_ ?_);done)|omega|refine o7 (fun _=>?_)
        refine again ((j,j,na+1)) ?_ ?_ rfl y8
        ·dsimp only;omega
        ·exact⟨xq0 _,hj,by dsimp only;omega,by dsimp only;rw[piece_nil];exact hdj,fun _=>hbj⟩
      ·obtain rfl:j=s.length:=by omega
       have hjc:(((s.length:Nat):Int) < ((s.length:Nat):Int))=False:=eq_false (by omega)
       repeat' first|refine o6 ?_|simp -dsimp -implicitDefEqProofs (disch:=first|assumption|omega|simp only[ll];omega) only[go_sem,hjc]|refine vcJ ?_ ?_<;>intro _|refine vcA ?_ ?_;focus(repeat'(first|omega|assumption|refine vcA ?_ ?_);done)|omega|refine o7 (fun _=>?_)
       refine again ((s.length,s.length,na+1)) ?_ ?_ rfl y8
       ·dsimp only;omega
       ·exact⟨xq0 _,xq0 _,by dsimp only;omega,by dsimp only;rw[piece_nil];exact hdj,fun h=>absurd h (by dsimp only;omega)⟩
    ·obtain rfl:i=s.length:=by omega
     have hic:(((s.length:Nat):Int) < ((s.length:Nat):Int))=False:=eq_false (by omega)
     rw[b34,fieldsGo] at hd;by_cases hfl:fs < s.length
     ·have hfc:((fs:Int) < ((s.length:Nat):Int))=True:=eq_true (by omega)
      rw[if_neg (piece_ne hfl (xq0 _))] at hd;obtain⟨hnl,hgs,hd2⟩:=cc1 hd hna;have hst:((gF F na).map AV.str).set na (.str (s.drop fs))=F.map .str:=by
       have hF1:F.length=na+1:=by
        have:=congrArg List.length hd2;rw[List.append_nil,List.length_take] at this;omega
       have e:F.map AV.str=(gF F (na+1)).map AV.str:=by rw[<-hF1,cc2]
       have ep:aH0 s fs s.length=s.drop fs:=ak5 (by rw[List.length_drop];omega)
       rw[e,<-hgs,ao7,ep]
      repeat' first|refine o6 ?_|simp -dsimp -implicitDefEqProofs (disch:=first|assumption|omega|simp only[ll];omega) only[go_sem,hic,hfc,hgl,hst]|refine vcJ ?_ ?_<;>intro _|refine vcA ?_ ?_;focus(repeat'(first|omega|assumption|refine vcA ?_ ?_);done)|omega|refine o7 (fun _=>?_)
      exact bd9 F
     ·have hfc:((fs:Int) < ((s.length:Nat):Int))=False:=eq_false (by omega)
      obtain rfl:fs=s.length:=by omega
      rw[piece_nil,if_pos rfl,List.append_nil] at hd;have hgF:gF F na=F:=by
       have:=congrArg List.length hd;rw[List.length_take] at this;have h2:na=F.length:=by omega
       rw[h2];exact cc2 F
      rw[hgF];repeat' first|refine o6 ?_|simp -dsimp -implicitDefEqProofs (disch:=first|assumption|omega|simp only[ll];omega) only[go_sem,hic]|refine vcJ ?_ ?_<;>intro _|refine vcA ?_ ?_;focus(repeat'(first|omega|assumption|refine vcA ?_ ?_);done)|omega|refine o7 (fun _=>?_)
      exact bd9 F
  ·obtain rfl:i=s.length:=by omega
   have hic:(((s.length:Nat):Int) < ((s.length:Nat):Int))=False:=eq_false (by omega)
   repeat' first|refine o6 ?_|simp -dsimp -implicitDefEqProofs (disch:=first|assumption|omega|simp only[ll];omega) only[go_sem,hic]|refine vcJ ?_ ?_<;>intro _|refine vcA ?_ ?_;focus(repeat'(first|omega|assumption|refine vcA ?_ ?_);done)|omega|refine o7 (fun _=>?_)
   refine aa5 aa7 mixed [] [0,2,9] (fun p:Nat×Nat×Nat=>p.2.1<=p.1/\p.1<=s.length/\p.2.2<=F.length/\F=F.take p.2.2++fieldsGo (s.drop p.1) (aH0 s p.2.1 p.1)/\(p.2.1 < s.length->spB (s.getD p.2.1 0)=false)) (fun p=>[(10,.lit (.int .i64 p.2.2)),(11,.lit (.int .i64 p.2.1)),(12,.lit (.int .i64 p.1))]) (fun p=>H++[.cells (.one 9) ((gF F p.2.2).map .str)]) (fun p=>s.length - p.1) (by kernel_rfl) ?_ (s.length,s.length,0) ⟨xq0 _,hi,aL0 _,by rw[piece_nil,hd];simp,fun h=>absurd h (by dsimp only;omega)⟩ y8 rfl
   rintro⟨i,fs,na⟩ ⟨hfi,hi,hna,hd,hfs⟩
   dsimp only at hfi hi hna hd hfs⊢;have hgl:=ds8 F hna;by_cases hil:i < s.length
   ·have hic:((i:Int) < ((s.length:Nat):Int))=True:=eq_true (by omega)
    have hsp:=a05 (s.getD i 0);have hc128:(s.getD i 0).toNat < 128:=ha _ (by rw[List.getD,xq1 hil];exact aM4 hil)
    have hfd:=aR2 hil (aH0 s fs i);cases hb:spB (s.getD i 0) with
    |false=>
     rw[hb,if_neg (by decide)] at hsp
     rw[hb,if_neg (by decide),b88 hfi hil] at hfd
     repeat' first|refine o6 ?_|simp -dsimp -implicitDefEqProofs (disch:=first|assumption|omega|simp only[ll];omega) only[go_sem,hic,hsp]|refine vcJ ?_ ?_<;>intro _|refine vcA ?_ ?_;focus(repeat'(first|omega|assumption|refine vcA ?_ ?_);done)|omega|refine o7 (fun _=>?_)
     refine again ((i+1,fs,na)) ?_ ?_ rfl y8
     ·dsimp only;omega
     ·exact⟨by dsimp only;omega,by dsimp only;omega,hna,by rw[<-hfd];exact hd,hfs⟩
    |true=>
     rw[hb,if_pos rfl] at hsp;have hlt:fs < i:=by
      rcases am5 fs i with h|h
      ·exact h
      ·obtain rfl:fs=i:=by omega
       rw[hfs hil] at hb;cases hb
     rw[hb,if_pos rfl,if_neg (piece_ne hlt (by omega))] at hfd
     rw[hfd] at hd;obtain⟨hnl,hgs,hd2⟩:=cc1 hd hna;have hst:((gF F na).map AV.str).set na (.str ((s.drop fs).take (i - fs)))=(gF F (na+1)).map .str:=by
      rw[<-hgs,ao7];rfl
     repeat' first|refine o6 ?_|simp -dsimp -implicitDefEqProofs (disch:=first|assumption|omega|simp only[ll];omega) only[go_sem,hic,hsp,hgl,hst]|refine vcJ ?_ ?_<;>intro _|refine vcA ?_ ?_;focus(repeat'(first|omega|assumption|refine vcA ?_ ?_);done)|omega|refine o7 (fun _=>?_)
     refine aa5 aa7 mixed [] [0,2,9,10,11,57,58,59,60,61,62,63,64,65,66,67,68,69,70,71,72,73,74,75,76,77,78,79] (fun j:Nat=>j<=s.length/\i < j/\F=F.take (na+1)++fieldsGo (s.drop j) []) (fun j=>[(12,.lit (.int .i64 j)),(10,.lit (.int .i64 ((na+1:Nat):Int)))]) (fun _=>H++[.cells (.one 9) ((gF F (na+1)).map .str)]) (fun j=>s.length - j) (by kernel_rfl) ?_ (i+1) ⟨by omega,by omega,hd2⟩ y8 rfl
     rintro j ⟨hj,hij,hdj⟩
     by_cases hjl:j < s.length
     ·have hjc:((j:Int) < ((s.length:Nat):Int))=True:=eq_true (by omega)
      have hspj:=a05 (s.getD j 0);have hcj:(s.getD j 0).toNat < 128:=ha _ (by rw[List.getD,xq1 hjl];exact aM4 hjl)
      have hfj:=aR2 hjl [];cases hbj:spB (s.getD j 0) with
      |true=>
       rw[hbj,if_pos rfl] at hspj;rw[hbj,if_pos rfl,if_pos rfl] at hfj;repeat' first|refine o6 ?_|simp -dsimp -implicitDefEqProofs (disch:=first|assumption|omega|simp only[ll];omega) only[go_sem,hjc,hspj]|refine vcJ ?_ ?_<;>intro _|refine vcA ?_ ?_;focus(repeat'(first|omega|assumption|refine vcA ?_ ?_);done)|omega|refine o7 (fun _=>?_)
       refine again (j+1) ?_ ?_ rfl y8
       ·omega
       ·exact⟨by omega,by omega,by rw[<-hfj];exact hdj⟩
      |false=>
       rw[hbj,if_neg (by decide)] at hspj
       repeat' first|refine o6 ?_|simp -dsimp -implicitDefEqProofs (disch:=first|assumption|omega|simp only[ll];omega) only[go_sem,hjc,hspj]|refine vcJ ?_ ?_<;>intro _|refine vcA ?_ ?_;focus(repeat'(first|omega|assumption|refine vcA ?_ ?_);done)|omega|refine o7 (fun _=>?_)
       refine again ((j,j,na+1)) ?_ ?_ rfl y8
       ·dsimp only;omega
       ·exact⟨xq0 _,hj,by dsimp only;omega,by dsimp only;rw[piece_nil];exact hdj,fun _=>hbj⟩
     ·obtain rfl:j=s.length:=by omega
      have hjc:(((s.length:Nat):Int) < ((s.length:Nat):Int))=False:=eq_false (by omega)
      repeat' first|refine o6 ?_|simp -dsimp -implicitDefEqProofs (disch:=first|assumption|omega|simp only[ll];omega) only[go_sem,hjc]|refine vcJ ?_ ?_<;>intro _|refine vcA ?_ ?_;focus(repeat'(first|omega|assumption|refine vcA ?_ ?_);done)|omega|refine o7 (fun _=>?_)
      refine again ((s.length,s.length,na+1)) ?_ ?_ rfl y8
      ·dsimp only;omega
      ·exact⟨xq0 _,xq0 _,by dsimp only;omega,by dsimp only;rw[piece_nil];exact hdj,fun h=>absurd h (by dsimp only;omega)⟩
   ·obtain rfl:i=s.length:=by omega
    have hic:(((s.length:Nat):Int) < ((s.length:Nat):Int))=False:=eq_false (by omega)
    rw[b34,fieldsGo] at hd;by_cases hfl:fs < s.length
    ·have hfc:((fs:Int) < ((s.length:Nat):Int))=True:=eq_true (by omega)
     rw[if_neg (piece_ne hfl (xq0 _))] at hd;obtain⟨hnl,hgs,hd2⟩:=cc1 hd hna;have hst:((gF F na).map AV.str).set na (.str (s.drop fs))=F.map .str:=by
      have hF1:F.length=na+1:=by
       have:=congrArg List.length hd2;rw[List.append_nil,List.length_take] at this;omega
      have e:F.map AV.str=(gF F (na+1)).map AV.str:=by rw[<-hF1,cc2]
      have ep:aH0 s fs s.length=s.drop fs:=ak5 (by rw[List.length_drop];omega)
      rw[e,<-hgs,ao7,ep]
     repeat' first|refine o6 ?_|simp -dsimp -implicitDefEqProofs (disch:=first|assumption|omega|simp only[ll];omega) only[go_sem,hic,hfc,hgl,hst]|refine vcJ ?_ ?_<;>intro _|refine vcA ?_ ?_;focus(repeat'(first|omega|assumption|refine vcA ?_ ?_);done)|omega|refine o7 (fun _=>?_)
     exact bd9 F
    ·have hfc:((fs:Int) < ((s.length:Nat):Int))=False:=eq_false (by omega)
     obtain rfl:fs=s.length:=by omega
     rw[piece_nil,if_pos rfl,List.append_nil] at hd;have hgF:gF F na=F:=by
      have:=congrArg List.length hd;rw[List.length_take] at this;have h2:na=F.length:=by omega
      rw[h2];exact cc2 F
     rw[hgF];repeat' first|refine o6 ?_|simp -dsimp -implicitDefEqProofs (disch:=first|assumption|omega|simp only[ll];omega) only[go_sem,hic]|refine vcJ ?_ ?_<;>intro _|refine vcA ?_ ?_;focus(repeat'(first|omega|assumption|refine vcA ?_ ?_);done)|omega|refine o7 (fun _=>?_)
     exact bd9 F
end
section
namespace W64
open Go V
theorem bh6(x:BitVec 64):IntKind.u64.wrap (x.toNat:Int)=(x.toNat:Int):=aW0 x.isLt
theorem cS6(x y:BitVec 64):IntKind.u64.wrap ((x.toNat:Int)+(y.toNat:Int))=((x+y).toNat:Int):=by
 rw[bO3];simp[IntKind.wrap,IntKind.signed,IntKind.bits]
theorem u64_xor(x y:BitVec 64):IntKind.u64.wrap (((BitVec.ofInt IntKind.u64.bits (x.toNat:Int)^^^BitVec.ofInt IntKind.u64.bits (y.toNat:Int)).toNat:Nat):Int)=((x^^^y).toNat:Int):=by
 show IntKind.u64.wrap (((BitVec.ofInt 64 (x.toNat:Int)^^^BitVec.ofInt 64 (y.toNat:Int)).toNat:Nat):Int)=_
 rw[aq0,aq0,bh6]
theorem u64_and(x y:BitVec 64):IntKind.u64.wrap (((BitVec.ofInt IntKind.u64.bits (x.toNat:Int)&&&BitVec.ofInt IntKind.u64.bits (y.toNat:Int)).toNat:Nat):Int)=((x&&&y).toNat:Int):=by
 show IntKind.u64.wrap (((BitVec.ofInt 64 (x.toNat:Int)&&&BitVec.ofInt 64 (y.toNat:Int)).toNat:Nat):Int)=_
 rw[aq0,aq0,bh6]
theorem u64_or(x y:BitVec 64):IntKind.u64.wrap (((BitVec.ofInt IntKind.u64.bits (x.toNat:Int)|||BitVec.ofInt IntKind.u64.bits (y.toNat:Int)).toNat:Nat):Int)=((x|||y).toNat:Int):=by
 show IntKind.u64.wrap (((BitVec.ofInt 64 (x.toNat:Int)|||BitVec.ofInt 64 (y.toNat:Int)).toNat:Nat):Int)=_
 rw[aq0,aq0,bh6]
theorem dU2(x:BitVec 64):IntKind.u64.wrap (((BitVec.ofInt IntKind.u64.bits (if IntKind.u64.signed=true then -1 else IntKind.u64.max)^^^BitVec.ofInt IntKind.u64.bits (x.toNat:Int)).toNat:Nat):Int)=((~~~ x).toNat:Int):=by
 show IntKind.u64.wrap (((BitVec.allOnes 64^^^BitVec.ofInt 64 (x.toNat:Int)).toNat:Nat):Int)=_
 rw[aq0,BitVec.xor_comm,BitVec.xor_allOnes,bh6]
attribute [go_sem] cS6 u64_xor u64_and u64_or dU2
theorem d95(x:BitVec 64):x.toNat/128=(x>>>7).toNat:=by simp[aM1]
theorem d96(x:BitVec 64):x.toNat/64=(x>>>6).toNat:=by simp[aM1]
theorem cz6{x:BitVec 64}{n:Nat}(h1:1<=n)(h2:n<=63):IntKind.u64.wrap (((BitVec.ofInt IntKind.u64.bits (IntKind.u64.wrap ((x.toNat:Int)*2^(64 - n)))|||BitVec.ofInt IntKind.u64.bits (((x.toNat/2^n:Nat)):Int)).toNat:Nat):Int)=((x.rotateRight n).toNat:Int):=by
 show IntKind.u64.wrap (((BitVec.ofInt 64 (IntKind.u64.wrap ((x.toNat:Int)*2^(64 - n)))|||BitVec.ofInt 64 (((x.toNat/2^n:Nat)):Int)).toNat:Nat):Int)=_
 have e1:BitVec.ofInt 64 (IntKind.u64.wrap ((x.toNat:Int)*2^(64 - n)))=x<<<(64 - n):=by
  have:IntKind.u64.wrap ((x.toNat:Int)*2^(64 - n))=((x<<<(64 - n)).toNat:Int):=by
   rw[bs4,bs3];simp[IntKind.wrap,IntKind.signed,IntKind.bits]
  rw[this,aq0]
 have e2:BitVec.ofInt 64 (((x.toNat/2^n:Nat)):Int)=x>>>n:=by
  have:x.toNat/2^n=(x>>>n).toNat:=by simp[aM1]
  rw[this,aq0]
 rw[e1,e2,bh6];congr 2
 rw[BitVec.rotateRight_def,aA7 (by omega),BitVec.or_comm]
theorem dw8{a:Int}(h:0<=a/\a < 18446744073709551616):((BitVec.ofInt IntKind.u64.bits a&&&BitVec.ofInt IntKind.u64.bits 63).toNat:Int)=a%64:=bg2 (k:=64) (m:=6) h.1 h.2 (by omega)
theorem df6(x:BitVec 64)(n:Nat)(H:List AObj)(h1:1<=n)(h2:n<=63):o9 Tryz.prog 162 [wAV .u64 x,.lit (.int .i64 (0 - (n:Int)))] H (fun y H'=>y=wAV .u64 (x.rotateRight n)/\H'=H):=by
 have hr:=cz6 (x:=x) h1 h2;have w1:IntKind.u64.wrap (0 - (n:Int))=18446744073709551616 - n:=by
  simp[IntKind.wrap,IntKind.signed,IntKind.bits]<;>omega
 have w2:((BitVec.ofInt IntKind.u64.bits (18446744073709551616 - (n:Int))&&&BitVec.ofInt IntKind.u64.bits 63).toNat:Int)=64 - (n:Int):=by
  rw[dw8 (by omega)]
  omega
 have m1:min (64 - (n:Int)).toNat 64=64 - n:=by omega
 have m2:min (64 - (64 - (n:Int))).toNat 64=n:=by omega
 have m3:(x.toNat:Int).fdiv (2^n)=((x.toNat/2^n:Nat):Int):=by
  rw[an0 (b37 (Int.pow_pos (by decide)))]
  have:((2:Int)^n)=((2^n:Nat):Int):=by simp
  rw[this,Int.toNat_natCast]
 refine y7 [] [.tmp 4] 17 Tryz.func162 rfl rfl rfl rfl (nlb rfl) (by kernel_rfl) ?_
 repeat' first|refine o6 ?_|simp -dsimp -implicitDefEqProofs (disch:=first|assumption|omega|simp only[ll];omega) only[go_sem,w1,w2,m1,m2,m3,hr]|refine vcJ ?_ ?_<;>intro _|refine vcA ?_ ?_;focus(repeat'(first|omega|assumption|refine vcA ?_ ?_);done)|omega|refine o7 (fun _=>?_)
 exact y5 ⟨rfl,rfl⟩
theorem bh7{o:Own}(x:BitVec 64)(ns:List Nat)(H:List AObj)(hn: ∀n∈ns,1<=n/\n<=63)(hl:ns.length<=100):o9 Tryz.prog 108 [wAV .u64 x,.sl o 1 (ns.map fun n:Nat=>.lit (.int .i64 (n:Int)))] H (fun y H'=>y=wAV .u64 (ns.foldl (fun a n=>a^^^x.rotateRight n) 0)/\H'=H):=by
 refine y7 [] [.tmp 4] 22 Tryz.func108 rfl rfl rfl rfl (nlb rfl) (by kernel_rfl) ?_
 repeat' first|refine o6 ?_|simp -dsimp -implicitDefEqProofs (disch:=first|assumption|omega|simp only[ll];omega) only[go_sem]|refine vcJ ?_ ?_<;>intro _|refine vcA ?_ ?_;focus(repeat'(first|omega|assumption|refine vcA ?_ ?_);done)|omega|refine o7 (fun _=>?_)
 refine aa5 aa7 mixed [] [0,4,8,9] (fun i:Nat=>i<=ns.length) (fun i=>[(5,wAV .u64 ((ns.take i).foldl (fun a n=>a^^^x.rotateRight n) 0)),(10,.lit (.int .i64 i))]) (fun _=>H) (fun i=>ns.length - i) (by kernel_rfl) ?_ 0 (by omega) y8 rfl
 intro i hi;by_cases hil:i < ns.length
 ·have hx:(ns.map fun n:Nat=>AV.lit (.int .i64 (n:Int))).getD i .any=.lit (.int .i64 ((ns.getD i 0:Nat):Int)):=by simp[List.getD,xq1 hil]
  have hm:=hn _ (co5 (d:=0) hil);have hs:(ns.take (i+1)).foldl (fun a n=>a^^^x.rotateRight n) 0=(ns.take i).foldl (fun a n=>a^^^x.rotateRight n) 0^^^x.rotateRight (ns.getD i 0):=by
   rw[aZ1 hil,b36,List.getD,xq1 hil];rfl
  generalize ns.getD i 0=n at*;repeat' first|refine o6 ?_|simp -dsimp -implicitDefEqProofs (disch:=first|assumption|omega|simp only[ll];omega) only[go_sem,hx]|refine o5 (df6 x n _ hm.1 hm.2) ?_|refine vcJ ?_ ?_<;>intro _|refine vcA ?_ ?_;focus(repeat'(first|omega|assumption|refine vcA ?_ ?_);done)|omega|refine o7 (fun _=>?_)
  rw[<-hs];refine again (i+1) ?_ ?_ rfl y8
  ·omega
  ·omega
 ·obtain rfl:i=ns.length:=by omega
  rw[aZ6];repeat' first|refine o6 ?_|simp -dsimp -implicitDefEqProofs (disch:=first|assumption|omega|simp only[ll];omega) only[go_sem]|refine vcJ ?_ ?_<;>intro _|refine vcA ?_ ?_;focus(repeat'(first|omega|assumption|refine vcA ?_ ?_);done)|omega|refine o7 (fun _=>?_)
  exact y5 ⟨rfl,rfl⟩
end W64
end
section
namespace W64
open Go V
theorem eb3: ∀i,i < 80->be9.getD i 0=(kOf 64 i).toNat:=by decide+kernel
theorem bI5(i:Nat)(H:List AObj)(hi:i < 80):o9 Tryz.prog 106 [.lit (.int .i64 (i:Int))] H (fun y H'=>y=wAV .u64 (kOf 64 i)/\H'=H):=by
 have h:=eb3 i hi;refine y7 [] [.tmp 2] 6 Tryz.func106 rfl rfl rfl rfl (nlb rfl) (by kernel_rfl) ?_
 repeat' first|refine o6 ?_|simp -dsimp -implicitDefEqProofs (disch:=first|assumption|omega|simp only[ll];omega) only[go_sem,h]|refine vcJ ?_ ?_<;>intro _|refine vcA ?_ ?_;focus(repeat'(first|omega|assumption|refine vcA ?_ ?_);done)|omega|refine o7 (fun _=>?_)
 exact y5 ⟨rfl,rfl⟩
theorem bo9{x:BitVec 64}(a b c:Nat):[a,b,c].foldl (fun o n=>o^^^x.rotateRight n) (0:BitVec 64)=bigT x (a,b,c):=by
 simp[bigT]
theorem aW5{x:BitVec 64}(a b c:Nat):[a,b].foldl (fun o n=>o^^^x.rotateRight n) (0:BitVec 64)^^^(x>>>c)=aE0 x (a,b,c):=by
 simp[aE0]
theorem bv4(x:BitVec 64)(H:List AObj):o9 Tryz.prog 107 [wAV .u64 x] H (fun y H'=>y=wAV .u64 (bigT x (28,34,39))/\H'=H):=by
 have ht:=fun H=>bh7 (o:=.full) x [28,34,39] H (by decide) (by decide)
 rw[bo9] at ht;refine y7 [] [.tmp 2] 6 Tryz.func107 rfl rfl rfl rfl (nlb rfl) (by kernel_rfl) ?_
 repeat' first|refine o6 ?_|simp -dsimp -implicitDefEqProofs (disch:=first|assumption|omega|simp only[ll];omega) only[go_sem]|refine o5 (ht _) ?_|refine⟨_,_,ht _,?_⟩|refine vcJ ?_ ?_<;>intro _|refine vcA ?_ ?_;focus(repeat'(first|omega|assumption|refine vcA ?_ ?_);done)|omega|refine o7 (fun _=>?_)
 exact y5 ⟨rfl,rfl⟩
theorem bv3(x:BitVec 64)(H:List AObj):o9 Tryz.prog 109 [wAV .u64 x] H (fun y H'=>y=wAV .u64 (bigT x (14,18,41))/\H'=H):=by
 have ht:=fun H=>bh7 (o:=.full) x [14,18,41] H (by decide) (by decide)
 rw[bo9] at ht;refine y7 [] [.tmp 2] 6 Tryz.func109 rfl rfl rfl rfl (nlb rfl) (by kernel_rfl) ?_
 repeat' first|refine o6 ?_|simp -dsimp -implicitDefEqProofs (disch:=first|assumption|omega|simp only[ll];omega) only[go_sem]|refine o5 (ht _) ?_|refine⟨_,_,ht _,?_⟩|refine vcJ ?_ ?_<;>intro _|refine vcA ?_ ?_;focus(repeat'(first|omega|assumption|refine vcA ?_ ?_);done)|omega|refine o7 (fun _=>?_)
 exact y5 ⟨rfl,rfl⟩
theorem bv2(x:BitVec 64)(H:List AObj):o9 Tryz.prog 110 [wAV .u64 x] H (fun y H'=>y=wAV .u64 (aE0 x (1,8,7))/\H'=H):=by
 have ht:=fun H=>bh7 (o:=.full) x [1,8] H (by decide) (by decide)
 have hs:=aW5 (x:=x) 1 8 7;refine y7 [] [.tmp 2] 9 Tryz.func110 rfl rfl rfl rfl (nlb rfl) (by kernel_rfl) ?_
 repeat' first|refine o6 ?_|simp -dsimp -implicitDefEqProofs (disch:=first|assumption|omega|simp only[ll];omega) only[go_sem,d95,hs]|refine o5 (ht _) ?_|refine⟨_,_,ht _,?_⟩|refine vcJ ?_ ?_<;>intro _|refine vcA ?_ ?_;focus(repeat'(first|omega|assumption|refine vcA ?_ ?_);done)|omega|refine o7 (fun _=>?_)
 exact y5 ⟨rfl,rfl⟩
theorem bv1(x:BitVec 64)(H:List AObj):o9 Tryz.prog 111 [wAV .u64 x] H (fun y H'=>y=wAV .u64 (aE0 x (19,61,6))/\H'=H):=by
 have ht:=fun H=>bh7 (o:=.full) x [19,61] H (by decide) (by decide)
 have hs:=aW5 (x:=x) 19 61 6;refine y7 [] [.tmp 2] 9 Tryz.func111 rfl rfl rfl rfl (nlb rfl) (by kernel_rfl) ?_
 repeat' first|refine o6 ?_|simp -dsimp -implicitDefEqProofs (disch:=first|assumption|omega|simp only[ll];omega) only[go_sem,d96,hs]|refine o5 (ht _) ?_|refine⟨_,_,ht _,?_⟩|refine vcJ ?_ ?_<;>intro _|refine vcA ?_ ?_;focus(repeat'(first|omega|assumption|refine vcA ?_ ?_);done)|omega|refine o7 (fun _=>?_)
 exact y5 ⟨rfl,rfl⟩
theorem b09{xs:List AV}{H:List AObj}(hu: ∀y∈xs,y.flat.length=1/\y.okv=true)(hne:xs≠[])(hl:xs.length<=100000):o9 Tryz.prog 202 [.sl .sh 1 xs] H (fun y H'=>y=.sl (.tok H.length) 1 xs/\H'=H++[.grow 1 xs.length none]):=by
 have hpos:=aS7.2 hne;refine y7 [] [.tmp 2] 8 Tryz.func202 rfl rfl rfl rfl (nlb rfl) (by kernel_rfl) ?_
 repeat' first|refine o6 ?_|simp -dsimp -implicitDefEqProofs (disch:=first|assumption|omega|simp only[ll];omega) only[go_sem,hne]|refine vcJ ?_ ?_<;>intro _|refine vcA ?_ ?_;focus(repeat'(first|omega|assumption|refine vcA ?_ ?_);done)|omega|refine o7 (fun _=>?_)
 exact aI0 ⟨rfl,rfl⟩
def aQ7(s:Sha.St 64):List AV:=[wAV .u64 s.a,wAV .u64 s.b,wAV .u64 s.c,wAV .u64 s.d,wAV .u64 s.e,wAV .u64 s.f,wAV .u64 s.g,wAV .u64 s.h,.lit (.int .i64 80),.fn (.func 106) [] [],.fn (.func 107) [] [],.fn (.func 109) [] [],.fn (.func 110) [] [],.fn (.func 111) [] []]
def am6(s:Sha.St 64):AObj:=.cells (.one 136) (aQ7 s)
theorem bB6{m:Nat}{s:Sha.St 64}: ∀sh cs,am6 s=.cells sh cs-> ∀y∈cs,Low m y:=fun sh cs h y hy=>by
 unfold am6 aQ7 at h;cases h
 simp only[ai9,aG2,or_false] at hy;rcases hy with rfl|rfl|rfl|rfl|rfl|rfl|rfl|rfl|rfl|rfl|rfl|rfl|rfl|rfl
 all_goals first|exact .lit _|exact .fn _ _ _ (fun _ h=>by cases h) (fun _ h=>by cases h)
def ao2:List AV:=[.lit (.int .i64 80),.fn (.func 106) [] [],.fn (.func 107) [] [],.fn (.func 109) [] [],.fn (.func 110) [] [],.fn (.func 111) [] []]
theorem bv9(s:Sha.St 64):am6 s=.cells (.one 136) (s.list.map (wAV .u64)++ao2):=rfl
def ap4(s t:List (BitVec 64))(i:Nat):List (BitVec 64):=(List.range 8).map fun j=>if j < i then s.getD j 0+t.getD j 0 else s.getD j 0
theorem bo0(s t:List (BitVec 64))(i:Nat):(ap4 s t i).length=8:=by simp[ap4]
theorem bJ9(s t:Sha.St 64):ap4 s.list t.list 0=s.list:=rfl
theorem bY4(s t:Sha.St 64):ap4 s.list t.list 8=(Sha.add s t).list:=rfl
theorem bY3{s t:List (BitVec 64)}{i:Nat}(h:i < 8):(ap4 s t i).set i ((ap4 s t i).getD i 0+t.getD i 0)=ap4 s t (i+1):=by
 have hg: ∀i j,(ap4 s t i)[j]?=if j < 8 then some (if j < i then s.getD j 0+t.getD j 0 else s.getD j 0) else none:=fun i j=>by
  unfold ap4;rw[ak6];by_cases h1:j < 8
  ·rw[aM3 h1,if_pos h1]
   rfl
  ·rw[av9 (by simp;omega),if_neg h1]
   rfl
 apply aV9
 intro j;have hgd:(ap4 s t i).getD i 0=s.getD i 0:=by rw[List.getD,hg,if_pos h,if_neg (by omega)];rfl
 rw[aZ4,hg,hg,hgd,bo0];by_cases h1:j < 8
 ·rw[if_pos h1,if_pos h1]
  split
  ·rename_i e
   subst e;rw[if_pos (by omega)]
  ·rename_i e
   by_cases h3:j < i
   ·rw[if_pos h3,if_pos (by omega)]
   ·rw[if_neg h3,if_neg (by omega)]
 ·rw[if_neg h1,if_neg h1,if_neg (by omega)]
theorem ci0(M:List (BitVec 64))(s:Sha.St 64)(i:Nat):ad1.steps M s (i+1)=⟨(ad1.steps M s i).h+bigT (ad1.steps M s i).e (14,18,41)+((ad1.steps M s i).e&&&(ad1.steps M s i).f^^^ ~~~ (ad1.steps M s i).e&&&(ad1.steps M s i).g)+kOf 64 i+M.getD i 0+(bigT (ad1.steps M s i).a (28,34,39)+((ad1.steps M s i).a&&&(ad1.steps M s i).b^^^(ad1.steps M s i).a&&&(ad1.steps M s i).c^^^(ad1.steps M s i).b&&&(ad1.steps M s i).c)),
  (ad1.steps M s i).a,(ad1.steps M s i).b,(ad1.steps M s i).c,(ad1.steps M s i).d+((ad1.steps M s i).h+bigT (ad1.steps M s i).e (14,18,41)+((ad1.steps M s i).e&&&(ad1.steps M s i).f^^^ ~~~ (ad1.steps M s i).e&&&(ad1.steps M s i).g)+kOf 64 i+M.getD i 0),(ad1.steps M s i).e,(ad1.steps M s i).f,(ad1.steps M s i).g⟩:=by
 rw[Sha.steps];generalize ad1.steps M s i=t;rfl
theorem ch1(s:Sha.St 64)(m:List (BitVec 64)):ad1.take s m=Sha.add s (ad1.steps (ad1.sched m 64) s 80):=rfl
theorem cy2{k:Nat}{s:Sha.St 64}{H:List AObj}(m:List (BitVec 64))(hk:H[k]?=some (am6 s))(hm:m.length=16):
  o9 Tryz.prog 164 [.mp k 0,.agg (m.map (wAV .u64))] H (fun x H'=>x=.tup []/\H'=H.set k (am6 (ad1.take s m))):=by
 have hkl:=y9 hk;unfold am6 aQ7 at hk;have hc:=fun H=>b09 (xs:=m.map (wAV .u64)) (H:=H) (fun y hy=>by obtain⟨z,_,rfl⟩:=xq9.1 hy;exact⟨rfl,rfl⟩) (by intro e;have:=congrArg List.length e;simp at this;rw[this] at hm;cases hm) (by simp;omega)
 have hk1: ∀M,(H++M)[k]?=H[k]?:=fun M=>xq4 hkl
 refine y7 [1000005,1000005005015,1000005005032,1000005021015,1000005021032,1000005026015,1000005031015,1000006,1000010,1000010020006,1000017] [] 195 Tryz.func164 rfl rfl rfl rfl (nlb rfl) (by kernel_rfl) ?_
 repeat' first|refine o6 ?_|simp -dsimp -implicitDefEqProofs (disch:=first|assumption|omega|simp only[ll];omega) only[go_sem,dm4,ac4,hm]|refine o5 (hc _) ?_|refine⟨_,_,hc _,?_⟩|refine vcJ ?_ ?_<;>intro _|refine vcA ?_ ?_;focus(repeat'(first|omega|assumption|refine vcA ?_ ?_);done)|omega|refine o7 (fun _=>?_)
 refine aa5 aa7 mixed [1000005,1000005005015,1000005005032,1000005021015,1000005021032,1000005026015,1000005031015,1000006,1000010,1000010020006,1000017] [0] (fun n:Nat=>n<=64) (fun n=>[(4,.sl (.tok H.length) 1 ((ad1.sched m n).map (wAV .u64))),(5,.lit (.int .i64 ((16+n:Nat):Int)))]) (fun n=>H++[.grow 1 (16+n) none]) (fun n=>64 - n) (by kernel_rfl) ?_ 0 (by omega) y8 (by simp[hm])
 ·intro n hn
  have hl:=ad1.sched_len m n;rw[hm] at hl;have hs:ad1.sched m (n+1)=ad1.sched m n++[(ad1.sched m n).getD n 0+aE0 ((ad1.sched m n).getD (n+1) 0) (1,8,7)+(ad1.sched m n).getD (n+9) 0+aE0 ((ad1.sched m n).getD (n+14) 0) (19,61,6)]:=by
   show ad1.sched m n++[ad1.next (ad1.sched m n)]=_
   unfold Sha.next;rw[hl,show 16+n - 16=n by omega,show 16+n - 15=n+1 by omega,show 16+n - 7=n+9 by omega,show 16+n - 2=n+14 by omega]
   rfl
  have hM:=fun x=>eg3 (K:=.u64) (ad1.sched m n) x
  have z1:(((16+n:Nat):Int) - 16).toNat=n:=by omega
  have z2:(((16+n:Nat):Int) - 15).toNat=n+1:=by omega
  have z3:(((16+n:Nat):Int) - 7).toNat=n+9:=by omega
  have z4:(((16+n:Nat):Int) - 2).toNat=n+14:=by omega
  by_cases h:n < 64
  ·have hc:(((16+n:Nat):Int) < 80)=True:=eq_true (by omega)
   generalize ad1.sched m n=M at*;repeat' first|refine o6 ?_|simp -dsimp -implicitDefEqProofs (disch:=first|assumption|omega|simp only[ll];omega) only[go_sem,hk,hk1,hc,z1,z2,z3,z4,ac1,hM]|refine o5 (bv2 _ _) ?_|refine⟨_,_,bv2 _ _,?_⟩|refine o5 (bv1 _ _) ?_|refine⟨_,_,bv1 _ _,?_⟩|refine vcJ ?_ ?_<;>intro _|refine vcA ?_ ?_;focus(repeat'(first|omega|assumption|refine vcA ?_ ?_);done)|omega|refine o7 (fun _=>?_)
   rw[<-hs];refine again (n+1) ?_ ?_ ?_ y8
   ·omega
   ·omega
   ·rw[hl]
    rfl
  ·obtain rfl:n=64:=by omega
   have hc:(((16+64:Nat):Int) < 80)=False:=eq_false (by omega)
   have hsl:=fun i=>ci0 (ad1.sched m 64) s i
   have hT:=ch1 s m;rw[hT];generalize ad1.sched m 64=M at*;have hl64:M.length=80:=by omega
   repeat' first|refine o6 ?_|simp -dsimp -implicitDefEqProofs (disch:=first|assumption|omega|simp only[ll];omega) only[go_sem,hk,hk1,hc,hl64]|refine vcJ ?_ ?_<;>intro _|refine vcA ?_ ?_;focus(repeat'(first|omega|assumption|refine vcA ?_ ?_);done)|omega|refine o7 (fun _=>?_)
   refine aa5 aa7 mixed [1000005,1000005005015,1000005005032,1000005021015,1000005021032,1000005026015,1000005031015,1000006,1000010,1000010020006,1000017] [0,106,107] (fun i:Nat=>i<=80) (fun i=>[(6,wAV .u64 (ad1.steps M s i).a),(7,wAV .u64 (ad1.steps M s i).b),(8,wAV .u64 (ad1.steps M s i).c),(9,wAV .u64 (ad1.steps M s i).d),(10,wAV .u64 (ad1.steps M s i).e),(11,wAV .u64 (ad1.steps M s i).f),(12,wAV .u64 (ad1.steps M s i).g),(13,wAV .u64 (ad1.steps M s i).h),(108,.lit (.int .i64 i))]) (fun _=>H++[.grow 1 (16+64) none]) (fun i=>80 - i) (by kernel_rfl) ?_ 0 (by omega) y8 rfl
   intro i hi;by_cases h:i < 80
   ·have hs2:=hsl i
    have hM2:=ac1 (K:=.u64) (m:=M) (i:=i) (by omega)
    generalize hst:ad1.steps M s i=st at*;have hic:((i:Int) < 80)=True:=eq_true (by omega)
    repeat' first|refine o6 ?_|simp -dsimp -implicitDefEqProofs (disch:=first|assumption|omega|simp only[ll];omega) only[go_sem,hk,hk1,hM2,hic]|refine o5 (bv3 _ _) ?_|refine⟨_,_,bv3 _ _,?_⟩|refine o5 (bI5 i _ (by omega)) ?_|refine⟨_,_,bI5 i _ (by omega),?_⟩|refine o5 (bv4 _ _) ?_|refine⟨_,_,bv4 _ _,?_⟩|refine vcJ ?_ ?_<;>intro _|refine vcA ?_ ?_;focus(repeat'(first|omega|assumption|refine vcA ?_ ?_);done)|omega|refine o7 (fun _=>?_)
    refine again (i+1) ?_ ?_ rfl ?_
    ·omega
    ·omega
    ·rw[hs2]
     exact y8
   ·obtain rfl:i=80:=by omega
    generalize ad1.steps M s 80=t at*;have hk0:H.set k (.cells (.one 136) ((ap4 s.list t.list 0).map (wAV .u64)++ao2))=H:=by
     rw[bJ9];exact bq1 hk
    have hm0: ∀M,H++M=H.set k (.cells (.one 136) ((ap4 s.list t.list 0).map (wAV .u64)++ao2))++M:=fun M=>by rw[hk0]
    repeat' first|refine o6 ?_|simp -dsimp -implicitDefEqProofs (disch:=first|assumption|omega|simp only[ll];omega) only[go_sem]|refine vcJ ?_ ?_<;>intro _|refine vcA ?_ ?_;focus(repeat'(first|omega|assumption|refine vcA ?_ ?_);done)|omega|refine o7 (fun _=>?_)
    refine aa5 aa7 mixed [1000005,1000005005015,1000005005032,1000005021015,1000005021032,1000005026015,1000005031015,1000006,1000010,1000010020006,1000017] [] (fun i:Nat=>i<=8) (fun i=>[(179,.lit (.int .i64 i)),(178,.agg (t.list.map (wAV .u64))),(0,.mp k 0)]) (fun i=>H.set k (.cells (.one 136) ((ap4 s.list t.list i).map (wAV .u64)++ao2))++[.grow 1 80 none]) (fun i=>8 - i) (by kernel_rfl) ?_ 0 (by omega) y8 (hm0 _)
    intro i hi;have hg: ∀o M,(H.set k o++M)[k]?=some o:=fun o M=>bj7 hkl
    have hset: ∀o x M,(H.set k o++M).set k x=H.set k x++M:=fun o x M=>bA8 hkl
    have hL:=bo0 s.list t.list i;have htl:t.list.length=8:=rfl;by_cases h:i < 8
    ·have hic:((i:Int) < 8)=True:=eq_true (by omega)
     have hms:=bY3 (s:=s.list) (t:=t.list) h;have hg1:((ap4 s.list t.list i).map (wAV .u64)++ao2).getD i .any=wAV .u64 ((ap4 s.list t.list i).getD i 0):=by
      rw[cq1 (by rw[List.length_map];omega),ac1 (by omega)]
     have hg2:(t.list.map (wAV .u64)).getD i .any=wAV .u64 (t.list.getD i 0):=ac1 (by omega)
     have hs1: ∀x,((ap4 s.list t.list i).map (wAV .u64)++ao2).set i (wAV .u64 x)=((ap4 s.list t.list i).set i x).map (wAV .u64)++ao2:=fun x=>by
      rw[bs5 _ _ (by rw[List.length_map];omega),ao7]
     repeat' first|refine o6 ?_|simp -dsimp -implicitDefEqProofs (disch:=first|assumption|omega|simp only[ll];omega) only[go_sem,hg,hset,hic,hL,htl,hg1,hg2,hs1,hms]|refine vcJ ?_ ?_<;>intro _|refine vcA ?_ ?_;focus(repeat'(first|omega|assumption|refine vcA ?_ ?_);done)|omega|refine o7 (fun _=>?_)
     refine again (i+1) ?_ ?_ ?_ y8
     ·omega
     ·omega
     ·rfl
    ·obtain rfl:i=8:=by omega
     repeat' first|refine o6 ?_|simp -dsimp -implicitDefEqProofs (disch:=first|assumption|omega|simp only[ll];omega) only[go_sem]|refine vcJ ?_ ?_<;>intro _|refine vcA ?_ ?_;focus(repeat'(first|omega|assumption|refine vcA ?_ ?_);done)|omega|refine o7 (fun _=>?_)
     rw[bY4,<-bv9];exact cq6 (ag8 ab6) bB6 ⟨rfl,rfl⟩
attribute [go_sem] sk1 sk2 eb0 ea9
end W64
end
section
namespace W64
open Go V
theorem bX9{w:Nat}{n:Nat}(hw:w=64)(h:(n:Int) < 1099511627776):((n:Int)+1+16)+(128 - ((n:Int)+1+16)%128)%128=((an2 w n:Nat):Int):=by
 subst hw;unfold an2;simp only[Nat.reduceDiv,Nat.reduceMul];omega
theorem b08(n:Nat)(H:List AObj)(h:n<=1000000000):o9 Tryz.prog 165 [.lit (.int .i64 (n:Int)),.lit (.int .i64 64)] H (fun y H'=>y=.lit (.int .i64 ((an2 64 n:Nat):Int))/\H'=H):=by
 have hp:=bX9 (w:=64) (n:=n) rfl (by omega)
 have h1:((n:Int) < 0)=False:=eq_false (by omega)
 have h2:(1099511627776 < (n:Int))=False:=eq_false (by omega)
 refine y7 [] [.tmp 4] 37 Tryz.func165 rfl rfl rfl rfl (nlb rfl) (by kernel_rfl) ?_
 repeat' first|refine o6 ?_|simp -dsimp -implicitDefEqProofs (disch:=first|assumption|omega|simp only[ll];omega) only[go_sem,h1,h2]|refine vcJ ?_ ?_<;>intro _|refine vcA ?_ ?_;focus(repeat'(first|omega|assumption|refine vcA ?_ ?_);done)|omega|refine o7 (fun _=>?_)
 rw[hp];exact y5 ⟨rfl,rfl⟩
theorem bY0{o:Own}(b:List UInt8)(H:List AObj)(h:b.length<=100000000):o9 Tryz.prog 113 [.sl o 1 (b.map o8),.lit (.int .i64 64)] H (fun y H'=>y=.sl .sh 1 ((padded 64 b).map o8)/\H'=H):=by
 have hb:=aJ0 (w:=64) (n:=b.length) (.inr rfl);have hP:=fun H=>b08 b.length H (by omega)
 have hz:=co2 (w:=64) (b:=b) (.inr rfl);have hlen:=fun t=>bC0 (w:=64) (b:=b) (t:=t) (.inr rfl)
 generalize hN:an2 64 b.length=N at*;have hrep:ag4 [AV.lit (.int .u8 0)] N=(List.replicate N (0:UInt8)).map o8:=by rw[bl2,aS6];rfl
 have hcp:af0 ((List.replicate N (0:UInt8)).map o8) 0 (b.map o8)=(b++List.replicate (N - b.length) 0).map o8:=by
  rw[aA6 _ _ _ (by simp;omega)]
  simp
 have hst:((b++List.replicate (N - b.length) (0:UInt8)).map o8).set b.length (.lit (.int .u8 128))=(aN3 64 b 0).map o8:=by
  rw[<-hz,ao7];rfl
 have h0:((b.length:Int)*8)=((8*b.length/256^0:Nat):Int):=by rw[Nat.pow_zero,Nat.div_one];omega
 refine y7 [] [.tmp 4] 39 Tryz.func113 rfl rfl rfl rfl (nlb rfl) (by kernel_rfl) ?_
 repeat' first|refine o6 ?_|simp -dsimp -implicitDefEqProofs (disch:=first|assumption|omega|simp only[ll];omega) only[go_sem,hrep,hcp,hst,h0]|refine o5 (hP _) ?_|refine vcJ ?_ ?_<;>intro _|refine vcA ?_ ?_;focus(repeat'(first|omega|assumption|refine vcA ?_ ?_);done)|omega|refine o7 (fun _=>?_)
 refine aa5 aa7 mixed [] [4,5] (fun t:Nat=>t<=8) (fun t=>[(6,.lit (.int .u64 ((8*b.length/256^t:Nat):Int))),(7,.lit (.int .i64 ((N - 1 - t:Nat):Int)))]) (fun t=>H++[.cells (.one 5) ((aN3 64 b t).map o8)]) (fun t=>8*b.length/256^t) (by kernel_rfl) ?_ 0 (by omega) y8 rfl
 intro t ht;have hl:=hlen t;have hs:=eb1 (n:=8*b.length) (t:=t);have hT:=fun h:t < 8=>cB7 (w:=64) (b:=b) (t:=t) (.inr rfl) h
 have hE:=fun h=>bC1 (w:=64) (b:=b) (t:=t) h
 have hlt:=fun h=>ea5 (n:=8*b.length) (t:=t) h (by omega)
 rw[hN] at hT;generalize hn:8*b.length/256^t=n at*;generalize hn':8*b.length/256^(t+1)=n' at*;have hnn:n<=800000000:=by rw[<-hn];exact ay6 (Nat.div_le_self _ _) (by omega)
 by_cases h1:n=0
 ·subst h1
  rw[hE rfl];repeat' first|refine o6 ?_|simp -dsimp -implicitDefEqProofs (disch:=first|assumption|omega|simp only[ll];omega) only[go_sem]|refine vcJ ?_ ?_<;>intro _|refine vcA ?_ ?_;focus(repeat'(first|omega|assumption|refine vcA ?_ ?_);done)|omega|refine o7 (fun _=>?_)
  refine bo6 (.sl .sh 1 ((padded 64 b).map o8)) (.msl _ _ _ _ _ (.one 5) ((padded 64 b).map o8) _ (xq0 _) (by simp) (by simp;rw[<-hE rfl,hl]) (fun x hx=>by obtain⟨c,_,rfl⟩:=xq9.1 hx;exact⟨rfl,rfl⟩) (by rw[al9 o8 (fun _=>rfl)];simp) fun j c y e1 e2=>?_) ⟨rfl,rfl⟩
  rw[al9 o8 (fun _=>rfl)] at e2
  rw[Nat.zero_add] at e1;rw[e1] at e2;cases e2
  refine .low _ ?_;obtain⟨c,_,rfl⟩:=xq9.1 (bs2 e1);exact .lit _
 ·have h8:=hlt h1
  have hset:((aN3 64 b t).map o8).set (N - 1 - t) (.lit (.int .u8 (IntKind.u8.wrap (n:Int))))=(aN3 64 b (t+1)).map o8:=by
   rw[<-hT h8,ao7,c35];rfl
  have hc:(0 < (n:Int))=True:=eq_true (by omega)
  repeat' first|refine o6 ?_|simp -dsimp -implicitDefEqProofs (disch:=first|assumption|omega|simp only[ll];omega) only[go_sem,hc,hset,hs]|refine vcJ ?_ ?_<;>intro _|refine vcA ?_ ?_;focus(repeat'(first|omega|assumption|refine vcA ?_ ?_);done)|omega|refine o7 (fun _=>?_)
  refine again (t+1) ?_ ?_ rfl y8
  ·have:n'=n/256:=hs.symm
   omega
  ·omega
end W64
end
section
namespace W64
open Go V
def ao5(s:Sha.St 64)(b:List UInt8)(i:Nat):Sha.St 64:=((chunks 128 b).take i).foldl (fun s c=>ad1.take s (wordsOf 64 c)) s
theorem bD9{s:Sha.St 64}{b:List UInt8}{i:Nat}(h:i < b.length/128):ao5 s b (i+1)=ad1.take (ao5 s b i) (wordsOf 64 ((b.drop (i*128)).take 128)):=by
 have hl:(chunks 128 b).length=b.length/128:=by simp[chunks]
 unfold ao5;rw[aZ1 (by omega),b36]
 simp[chunks]
theorem dz3(x:BitVec 64):IntKind.u64.wrap ((x.toNat:Int)*256)=((x<<<8).toNat:Int):=by
 rw[bs4,bs3];simp[IntKind.wrap,IntKind.signed,IntKind.bits]
theorem dU1(x:BitVec 64)(b:UInt8):IntKind.u64.wrap (((BitVec.ofInt IntKind.u64.bits (x.toNat:Int)|||BitVec.ofInt IntKind.u64.bits (b.toNat:Int)).toNat:Nat):Int)=((x|||BitVec.ofNat 64 b.toNat).toNat:Int):=by
 have:(b.toNat:Int)=((BitVec.ofNat 64 b.toNat).toNat:Int):=by
  rw[aA8,aA7 (by have:=b.toNat_lt;omega)]
 rw[this,u64_or]
theorem em0(x:Nat):bytesOf 8 x=[UInt8.ofNat (x/72057594037927936),UInt8.ofNat (x/281474976710656),UInt8.ofNat (x/1099511627776),UInt8.ofNat (x/4294967296),UInt8.ofNat (x/16777216),UInt8.ofNat (x/65536),UInt8.ofNat (x/256),UInt8.ofNat x]:=by
 simp[bytesOf,List.range,List.range.loop]
theorem bH5{blk:List UInt8}{j:Nat}(hb:blk.length=128)(h:j < 128):((wordsOf 64 (blk.take j)).map (wAV .u64)).set (j/8) (wAV .u64 ((wordsOf 64 (blk.take j)).getD (j/8) 0<<<8|||BitVec.ofNat 64 (blk.getD j 0).toNat))=(wordsOf 64 (blk.take (j+1))).map (wAV .u64):=by
 have hl:(blk.take j).length=j:=by rw[List.length_take];omega
 have:=bH6 (w:=64) (l:=blk.take j) (b:=blk.getD j 0) (by decide) (by rw[hl];show j < 16*8;omega)
 rw[hl] at this;rw[<-ao7];congr 1
 rw[aZ1 (by omega),show blk[j]'(by omega)=blk.getD j 0 by simp[List.getD,xq1 (show j < blk.length by omega)]]
 exact this.symm
theorem ci4{k:Nat}{s:Sha.St 64}{H:List AObj}{r:Loop}{E:Env}{assign body:Code}(blk:List UInt8)(hkl:k < H.length)(hbl:blk.length=128)(hE:get E 3=.ip (.mp k 0)/\get E 5=.ip (.lit (.int .i64 8)))
  (hr1:r.state=.ready) (hr2:r.pending=none) (hr3:r.params= #[19]) (hr6:r.tmps.size=67) (hr4:r.assign=assign) (hr5:r.body=body)
  (hA:AW Tryz.prog 67 assign (Ex (fun env1 H1=>AW Tryz.prog 67 body (fun e _ H2=>e=.normal/\H2=H.set k (am6 (ad1.take s (wordsOf 64 blk)))++[.loop (busy r) E]) env1 (H1.set H.length (.loop (busy r) E))/\H1[H.length]?=some (.loop r E)) (fun _ _ _=>False)) ((19,.sl .full 1 (blk.map o8))::E) (H.set k (am6 s)++[.loop r E])):
  aV6 Tryz.prog H.length [.sl .full 1 (blk.map o8)] (H.set k (am6 s)++[.loop r E]) (fun x H'=>x=.lit (.bool true)/\H'=H.set k (am6 (ad1.take s (wordsOf 64 blk)))++[.loop r E]):=by
 have hlen: ∀o,(H.set k o).length=H.length:=fun o=>List.length_set
 have hat: ∀o x,(H.set k o++[x])[H.length]?=some x:=fun o x=>by
  rw[xq7 (by rw[hlen];exact xq0 _),hlen,ao8]
  rfl
 have hst: ∀o x y,(H.set k o++[x]).set H.length y=H.set k o++[y]:=fun o x y=>by
  rw[az4 _ _ (by rw[hlen];exact xq0 _),hlen,ao8]
  rfl
 have:=bG2 (P:=Tryz.prog) (k:=H.length) (n:=67) (p:=19) (r:=r) (E:=E) (arg:=.sl .full 1 (blk.map o8)) (H:=H.set k (am6 s)++[.loop r E]) (B:=H.set k (am6 (ad1.take s (wordsOf 64 blk)))++[.loop (busy r) E]) (hat _ _) hr1 hr2 hr3 hr6 (by omega) (by rw[hr4,hr5];exact hA)
 rw[hst] at this;exact this
theorem df3{k:Nat}{s:Sha.St 64}{H:List AObj}(b:List UInt8)(hk:H[k]?=some (am6 s))(hb:b.length=b.length/128*128)(hb2:b.length<=1000000000):
  o9 Tryz.prog 112 [.mp k 0,.sl .sh 1 (b.map o8),.lit (.int .i64 8)] H (fun x H'=>x=.sl .sh 1 (((ao5 s b (b.length/128)).list.flatMap fun x=>bytesOf 8 x.toNat).map o8)/\H'=H.set k (am6 (ao5 s b (b.length/128)))):=by
 have hkl:=y9 hk;refine bG3 aa7 (rs:=[.tmp 6]) (n:=67) Tryz.func112 rfl rfl rfl rfl (nlb rfl) ?_;refine bl0 (aV3 (ai8 aa7 mixed (mu:=[]) _ ?ok ?_));case ok=>kernel_rfl
 repeat' first|refine o6 ?_|simp -dsimp -implicitDefEqProofs (disch:=first|assumption|omega|simp only[ll];omega) only[go_sem]|refine vcJ ?_ ?_<;>intro _|refine vcA ?_ ?_;focus(repeat'(first|omega|assumption|refine vcA ?_ ?_);done)|omega|refine o7 (fun _=>?_)
 refine bl0 ?_;refine bl0 (aV3 (ai8 aa7 mixed (mu:=[]) _ ?ok ?_));case ok=>kernel_rfl
 have hch:=fun H=>cY6 (xs:=b.map o8) (n:=128) (H:=H) (by omega) (by omega)
 repeat' first|refine o6 ?_|simp -dsimp -implicitDefEqProofs (disch:=first|assumption|omega|simp only[ll];omega) only[go_sem]|refine o5 (hch _) ?_|refine vcJ ?_ ?_<;>intro _|refine vcA ?_ ?_;focus(repeat'(first|omega|assumption|refine vcA ?_ ?_);done)|omega|refine o7 (fun _=>?_)
 refine cr4 ?_;refine cr2 rfl Tryz.func201 rfl rfl ?_;intro r hr1 hr2 hr3 hr4 hr5 hr6;have hs0:ao5 s b 0=s:=rfl;have h0:H.set k (am6 (ao5 s b 0))=H:=by rw[hs0];exact bq1 hk
 generalize hE:[(18,AV.fn (.func 201) [] [.ip (.sl .sh 1 (b.map o8)),.ip (.lit (.int .i64 128))]),(17,.int .i64 128),(16,.lit (.int .i64 8)),(15,.sl .sh 1 (b.map o8)),(6,.sl .full 0 []),(5,.ip (.lit (.int .i64 8))),(3,.ip (.mp k 0)),(0,.mp k 0),(1,.sl .sh 1 (b.map o8)),(2,.lit (.int .i64 8))]=E;have hE3:get E 3=.ip (.mp k 0):=by rw[<-hE];rfl
 have hE5:get E 5=.ip (.lit (.int .i64 8)):=by rw[<-hE];rfl
 have hE6:get E 6=.sl .full 0 []:=by rw[<-hE];rfl
 have hC:=cJ5 (k:=H.length) (c:=b.length/128) (n:=128) b (fun i=>H.set k (am6 (ao5 s b i))++[.loop r E]) (by omega) hb hb2 (by simp) (fun i hi=>by
  have hbl:((b.drop (i*128)).take 128).length=128:=by rw[List.length_take,List.length_drop];omega
  rw[bD9 hi];generalize (b.drop (i*128)).take 128=blk at*;generalize ao5 s b i=st at*;refine ci4 blk hkl hbl ⟨hE3,hE5⟩ hr1 hr2 hr3 hr6 hr4 hr5 ?_;have hlen: ∀o,(H.set k o).length=H.length:=fun o=>List.length_set
  have hat: ∀o x,(H.set k o++[x])[H.length]?=some x:=fun o x=>by
   rw[xq7 (by rw[hlen];exact xq0 _),hlen,ao8]
   rfl
  have hst: ∀o x y,(H.set k o++[x]).set H.length y=H.set k o++[y]:=fun o x y=>by
   rw[az4 _ _ (by rw[hlen];exact xq0 _),hlen,ao8]
   rfl
  have hnl: ∀sh cs,AObj.loop (busy r) E≠ .cells sh cs:=fun _ _ h=>by cases h
  generalize AObj.loop (busy r) E=lpb at*;generalize AObj.loop r E=lp at*;subst hE;refine ai8 aa7 mixed (mu:=[]) _ ?ok ?_;case ok=>kernel_rfl
  repeat' first|refine o6 ?_|simp -dsimp -implicitDefEqProofs (disch:=first|assumption|omega|simp only[ll];omega) only[go_sem]|refine vcJ ?_ ?_<;>intro _|refine vcA ?_ ?_;focus(repeat'(first|omega|assumption|refine vcA ?_ ?_);done)|omega|refine o7 (fun _=>?_)
  all_goals first|exact hat _ _|rw[hst]|skip
  refine cK2 (by simp) (fun j sh cs e=>?_) (ai8 aa7 mixed (mu:=[1000007]) _ ?ok ?_)
  case ok=>kernel_rfl
  ·rcases am5 j H.length with hj|hj
   ·by_cases hjk:j=k
    ·subst hjk
     rw[xq4 (by rw[hlen];exact hj),ay5 hj] at e
     exact .inr (bB6 sh cs (Option.some.inj e))
    ·rw[xq4 (by rw[hlen];exact hj),ar5 (Ne.symm hjk)] at e
     exact .inl (by rw[xq4 (by rw[hlen];exact hj),ar5 (Ne.symm hjk)];exact e)
   ·rw[xq7 (by rw[hlen];exact hj),hlen] at e
    cases hn:j - H.length with
    |zero=>rw[hn] at e;exact absurd (Option.some.inj e) (hnl _ _)
    |succ n=>rw[hn] at e;cases e
  repeat' first|refine o6 ?_|simp -dsimp -implicitDefEqProofs (disch:=first|assumption|omega|simp only[ll];omega) only[go_sem]|refine vcJ ?_ ?_<;>intro _|refine vcA ?_ ?_;focus(repeat'(first|omega|assumption|refine vcA ?_ ?_);done)|omega|refine o7 (fun _=>?_)
  refine aa5 aa7 mixed [1000007] [3,5,8,20,21] (fun j:Nat=>j<=128) (fun j=>[(22,.lit (.int .i64 j))]) (fun j=>H.set k (am6 st)++[lpb,.cells (.one 193) ((wordsOf 64 (blk.take j)).map (wAV .u64))]) (fun j=>128 - j) (by kernel_rfl) ?_ 0 (by omega) y8 (by rw[ag5,bT4,aS6];rfl)
  intro j hj;have hwl:=bs8 64 (blk.take j);by_cases hjl:j < 128
  ·have hws:=bH5 hbl hjl
   have hjc:((j:Int) < 128)=True:=eq_true (by omega)
   have z1:((j:Int)/8).toNat=j/8:=by omega
   have hgw:=ac1 (K:=.u64) (m:=wordsOf 64 (blk.take j)) (i:=j/8) (by omega)
   repeat' first|refine o6 ?_|simp -dsimp -implicitDefEqProofs (disch:=first|assumption|omega|simp only[ll];omega) only[go_sem,hjc,hbl,z1,hwl,hgw,dz3,dU1,hws]|refine vcJ ?_ ?_<;>intro _|refine vcA ?_ ?_;focus(repeat'(first|omega|assumption|refine vcA ?_ ?_);done)|omega|refine o7 (fun _=>?_)
   refine again (j+1) ?_ ?_ ?_ y8
   ·omega
   ·omega
   ·rfl
  ·obtain rfl:j=128:=by omega
   rw[ak5 (by omega)] at hwl⊢
   repeat' first|refine o6 ?_|simp -dsimp -implicitDefEqProofs (disch:=first|assumption|omega|simp only[ll];omega) only[go_sem,hbl,hwl,bj7 hkl,bA8 hkl]|refine o5 (cy2 (s:=st) (wordsOf 64 blk) (bj7 hkl) hwl) ?_|refine vcJ ?_ ?_<;>intro _|refine vcA ?_ ?_;focus(repeat'(first|omega|assumption|refine vcA ?_ ?_);done)|omega|refine o7 (fun _=>?_)
   exact⟨[.cells (.one 193) ((wordsOf 64 blk).map (wAV .u64))],by simp⟩)
 rw[h0] at hC;refine hC.mono fun x H' ⟨_,hH⟩=>⟨H.set k (am6 (ao5 s b (b.length/128))),[],hH,by simp,fun j sh cs e=>?_,?_⟩
 ·by_cases hjk:j=k
  ·subst hjk
   rw[ay5 hkl] at e;exact .inr (bB6 sh cs (Option.some.inj e))
  ·rw[ar5 (Ne.symm hjk)] at e
   exact .inl e
 ·rw[bL3,bL9]
  clear hC h0 hs0 hE3 hE5 hE6;subst hE;generalize ao5 s b (b.length/128)=st at*;have hro:am6 st=.cells (.one 136) (st.list.map (wAV .u64)++ao2):=bv9 st;have hlw:=fun(m:Nat)=>bB6 (m:=m) (s:=st)
  rw[hro] at hlw⊢;have hsl:st.list.length=8:=rfl;generalize st.list=hl at*;have ht8:(hl.map (wAV .u64)++ao2).take 8=hl.map (wAV .u64):=cu2 (by rw[List.length_map];exact hsl)
  have hat0:(H.set k (.cells (.one 136) (hl.map (wAV .u64)++ao2)))[k]?=some (.cells (.one 136) (hl.map (wAV .u64)++ao2)):=ay5 hkl;have hlen: ∀o,(H.set k o).length=H.length:=fun o=>List.length_set
  generalize hq:(hl.map (wAV .u64)++ao2)=qs at*;have hql:8<=qs.length:=by rw[<-hq,List.length_append,List.length_map];omega
  refine aV3 (ai8 aa7 mixed (mu:=[]) _ ?ok ?_);case ok=>kernel_rfl
  repeat' first|refine o6 ?_|simp -dsimp -implicitDefEqProofs (disch:=first|assumption|omega|simp only[ll];omega) only[go_sem,hat0,ht8,hql]|refine vcJ ?_ ?_<;>intro _|refine vcA ?_ ?_;focus(repeat'(first|omega|assumption|refine vcA ?_ ?_);done)|omega|refine o7 (fun _=>?_)
  refine by7 11 1 rfl (by decide) (fun h=>absurd rfl h) ?_
  rw[List.length_set];refine aa5 aa7 mixed [] [5,6] (fun i:Nat=>i<=8) (fun i=>[(47,.agg (hl.map (wAV .u64))),(48,.lit (.int .i64 i)),(11,.sl (.tok H.length) 1 (((hl.take i).flatMap fun x=>bytesOf 8 x.toNat).map o8))]) (fun i=>H.set k (.cells (.one 136) qs)++[.grow 1 (8*i) none]) (fun i=>8 - i) (by kernel_rfl) ?_ 0 (by omega) y8 rfl
  intro i hi;have hfl: ∀l:List (BitVec 64),(l.flatMap fun x=>bytesOf 8 x.toNat).length=8*l.length:=fun l=>by
   induction l with
   |nil=>rfl
   |cons x r ih=>rw[bO1,List.length_append,ih,bu2,List.length_cons];omega
  by_cases hi8:i < 8
  ·have hic:((i:Int) < 8)=True:=eq_true (by omega)
   have hgx:=ac1 (K:=.u64) (m:=hl) (i:=i) (by omega)
   have hnx:(hl.take (i+1)).flatMap (fun x=>bytesOf 8 x.toNat)=(hl.take i).flatMap (fun x=>bytesOf 8 x.toNat)++bytesOf 8 (hl.getD i 0).toNat:=by
    rw[aZ1 (by omega),b35,List.getD,xq1 (by omega)]
    simp
   have hol:=hfl (hl.take i);rw[List.length_take,bl4 (by omega)] at hol
   rw[em0] at hnx;generalize (hl.take i).flatMap (fun x=>bytesOf 8 x.toNat)=out at*
   generalize hl.getD i 0=x at*;obtain⟨g,g0,g1,g2,g3,g4,g5,g6,g7,g8,gl⟩: ∃g:Nat->List UInt8,out=g 0/\g 0++[UInt8.ofNat (x.toNat/72057594037927936)]=g 1/\g 1++[UInt8.ofNat (x.toNat/281474976710656)]=g 2/\g 2++[UInt8.ofNat (x.toNat/1099511627776)]=g 3/\g 3++[UInt8.ofNat (x.toNat/4294967296)]=g 4/\g 4++[UInt8.ofNat (x.toNat/16777216)]=g 5/\g 5++[UInt8.ofNat (x.toNat/65536)]=g 6/\g 6++[UInt8.ofNat (x.toNat/256)]=g 7/\g 7++[UInt8.ofNat x.toNat]=g 8/\ ∀q,q<=8->(g q).length=8*i+q:=
    ⟨fun q=>out++[UInt8.ofNat (x.toNat/72057594037927936),UInt8.ofNat (x.toNat/281474976710656),UInt8.ofNat (x.toNat/1099511627776),UInt8.ofNat (x.toNat/4294967296),UInt8.ofNat (x.toNat/16777216),UInt8.ofNat (x.toNat/65536),UInt8.ofNat (x.toNat/256),UInt8.ofNat x.toNat].take q,by simp,by simp,by simp,by simp,by simp,by simp,by simp,by simp,by simp,fun q hq=>by rw[List.length_append,List.length_take,hol];simp only[List.length_cons,List.length_nil];omega⟩
   have hnx4:(hl.take (i+1)).flatMap (fun x=>bytesOf 8 x.toNat)=g 8:=by
    rw[hnx,g0,<-g8,<-g7,<-g6,<-g5,<-g4,<-g3,<-g2,<-g1];simp
   clear hnx;subst g0;repeat' first|refine o6 ?_|simp -dsimp -implicitDefEqProofs (disch:=first|assumption|omega|simp only[ll];omega) only[go_sem,hic,hgx,hsl]|refine vcJ ?_ ?_<;>intro _|refine vcA ?_ ?_;focus(repeat'(first|omega|assumption|refine vcA ?_ ?_);done)|omega|refine o7 (fun _=>?_)
   refine aa5 aa7 mixed [] [5,6,13,47,48] (fun q:Nat=>q<=8) (fun q=>[(14,.lit (.int .i64 (7 - (q:Int)))),(11,.sl (.tok H.length) 1 ((g q).map o8))]) (fun q=>H.set k (.cells (.one 136) qs)++[.grow 1 (8*i+q) none]) (fun q=>8 - q) (by kernel_rfl) ?_ 0 (by omega) y8 rfl
   intro q hq4;have hmB:=fun a n=>db1 a n
   have hmB0: ∀a:List UInt8,a.map o8++[.lit (.int .u8 ((x.toNat/72057594037927936:Nat):Int))]=(a++[UInt8.ofNat (x.toNat/72057594037927936)]).map o8:=fun a=>by
    rw[<-db1,IntWalk.u8_in _ (by have:=x.isLt;omega)]
   have hgq:=gl q hq4;have p0:(x.toNat:Int).fdiv 72057594037927936=((x.toNat/72057594037927936:Nat):Int):=an0 (by decide)
   have p1:(x.toNat:Int).fdiv 281474976710656=((x.toNat/281474976710656:Nat):Int):=an0 (by decide)
   have p2:(x.toNat:Int).fdiv 1099511627776=((x.toNat/1099511627776:Nat):Int):=an0 (by decide)
   have p3:(x.toNat:Int).fdiv 4294967296=((x.toNat/4294967296:Nat):Int):=an0 (by decide)
   have p4:(x.toNat:Int).fdiv 16777216=((x.toNat/16777216:Nat):Int):=an0 (by decide)
   have p5:(x.toNat:Int).fdiv 65536=((x.toNat/65536:Nat):Int):=an0 (by decide)
   have p6:(x.toNat:Int).fdiv 256=((x.toNat/256:Nat):Int):=an0 (by decide)
   rcases(by omega:q=0\/q=1\/q=2\/q=3\/q=4\/q=5\/q=6\/q=7\/q=8) with rfl|rfl|rfl|rfl|rfl|rfl|rfl|rfl|rfl
   ·repeat' first|refine o6 ?_|simp -dsimp -implicitDefEqProofs (disch:=first|assumption|omega|simp only[ll];omega) only[go_sem,hmB,hmB0,g1,hgq]|refine vcJ ?_ ?_<;>intro _|refine vcA ?_ ?_;focus(repeat'(first|omega|assumption|refine vcA ?_ ?_);done)|omega|refine o7 (fun _=>?_)
    refine again (1) ?_ ?_ ?_ y8
    ·omega
    ·omega
    ·rfl
   ·repeat' first|refine o6 ?_|simp -dsimp -implicitDefEqProofs (disch:=first|assumption|omega|simp only[ll];omega) only[go_sem,hmB,hmB0,g2,hgq]|refine vcJ ?_ ?_<;>intro _|refine vcA ?_ ?_;focus(repeat'(first|omega|assumption|refine vcA ?_ ?_);done)|omega|refine o7 (fun _=>?_)
    refine again (2) ?_ ?_ ?_ y8
    ·omega
    ·omega
    ·rfl
   ·repeat' first|refine o6 ?_|simp -dsimp -implicitDefEqProofs (disch:=first|assumption|omega|simp only[ll];omega) only[go_sem,hmB,hmB0,g3,hgq]|refine vcJ ?_ ?_<;>intro _|refine vcA ?_ ?_;focus(repeat'(first|omega|assumption|refine vcA ?_ ?_);done)|omega|refine o7 (fun _=>?_)
    refine again (3) ?_ ?_ ?_ y8
    ·omega
    ·omega
    ·rfl
   ·repeat' first|refine o6 ?_|simp -dsimp -implicitDefEqProofs (disch:=first|assumption|omega|simp only[ll];omega) only[go_sem,hmB,hmB0,g4,hgq]|refine vcJ ?_ ?_<;>intro _|refine vcA ?_ ?_;focus(repeat'(first|omega|assumption|refine vcA ?_ ?_);done)|omega|refine o7 (fun _=>?_)
    refine again (4) ?_ ?_ ?_ y8
    ·omega
    ·omega
    ·rfl
   ·repeat' first|refine o6 ?_|simp -dsimp -implicitDefEqProofs (disch:=first|assumption|omega|simp only[ll];omega) only[go_sem,hmB,hmB0,g5,hgq]|refine vcJ ?_ ?_<;>intro _|refine vcA ?_ ?_;focus(repeat'(first|omega|assumption|refine vcA ?_ ?_);done)|omega|refine o7 (fun _=>?_)
    refine again (5) ?_ ?_ ?_ y8
    ·omega
    ·omega
    ·rfl
   ·repeat' first|refine o6 ?_|simp -dsimp -implicitDefEqProofs (disch:=first|assumption|omega|simp only[ll];omega) only[go_sem,hmB,hmB0,g6,hgq]|refine vcJ ?_ ?_<;>intro _|refine vcA ?_ ?_;focus(repeat'(first|omega|assumption|refine vcA ?_ ?_);done)|omega|refine o7 (fun _=>?_)
    refine again (6) ?_ ?_ ?_ y8
    ·omega
    ·omega
    ·rfl
   ·repeat' first|refine o6 ?_|simp -dsimp -implicitDefEqProofs (disch:=first|assumption|omega|simp only[ll];omega) only[go_sem,hmB,hmB0,g7,hgq]|refine vcJ ?_ ?_<;>intro _|refine vcA ?_ ?_;focus(repeat'(first|omega|assumption|refine vcA ?_ ?_);done)|omega|refine o7 (fun _=>?_)
    refine again (7) ?_ ?_ ?_ y8
    ·omega
    ·omega
    ·rfl
   ·repeat' first|refine o6 ?_|simp -dsimp -implicitDefEqProofs (disch:=first|assumption|omega|simp only[ll];omega) only[go_sem,hmB,hmB0,g8,hgq,Nat.div_one]|refine vcJ ?_ ?_<;>intro _|refine vcA ?_ ?_;focus(repeat'(first|omega|assumption|refine vcA ?_ ?_);done)|omega|refine o7 (fun _=>?_)
    refine again (8) ?_ ?_ ?_ y8
    ·omega
    ·omega
    ·rfl
   ·repeat' first|refine o6 ?_|simp -dsimp -implicitDefEqProofs (disch:=first|assumption|omega|simp only[ll];omega) only[go_sem]|refine vcJ ?_ ?_<;>intro _|refine vcA ?_ ?_;focus(repeat'(first|omega|assumption|refine vcA ?_ ?_);done)|omega|refine o7 (fun _=>?_)
    rw[<-hnx4];refine again (i+1) ?_ ?_ ?_ y8
    ·omega
    ·omega
    ·rfl
  ·obtain rfl:i=8:=by omega
   have htk:hl.take 8=hl:=ak5 (by omega)
   rw[htk];repeat' first|refine o6 ?_|simp -dsimp -implicitDefEqProofs (disch:=first|assumption|omega|simp only[ll];omega) only[go_sem]|refine vcJ ?_ ?_<;>intro _|refine vcA ?_ ?_;focus(repeat'(first|omega|assumption|refine vcA ?_ ?_);done)|omega|refine o7 (fun _=>?_)
   exact bE7 (.sl .sh 1 ((hl.flatMap fun x=>bytesOf 8 x.toNat).map o8)) aC5 (ae4) (hlw _) ⟨rfl,rfl⟩
end W64
end
section
namespace W64
open Go V
theorem bW6(b:List UInt8):(ao5 (aD3 64) (padded 64 b) ((padded 64 b).length/128)).list.flatMap (fun x=>bytesOf 8 x.toNat)=ax2 b:=by
 have hl:(chunks 128 (padded 64 b)).length=(padded 64 b).length/128:=by simp[chunks]
 unfold ao5;rw[<-hl,aZ6];rfl
theorem bB9(b:List UInt8):(padded 64 b).length=an2 64 b.length:=by
 have:=bC0 (w:=64) (b:=b) (t:=8*b.length) (.inr rfl);rw[bC1] at this
 ·exact this
 ·exact b42 (Nat.lt_pow_self (by decide))
theorem d91:(af0 [.lit (.int .u64 0),.lit (.int .u64 0),.lit (.int .u64 0),.lit (.int .u64 0),.lit (.int .u64 0),.lit (.int .u64 0),.lit (.int .u64 0),.lit (.int .u64 0),.lit (.int .i64 0),.lit Value.nilFunc,.lit Value.nilFunc,.lit Value.nilFunc,.lit Value.nilFunc,.lit Value.nilFunc] 0 aF7).length=14:=by kernel_rfl
theorem d90:((((((af0 [.lit (.int .u64 0),.lit (.int .u64 0),.lit (.int .u64 0),.lit (.int .u64 0),.lit (.int .u64 0),.lit (.int .u64 0),.lit (.int .u64 0),.lit (.int .u64 0),.lit (.int .i64 0),.lit Value.nilFunc,.lit Value.nilFunc,.lit Value.nilFunc,.lit Value.nilFunc,.lit Value.nilFunc] 0 aF7).set 8 (.lit (.int .i64 80))).set 9 (.fn (.func 106) [] [])).set 10 (.fn (.func 107) [] [])).set 11 (.fn (.func 109) [] [])).set 12 (.fn (.func 110) [] [])).set 13 (.fn (.func 111) [] [])=aQ7 (aD3 64):=by kernel_rfl
theorem em4:aF7.all AV.scalar=true:=by kernel_rfl
theorem ec7:(aQ7 (aD3 64)).all AV.scalar=true:=by kernel_rfl
theorem cr6{a:AV}{l:List UInt8}(H:List AObj)(hl:l.length<=1000000)(hJ: ∀H,o9 Tryz.prog 114 [a,.sl .full 0 []] H (fun y H'=>y=.sl .sh 1 (l.map o8)/\H'=H)):o9 Tryz.prog 60 [a] H (fun y H'=>y=.agg ((ax2 l).map o8)/\H'=H):=by
 have hP:=fun H=>bY0 (o:=.sh) l H (by omega)
 have hpl:=aJ0 (w:=64) (n:=l.length) (.inr rfl);have hpd:=bB9 l;have hp64:(padded 64 l).length=(padded 64 l).length/128*128:=by
  rw[hpd];unfold an2;omega
 have hS:=bW6 l;have hsl:=aW4 l;generalize padded 64 l=pd at*;have hr: ∀H:List AObj,∀o1 o2:AObj,(H++[o1,o2])[H.length+1]?=some o2:=fun H o1 o2=>by
  rw[xq7 (by omega),aI1]
  rfl
 have hA:=fun(o1:AObj)=>df3 (k:=H.length+1) (s:=aD3 64) (H:=H++[o1,am6 (aD3 64)]) pd (hr _ _ _) hp64 (by omega)
 rw[hS] at hA;unfold am6 at hA;have hset: ∀(H:List AObj) (o1 o2 x:AObj),(H++[o1,o2]).set (H.length+1) x=H++[o1,x]:=fun H o1 o2 x=>by
  rw[az4 _ _ (by omega),aI1]
  rfl
 have hft:((ax2 l).map o8).take 64=(ax2 l).map o8:=ak5 (by rw[List.length_map];omega)
 have hat:af0 (List.replicate 64 (AV.lit (.int .u8 0))) 0 ((ax2 l).map o8)=(ax2 l).map o8:=by
  rw[aA6 _ _ _ (by simp;omega)]
  simp[hsl]
 have hal:((ax2 l).map o8).all AV.scalar=true:=xq6.2 (a19 fun _=>rfl)
 have z1:=d91;have z2:=d90;have z3:=ec7;have z4:=em4;generalize ax2 l=sm at*;generalize ao5 (aD3 64) pd (pd.length/128)=fs at*;generalize aQ7 (aD3 64)=rc at*;refine y7 [6] [.cell 2 91] 14 Tryz.func60 rfl rfl rfl rfl (nlb rfl) (by kernel_rfl) ?_
 repeat' first|refine o6 ?_|simp -dsimp -implicitDefEqProofs (disch:=first|assumption|omega|simp only[ll];omega) only[go_sem,z1,z2,z3,z4,hset,hft,hat,hsl,hal]|refine o5 (hJ _) ?_|refine o5 (hP _) ?_|refine o5 (hA _) ?_|refine vcJ ?_ ?_<;>intro _|refine vcA ?_ ?_;focus(repeat'(first|omega|assumption|refine vcA ?_ ?_);done)|omega|refine o7 (fun _=>?_)
 exact aa3 _ (Le.refl _) aq5 ⟨rfl,rfl⟩
end W64
end
section
open Go V
theorem d21(s:bytes)(H:List AObj):o9 Tryz.prog 215 [.str s] H (fun x H'=>x=.bool false/\H'=H):=by
 refine y7 [] [.tmp 2] 6 Tryz.func215 rfl rfl rfl rfl (nlb rfl) (by kernel_rfl) ?_
 repeat' first|refine o6 ?_|simp -dsimp -implicitDefEqProofs (disch:=first|assumption|omega|simp only[ll];omega) only[go_sem]|refine vcJ ?_ ?_<;>intro _|refine vcA ?_ ?_;focus(repeat'(first|omega|assumption|refine vcA ?_ ?_);done)|omega|refine o7 (fun _=>?_)
 exact y5 ⟨rfl,rfl⟩
theorem d20(s:bytes)(H:List AObj):o9 Tryz.prog 178 [.str s] H (fun x H'=>x=.bool false/\H'=H):=by
 refine y7 [] [.tmp 2] 6 Tryz.func178 rfl rfl rfl rfl (nlb rfl) (by kernel_rfl) ?_
 repeat' first|refine o6 ?_|simp -dsimp -implicitDefEqProofs (disch:=first|assumption|omega|simp only[ll];omega) only[go_sem]|refine vcJ ?_ ?_<;>intro _|refine vcA ?_ ?_;focus(repeat'(first|omega|assumption|refine vcA ?_ ?_);done)|omega|refine o7 (fun _=>?_)
 exact y5 ⟨rfl,rfl⟩
theorem eo2(a b:bytes)(H:List AObj):o9 Tryz.prog 177 [.str a,.str b] H (fun x H'=>x=.bool (al7 a b)/\H'=H):=by
 refine y7 [] [.tmp 4] 17 Tryz.func177 rfl rfl rfl rfl (nlb rfl) (by kernel_rfl) ?_
 repeat' first|refine o6 ?_|simp -dsimp -implicitDefEqProofs (disch:=first|assumption|omega|simp only[ll];omega) only[go_sem]|refine o5 (d21 _ _) ?_|refine vcJ ?_ ?_<;>intro _|refine vcA ?_ ?_;focus(repeat'(first|omega|assumption|refine vcA ?_ ?_);done)|omega|refine o7 (fun _=>?_)
 all_goals exact y5 ⟨rfl,rfl⟩
theorem cH4{α:Type}{l:List α}{i:Nat}{d x:α}(h:l[i]?=some x):l.getD i d=x:=by rw[List.getD,h];rfl
theorem aN8{α:Type}{l:List α}{i:Nat}(d:α)(h:i < l.length):l[i]?=some (l.getD i d):=by rw[List.getD,xq1 h];rfl
theorem bF5{o:Own}(ns:List bytes)(s:bytes)(H:List AObj)(hl:ns.length<=100000)(hsrt:srt ns=true):o9 Tryz.prog 132 [.sl o 1 (ns.map .str),.str s] H (fun x H'=>x=.tup [.int .i64 (pos ns s),.bool (decide (ns[pos ns s]?=some s))]/\H'=H):=by
 refine y7 [] [.tmp 4,.tmp 5] 54 Tryz.func132 rfl rfl rfl rfl (nlb rfl) (by kernel_rfl) ?_
 repeat' first|refine o6 ?_|simp -dsimp -implicitDefEqProofs (disch:=first|assumption|omega|simp only[ll];omega) only[go_sem]|refine vcJ ?_ ?_<;>intro _|refine vcA ?_ ?_;focus(repeat'(first|omega|assumption|refine vcA ?_ ?_);done)|omega|refine o7 (fun _=>?_)
 refine aa5 aa7 mixed [] [0,1,4,5,6] (fun p:Nat×Nat=>p.1<=p.2/\p.2<=ns.length/\(∀j,j < p.1->al7 (ns.getD j []) s=true)/\(p.2 < ns.length->al7 (ns.getD p.2 []) s=false)) (fun p=>[(7,.int .i64 p.1),(8,.int .i64 p.2)]) (fun _=>H) (fun p=>p.2 - p.1) (by kernel_rfl) ?_ (0,ns.length) ⟨by simp,by simp,fun j hj=>by omega,fun h=>by omega⟩ y8 rfl
 rintro⟨i,j⟩ ⟨h1,h2,h3,h4⟩
 dsimp only at h1 h2 h3 h4⊢;repeat' first|refine o6 ?_|simp -dsimp -implicitDefEqProofs (disch:=first|assumption|omega|simp only[ll];omega) only[go_sem]|refine o5 (eo2 _ _ _) ?_|refine o5 (d20 _ _) ?_|refine vcJ ?_ ?_<;>intro _|refine vcA ?_ ?_;focus(repeat'(first|omega|assumption|refine vcA ?_ ?_);done)|omega|refine o7 (fun _=>?_)
 ·rename_i e1 e2
  rw[show (((i:Int)+(j:Int))/2).toNat=(i+j)/2 by omega] at e2
  refine again (((i+j)/2+1,j)) ?_ ?_ rfl y8
  ·dsimp only;omega
  ·dsimp only
   refine⟨by omega,h2,fun m hm=>?_,h4⟩
   rcases am5 m ((i+j)/2) with h|h
   ·exact bt9 (di9 hsrt h (aN8 [] (by omega)) (aN8 [] (by omega))) e2
   ·obtain rfl:m=(i+j)/2:=by omega
    exact e2
 ·rename_i e1 e2
  rw[show (((i:Int)+(j:Int))/2).toNat=(i+j)/2 by omega] at e2
  refine again ((i,(i+j)/2)) ?_ ?_ rfl y8
  ·dsimp only;omega
  ·dsimp only
   exact⟨by omega,by omega,h3,fun _=>e2⟩
 all_goals
  obtain rfl:i=j:=by omega
  have hp:pos ns s=i:=c89 h2 (fun m a hm ha=>by rw[<-cH4 (d:=[]) ha];exact h3 m hm) (fun a ha=>by rw[<-cH4 (d:=[]) ha];exact h4 (y9 ha))
  rw[hp]
 ·have e3:ns.getD i []=s:=by assumption
  have:(decide (ns[i]?=some s))=true:=decide_eq_true (by rw[aN8 [] (by omega),e3])
  rw[this];exact y5 ⟨rfl,rfl⟩
 ·have e3: ¬ns.getD i []=s:=by assumption
  have:(decide (ns[i]?=some s))=false:=decide_eq_false (by rw[aN8 [] (by omega)];exact fun e=>e3 (Option.some.inj e))
  rw[this];exact y5 ⟨rfl,rfl⟩
 ·have:(decide (ns[i]?=some s))=false:=decide_eq_false (by rw[av9 (by omega)];simp)
  rw[this];exact y5 ⟨rfl,rfl⟩
end
end Go.Proofs.YtnfcdbgiclnaeaaGreatDoor
