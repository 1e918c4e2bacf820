/- The identity server: asked. -/
import Derived.Test.YtdkpdjfimckdgaaGreatDoorW7
import Derived.Test.YtdkpdjfimckdgaaGreatDoorW5
import Derived.Test.YtdkpdjfimckdgaaGreatDoorW3
import Derived.Test.YtdkpdjfimckdgaaGreatDoorW4
import Derived.Test.YtdkpdjfimckdgaaGreatDoorCards
import Derived.Test.YtdkpdjfimckdgaaGreatDoorTie
import Derived.ProofKit
import Derived.OpenShut
import Derived.Shelf.Vars
import Derived.Test.YtdkpdjfimckdgaaGreatDoorW6
import Derived.Deep.DeepWitnessRowRef
set_option linter.unusedVariables false
set_option linter.unusedSimpArgs false
set_option maxRecDepth 100000
set_option maxHeartbeats 4000000
namespace Go.Proofs.YtdkpdjfimckdgaaGreatDoor
section
open Go V
namespace As
def doE(p:Srv×Ans):AV:=.tup [ay7 p.1,ap8 p.2]
instance dat_doE (p:Srv×Ans):Dat (doE p):=inferInstanceAs (Dat (.tup [ay7 p.1,ap8 p.2]))
structure KeepOk(s:Srv)(rec:bytes):Prop where
 wf:WfK s.disk
 log:aA7 s.disk s.log=true
 one:1<=rec.length
 short:rec.length<=100
 room:(aS9 s.disk s.log rec).2.2≠10
 kept:(aV8 s rec).2=0
structure DoOk(s:Srv)(a:Ask):Prop where
 up:s.down=false
 size:aF1 (bP6 a)<=39999
 docs:a.docs.length<=1000000
 draws:a.draws.length<=1000000
 addrs:a.addrs.length<=1000000
 told:(am8 a).2=0
 calm:Calm s.st
 calm':Calm (aj6 ag4 keyS ab4 s.st a).1
 users:(aj6 ag4 keyS ab4 s.st a).1.users.length<=1100000
 agreed: ∀x∈(aj6 ag4 keyS ab4 s.st a).1.users,x.agreed.length<=1100000
 keep:(aj6 ag4 keyS ab4 s.st a).1≠s.st->KeepOk s (am8 a).1
theorem cZ4(s:Srv)(a:Ask)(H:List AObj)(h:DoOk s a)(hp: ∀H,o7 Tryz.prog 6 [ac6,ae0 s.st,ai1 a] H (fun y H'=>y=.tup [ae0 (aj6 ag4 keyS ab4 s.st a).1,ap8 (aj6 ag4 keyS ab4 s.st a).2]/\H'=H)):o7 Tryz.prog 10 [ac6,ay7 s,ai1 a] H (fun y H'=>y=doE (doS ag4 keyS ab4 s a)/\H'=H):=by
 have c1:=fun H=>cy0 a H h.size h.docs h.draws h.addrs
 have c3:=fun H=>dW6 (aj6 ag4 keyS ab4 s.st a).1 s.st H h.calm' h.calm h.users h.agreed
 have c4:=fun(g:KeepOk s (am8 a).1) k H hk=>d95 (k:=k) (sh:=.one 63) s (am8 a).1 H hk g.wf g.log g.one g.short g.room
 have hkp:=h.keep;unfold doS;dsimp only;rw[if_neg (by rw[h.up];exact cO0),if_pos h.told]
 unfold bB3 at c1;rw[h.told] at c1;unfold doE ay7 aC1;rw[h.up];generalize aj6 ag4 keyS ab4 s.st a=p at*;generalize (am8 a).1=r at*;unfold ae0 ap8 ai1 ac6 o6 at hp;unfold ae0 at c3;unfold ai1 at c1;unfold ac6 ai1 o6;by_cases he:p.1=s.st
 ·rw[if_pos he]
  rw[decide_eq_true he] at c3;clear c4 hkp;refine o8 [4,1000008,1000008001002,1000014,1000014001002] [.cell 6 63,.cell 7 41] 55 Tryz.func10 ?_;repeat' first|refine l9 ?_|simp -dsimp -implicitDefEqProofs only[go_sem,aG4,List.set_cons_zero,List.set_cons_succ,af4,ao5,an7,List.drop_zero,an6]|refine l7 (c1 _) ?_|refine l7 (hp _) ?_|refine l7 (c3 _) ?_|fail
  rw[<-h.up];exact aa1 (doE (s,p.2)) (Le.refl _) ab2 ⟨rfl,rfl⟩
 ·have hg:=hkp he
  have c4:=c4 hg;rw[if_neg he,if_pos hg.kept];rw[decide_eq_false he] at c3;rw[hg.kept] at c4;clear hg hkp;unfold aC1 at c4;rw[h.up] at c4;generalize (aV8 s r).1=k at*;refine o8 [4,1000008,1000008001002,1000014,1000014001002] [.cell 6 63,.cell 7 41] 55 Tryz.func10 ?_;repeat' first|refine l9 ?_|simp -dsimp -implicitDefEqProofs only[go_sem,aG4,List.set_cons_zero,List.set_cons_succ,af4,ao5,an7,List.drop_zero,an6]|refine l7 (c1 _) ?_|refine l7 (hp _) ?_|refine l7 (c3 _) ?_|refine l7 (c4 _ _ (by exact aH4)) ?_|fail
  exact aa1 (doE ({k with st:=p.1},p.2)) (Le.refl _) ab2 ⟨rfl,rfl⟩
end As
end
section
open Go V
namespace As
def aH3(n:Int)(p:bytes):List AV:=[.lit (.int .i64 n),.str p,.sl .full 0 [],.sl .full 0 [],.sl .full 0 [],.sl .full 0 []]
theorem bi7{m:Nat}{s:Nat}:Low m (.sl .full s []):=.sl _ _ _ (fun j e=>by cases e) (fun x hx=>by cases hx)
theorem cr6{m:Nat}{n:Int}{p:bytes}:aM9 m (aH3 n p):=o9 (.lit _) (o9 (.str _) (o9 bi7 (o9 bi7 (o9 bi7 (o9 bi7 aa4)))))
theorem cy9{k:Nat}{sh:Shape}{o:Own}(b:bytes)(n:Int)(p:bytes)(H:List AObj)(hk:H[k]?=some (.cells sh (aH3 n p)))(hb:b.length<=10000)(hl:(ai8 b).length<=100000)(hm:(atJ (ai8 b) 0).text=[109]):
  o7 Tryz.prog 100 [.mp k 0,.sl o 1 (b.map o6)] H (fun y H'=>y=.bool true/\H'=H.set k (.cells sh (aH3 (atJ (ai8 b) 1).num (atJ (ai8 b) 2).text))):=by
 have hkl:=aa0 hk;have c1:=bN2 (o:=o) b H hb hl;rw[<-List.drop_one,hm] at c1;generalize hL:ai8 b=L at*;have dl: ∀i,(L.drop i).length<=100000:=fun i=>by rw[List.length_drop];omega
 have ct:=fun i M=>cj5 (k:=H.length+1) (sh:=.one 352) (L.drop i) (H++ .gone::.cells (.one 352) (az1 (L.drop i))::M) ao7 (dl i)
 have cn:=fun i M=>cp9 (k:=H.length+1) (sh:=.one 352) (L.drop i) (H++ .gone::.cells (.one 352) (az1 (L.drop i))::M) ao7 (dl i)
 have ct:=fun i M=>(ct i M).mono (R':=fun y H'=>y=.str (atJ L i).text/\H'=H++ .gone::.cells (.one 352) (az1 (L.drop (i+1)))::M) fun y H' ⟨e1,e2⟩=>⟨e1.trans (by rw[aS5]),e2.trans (by rw[an1,bL2];rfl)⟩
 have cn:=fun i M=>(cn i M).mono (R':=fun y H'=>y=.lit (.int .i64 (atJ L i).num)/\H'=H++ .gone::.cells (.one 352) (az1 (L.drop (i+1)))::M) fun y H' ⟨e1,e2⟩=>⟨e1.trans (by rw[aS5]),e2.trans (by rw[an1,bL2];rfl)⟩
 have hat: ∀M:List AObj,(H++M)[k]?=some (.cells sh (aH3 n p)):=fun M=>by rw[xq4 hkl];exact hk
 have hst: ∀(M:List AObj) (z:AObj),(H++M).set k z=H.set k z++M:=fun M z=>aq2 hkl
 have hst2: ∀(z:AObj) (M:List AObj),(H.set k z++M)[k]?=some z:=fun z M=>by rw[xq4 (by rw[List.length_set];exact hkl)];exact aA0 hkl
 have hst3: ∀(M:List AObj) (y z:AObj),(H.set k y++M).set k z=H.set k z++M:=fun M y z=>by rw[bf8 _ _ (by rw[List.length_set];exact hkl),List.set_set]
 unfold aH3 at*;refine o8 [1000007,1000007004006,1000007004008,1000007004010,1000007004012,1000007004014,1000007004016,1000007004018,1000007004020,1000007004023,1000009,1000009004006,1000009004008,1000009004010,1000011,1000011004006,1000011004008,1000011004010,1000013,1000013004006,1000013004008,1000013004010,1000013004012,1000013004014,1000013004016] [.tmp 4] 116 Tryz.func100 ?_;repeat' first|refine l9 ?_|simp -dsimp -implicitDefEqProofs only[go_sem,hL,hat,hst,hst2,hst3,ao5,an7,List.drop_zero,an6]|refine l7 (c1) ?_|refine l7 (ct _ _) ?_|refine l7 (cn _ _) ?_|fail
 exact aS6 (.lit _) (fun sh cs e=>by cases e;exact cr6 (n:=(atJ L 1).num) (p:=(atJ L 2).text)) ⟨rfl,rfl⟩
theorem cy8{k:Nat}{o:Own}(b:bytes)(H:List AObj)(hb:b.length<=10000)(hl:(ai8 b).length<=100000)(h1:(atJ (ai8 b) 0).text≠[109])(h2:(atJ (ai8 b) 0).text≠[115])(h3:(atJ (ai8 b) 0).text≠[117])(h4:(atJ (ai8 b) 0).text≠[98])(h5:(atJ (ai8 b) 0).text≠[112]):
  o7 Tryz.prog 100 [.mp k 0,.sl o 1 (b.map o6)] H (fun y H'=>y=.bool false/\H'=H):=by
 have c1:=bN2 (o:=o) b H hb hl;generalize (atJ (ai8 b) 0).text=x at*;have f1:=eq_false h1;have f2:=eq_false h2;have f3:=eq_false h3;have f4:=eq_false h4;have f5:=eq_false h5;refine o8 [1000007,1000007004006,1000007004008,1000007004010,1000007004012,1000007004014,1000007004016,1000007004018,1000007004020,1000007004023,1000009,1000009004006,1000009004008,1000009004010,1000011,1000011004006,1000011004008,1000011004010,1000013,1000013004006,1000013004008,1000013004010,1000013004012,1000013004014,1000013004016] [.tmp 4] 116 Tryz.func100 ?_;repeat' first|refine l9 ?_|simp -dsimp -implicitDefEqProofs only[go_sem,f1,f2,f3,f4,f5]|refine l7 (c1) ?_|fail
 exact aa1 _ (Le.refl _) (.lit _) ⟨rfl,rfl⟩
theorem dN6{o o':Own}(a b:bytes)(H:List AObj):o7 Tryz.prog 102 [.sl o 1 (a.map o6),.sl o' 1 (b.map o6)] H (fun y H'=>y=.bool (decide (a=b))/\H'=H):=by
 refine o8 [] [.tmp 4] 10 Tryz.func102 ?_;repeat' simp -dsimp -implicitDefEqProofs only[go_sem]
 exact o5 ⟨rfl,rfl⟩
theorem dH3(l m:List bytes)(H:List AObj)(hl:l.length<=1100000):
  o7 Tryz.prog 101 [.sl .sh 1 (l.map al2),.sl .sh 1 (m.map al2),.fn (.func 102) [] []] H (fun x H'=>x=.bool (decide (l=m))/\H'=H):=by
 refine o8 [] [.tmp 6] 32 Tryz.func101 ?_;repeat' first|refine l9 ?_|simp -dsimp -implicitDefEqProofs only[go_sem]|refine vcA ?_ ?_|refine aa8 fun _=>?_
 ·rename_i h
  exact o5 ⟨ad5 (decide_eq_false fun e=>h (by rw[e])).symm,rfl⟩
 ·refine aa7 ab6 mixed [] [1,2,15,16] (fun i:Nat=>i<=l.length/\ ∀j,j < i->l.getD j []=m.getD j []) (fun i=>[(17,.int .i64 i)]) (fun _=>H) (fun i=>l.length - i) (by kernel_rfl) ?_ 0 ⟨by omega,fun j hj=>by omega⟩ aa3 rfl
  rintro i ⟨hi,hq⟩
  repeat' first|refine l9 ?_|simp -dsimp -implicitDefEqProofs (disch:=omega) only[go_sem,aZ4]|refine l7 (dN6 _ _ _) ?_|refine vcA ?_ ?_|omega|refine aa8 fun _=>?_
  ·rename_i h1 h2
   exact o5 ⟨ad5 (decide_eq_false fun e=>h2 (by rw[e])).symm,rfl⟩
  ·rename_i h1 h2
   refine again (i+1) ?_ ?_ rfl aa3
   ·omega
   ·exact⟨by omega,upto_succ hq h2⟩
  ·obtain rfl:i=l.length:=by omega
   exact o5 ⟨ad5 (decide_eq_true (bM1 (d:=[]) (by omega) hq)).symm,rfl⟩
end As
end
section
open Go V
namespace As
theorem dv8{m:Nat}{x:AV}(h:Low m x:=by(first|(first|exact .lit _|exact .str _|exact .any|exact ac8|exact ad1|exact .mp _ _ (by omega)|exact .msl _ _ _ _ (by omega)|exact ac1 (fun k e=>by cases e)|exact ab1 _|exact ae4|exact ae7|exact af2|exact af1 _|exact ab5|exact ab2)|(refine ae2 ?_;repeat(first|exact aa4|(refine o9 ?_ ?_;focus(first|exact .lit _|exact .str _|exact .any|exact ac8|exact ad1|exact .mp _ _ (by omega)|exact .msl _ _ _ _ (by omega)|exact ac1 (fun k e=>by cases e)|exact ab1 _|exact ae4|exact ae7|exact af2|exact af1 _|exact ab5|exact ab2))))|(refine am9 ?_;repeat(first|exact aa4|(refine o9 ?_ ?_;focus(first|exact .lit _|exact .str _|exact .any|exact ac8|exact ad1|exact .mp _ _ (by omega)|exact .msl _ _ _ _ (by omega)|exact ac1 (fun k e=>by cases e)|exact ab1 _|exact ae4|exact ae7|exact af2|exact af1 _|exact ab5|exact ab2)))))):Low m x:=h
def bO4(s:Idn):List AV:=[.lit (.int .i64 s.now),.str s.pepper,.sl .sh 10 (s.sess.map aj2),.sl .sh 3 (s.users.map af0),.sl .sh 4 (s.bonds.map av3),.sl .sh 7 (s.plgs.map aw4)]
theorem dw8{m:Nat}{s:Idn}:aM9 m (bO4 s):=o9 (.lit _) (o9 (.str _) (o9 ab5 (o9 ab5 (o9 ab5 (o9 ab5 aa4)))))
def aJ6(m:bytes):Idn:=⟨(atJ (ai8 m) 1).num,(atJ (ai8 m) 2).text,[],[],[],[]⟩
theorem cJ0{m:bytes}:LeAll (aH3 (atJ (ai8 m) 1).num (atJ (ai8 m) 2).text) (bO4 (aJ6 m)):=by
 unfold aH3 bO4 aJ6;repeat(first|exact LeAll.nil|(refine LeAll.cons ?_ ?_;focus(first|exact Le.refl _|exact ab7)))
def bt2(s:Idn)(a:Ask):Prop:= ∀H,o7 Tryz.prog 6 [ac6,ae0 s,ai1 a] H (fun y H'=>y=.tup [ae0 (aj6 ag4 keyS ab4 s a).1,ap8 (aj6 ag4 keyS ab4 s a).2]/\H'=H)
def bF6:Idn->List bytes->Prop
 |_,[]=>True
 |s,b::r=>ReadOk b/\(aG6 b).2=0/\bt2 s (aG6 b).1/\bF6 (aj6 ag4 keyS ab4 s (aG6 b).1).1 r
structure UnpOk(m b:bytes)(r:List bytes):Prop where
 len:m.length<=10000
 items:(ai8 m).length<=100000
 kind:(atJ (ai8 m) 0).text=[109]
 len2:b.length<=10000
 items2:(ai8 b).length<=100000
 n1:(atJ (ai8 b) 0).text≠[109]
 n2:(atJ (ai8 b) 0).text≠[115]
 n3:(atJ (ai8 b) 0).text≠[117]
 n4:(atJ (ai8 b) 0).text≠[98]
 n5:(atJ (ai8 b) 0).text≠[112]
 bare:Bare (aJ6 m)
 pep:(aJ6 m).pepper.length<=10000
 row:(aP9 (aJ6 m)).1=[m]
 many:r.length<=100000
 path:bF6 (aJ6 m) (b::r)
theorem dD9{m:bytes}:BdI (aJ6 m):=⟨fun x hx=>(by cases hx),fun x hx=>(by cases hx),fun x hx=>(by cases hx),fun x hx=>(by cases hx)⟩
theorem dO4{s:Idn}{l:List bytes}{i:Nat}(hi:i < l.length)(h:bF6 s (l.drop i)):ReadOk (l.getD i [])/\(aG6 (l.getD i [])).2=0/\bt2 s (aG6 (l.getD i [])).1/\bF6 (aj6 ag4 keyS ab4 s (aG6 (l.getD i [])).1).1 (l.drop (i+1)):=by
 rw[aL3 hi] at h;rw[List.getD,xq1 hi];exact h
theorem c81{s:Idn}{l:List bytes}{i:Nat}(hi:i < l.length)(h:(aG6 (l.getD i [])).2=0):aI7 ag4 keyS ab4 s (l.drop i)=aI7 ag4 keyS ab4 (aj6 ag4 keyS ab4 s (aG6 (l.getD i [])).1).1 (l.drop (i+1)):=by
 rw[List.getD,xq1 hi] at h;rw[aL3 hi,List.getD,xq1 hi];exact if_pos h
def cO8(s:Idn):AV:=.tup [ae0 s,.lit (.int .i64 0)]
instance dat_unpE (s:Idn):Dat (cO8 s):=inferInstanceAs (Dat (.tup [ae0 s,.lit (.int .i64 0)]))
instance dat_hip:Dat (.ip ac6):=by unfold ac6;infer_instance
theorem dF6(m b:bytes)(r:List bytes)(H:List AObj)(h:UnpOk m b r):o7 Tryz.prog 41 [ac6,.sl .sh 1 ((m::b::r).map al2)] H (fun y H'=>y=cO8 (aI7 ag4 keyS ab4 (aJ6 m) (b::r)).1/\H'=H):=by
 have c0:=fun H=>a05 H
 have c1:=cy9 (k:=H.length+1) (sh:=.one 27) (o:=.sh) m 0 [] (H++[.cells (.one 27) (aH3 0 []),.cells (.one 27) (aH3 0 [])]) ao7 h.len h.items h.kind;rw[an1] at c1;have c2:=fun M=>cy8 (k:=H.length+1) (o:=.sh) b M h.len2 h.items2 h.n1 h.n2 h.n3 h.n4 h.n5
 have c3:=fun H=>o7.weak (args:=[.agg (aH3 (atJ (ai8 m) 1).num (atJ (ai8 m) 2).text)]) (cL6 (aJ6 m) H dD9 h.bare h.pep) rfl (fun j x y e1 e2=>by
  match j,e1,e2 with
  |0,rfl,rfl=>exact ak3 cJ0)
 have hp2:(aP9 (aJ6 m)).2=0:=by rw[bC0 h.bare.sess h.bare.users h.bare.bonds h.bare.plgs h.bare.right h.bare.row]
 unfold bW1 at c3;rw[hp2,h.row] at c3;have c4:=fun H=>dH3 [m] [m] H (by simp)
 rw[decide_eq_true rfl] at c4;have hm:=h.many;generalize hR:m::b::r=recs;have hlen:recs.length=r.length+2:=by rw[<-hR];simp
 have g0:recs.getD 0 []=m:=by rw[<-hR];rfl
 have g1:recs.getD 1 []=b:=by rw[<-hR];rfl
 have t1:(recs.map al2).take 1=[m].map al2:=by rw[<-hR];rfl
 have hpa:=h.path;have hlb:(b::r).length=r.length+1:=rfl;generalize hA:b::r=zs at hpa hlb⊢;have d1:(recs.map al2).drop 1=zs.map al2:=by rw[<-hR,<-hA];rfl
 unfold ac6 o6 at c0;unfold ac6 o6;unfold aH3 at c1 c3;refine o8 [] [.cell 4 27,.tmp 5] 75 Tryz.func41 ?_;repeat' simp -dsimp -implicitDefEqProofs only[go_sem,aG4]
 refine aa7 ab6 mixed [] [1,2,4,5,6] (fun i:Nat=>i<=1) (fun i=>[(7,.lit (.int .i64 (i:Int)))]) (fun i=>H++[.cells (.one 27) (aH3 0 []),.cells (.one 27) (if i=0 then aH3 0 [] else aH3 (atJ (ai8 m) 1).num (atJ (ai8 m) 2).text)]) (fun i=>1 - i) (by kernel_rfl) ?_ 0 (by omega) aa3 rfl
 intro i hi;have f0:(((0:Nat):Int) < (recs.length:Int))=True:=eq_true (by omega)
 have f1:(((1:Nat):Int) < (recs.length:Int))=True:=eq_true (by omega)
 have f2:((1:Int) < (recs.length:Int))=True:=eq_true (by omega)
 rcases(by omega:i=0\/i=1) with rfl|rfl
 ·rw[if_pos rfl]
  unfold aH3;repeat' first|refine l9 ?_|simp -dsimp -implicitDefEqProofs (disch:=omega) only[go_sem,f0,aZ4,g0,ao5,an7,List.drop_zero,an6]|refine l7 (c1) ?_|refine vcA ?_ ?_|omega|refine aa8 fun _=>?_
  refine again (1) ?_ ?_ rfl aa3
  ·omega
  ·omega
  all_goals trace_state
  all_goals sorry
 ·rw[if_neg (by omega)]
  unfold aH3;repeat' first|refine l9 ?_|simp -dsimp -implicitDefEqProofs (disch:=first|omega|simp only[ll];omega) only[go_sem,f1,f2,aZ4,g1,t1,d1,aG4,ao5,an7,List.drop_zero,an6]|refine l7 (c0 _) ?_|refine l7 (c2 _) ?_|refine l7 (c3 _) ?_|refine l7 (c4 _) ?_|refine vcA ?_ ?_|omega
  refine cx3 (H.length+1) (cs':=bO4 (aJ6 m)) ao7 cJ0 ?_;rw[an1,List.set_cons_succ,List.set_cons_zero];clear c1 c2 c3 c4 c0;refine aa7 ab6 mixed [] [4,6,52,53] (fun p:Nat×Idn=>p.1<=zs.length/\bF6 p.2 (zs.drop p.1)/\aI7 ag4 keyS ab4 p.2 (zs.drop p.1)=aI7 ag4 keyS ab4 (aJ6 m) zs) (fun p=>[(54,.lit (.int .i64 (p.1:Int))),(2,.ip ac6)]) (fun p=>H++[.cells (.one 27) (aH3 0 []),.cells (.one 27) (bO4 p.2)]) (fun p=>zs.length - p.1) (by kernel_rfl) ?_ (0,aJ6 m) ⟨by omega,hpa,rfl⟩ aa3 rfl
  rintro⟨i,st⟩ ⟨hi,hp,hrep⟩
  dsimp only at hi hp hrep⊢;by_cases hlt:i < zs.length
  ·obtain⟨hro,h2,hst,hpn⟩:=dO4 hlt hp
   have hrn:=(c81 hlt h2).symm.trans hrep;have cr:=fun H=>d03 (o:=.sh) (zs.getD i []) H hro
   have hc:((i:Int) < (zs.length:Int))=True:=eq_true (by omega)
   unfold bh9 ai1 at cr;rw[h2] at cr;unfold bt2 ac6 o6 ae0 ai1 at hst;generalize (aG6 (zs.getD i [])).1=q at*;generalize aj6 ag4 keyS ab4 st q=u at*;unfold aH3 bO4 ac6 o6;repeat' first|refine l9 ?_|simp -dsimp -implicitDefEqProofs (disch:=first|assumption|omega) only[go_sem,hc,aZ4,aG4,ao5,an7,List.drop_zero,an6]|refine l7 (cr _) ?_|refine l7 (hst _) ?_|fail
   refine ak5 (H.length+2) ([.cells (.one 53) [.lit (.int .i64 q.kind),.str q.token,.str q.secret,.str q.medium,.str q.wh,.str q.mxid,.str q.room,.str q.sender,.lit (.int .i64 q.id),.lit (.int .i64 q.attempt),.str q.code,.lit (.int .i64 q.n),.sl .sh 1 (q.docs.map .str),.sl .sh 1 (q.draws.map .str),.str q.alg,.str q.pepper,.sl .sh 1 (q.addrs.map .str)]]) ((i+1,u.1)) ?_ ?_ ?_ ?_ ?_ (by repeat(first|exact ae1|(refine ad3 ?_ ?_;focus(first|exact ab2|exact dv8)))) ?_ aa3
   ·dsimp only;omega
   ·exact⟨by dsimp only;omega,hpn,hrn⟩
   ·rw[List.append_assoc];rfl
   ·simp
   ·simp
   ·refine aF4 fun o ho sh cs e=>?_
    subst e;rw[an8,aT1] at ho;rcases ho with ho|ho<;>cases ho
    ·exact cr6 (n:=0) (p:=[])
    ·exact dw8 (s:=u.1)
  ·obtain rfl:i=zs.length:=by omega
   have hc:((zs.length:Int) < (zs.length:Int))=False:=eq_false (by omega)
   rw[bF7] at hrep;rw[<-hrep];unfold aH3 bO4 ac6 o6;repeat' first|refine l9 ?_|simp -dsimp -implicitDefEqProofs only[go_sem,hc,ao5,an7,List.drop_zero,an6]
   exact aa1 (cO8 st) (Le.refl _) ab2 ⟨rfl,rfl⟩
end As
end
section
open Go V
namespace As
structure CrashOk(s:Srv)(n:Int)(m b:bytes)(r:List bytes):Prop where
 wf:WfK s.disk
 loose:s.disk.loose=[]
 fuse:n < 9223372036854775808
 fall:(aA4 s.disk n).2=0
 short:aU1 (ap6 (aA4 s.disk n).1 2).1.recs=true
 opens:(bd7 (aA4 s.disk n).1).2.2.2=0
 recs:(bd7 (aA4 s.disk n).1).2.2.1=m::b::r
 unp:UnpOk m b r
def upS(s:Srv)(n:Int)(m b:bytes)(r:List bytes):Srv:=⟨(aI7 ag4 keyS ab4 (aJ6 m) (b::r)).1,(bd7 (aA4 s.disk n).1).1,(bd7 (aA4 s.disk n).1).2.1,false⟩
theorem dK7{d:Dk}{n:Int}(h:WfK d)(hn:n < 9223372036854775808):WfK (aA4 d n).1:=by
 unfold aA4;split
 ·exact⟨h.secs,fun w hw=>(by cases hw),h.n,aC0 _,by dsimp only;omega⟩
 ·exact h
theorem cU7{d:Dk}{n:Int}(h:d.loose=[]):(aA4 d n).1.loose=[]:=by
 unfold aA4;split
 ·rfl
 ·exact h
theorem d19(s:Srv)(n:Int)(m b:bytes)(r:List bytes)(H:List AObj)(h:CrashOk s n m b r):o7 Tryz.prog 11 [ac6,ay7 s,.sl .full 0 [],.lit (.int .i64 n)] H (fun y H'=>y=nwE (upS s n m b r)/\H'=H):=by
 have c1:=fun H=>d17 s.disk n H h.wf h.loose
 have c2:=fun H=>ef5 (aA4 s.disk n).1 H (dK7 h.wf h.fuse) (.inl (cU7 h.loose)) h.short
 have c3:=fun H=>dF6 m b r H h.unp
 unfold dkE at c1;rw[h.fall] at c1;unfold bl5 at c2;rw[h.opens,h.recs] at c2;unfold upS;generalize bd7 (aA4 s.disk n).1=o at*;generalize (aA4 s.disk n).1=d at*;generalize (aI7 ag4 keyS ab4 (aJ6 m) (b::r)).1=t at*;generalize m::b::r=rs at c2 c3;unfold cO8 ae0 ac6 o6 at c3;unfold ae6 at c1 c2;unfold az3 at c2;unfold nwE ay7 aC1 ac6 o6;dsimp only;refine o8 [] [.cell 8 63,.tmp 9] 56 Tryz.func11 ?_;repeat' first|refine l9 ?_|simp -dsimp -implicitDefEqProofs only[go_sem,aG4,List.set_cons_zero,List.set_cons_succ,af4,ao5,an7,List.drop_zero,an6]|refine l7 (c1 _) ?_|refine l7 (c2 _) ?_|refine l7 (c3 _) ?_|fail
 exact aa1 (nwE ⟨t,o.1,o.2.1,false⟩) (Le.refl _) ab2 ⟨rfl,rfl⟩
end As
end
section
open Go V
namespace As
theorem dX3:ck Tryz.prog 4 109=some [.int,.str,.str,.str,.str,.int,.int,.int,.bool,.int]:=by kernel_rfl
theorem ec5:ck Tryz.prog 4 123=some [.str,.str,.str,.int]:=by kernel_rfl
theorem ec4:ck Tryz.prog 4 127=some [.str,.str,.str,.str,.str,.str,.str]:=by kernel_rfl
theorem do7(l:List Sess)(H:List AObj)(hl:l.length<=1100000):o7 Tryz.prog 29 [.sl .sh 10 (l.map aj2),.sl .sh 10 (l.map aj2)] H (fun x H'=>x=.bool true/\H'=H):=by
 refine o8 [1000006] [.tmp 4] 26 Tryz.func29 ?_;repeat' first|refine l9 ?_|simp -dsimp -implicitDefEqProofs only[go_sem]
 refine aa7 ab6 mixed [1000006] [0,1] (fun i:Nat=>i<=l.length) (fun i=>[(5,.lit (.int .i64 (i:Int)))]) (fun _=>H) (fun i=>l.length - i) (by kernel_rfl) ?_ 0 (by omega) aa3 rfl
 intro i hi;by_cases h:i < l.length
 ·have hc:((i:Int) < (l.length:Int))=True:=eq_true (by omega)
  have hg:(l.map aj2).getD i .any=aj2 (l.getD i aT0):=getD_map _ _ h;generalize l.getD i aT0=x at*;unfold aj2 at hg;repeat' first|refine l9 ?_|simp -dsimp -implicitDefEqProofs (disch:=first|assumption|omega) only[go_sem,hc,hg,dX3,Bool.and_self,decide_true]|refine vcA ?_ ?_
  refine again (i+1) ?_ ?_ rfl aa3
  ·omega
  ·omega
 ·obtain rfl:i=l.length:=by omega
  have hc:((l.length:Int) < (l.length:Int))=False:=eq_false (by omega)
  repeat' first|refine l9 ?_|simp -dsimp -implicitDefEqProofs only[go_sem,hc]
  exact o5 ⟨rfl,rfl⟩
theorem do5(l:List Bnd)(H:List AObj)(hl:l.length<=1100000):o7 Tryz.prog 31 [.sl .sh 4 (l.map av3),.sl .sh 4 (l.map av3)] H (fun x H'=>x=.bool true/\H'=H):=by
 refine o8 [1000006] [.tmp 4] 26 Tryz.func31 ?_;repeat' first|refine l9 ?_|simp -dsimp -implicitDefEqProofs only[go_sem]
 refine aa7 ab6 mixed [1000006] [0,1] (fun i:Nat=>i<=l.length) (fun i=>[(5,.lit (.int .i64 (i:Int)))]) (fun _=>H) (fun i=>l.length - i) (by kernel_rfl) ?_ 0 (by omega) aa3 rfl
 intro i hi;by_cases h:i < l.length
 ·have hc:((i:Int) < (l.length:Int))=True:=eq_true (by omega)
  have hg:(l.map av3).getD i .any=av3 (l.getD i bt3):=getD_map _ _ h;generalize l.getD i bt3=x at*;unfold av3 at hg;repeat' first|refine l9 ?_|simp -dsimp -implicitDefEqProofs (disch:=first|assumption|omega) only[go_sem,hc,hg,ec5,Bool.and_self,decide_true]|refine vcA ?_ ?_
  refine again (i+1) ?_ ?_ rfl aa3
  ·omega
  ·omega
 ·obtain rfl:i=l.length:=by omega
  have hc:((l.length:Int) < (l.length:Int))=False:=eq_false (by omega)
  repeat' first|refine l9 ?_|simp -dsimp -implicitDefEqProofs only[go_sem,hc]
  exact o5 ⟨rfl,rfl⟩
theorem do4(l:List Plg)(H:List AObj)(hl:l.length<=1100000):o7 Tryz.prog 32 [.sl .sh 7 (l.map aw4),.sl .sh 7 (l.map aw4)] H (fun x H'=>x=.bool true/\H'=H):=by
 refine o8 [1000006] [.tmp 4] 26 Tryz.func32 ?_;repeat' first|refine l9 ?_|simp -dsimp -implicitDefEqProofs only[go_sem]
 refine aa7 ab6 mixed [1000006] [0,1] (fun i:Nat=>i<=l.length) (fun i=>[(5,.lit (.int .i64 (i:Int)))]) (fun _=>H) (fun i=>l.length - i) (by kernel_rfl) ?_ 0 (by omega) aa3 rfl
 intro i hi;by_cases h:i < l.length
 ·have hc:((i:Int) < (l.length:Int))=True:=eq_true (by omega)
  have hg:(l.map aw4).getD i .any=aw4 (l.getD i bL1):=getD_map _ _ h;generalize l.getD i bL1=x at*;unfold aw4 at hg;repeat' first|refine l9 ?_|simp -dsimp -implicitDefEqProofs (disch:=first|assumption|omega) only[go_sem,hc,hg,ec4,Bool.and_self,decide_true]|refine vcA ?_ ?_
  refine again (i+1) ?_ ?_ rfl aa3
  ·omega
  ·omega
 ·obtain rfl:i=l.length:=by omega
  have hc:((l.length:Int) < (l.length:Int))=False:=eq_false (by omega)
  repeat' first|refine l9 ?_|simp -dsimp -implicitDefEqProofs only[go_sem,hc]
  exact o5 ⟨rfl,rfl⟩
theorem do6(l:List Usr)(H:List AObj)(hl:l.length<=1100000)(hu: ∀u∈l,u.agreed.length<=1100000):o7 Tryz.prog 30 [.sl .sh 3 (l.map af0),.sl .sh 3 (l.map af0)] H (fun x H'=>x=.bool true/\H'=H):=by
 refine o8 [1000006,1000011] [.tmp 4] 84 Tryz.func30 ?_;repeat' first|refine l9 ?_|simp -dsimp -implicitDefEqProofs only[go_sem]
 refine aa7 ab6 mixed [1000006,1000011] [0,1] (fun i:Nat=>i<=l.length) (fun i=>[(5,.lit (.int .i64 (i:Int)))]) (fun _=>H) (fun i=>l.length - i) (by kernel_rfl) ?_ 0 (by omega) aa3 rfl
 intro i hi;by_cases h:i < l.length
 ·have hc:((i:Int) < (l.length:Int))=True:=eq_true (by omega)
  have hx:=hu _ (ag9 (d:=ah3) h);repeat' first|refine l9 ?_|simp -dsimp -implicitDefEqProofs (disch:=first|assumption|omega) only[go_sem,hc]
  refine aa7 ab6 mixed [1000006,1000011] [0,1,5,12,13,14,15,18,19,20,21,22,23,24,25,26,27,28,29,30,31,32,33,34,35,36,37,38,39,40,41,42,43,44,45,46,47,48,49,50,51,52,53,54,55,56] (fun j:Nat=>j<=(l.getD i ah3).agreed.length) (fun j=>[(6,.lit (.int .i64 (j:Int)))]) (fun _=>H) (fun j=>(l.getD i ah3).agreed.length - j) (by kernel_rfl) ?_ 0 (by omega) aa3 rfl
  intro j hj;by_cases h2:j < (l.getD i ah3).agreed.length
  ·have hc2:((j:Int) < ((l.getD i ah3).agreed.length:Int))=True:=eq_true (by omega)
   repeat' first|refine l9 ?_|simp -dsimp -implicitDefEqProofs (disch:=first|assumption|omega) only[go_sem,hc,hc2]
   refine again (j+1) ?_ ?_ rfl aa3
   ·omega
   ·omega
  ·have hj2:j=(l.getD i ah3).agreed.length:=by omega
   have hc2:((j:Int) < ((l.getD i ah3).agreed.length:Int))=False:=eq_false (by omega)
   repeat' first|refine l9 ?_|simp -dsimp -implicitDefEqProofs (disch:=first|assumption|omega) only[go_sem,hc,hc2]
   refine again (i+1) ?_ ?_ rfl aa3
   ·omega
   ·omega
 ·obtain rfl:i=l.length:=by omega
  have hc:((l.length:Int) < (l.length:Int))=False:=eq_false (by omega)
  repeat' first|refine l9 ?_|simp -dsimp -implicitDefEqProofs only[go_sem,hc]
  exact o5 ⟨rfl,rfl⟩
theorem c77(s:Idn)(H:List AObj)(h1:s.sess.length<=1100000)(h2:s.users.length<=1100000)(h3:s.bonds.length<=1100000)(h4:s.plgs.length<=1100000)(hu: ∀u∈s.users,u.agreed.length<=1100000):o7 Tryz.prog 8 [ae0 s,ae0 s] H (fun x H'=>x=.bool true/\H'=H):=by
 have c1:=fun H=>do7 s.sess H h1
 have c2:=fun H=>do6 s.users H h2 hu
 have c3:=fun H=>do5 s.bonds H h3
 have c4:=fun H=>do4 s.plgs H h4
 unfold ae0;refine o8 [] [.tmp 4] 45 Tryz.func8 ?_;repeat' first|refine l9 ?_|simp -dsimp -implicitDefEqProofs (disch:=omega) only[go_sem]|refine l7 (c1 _) ?_|refine l7 (c2 _) ?_|refine l7 (c3 _) ?_|refine l7 (c4 _) ?_|fail
 exact o5 ⟨rfl,rfl⟩
end As
end
section
open Go V
namespace As
def aQ8:bytes:=[116]
def bd1:Ask:={bt4 with kind:=1,mxid:=[64,97,58,104],draws:=[aQ8]}
def aJ9:Ask:={bt4 with kind:=9,token:=aQ8}
def a03:Ask:={bt4 with kind:=3,token:=aQ8,docs:=ab4}
def cx4(n:Int):Ask:={bt4 with kind:=14,n:=n}
def aR6(k:Int)(t x:bytes)(n:Int)(d e:AV):List AV:=[.lit (.int .i64 k),.str t,.str [],.str [],.str [],.str x,.str [],.str [],.lit (.int .i64 0),.lit (.int .i64 0),.str [],.lit (.int .i64 n),d,e,.str [],.str [],.sl .full 0 []]
theorem bC9{o:Own}{s:Nat}{xs:List AV}:Le (.sl o s xs) (.sl .sh s xs):=as4
theorem dT3:Le (.agg (aR6 1 [] [64,97,58,104] 0 (.sl .full 0 []) (.sl .full 1 [.str aQ8]))) (ai1 bd1):=by
 unfold aR6 ai1;refine ak3 ?_;repeat(first|exact LeAll.nil|(refine LeAll.cons ?_ ?_;focus(first|exact Le.refl _|exact ab7|exact bC9)))
theorem cJ3:Le (.agg (aR6 9 aQ8 [] 0 (.sl .full 0 []) (.sl .full 0 []))) (ai1 aJ9):=by
 unfold aR6 ai1;refine ak3 ?_;repeat(first|exact LeAll.nil|(refine LeAll.cons ?_ ?_;focus(first|exact Le.refl _|exact ab7|exact bC9)))
theorem dT4:Le (.agg (aR6 3 aQ8 [] 0 (.sl .full 1 [.str [112,114,105,118,97,99,121]]) (.sl .full 0 []))) (ai1 a03):=by
 unfold aR6 ai1;refine ak3 ?_;repeat(first|exact LeAll.nil|(refine LeAll.cons ?_ ?_;focus(first|exact Le.refl _|exact ab7|exact bC9)))
theorem dT2{n:Int}:Le (.agg (aR6 14 [] [] n (.sl .full 0 []) (.sl .full 0 []))) (ai1 (cx4 n)):=by
 unfold aR6 ai1;refine ak3 ?_;repeat(first|exact LeAll.nil|(refine LeAll.cons ?_ ?_;focus(first|exact Le.refl _|exact ab7|exact bC9)))
theorem dx4{d:AV}(h:Le d (.sl .sh 1 (ab4.map .str))):Le (.agg [.str ag4,.str keyS,o6 5,o6 0,o6 0,o6 0,o6 0,o6 0,o6 0,o6 0,o6 0,o6 0,o6 0,o6 0,o6 0,o6 0,o6 0,o6 0,o6 0,o6 0,o6 0,o6 0,o6 0,o6 0,o6 0,o6 0,o6 0,o6 0,o6 0,o6 0,o6 0,o6 0,o6 0,o6 0,d]) ac6:=by
 unfold ac6;refine ak3 ?_;repeat(first|exact LeAll.nil|(refine LeAll.cons ?_ ?_;focus(first|exact Le.refl _|exact h)))
instance dat_house:Dat ac6:=by unfold ac6;infer_instance
theorem ei1{x:AV}:List.replicate 32 x=[x,x,x,x,x,x,x,x,x,x,x,x,x,x,x,x,x,x,x,x,x,x,x,x,x,x,x,x,x,x,x,x]:=rfl
theorem cK0(H:List AObj):o7 Tryz.prog 7 [] H (fun y H'=>y=ac6/\H'=H):=by
 refine o8 [] [.cell 0 48] 5 Tryz.func7 ?_;repeat' simp -dsimp -implicitDefEqProofs (disch:=(simp only[ll];omega)) only[go_sem,ei1,List.set_cons_zero,List.set_cons_succ,af4]
 all_goals try rfl
 exact aa1 ac6 (dx4 bC9) ab2 ⟨rfl,rfl⟩
theorem dZ4(S0 S1 S2 S3 S4 U:Srv)(A1 A2 A3 A4:Ans)
  (cN: ∀H,o7 Tryz.prog 9 [ac6,.lit (.int .i64 200)] H (fun y H'=>y=nwE S0/\H'=H))
  (c1: ∀H,o7 Tryz.prog 10 [ac6,ay7 S0,ai1 bd1] H (fun y H'=>y=doE (S1,A1)/\H'=H))
  (c2: ∀H,o7 Tryz.prog 10 [ac6,ay7 S1,ai1 aJ9] H (fun y H'=>y=doE (S2,A2)/\H'=H))
  (c3: ∀H,o7 Tryz.prog 10 [ac6,ay7 S2,ai1 a03] H (fun y H'=>y=doE (S3,A3)/\H'=H))
  (c4: ∀H,o7 Tryz.prog 10 [ac6,ay7 S3,ai1 aJ9] H (fun y H'=>y=doE (S4,A4)/\H'=H))
  (cC: ∀H,o7 Tryz.prog 11 [ac6,ay7 S4,.sl .full 0 [],.lit (.int .i64 (-1))] H (fun y H'=>y=nwE U/\H'=H))
  (h1:A1.text=aQ8) (h2:A2.code=13) (h3:A3.code=0) (h4:A4.value.kind=6) (h5:U.st.users.length=1) (h6:U.st=S4.st) (h7:Calm S4.st) (h8: ∀u∈S4.st.users,u.agreed.length<=1100000) (H:List AObj):
  o7 Tryz.prog 4 [] H (fun y H'=>y=.bool true/\H'=H):=by
 have ch:=fun H=>cK0 H
 have w1:=fun H=>o7.weak (args:=[ac6,.agg (aC1 S0),.agg (aR6 1 [] [64,97,58,104] 0 (.sl .full 0 []) (.sl .full 1 [.str aQ8]))]) (c1 H) rfl (fun j x y e1 e2=>by
  match j,e1,e2 with
  |0,rfl,rfl=>exact Le.refl _
  |1,rfl,rfl=>exact Le.refl _
  |2,rfl,rfl=>exact dT3)
 have w2:=fun H=>o7.weak (args:=[ac6,.agg (aC1 S1),.agg (aR6 9 aQ8 [] 0 (.sl .full 0 []) (.sl .full 0 []))]) (c2 H) rfl (fun j x y e1 e2=>by
  match j,e1,e2 with
  |0,rfl,rfl=>exact Le.refl _
  |1,rfl,rfl=>exact Le.refl _
  |2,rfl,rfl=>exact cJ3)
 have w3:=fun H=>o7.weak (args:=[ac6,.agg (aC1 S2),.agg (aR6 3 aQ8 [] 0 (.sl .full 1 [.str [112,114,105,118,97,99,121]]) (.sl .full 0 []))]) (c3 H) rfl (fun j x y e1 e2=>by
  match j,e1,e2 with
  |0,rfl,rfl=>exact Le.refl _
  |1,rfl,rfl=>exact Le.refl _
  |2,rfl,rfl=>exact dT4)
 have w4:=fun H=>o7.weak (args:=[ac6,.agg (aC1 S3),.agg (aR6 9 aQ8 [] 0 (.sl .full 0 []) (.sl .full 0 []))]) (c4 H) rfl (fun j x y e1 e2=>by
  match j,e1,e2 with
  |0,rfl,rfl=>exact Le.refl _
  |1,rfl,rfl=>exact Le.refl _
  |2,rfl,rfl=>exact cJ3)
 have cs:=fun H=>c77 S4.st H (by rw[h7.sess];exact aC0 _) (by rw[<-h6,h5];omega) (by rw[h7.bonds];exact aC0 _) (by rw[h7.plgs];exact aC0 _) h8
 rw[h6] at h5;clear c1 c2 c3 c4;unfold nwE doE ap8 at*;unfold ay7 at*;unfold aC1 aR6 at*;unfold ae0 at cs;dsimp only at*;rw[h6] at cC;unfold aQ8 at*;refine o8 [2000015,2000019,2000023,2000026,2000030,2000034,2000038,2000041,2000045,2000047,1000002,1000002000008,1000002001008,1000002002008,1000002004008,1000003,1000003000007,1000003001007,1000003003007,1000004,1000004000008,1000004001008,1000004002008,1000004004008,1000005,1000005000007,1000005001007,1000005003007,1000006,1000006000006,1000006001006,1000006002006] [.tmp 0] 91 Tryz.func4 ?_;repeat' first|refine l9 ?_|simp -dsimp -implicitDefEqProofs (disch:=omega) only[go_sem,h1,h2,h3,h4,h5,List.set_cons_zero,List.set_cons_succ,af4,ao5,an7,List.drop_zero,an6]|refine l7 (ch _) ?_|refine⟨_,_,ch _,?_⟩|refine l7 (cN _) ?_|refine l7 (w1 _) ?_|refine⟨_,_,w1 _,?_⟩|refine l7 (w2 _) ?_|refine⟨_,_,w2 _,?_⟩|refine l7 (w3 _) ?_|refine⟨_,_,w3 _,?_⟩|refine l7 (w4 _) ?_|refine⟨_,_,w4 _,?_⟩|refine l7 (cC _) ?_|refine⟨_,_,cC _,?_⟩|refine l7 (cs _) ?_|refine vcA ?_ ?_
 exact aa1 (.bool true) (Le.refl _) (.lit _) ⟨rfl,rfl⟩
end As
end
section
open Go V
namespace As
def st0:Idn:={dm5 with pepper:=[112]}
def st1:Idn:={st0 with users:=[⟨aQ8,[64,97,58,104],[]⟩]}
def st2:Idn:={st0 with users:=[⟨aQ8,[64,97,58,104],ab4⟩]}
def bB5:bytes:=(rowP [ac5 [109],aC2 0,ac5 [112]]).1
def aU4:bytes:=(am8 bd1).1
def aU5:bytes:=(am8 a03).1
def F0:Dk×Lg×Int:=aF7 (aJ7 200).1
def S0:Srv:=(aB7 (aD3 F0.1 F0.2.1)).1
def S1:Srv:={(aV8 S0 aU4).1 with st:=st1}
def S3:Srv:={(aV8 S1 aU5).1 with st:=st2}
def wfB(d:Dk):Bool:=(d.secs.all fun s=>decide (s.length=128))&&(d.loose.isEmpty&&(decide (d.secs.length<=100000)&&decide (-9223372036854775808<=d.fuse/\d.fuse < 9223372036854775808)))
theorem bA0{d:Dk}(h:wfB d=true):WfK d/\d.loose=[]:=by
 simp only[wfB,xq3,xq6,decide_eq_true_eq,List.isEmpty_iff] at h;obtain⟨h1,h2,h3,h4⟩:=h;exact⟨⟨h1,by rw[h2];exact fun w hw=>(by cases hw),h3,by rw[h2];exact aC0 _,h4⟩,h2⟩
def cg2(s:Srv)(rec:bytes):Bool:=!s.down&&(wfB s.disk&&(aA7 s.disk s.log&&(decide ((aS9 s.disk s.log rec).2.2≠10)&&decide ((aV8 s rec).2=0))))
theorem x1:decide (F0.2.2=0)=true:=by decide+kernel
theorem x2:wfB F0.1=true:=by decide+kernel
theorem x3:aA7 F0.1 F0.2.1=true:=by decide+kernel
theorem x4:decide ((aB7 (aD3 F0.1 F0.2.1)).2=0)=true:=by decide+kernel
theorem x5:decide (S0.st=st0)=true:=by decide+kernel
theorem x6:cg2 S0 aU4=true:=by decide+kernel
theorem x7:cg2 S1 aU5=true:=by decide+kernel
theorem x8:decide ((aA4 S3.disk (-1)).2=0)=true:=by decide+kernel
theorem x9:aU1 (ap6 (aA4 S3.disk (-1)).1 2).1.recs=true:=by decide+kernel
theorem xa:decide ((bd7 (aA4 S3.disk (-1)).1).2.2.2=0)=true:=by decide+kernel
theorem y1:(!S3.down)=true:=by decide+kernel
theorem y2:wfB S3.disk=true:=by decide+kernel
theorem xb:decide ((bd7 (aA4 S3.disk (-1)).1).2.2.1=[bB5,aU4,aU5])=true:=by decide+kernel
end As
end
section
open Go V
namespace As
theorem en4:c79 ag4 keyS ab4=true:=by decide+kernel
theorem b39(s:Idn)(a:Ask):aj6 ag4 keyS ab4 s a=if aj8 s=true then bm9 ab4 s a else(s,al5 1):=by
 unfold aj6;by_cases h:aj8 s=true
 ·rw[if_pos ⟨en4,h⟩,if_pos h]
 ·rw[if_neg fun e=>h e.2,if_neg h]
theorem bT6{s:Idn}{a:Ask}(hb:BdI s)(hk:a.kind=1):bt2 s a:=fun H=>by
 have:=c62 s a H hb hk;rw[b39,show bm9 ab4 s a=bh8 s a by unfold bm9;rw[if_pos hk]]
 by_cases h:aj8 s=true
 ·rw[if_pos h,if_pos h] at this
  rw[if_pos h];exact this
 ·rw[if_neg h,if_neg h] at this
  rw[if_neg h];exact this
theorem bT8{s:Idn}{a:Ask}{d:bytes}(hb:BdI s)(hk:a.kind=3)(hf:FirstA s a d):bt2 s a:=fun H=>by
 have:=c65 s a d H hb hk hf;rw[b39,show bm9 ab4 s a=aM7 s a by unfold bm9;rw[if_neg (by omega),if_pos hk]]
 by_cases h:aj8 s=true
 ·rw[if_pos h,if_pos h] at this
  rw[if_pos h];exact this
 ·rw[if_neg h,if_neg h] at this
  rw[if_neg h];exact this
theorem bT7{s:Idn}{a:Ask}(hb:BdI s)(hk:a.kind=9):bt2 s a:=fun H=>by
 have:=c63 s a H hb hk;rw[b39,show bm9 ab4 s a=as8 ab4 s a by unfold bm9;rw[if_neg (by omega),if_neg (by omega),if_pos hk]]
 by_cases h:aj8 s=true
 ·rw[if_pos h,if_pos h] at this
  rw[if_pos h];exact this
 ·rw[if_neg h,if_neg h] at this
  rw[if_neg h];exact this
theorem di5{s:Srv}{a:Ask}(h1:s.down=false)(h2:(am8 a).2=0)(h3:(aj6 ag4 keyS ab4 s.st a).1≠s.st)(h4:(aV8 s (am8 a).1).2=0):doS ag4 keyS ab4 s a=({(aV8 s (am8 a).1).1 with st:=(aj6 ag4 keyS ab4 s.st a).1},(aj6 ag4 keyS ab4 s.st a).2):=by
 unfold doS;rw[if_neg (by rw[h1];exact cO0),if_pos h2]
 dsimp only;rw[if_neg h3,if_pos h4]
theorem cK6{s:Srv}{a:Ask}(h1:s.down=false)(h2:(am8 a).2=0)(h3:(aj6 ag4 keyS ab4 s.st a).1=s.st):doS ag4 keyS ab4 s a=(s,(aj6 ag4 keyS ab4 s.st a).2):=by
 unfold doS;rw[if_neg (by rw[h1];exact cO0),if_pos h2]
 dsimp only;rw[if_pos h3]
theorem cs9{s:Srv}{r:bytes}(h:cg2 s r=true)(h1:1<=r.length)(h2:r.length<=100):KeepOk s r/\s.down=false:=by
 simp only[cg2,xq3,decide_eq_true_eq,Bool.not_eq_true'] at h;obtain⟨a,b,c,d,e⟩:=h;exact⟨⟨(bA0 b).1,c,h1,h2,d,e⟩,a⟩
theorem e1:(aj6 ag4 keyS ab4 st0 bd1).1=st1:=by decide+kernel
theorem e2:(aj6 ag4 keyS ab4 st1 aJ9).1=st1:=by decide+kernel
theorem e3:(aj6 ag4 keyS ab4 st1 a03).1=st2:=by decide+kernel
theorem e4:(aj6 ag4 keyS ab4 st2 aJ9).1=st2:=by decide+kernel
theorem a1:(aj6 ag4 keyS ab4 st0 bd1).2.text=aQ8:=by decide+kernel
theorem a2:(aj6 ag4 keyS ab4 st1 aJ9).2.code=13:=by decide+kernel
theorem a3:(aj6 ag4 keyS ab4 st1 a03).2.code=0:=by decide+kernel
theorem a4:(aj6 ag4 keyS ab4 st2 aJ9).2.value.kind=6:=by decide+kernel
theorem n01:st1≠st0:=by decide
theorem n12:st2≠st1:=by decide
theorem r1:(am8 bd1).2=0:=by decide+kernel
theorem r2:(am8 aJ9).2=0:=by decide+kernel
theorem r3:(am8 a03).2=0:=by decide+kernel
theorem l1:1<=aU4.length/\aU4.length<=100:=by decide+kernel
theorem l3:1<=aU5.length/\aU5.length<=100:=by decide+kernel
theorem rd1:aG6 aU4=(bd1,0):=by decide+kernel
theorem rd3:aG6 aU5=(a03,0):=by decide+kernel
theorem rm:aJ6 bB5=st0:=by decide+kernel
theorem b0:BdI st0:=⟨fun x hx=>(by cases hx),fun x hx=>(by cases hx),fun x hx=>(by cases hx),fun x hx=>(by cases hx)⟩
theorem b1:BdI st1:=⟨fun x hx=>(by cases hx),fun x hx=>(by rw[aT1.1 hx];decide),fun x hx=>(by cases hx),fun x hx=>(by cases hx)⟩
theorem b2:BdI st2:=⟨fun x hx=>(by cases hx),fun x hx=>(by rw[aT1.1 hx];decide),fun x hx=>(by cases hx),fun x hx=>(by cases hx)⟩
theorem fa:FirstA st1 a03 [112,114,105,118,97,99,121]:=⟨rfl,by decide+kernel,by decide+kernel,by decide+kernel⟩
theorem ek3:Calm st0:=⟨rfl,rfl,rfl⟩
theorem cg8:Calm st1:=⟨rfl,rfl,rfl⟩
theorem cg7:Calm st2:=⟨rfl,rfl,rfl⟩
theorem unp:UnpOk bB5 aU4 [aU5] where
 len:=by decide+kernel
 items:=by decide+kernel
 kind:=by decide+kernel
 len2:=by decide+kernel
 items2:=by decide+kernel
 n1:=by decide+kernel
 n2:=by decide+kernel
 n3:=by decide+kernel
 n4:=by decide+kernel
 n5:=by decide+kernel
 bare:=by rw[rm];exact⟨rfl,rfl,rfl,rfl,by decide+kernel,by decide+kernel⟩
 pep:=by rw[rm];decide
 row:=by rw[rm];decide+kernel
 many:=by decide
 path:=by
  rw[rm];refine⟨⟨by decide+kernel,by decide+kernel,by decide+kernel,by decide+kernel,by decide+kernel,by decide+kernel⟩,by rw[rd1],by rw[rd1];exact bT6 b0 rfl,?_⟩
  rw[rd1,e1];refine⟨⟨by decide+kernel,by decide+kernel,by decide+kernel,by decide+kernel,by decide+kernel,by decide+kernel⟩,by rw[rd3],by rw[rd3];exact bT8 b1 rfl fa,trivial⟩
theorem rep:(aI7 ag4 keyS ab4 (aJ6 bB5) [aU4,aU5]).1=st2:=by rw[rm];decide+kernel
end As
end
section
open Go V
namespace As
theorem en9:LayOk (aD3 F0.1 F0.2.1):=⟨b0,⟨rfl,rfl,rfl,rfl,by decide+kernel,by decide+kernel⟩,by decide,(bA0 x2).1,(bA0 x2).2,x3,by decide+kernel⟩
theorem h5:S0.st=st0:=of_decide_eq_true x5
theorem k1:KeepOk S0 aU4/\S0.down=false:=cs9 x6 l1.1 l1.2
theorem k3:KeepOk S1 aU5/\S1.down=false:=cs9 x7 l3.1 l3.2
theorem d4:S3.down=false:=by have:=y1;rwa [Bool.not_eq_true'] at this
theorem hD1:doS ag4 keyS ab4 S0 bd1=(S1,(aj6 ag4 keyS ab4 st0 bd1).2):=by
 rw[di5 k1.2 r1 (by rw[h5,e1];exact n01) k1.1.kept,h5,e1]
 unfold S1 aU4;rfl
theorem hD2:doS ag4 keyS ab4 S1 aJ9=(S1,(aj6 ag4 keyS ab4 st1 aJ9).2):=cK6 k3.2 r2 e2
theorem hD3:doS ag4 keyS ab4 S1 a03=(S3,(aj6 ag4 keyS ab4 st1 a03).2):=by
 have h:S1.st=st1:=rfl;rw[di5 k3.2 r3 (by rw[h,e3];exact n12) k3.1.kept,h,e3]
 unfold S3 aU5;rfl
theorem hD4:doS ag4 keyS ab4 S3 aJ9=(S3,(aj6 ag4 keyS ab4 st2 aJ9).2):=cK6 d4 r2 e4
theorem cD1(H:List AObj):o7 Tryz.prog 10 [ac6,ay7 S0,ai1 bd1] H (fun y H'=>y=doE (S1,(aj6 ag4 keyS ab4 st0 bd1).2)/\H'=H):=by
 have:=cZ4 S0 bd1 H ⟨k1.2,by decide+kernel,by decide,by decide,by decide,r1,by rw[h5];exact ek3,by rw[h5,e1];exact cg8,by rw[h5,e1];decide,by rw[h5,e1];exact b1.users,fun _=>k1.1⟩ (by rw[h5];exact bT6 b0 rfl)
 rwa [hD1] at this
theorem cD2(H:List AObj):o7 Tryz.prog 10 [ac6,ay7 S1,ai1 aJ9] H (fun y H'=>y=doE (S1,(aj6 ag4 keyS ab4 st1 aJ9).2)/\H'=H):=by
 have hs:S1.st=st1:=rfl;have:=cZ4 S1 aJ9 H ⟨k3.2,by decide+kernel,by decide,by decide,by decide,r2,by rw[hs];exact cg8,by rw[hs,e2];exact cg8,by rw[hs,e2];decide,by rw[hs,e2];exact b1.users,fun h=>absurd e2 h⟩ (by rw[hs];exact bT7 b1 rfl)
 rwa [hD2] at this
theorem cD3(H:List AObj):o7 Tryz.prog 10 [ac6,ay7 S1,ai1 a03] H (fun y H'=>y=doE (S3,(aj6 ag4 keyS ab4 st1 a03).2)/\H'=H):=by
 have hs:S1.st=st1:=rfl;have:=cZ4 S1 a03 H ⟨k3.2,by decide+kernel,by decide,by decide,by decide,r3,by rw[hs];exact cg8,by rw[hs,e3];exact cg7,by rw[hs,e3];decide,by rw[hs,e3];exact b2.users,fun _=>k3.1⟩ (by rw[hs];exact bT8 b1 rfl fa)
 rwa [hD3] at this
theorem cD4(H:List AObj):o7 Tryz.prog 10 [ac6,ay7 S3,ai1 aJ9] H (fun y H'=>y=doE (S3,(aj6 ag4 keyS ab4 st2 aJ9).2)/\H'=H):=by
 have hs:S3.st=st2:=rfl;have:=cZ4 S3 aJ9 H ⟨d4,by decide+kernel,by decide,by decide,by decide,r2,by rw[hs];exact cg7,by rw[hs,e4];exact cg7,by rw[hs,e4];decide,by rw[hs,e4];exact b2.users,fun h=>absurd e4 h⟩ (by rw[hs];exact bT7 b2 rfl)
 rwa [hD4] at this
theorem ec3:CrashOk S3 (-1) bB5 aU4 [aU5]:=⟨(bA0 y2).1,(bA0 y2).2,by decide,of_decide_eq_true x8,x9,of_decide_eq_true xa,of_decide_eq_true xb,unp⟩
theorem dZ5(H:List AObj):o7 Tryz.prog 4 [] H (fun y H'=>y=.bool true/\H'=H):=
 dZ4 S0 S1 S1 S3 S3 (upS S3 (-1) bB5 aU4 [aU5]) _ _ _ _ (fun H=>em2 200 H ⟨by decide,by decide⟩ (of_decide_eq_true x1) en9 (of_decide_eq_true x4)) cD1 cD2 cD3 cD4 (fun H=>d19 S3 (-1) bB5 aU4 [aU5] H ec3) a1 a2 a3 a4 (by show (aI7 ag4 keyS ab4 (aJ6 bB5) [aU4,aU5]).1.users.length=1;rw[rep];rfl) rep cg7 b2.users H
end As
end
section
namespace V
open Go
variable {ds:List Deferred}{ro:Option Nat}{N:Nat}
theorem do9{G:Gh}{H:List AObj}{w:World}{k:Nat}{M:List AObj}{zo:Nat->AObj}(hi:HInv G (H++M) w)(hH: ∀(j:Nat) (o:AObj),H[j]?=some o->o.low H.length)(hz: ∀i,i < k-> ∃T zs,zo i=.cells (.one T) zs/\ ∀z∈zs,Low H.length z)
  (p:Nat->Nat) (hMp: ∀i,i < k->M[p i]?=some (zo i)) (hinj: ∀i j,i < k->j < k->p i=p j->i=j):
  ∃G',HInv G' (H++(List.range k).map zo) w/\(∀G₀ w₀,Step G₀ H w₀ G (H++M) w->Step G₀ H w₀ G' (H++(List.range k).map zo) w)/\
   (∀i,i < k-> ∀v,Rel G (H++M) w (.mp (H.length+p i) 0) v->Rel G' (H++(List.range k).map zo) w (.mp (H.length+i) 0) v)/\ ∀x v,Low H.length x->Rel G (H++M) w x v->Rel G' (H++(List.range k).map zo) w x v:=by
 have htk:(H++M).take H.length=H:=aQ6;have hc:=hi.cut H.length fun j o hj e=>hH j o (by rw[<-e,xq4 hj])
 rw[htk] at hc;have hat1: ∀i,i < k->(H++M)[H.length+p i]?=some (zo i):=fun i h=>by
  rw[xq5 (by omega),au2]
  exact hMp i h
 have hat: ∀i,i < k->(H++(List.range k).map zo)[H.length+i]?=some (zo i):=fun i h=>by
  rw[xq5 (by omega),au2,xq7,aO4 h]
  rfl
 have hlt: ∀j o,(H++(List.range k).map zo)[j]?=some o->(j < H.length/\H[j]?=some o)\/ ∃i,i < k/\j=H.length+i/\o=zo i:=fun j o e=>by
  rcases xq8 j H.length with h|h
  ·exact .inl ⟨h,by rw[<-e,xq4 h]⟩
  ·rw[xq5 h,xq7] at e
   rcases xq8 (j - H.length) k with h2|h2
   ·rw[aO4 h2] at e
    cases e
    exact .inr ⟨j - H.length,h2,by omega,rfl⟩
   ·rw[aw1 (by simpa using h2)] at e
    cases e
 let b':Nat->Nat:=fun j=>if H.length<=j/\j < H.length+k then G.blk (H.length+p (j - H.length)) else G.blk j
 have hb1: ∀j,j < H.length->b' j=G.blk j:=fun j h=>if_neg (by omega)
 have hb2: ∀i,i < k->b' (H.length+i)=G.blk (H.length+p i):=fun i h=>by
  show (if _ then _ else _)=_
  rw[if_pos (by omega),au2]
 have st: ∀G₀ w₀,Step G₀ H w₀ G (H++M) w->Step G₀ H w₀ {G with blk:=b'} (H++(List.range k).map zo) w:=fun G₀ w₀ s=>⟨s.os,s.tape,s.output,s.size,s.imm,s.cell,s.whole,fun j=>by
  have:=s.obj j;cases e:H[j]? with
  |none=>
   intro r E e';rcases hlt j _ e' with⟨_,h⟩|⟨i,hik,_,h⟩
   ·rw[e] at h;cases h
   ·obtain⟨T,zs,hzo,_⟩:=hz i hik
    rw[hzo] at h;cases h
  |some o=>
   rw[e] at this;have hjl:=aa0 e;have hj:=hb1 j hjl;have ea:(H++M)[j]?=(H++(List.range k).map zo)[j]?:=by rw[xq4 hjl,xq4 hjl]
   cases o with
   |cells t cs=>exact⟨ea▸this.1,hj.trans this.2.1,this.2.2⟩
   |mo x=>exact⟨ea▸this.1,hj.trans this.2.1,this.2.2⟩
   |gone=>exact⟨ea▸this.1,hj.trans this.2.1,this.2.2⟩
   |loop r E=>exact⟨ea▸this.1,hj.trans this.2.1,this.2.2⟩
   |grow s n t=>
    obtain⟨n',g1,g2,g3⟩:=this;exact⟨n',ea▸g1,g2,g3⟩⟩
 have st0:Step G H w {G with blk:=b'} (H++(List.range k).map zo) w:=⟨rfl,rfl,rfl,xq0 _,fun _ _ h=>h,fun _ _ _=>rfl,fun _ _=>rfl,fun j=>by
  cases e:H[j]? with
  |none=>
   intro r E e';rcases hlt j _ e' with⟨_,h⟩|⟨i,hik,_,h⟩
   ·rw[e] at h;cases h
   ·obtain⟨T,zs,hzo,_⟩:=hz i hik
    rw[hzo] at h;cases h
  |some o=>
   have hj:(H++(List.range k).map zo)[j]?=some o:=by rw[xq4 (aa0 e)];exact e
   have hb:=hb1 j (aa0 e);cases o with
   |cells t cs=>exact⟨⟨_,hj,rfl⟩,hb,rfl⟩
   |mo x=>exact⟨⟨_,hj,rfl⟩,hb,rfl⟩
   |gone=>exact⟨hj,hb,rfl⟩
   |loop r E=>exact⟨hj,hb,rfl⟩
   |grow s n t=>exact⟨n,hj,xq0 _,fun _=>rfl⟩⟩
 have hlow: ∀x v,Low H.length x->Rel G (H++M) w x v->Rel {G with blk:=b'} (H++(List.range k).map zo) w x v:=fun x v hx r=>by
  have:=r.cut H.length hx;rw[htk] at this;exact this.mono st0
 refine⟨{G with blk:=b'},⟨hi.lt,fun j sh cs e=>?_,fun j s n t e=>?_,fun i j b e1 e2=>?_,hc.tabs.step st0 fun j x e=>by
  rcases hlt j _ e with⟨_,h⟩|⟨i,hik,_,h⟩
  ·exact⟨h,rfl,fun _ h=>h⟩
  ·obtain⟨T,zs,hzo,_⟩:=hz i hik
   rw[hzo] at h;cases h⟩,st,fun i h v r=>?_,hlow⟩
 ·rcases hlt j _ e with⟨hj,e'⟩|⟨i,hik,rfl,e'⟩
  ·obtain⟨arr,T',fr,h1,h2,h3,h4,h5,h6⟩:=hc.cells j sh cs e'
   refine⟨arr,T',fr,by show w.heap[b' j]?=_;rw[hb1 j hj];exact h1,h2,fun i x v ex ev=>(h3 i x v ex ev).mono st0,fun off=>by show¬G.imm (b' j) off;rw[hb1 j hj];exact h4 off,fun off=>by show _->w.frozen? ⟨b' j,off,none⟩=false;rw[hb1 j hj];exact h5 off,h6⟩
  ·obtain⟨T,zs,hzo,hzl⟩:=hz i hik
   have hk1:=hat1 i hik;rw[hzo] at e' hk1;cases e'
   obtain⟨arr,T',fr,h1,h2,h3,h4,h5,h6⟩:=hi.cells (H.length+p i) _ _ hk1;refine⟨arr,T',fr,by show w.heap[b' _]?=_;rw[hb2 i hik];exact h1,h2,fun i x v ex ev=>?_,fun off=>by show¬G.imm (b' _) off;rw[hb2 i hik];exact h4 off,fun off=>by show _->w.frozen? ⟨b' _,off,none⟩=false;rw[hb2 i hik];exact h5 off,h6⟩
   have:=h3 i x v ex ev;exact hlow x v (hzl x (bF9 ex)) this
 ·rcases hlt j _ e with⟨_,e'⟩|⟨i,hik,_,e'⟩
  ·exact hc.grow j s n t e'
  ·obtain⟨T,zs,hzo,_⟩:=hz i hik
   rw[hzo] at e';cases e'
 ·have hs: ∀j b,site {G with blk:=b'} (H++(List.range k).map zo) j=some b-> ∃j',(j'=j/\j < H.length\/ ∃i,i < k/\j=H.length+i/\j'=H.length+p i)/\site G (H++M) j'=some b:=fun j b e=>by
   cases eo:(H++(List.range k).map zo)[j]? with
   |none=>unfold site at e;rw[eo] at e;cases e
   |some o=>
    rcases hlt j _ eo with⟨hj,e'⟩|⟨i,hik,rfl,rfl⟩
    ·refine⟨j,.inl ⟨rfl,hj⟩,?_⟩
     have eo1:(H++M)[j]?=some o:=by rw[xq4 hj];exact e'
     unfold site at e⊢;rw[eo] at e;rw[eo1];cases o with
     |cells t cs=>show some (G.blk j)=_;rw[<-hb1 j hj];exact e
     |mo x=>show some (G.blk j)=_;rw[<-hb1 j hj];exact e
     |_=>exact e
    ·refine⟨H.length+p i,.inr ⟨i,hik,rfl,rfl⟩,?_⟩
     obtain⟨T,zs,hzo,_⟩:=hz i hik;unfold site at e⊢;rw[eo] at e;rw[hat1 i hik];rw[hzo] at e⊢;show some (G.blk _)=_
     rw[<-hb2 i hik];exact e
  obtain⟨i',h1,s1⟩:=hs i b e1;obtain⟨j',h2,s2⟩:=hs j b e2;have:=hi.apart i' j' b s1 s2;rcases h1 with⟨rfl,h1⟩|⟨x,hx,rfl,rfl⟩<;>rcases h2 with⟨rfl,h2⟩|⟨y,hy,rfl,rfl⟩
  ·exact this
  ·omega
  ·omega
  ·rw[hinj x y hx hy (by omega)]
 ·cases r with
  |mp _ _ o h1 h2=>
   obtain⟨T,zs,hzo,_⟩:=hz i h;have hki:=hat i h;rw[hzo] at hki;have:=Rel.mp (G:={G with blk:=b'}) (H:=H++(List.range k).map zo) (w:=w) (H.length+i) 0 _ hki rfl;rw[show ({G with blk:=b'}:Gh).blk (H.length+i)=G.blk (H.length+p i) from hb2 i h] at this
   exact this
def bs4(o:Oper):Bool:=aq1 [] o
def de4(nr:Nat)(ops:List Oper)(i j:Nat):Bool:=decide (i < nr)&&(match ops[i]?,ops[j]? with
 |some o,some q=>bs4 o&&(match o.dst with|some d=>!(touches ops q).contains d|none=>true)
 |_,_=>false)
def cg0(nr na:Nat)(ops:List Oper):Bool:=
 ((ops.drop nr).take na).all (fun o=>(match o.op with|.alloc _=>true|_=>false)&&o.guard.isNone)&&
 (ops.drop (nr+na)).all (fun o=>o.dst.isNone&&o.guard.isNone)&&
 (ops.take nr).all (fun o=>((ops.drop nr).take na).all fun q=>match q.dst with|some d=>!(touches ops o).contains d|none=>true)&&
 (List.range ops.length).all (fun j=>decide (j < nr+na)||(List.range j).all fun i=>((ak7 ops []).getD j []).contains i||de4 nr ops i j)
theorem cc8{P:Program}{L:Tab}(hL:ac7 P L)(hm:P.follows .mixedOrders=true){n rid nr na:Nat}{Ts:Nat->TypeId}{ops:List Oper}(hops:ay3 n ops=true)(hdr:aI2 ops=true)(hok:cg0 nr na ops=true)(hTs: ∀(j:Nat) o,j < na->ops[nr+j]?=some o->o.op=.alloc (Ts j))(hlen:nr+na<=ops.length){Q:Exit->Env->List AObj->Prop}{env:Env}{H:List AObj}
  (zs:Nat->AV) (hreads: ∀(i:Nat) o,i < nr->ops[i]?=some o-> ∀N,(bs4 o=true\/ ∃M,N=H++M)->DoesE P L [] ops o (ab8 (fun j=>decide (j < i)) zs 0 ops env) N (zs i) N) (hlow: ∀i,i < nr->Low H.length (zs i)) (hk: ∀j,j < na->known (L (Ts j))=true) (hzero: ∀j,j < na-> ∀z∈(L (Ts j)).zero,Low H.length z)
  (env2:Env) (henv: ∀t,get (ab8 (fun j=>decide (j < nr+na)) (fun i=>if i < nr then zs i else .mp (H.length+(i - nr)) 0) 0 ops env) t=get env2 t) (oh:Nat->List AObj) (oh0:oh 0=H++(List.range na).map fun j=>.cells (.one (Ts j)) (L (Ts j)).zero)
  (hst: ∀(j:Nat) o,ops[nr+na+j]?=some o-> ∃z,ab9 P L [] o env2 (oh j) fun x H'=>x=z/\H'=oh (j+1)) (hQ:Q .normal env2 (oh (ops.length - (nr+na)))):AW P n (.region rid ops.toArray true) Q env H:=fun ro N ds G a w s=>by
 simp only[cg0,xq3,xq6] at hok;obtain⟨⟨⟨ok1,ok2⟩,ok3⟩,ok4⟩:=hok;have kA: ∀(j:Nat) o,j < na->ops[nr+j]?=some o->(∃d ty pos af,o=⟨d,.alloc (Ts j),ty,pos,af,none⟩):=fun j o hj e=>by
  have:=ok1 o (ar7.2 ⟨j,by rw[aB1,if_pos hj,aL2];exact e⟩)
  have h2:=hTs j o hj e;obtain⟨d,op,ty,pos,af,g⟩:=o;simp only at h2;subst h2;simp at this
  subst this;exact⟨_,_,_,_,rfl⟩
 have kS: ∀(j:Nat) o,ops[nr+na+j]?=some o->o.dst=none/\o.guard=none:=fun j o e=>by
  have:=ok2 o (ar7.2 ⟨j,by rw[aL2];exact e⟩)
  simpa using this
 have kR: ∀(i j:Nat) o q,i < nr->j < na->ops[i]?=some o->ops[nr+j]?=some q-> ∀t,q.dst=some t->t∉touches ops o:=fun i j o q hi hj e1 e2 t ht=>by
  have:=ok3 o (ar7.2 ⟨i,by rw[aB1,if_pos hi];exact e1⟩) q (ar7.2 ⟨j,by rw[aB1,if_pos hj,aL2];exact e2⟩)
  rw[ht] at this;simpa using this
 have kB: ∀i j,nr+na<=j->j < ops.length->i < j->i∈(ak7 ops []).getD j []\/(i < nr/\ ∀o q,ops[i]?=some o->ops[j]?=some q->bs4 o=true/\ ∀t,o.dst=some t->t∉touches ops q):=fun i j h1 h2 h3=>by
  have:=ok4 j (bg1.2 h2);rw[bz9,decide_eq_true_eq] at this;rcases this with h|h
  ·omega
  ·have:=xq6.1 h i (bg1.2 h3)
   rw[bz9] at this;rcases this with h4|h4
   ·exact .inl (by simpa using h4)
   ·unfold de4 at h4
    simp only[xq3,decide_eq_true_eq] at h4;refine .inr ⟨h4.1,fun o q e1 e2=>?_⟩
    have h5:=h4.2;rw[e1,e2] at h5;simp only[xq3] at h5;refine⟨h5.1,fun t ht=>?_⟩
    have h6:=h5.2;rw[ht] at h6;simpa using h6
 have hord: ∀(i:Nat) o,ops[i]?=some o->ordered (ak7 ops []) ops i o 0 ops=true:=fun i o e=>by
  have:=(ay9 ops 0 hdr i o e).1;rwa [Nat.zero_add] at this
 have hHlow: ∀(j:Nat) (o:AObj),H[j]?=some o->o.low H.length:=fun j o e=>s.inv.low e
 have henvlow: ∀t,Low H.length (get env t):=fun t=>(s.env t).low
 let zo:Nat->AObj:=fun j=>.cells (.one (Ts j)) (L (Ts j)).zero
 let late:Nat->Prop:=fun i=>i < nr/\ ∃o,ops[i]?=some o/\bs4 o=true
 let zA:List Nat->Nat->AV:=fun al i=>if i < nr then zs i else .mp (H.length+al.idxOf (i - nr)) 0
 let Hs:List Nat->Nat->List AObj:=fun al m=>if m=0 then H++al.map zo else oh m
 let I:(Nat->Bool)->Act->World->Prop:=fun l a' w'=> ∃(G':Gh) (al:List Nat) (m:Nat),al.Nodup/\(∀j,j∈al↔(j < na/\l (nr+j)=true))/\((∀j,j < na->l (nr+j)=true)->al=List.range na)/\(∀j,nr+na+j < ops.length->(l (nr+na+j)=true↔j < m))/\nr+na+m<=ops.length/\(0 < m-> ∀i,i < nr+na->l i=true\/late i)/\
  Step G H w G' (Hs al m) w'/\Sat n ds G' (ab8 l (zA al) 0 ops env) (Hs al m) a' w'
 have hput: ∀(l:Nat->Bool) (z:Nat->AV) (i:Nat) o,ops[i]?=some o->l i=false->(∀(j:Nat) q,ops[j]?=some q->i∈(ak7 ops []).getD j []->l j=false)-> ∀t,get (put o.dst (z i) (ab8 l z 0 ops env)) t=get (ab8 (fun j=>if j=i then true else l j) z 0 ops env) t:=fun l z i o hoi hl hlater t=>by
  have h1:=bm6 (zs:=z) (l:=l) (t:=t) ops 0 env i o hoi (by rw[Nat.zero_add];exact hl) (fun j q hj hq hlj hd=>by
   intro hqd;rw[Nat.zero_add] at hlj;have hsp:=aB6 ops 0 (hord i o hoi) j q t hq hqd (by omega) (by unfold touches;rw[hd];simp)
   rw[Nat.zero_add] at hsp;rw[hlater j q hq (hsp.2 hj)] at hlj;cases hlj)
  simp only[Nat.zero_add] at h1;exact h1.symm
 have hallen: ∀(l:Nat->Bool) (al:List Nat),al.Nodup->(∀j,j∈al↔(j < na/\l (nr+j)=true))->(∀j,j < na->l (nr+j)=true)->al.length=na:=fun l al hnd hmem hall=>by
  have:=(List.perm_ext_iff_of_nodup hnd List.nodup_range).2 fun j=>by rw[hmem,bg1];exact⟨fun h=>h.1,fun h=>⟨h,hall j h⟩⟩
  rw[this.length_eq,List.length_range]
 have hfin: ∀(l:Nat->Bool) (m:Nat),(∀i,i < nr+na->l i=true)-> ∀t,get (ab8 l (zA (List.range na)) 0 ops env) t=get env2 t:=fun l m hl t=>by
  rw[<-henv t];refine aM6 (R:=fun x y=>x=y) ops 0 env env rfl fun j o e hd=>?_
  rw[Nat.zero_add];have hj:j < nr+na:=by
   rcases xq8 j (nr+na) with h|h
   ·exact h
   ·have:=(kS (j - (nr+na)) o (by rw[show nr+na+(j - (nr+na))=j by omega];exact e)).1
    rw[hd] at this;cases this
  refine⟨by rw[hl j hj,decide_eq_true hj],fun _=>?_⟩
  show (if j < nr then zs j else AV.mp (H.length+(List.range na).idxOf (j - nr)) 0)=_
  split
  ·rfl
  ·rw[bp2 (by omega)]
 refine cR1 hm hdr I ?_ ?_ ?_
 ·refine⟨G,[],0,List.nodup_nil,fun j=>by simp,fun h=>?_,fun j _=>by simp,by omega,fun h=>absurd h (bc6 _),?_,?_⟩
  ·have:na=0:=by
    rcases bb9 na with h2|h2
    ·exact h2
    ·exact absurd (h 0 h2) (by simp)
   subst this;rfl
  ·show Step G H w G (H++[]) _
   rw[List.append_nil];exact aG0
  ·show Sat n ds G _ (H++[]) a _
   rw[List.append_nil];refine(s.step aG0 (bO0 s.inv)).of_get fun t=>?_
   rw[aD4 ops 0 env fun j _=>rfl]
 ·rintro l i o a' w' K hoi hl hbi hlater ⟨G',al,m,hnd,hmem,hfull,hm1,hm2,hm3,hst',hs⟩ hK
  have hilt:i < ops.length:=aa0 hoi;have ho':ops.toArray[i]?=some o:=by simpa using hoi
  rcases xq8 i (nr+na) with hi|hi
  ·
   rcases xq8 i nr with hir|hir
   ·
    have hsame: ∀t∈touches ops o,get (ab8 (fun j=>decide (j < i)) zs 0 ops env) t=get (ab8 l (zA al) 0 ops env) t:=fun t ht=>by
     refine aM6 (R:=fun x y=>x=y) ops 0 env env rfl fun j q hq hd=>?_
     rw[Nat.zero_add];have hjr:j < nr:=by
      rcases xq8 j nr with h|h
      ·exact h
      ·rcases xq8 j (nr+na) with h2|h2
       ·exact absurd ht (kR i (j - nr) o q hir (by omega) hoi (by rw[show nr+(j - nr)=j by omega];exact hq) t hd)
       ·have:=(kS (j - (nr+na)) q (by rw[show nr+na+(j - (nr+na))=j by omega];exact hq)).1
        rw[hd] at this;cases this
     refine⟨?_,fun _=>?_⟩
     ·by_cases hji:j=i
      ·subst hji
       rw[hl];simp
      ·have hsp:=aB6 ops 0 (hord i o hoi) j q t hq hd (by omega) ht
       rw[Nat.zero_add] at hsp;rcases xq8 j i with h1|h1
       ·rw[hbi j (hsp.1 h1)]
        simpa using h1
       ·rw[hlater j q hq (hsp.2 (by omega))]
        simpa using h1
     ·show zs j=if j < nr then zs j else _
      rw[if_pos hjr]
    have hcond:bs4 o=true\/ ∃M,Hs al m=H++M:=by
     rcases bb9 m with h|h
     ·exact .inr ⟨al.map zo,if_pos h⟩
     ·rcases hm3 h i hi with h2|⟨_,q,e,h3⟩
      ·rw[h2] at hl
       cases hl
      ·rw[hoi] at e
       cases e
       exact .inl h3
    have hd:=a90 (fun t ht=>hsame t ht) (hreads i o hir hoi (Hs al m) hcond)
    refine bx9 hL (all:=ops.toArray) (by simpa using hops) ho' hd hs fun G'' a'' w'' hs'' hst''=>hK a'' w'' ?_
    refine⟨G'',al,m,hnd,fun j=>?_,fun h=>hfull fun j hj=>by have:=h j hj;simp only at this;rwa [if_neg (by omega)] at this,fun j hj=>by show (if nr+na+j=i then true else l (nr+na+j))=true↔j < m;rw[if_neg (by omega)];exact hm1 j hj,hm2,fun h k hk=>by
     show (if k=i then true else l k)=true\/late k
     split
     ·exact .inl rfl
     ·exact hm3 h k hk,hst'.trans hst'',hs''.of_get fun t=>?_⟩
    ·show _↔j < na/\(if nr+j=i then true else l (nr+j))=true
     rw[hmem,if_neg (by omega)]
    ·have:=hput l (zA al) i o hoi hl hlater t
     rw[show zA al i=zs i from if_pos hir] at this
     exact this
   ·
    have hm0:m=0:=by
     rcases bb9 m with h|h
     ·exact h
     ·rcases hm3 h i hi with h2|⟨h2,_⟩
      ·rw[h2] at hl
       cases hl
      ·omega
    subst hm0;change Step G H w G' (H++al.map zo) w' at hst'
    change Sat n ds G' _ (H++al.map zo) a' w' at hs
    have hstores: ∀(i0:Nat),i0 < nr+na-> ∀j,nr+na+j < ops.length->((if nr+na+j=i0 then true else l (nr+na+j))=true↔j < 0):=fun i0 h0 j hj=>by
     rw[if_neg (by omega)]
     exact hm1 j hj
    obtain⟨j,rfl⟩: ∃j,i=nr+j:=⟨i - nr,by omega⟩
    have hjna:j < na:=by omega
    obtain⟨d,ty,pos,af,rfl⟩:=kA j o hjna hoi;have hjn:j∉al:=fun h=>by
     have:=((hmem j).1 h).2;rw[hl] at this;cases this
    have hrep:H++al.map zo++[zo j]=H++(al++[j]).map zo:=by
     rw[aJ3,List.append_assoc];rfl
    have hd:DoesE P L [] ops ⟨d,.alloc (Ts j),ty,pos,af,none⟩ (ab8 l (zA al) 0 ops env) (H++al.map zo) (.mp (H.length+al.length) 0) (H++(al++[j]).map zo):=by
     unfold DoesE;dsimp only;rw[cn9];refine⟨hk j hjna,?_⟩;show AV.mp (H++al.map zo).length 0=_/\H++al.map zo++[zo j]=_
     rw[List.length_append,List.length_map];exact⟨rfl,hrep⟩
    refine bx9 hL (all:=ops.toArray) (by simpa using hops) ho' hd hs fun G'' a'' w'' hs'' hst''=>hK a'' w'' ?_
    have hnd':(al++[j]).Nodup:=by
     rw[List.nodup_append];refine⟨hnd,by simp,fun x hx y hy=>?_⟩
     simp only[an8,aJ2,or_false] at hy;subst hy;exact fun e=>hjn (e▸hx)
    have hmem': ∀k,k∈al++[j]↔(k < na/\(if nr+k=nr+j then true else l (nr+k))=true):=fun k=>by
     rw[aT2,hmem];by_cases hkj:k=j
     ·subst hkj
      simp[hjna]
     ·rw[if_neg (by omega)]
      simp[hkj]
    have henv': ∀t,get (put d (.mp (H.length+al.length) 0) (ab8 l (zA al) 0 ops env)) t=get (ab8 (fun k=>if k=nr+j then true else l k) (zA (al++[j])) 0 ops env) t:=fun t=>by
     have h1:=hput l (zA (al++[j])) (nr+j) _ hoi hl hlater t;rw[<-h1];have hz:zA (al++[j]) (nr+j)=.mp (H.length+al.length) 0:=by
      show (if nr+j < nr then _ else AV.mp (H.length+(al++[j]).idxOf (nr+j - nr)) 0)=_
      rw[if_neg (by omega),au2,List.idxOf_append,if_neg hjn]
      simp
     rw[hz,get_put,get_put];split
     ·rfl
     ·refine aM6 (R:=fun x y=>x=y) ops 0 env env rfl fun k q hq hd=>⟨rfl,fun hlk=>?_⟩
      rw[Nat.zero_add] at hlk⊢;show (if k < nr then zs k else AV.mp (H.length+al.idxOf (k - nr)) 0)=if k < nr then zs k else AV.mp (H.length+(al++[j]).idxOf (k - nr)) 0
      split
      ·rfl
      ·rename_i hkn
       have hkl:k < nr+na:=by
        rcases xq8 k (nr+na) with h|h
        ·exact h
        ·have:=(kS (k - (nr+na)) q (by rw[show nr+na+(k - (nr+na))=k by omega];exact hq)).1
         rw[hd] at this;cases this
       have:k - nr∈al:=(hmem _).2 ⟨by omega,by rw[show nr+(k - nr)=k by omega];exact hlk⟩
       rw[List.idxOf_append,if_pos this]
    have hs3:=hs''.of_get henv';have hst3:=hst'.trans hst'';by_cases hperm: ∀k,k < na->k∈al++[j]
    ·
     have hfl:=hallen (fun k=>if k=nr+j then true else l k) _ hnd' hmem' fun k hk=>((hmem' k).1 (hperm k hk)).2
     have hinv:=hs3.inv;obtain⟨G3,hi3,st3,hr3,hlow3⟩:=do9 (k:=na) (M:=(al++[j]).map zo) (zo:=zo) hinv hHlow (fun i hi=>⟨_,_,rfl,hzero i hi⟩) (fun i=>(al++[j]).idxOf i) (fun i hi=>by
      have h1:=bR5 (hperm i hi);rw[xq7,xq1 h1,bR6 h1];rfl) (fun i k hi hk e=>by
      have h1:=bR6 (bR5 (hperm i hi));have h2:=bR6 (bR5 (hperm k hk));rw[<-h1,<-h2];congr 1)
     refine⟨G3,List.range na,0,List.nodup_range,fun k=>?_,fun _=>rfl,hstores (nr+j) hi,hm2,fun h=>absurd h (bc6 _),?_,?_⟩
     ·rw[bg1]
      constructor
      ·intro hk
       exact(hmem' k).1 (hperm k hk)
      ·exact fun h=>h.1
     ·show Step G H w G3 (H++(List.range na).map zo) w''
      exact st3 G w hst3
     ·show Sat n ds G3 _ (H++(List.range na).map zo) a'' w''
      refine⟨hs3.size,hs3.defers,fun t=>?_,hi3⟩
      have:=aM6 (R:=fun x y=> ∀v,Rel G'' (H++(al++[j]).map zo) w'' x v->Rel G3 (H++(List.range na).map zo) w'' y v) (t:=t) (l:=fun k=>if k=nr+j then true else l k) (l':=fun k=>if k=nr+j then true else l k) (z:=zA (al++[j])) (z':=zA (List.range na)) ops 0 env env (fun v r=>hlow3 _ v (henvlow t) r) fun k q hq hd=>⟨rfl,fun hlk=>?_⟩
      ·exact this _ (hs3.env t)
      ·rw[Nat.zero_add] at hlk⊢
       show∀v,Rel _ _ _ (if k < nr then zs k else AV.mp (H.length+(al++[j]).idxOf (k - nr)) 0) v->Rel _ _ _ (if k < nr then zs k else AV.mp (H.length+(List.range na).idxOf (k - nr)) 0) v
       by_cases hkn:k < nr
       ·rw[if_pos hkn,if_pos hkn]
        exact fun v r=>hlow3 _ v (hlow k hkn) r
       ·rw[if_neg hkn,if_neg hkn]
        have hkl:k < nr+na:=by
         rcases xq8 k (nr+na) with h|h
         ·exact h
         ·have:=(kS (k - (nr+na)) q (by rw[show nr+na+(k - (nr+na))=k by omega];exact hq)).1
          rw[hd] at this;cases this
        rw[bp2 (by omega)]
        exact fun v r=>hr3 (k - nr) (by omega) v r
    ·exact⟨G'',al++[j],0,hnd',hmem',fun h=>absurd (fun k hk=>(hmem' k).2 ⟨hk,h k hk⟩) hperm,hstores (nr+j) hi,hm2,fun h=>absurd h (bc6 _),hst3,hs3⟩
  ·
   obtain⟨j,rfl⟩: ∃j,i=nr+na+j:=⟨i - (nr+na),by omega⟩
   have hall: ∀k,k < nr+na->l k=true\/(k < nr/\ ∀q,ops[k]?=some q->bs4 q=true/\ ∀t,q.dst=some t->t∉touches ops o):=fun k hk=>by
    rcases kB k _ (by omega) hilt (by omega) with h|⟨h,h2⟩
    ·exact .inl (hbi k h)
    ·exact .inr ⟨h,fun q e=>h2 q o e hoi⟩
   have hal:al=List.range na:=hfull fun k hk=>by
    rcases hall (nr+k) (by omega) with h|⟨h,_⟩
    ·exact h
    ·omega
   subst hal;have hmj:m=j:=by
    have h1: ¬j < m:=fun h=>by rw[(hm1 j hilt).2 h] at hl;cases hl
    rcases xq8 m j with h|h
    ·rcases kB (nr+na+m) _ (by omega) hilt (by omega) with h2|⟨h2,_⟩
     ·have:=(hm1 m (by omega)).1 (hbi _ h2)
      omega
     ·omega
    ·omega
   subst hmj;have hHs:Hs (List.range na) m=oh m:=by
    show (if m=0 then H++(List.range na).map zo else oh m)=oh m
    split
    ·rename_i h
     rw[h,oh0]
    ·rfl
   rw[hHs] at hst' hs;obtain⟨hdn,hgn⟩:=kS m o hoi;obtain⟨z,hz⟩:=hst m o hoi;have hsame: ∀t∈touches ops o,get env2 t=get (ab8 l (zA (List.range na)) 0 ops env) t:=fun t ht=>by
    rw[<-henv t];refine aM6 (R:=fun x y=>x=y) ops 0 env env rfl fun j q hq hd=>?_
    rw[Nat.zero_add];have hj:j < nr+na:=by
     rcases xq8 j (nr+na) with h|h
     ·exact h
     ·have:=(kS (j - (nr+na)) q (by rw[show nr+na+(j - (nr+na))=j by omega];exact hq)).1
      rw[hd] at this;cases this
    have hlj:l j=true:=by
     rcases hall j hj with h|⟨_,h⟩
     ·exact h
     ·exact absurd ht ((h q hq).2 t hd)
    refine⟨by rw[hlj,decide_eq_true hj],fun _=>?_⟩
    show _=(if j < nr then zs j else AV.mp (H.length+(List.range na).idxOf (j - nr)) 0)
    split
    ·rfl
    ·rw[bp2 (by omega)]
   have hd0:DoesE P L [] ops o env2 (oh m) z (oh (m+1)):=by
    unfold DoesE;rw[hgn];exact hz
   have hd:=a90 hsame hd0;refine bx9 hL (all:=ops.toArray) (by simpa using hops) ho' hd hs fun G'' a'' w'' hs'' hst''=>hK a'' w'' ?_
   rw[hdn] at hs'';refine⟨G'',List.range na,m+1,hnd,fun k=>?_,fun _=>rfl,fun k hk=>?_,by omega,fun _ k hk=>?_,?_,?_⟩
   ·rw[hmem]
    constructor
    ·exact fun h=>⟨h.1,by show (if nr+k=nr+na+m then true else l (nr+k))=true;rw[if_neg (by omega)];exact h.2⟩
    ·exact fun h=>⟨h.1,by
      rcases hall (nr+k) (by omega) with h2|⟨h2,_⟩
      ·exact h2
      ·omega⟩
   ·show (if nr+na+k=nr+na+m then true else l (nr+na+k))=true↔_
    by_cases hkm:k=m
    ·subst hkm
     simp
    ·rw[if_neg (by omega),hm1 k hk]
     omega
   ·show (if k=nr+na+m then true else l k)=true\/late k
    rw[if_neg (by omega)]
    rcases hall k hk with h|⟨h,h2⟩
    ·exact .inl h
    ·have hkl:k < ops.length:=by omega
     exact .inr ⟨h,_,xq1 hkl,(h2 _ (xq1 hkl)).1⟩
   ·show Step G H w G'' (oh (m+1)) w''
    exact hst'.trans hst''
   ·show Sat n ds G'' _ (oh (m+1)) a'' w''
    refine hs''.of_get fun t=>?_
    have:=hput l (zA (List.range na)) _ o hoi hl hlater t;rw[hdn] at this;exact this
 ·rintro l a' w' hall ⟨G',al,m,hnd,hmem,hfull,hm1,hm2,hm3,hst',hs⟩
  have hal:al=List.range na:=hfull fun j hj=>hall _ (by omega)
  subst hal;have hmm:m=ops.length - (nr+na):=by
   rcases xq8 m (ops.length - (nr+na)) with h|h
   ·have:=(hm1 m (by omega)).1 (hall _ (by omega))
    omega
   ·omega
  have hHs:Hs (List.range na) m=oh m:=by
   show (if m=0 then H++(List.range na).map zo else oh m)=oh m
   split
   ·rename_i h
    rw[h,oh0]
   ·rfl
  rw[hHs] at hst' hs;rw[<-hmm] at hQ;exact⟨G',env2,oh m,hs.of_get (hfin l m fun i hi=>hall i (by omega)),hst',hQ⟩
end V
end
section
namespace V
open Go
variable {ds:List Deferred}{ro:Option Nat}{N:Nat}
def ce6(P:Program)(L:Tab)(o:Oper)(env:Env)(H:List AObj)(K:AV->Prop):Prop:=
 match o.op with
 |.call c=>match c.callee with
  |.value f=>bG3 P (ev env f) (c.args.toList.map (ev env)) H K
  |.builtin .min=>an2 P L o env [] K
  |_=>False
 |.load .. =>an2 P L o env H K
 |.binOp _ _ _ y _=>ax1 y=false/\an2 P L o env [] K
 |.move _|.assign _|.slice .. |.fieldAddr .. |.field .. |.index .. |.indexAddr .. |.sliceToArrayPointer .. |.extract .. |.build .. |.unOp .. =>an2 P L o env [] K
 |_=>False
theorem cy7{P:Program}{L:Tab}{o:Oper}{env:Env}{H:List AObj}{K:AV->Prop}(h:ce6 P L o env H K): ∃z,(∀M,ao6 P L o env (H++M) z)/\K z:=by
 obtain⟨dst,op,ty,pos,af,g⟩:=o;cases op<;>simp only[ce6] at h<;>try exact h.elim
 case call c=>
  obtain⟨callee,args,ats⟩:=c;cases callee<;>simp only at h<;>try exact h.elim
  case value f=>
   unfold bG3 at h;split at h
   ·rename_i g' fs cs ef
    obtain⟨z,hz,hk⟩:=h;refine⟨z,fun M=>?_,hk⟩
    unfold ao6 ab9;simp only;unfold aT8;rw[ef];exact hz M
   ·exact h.elim
  case builtin b=>
   cases b<;>simp only at h<;>try exact h.elim
   obtain⟨z,hz,hk⟩:=aI3 h;exact⟨z,fun M=>aY6 rfl hz,hk⟩
 case binOp b t x y t2=>
  obtain⟨hy,h⟩:=h;obtain⟨z,hz,hk⟩:=aI3 h;exact⟨z,fun M=>aY6 (by unfold aq1;simp[hy]) hz,hk⟩
 case load t x=>
  obtain⟨z,hz,hk⟩:=aI3 h;refine⟨z,fun M=>?_,hk⟩
  unfold ao6 at hz⊢;simp only[ab9] at hz⊢;cases hx:ev env x with
  |ip y=>
   rw[hx] at hz;exact⟨hz.1,hz.2.1,rfl⟩
  |mp k off=>
   rw[hx] at hz;have e3:aE7 L (H++M) t (.mp k off)=aE7 L H t (.mp k off):=by
    cases e:H[k]? with
    |none=>simp[aE7,e,lift] at hz
    |some ob=>
     have e2:(H++M)[k]?=some ob:=by rw[xq4 (aa0 e)];exact e
     unfold aE7;simp only[e,e2]
   rw[e3];exact ba4 hz
  |_=>
   rw[hx] at hz;simp[aE7,lift] at hz
 all_goals
  obtain⟨z,hz,hk⟩:=aI3 h;exact⟨z,fun M=>aY6 rfl hz,hk⟩
def b49:AV->Bool
 |.lit _=>true
 |.str _=>true
 |.sl .full _ []=>true
 |_=>false
theorem dw7{x:AV}{m:Nat}(h:b49 x=true):Low m x:=by
 unfold b49 at h;split at h
 ·exact .lit _
 ·exact .str _
 ·exact .sl _ _ _ (fun j e=>by cases e) (fun x hx=>by cases hx)
 ·cases h
attribute [go_sem] b49
def ae9(P:Program)(L:Tab)(H:List AObj)(ops:List Oper)(env:Env)(j:Nat)(M:List AObj)(K:Env->List AObj->Prop)[Tag K]:Prop:=
 match ops with
 |[]=>K env M
 |o::r=>match o.op with
  |.alloc t=>known (L t)=true/\(L t).zero.all b49=true/\ae9 P L H r (put o.dst (.mp (H.length+j) 0) env) (j+1) (M++[.cells (.one t) (L t).zero]) K
  |.store .. =>al1 P L [] o env M fun _ M'=>ae9 P L H r env j M' K
  |_=>ce6 P L o env H fun z=>Low H.length z/\ae9 P L H r (put o.dst z env) j M K
section
variable {P:Program}{L:Tab}{H:List AObj}
theorem dv2{o:Oper}{r:List Oper}{env:Env}{j:Nat}{M:List AObj}{K:Env->List AObj->Prop}(ho:b42 o=true)(h:ae9 P L H (o::r) env j M K):ce6 P L o env H fun z=>Low H.length z/\ae9 P L H r (put o.dst z env) j M K:=by
 obtain⟨d,op,ty,pos,af,g⟩:=o;unfold ae9 at h;cases op<;>simp[b42] at ho<;>exact h
theorem b86{K:Env->List AObj->Prop}{j:Nat}{M:List AObj}{all:List Oper}{rest:List Oper}: ∀(r:List Oper) (i:Nat) (env env₀:Env),(∀t,get env t=get env₀ t)->(∀o∈r,b42 o=true)->ae9 P L H (r++rest) env j M K->
  ∃(zs:Nat->AV) (env':Env),(∀(k:Nat) o,r[k]?=some o->(∀M,DoesE P L [] all o (ab8 (fun j=>decide (j < i+k)) zs i (r++rest) env₀) (H++M) (zs (i+k)) (H++M))/\Low H.length (zs (i+k)))/\(∀t,get (ab8 (fun j=>decide (j < i+r.length)) zs i (r++rest) env₀) t=get env' t)/\ae9 P L H rest env' j M K
 |[],i,env,env₀,he,_,h=>⟨fun _=>.any,env,fun k o e=>by simp at e,fun t=>by
    rw[aD4 _ _ _ fun j _=>by simp]
    exact(he t).symm,h⟩
 |o::r,i,env,env₀,he,hr,h=>by
  obtain⟨z,hz,hl,hk⟩:=cy7 (dv2 (hr o (aD9 ..)) h);obtain⟨zs,env',h1,h2,h3⟩:=b86 r (i+1) _ (put o.dst z env₀) (fun t=>by rw[get_put,get_put,he t]) (fun q hq=>hr q (aJ4 _ hq)) hk
  refine⟨fun j=>if j=i then z else zs j,env',fun k q e=>?_,fun t=>?_,h3⟩
  ·cases k with
   |zero=>
    simp only[List.getElem?_cons_zero,Option.some.injEq] at e;subst e;refine⟨fun M=>?_,by simpa using hl⟩
    rw[aD4 _ _ _ fun j _=>by simp]
    have hg:o.guard=none:=by
     have:=hr o (aD9 ..);simp only[b42,xq3,Option.isNone_iff_eq_none] at this;exact this.1
    unfold DoesE;rw[hg];have:=hz M;unfold ao6 at this;rw[<-aT7 (env:=env) fun x _ t _=>he t]
    simpa using this
   |succ k=>
    have:=h1 k q (by simpa using e)
    have e1:ab8 (fun j=>decide (j < i+(k+1))) (fun j=>if j=i then z else zs j) i ((o::r)++rest) env₀=ab8 (fun j=>decide (j < i+1+k)) zs (i+1) (r++rest) (put o.dst z env₀):=by
     simp only[List.cons_append,ab8,show i < i+(k+1) by omega,decide_true,if_true]
     exact aM5 (r++rest) (i+1) _ fun j _=>⟨by rw[if_neg (by omega)],by rw[show i+(k+1)=i+1+k by omega]⟩
    rw[e1];simp only[show¬(i+(k+1)=i) by omega,if_false]
    rwa [show i+(k+1)=i+1+k by omega]
  ·have e1:ab8 (fun j=>decide (j < i+(o::r).length)) (fun j=>if j=i then z else zs j) i ((o::r)++rest) env₀=ab8 (fun j=>decide (j < i+1+r.length)) zs (i+1) (r++rest) (put o.dst z env₀):=by
    simp only[List.cons_append,List.length_cons,ab8,show i < i+(r.length+1) by omega,decide_true,if_true]
    exact aM5 (r++rest) (i+1) _ fun j _=>⟨by rw[if_neg (by omega)],decide_eq_decide.2 (by omega)⟩
   rw[e1];exact h2 t
theorem bW9{K:Env->List AObj->Prop}{rest:List Oper}: ∀(r:List Oper) (Ts:Nat->TypeId) (j i:Nat) (env env₀:Env) (M:List AObj),(∀t,get env t=get env₀ t)->(∀(q:Nat) o,r[q]?=some o-> ∃d ty pos af,o=⟨d,.alloc (Ts q),ty,pos,af,none⟩)->ae9 P L H (r++rest) env j M K->
  ∃env',(∀t,get (ab8 (fun k=>decide (k < i+r.length)) (fun k=>.mp (H.length+(k - i+j)) 0) i (r++rest) env₀) t=get env' t)/\(∀q,q < r.length->known (L (Ts q))=true/\ ∀z∈(L (Ts q)).zero,Low H.length z)/\ae9 P L H rest env' (j+r.length) (M++(List.range r.length).map fun q=>.cells (.one (Ts q)) (L (Ts q)).zero) K
 |[],Ts,j,i,env,env₀,M,he,_,h=>⟨env,fun t=>by
    rw[aD4 _ _ _ fun j _=>by simp]
    exact(he t).symm,fun q h=>absurd h (Nat.not_lt_zero _),by simpa using h⟩
 |o::r,Ts,j,i,env,env₀,M,he,hr,h=>by
  obtain⟨d,ty,pos,af,rfl⟩:=hr 0 o rfl;obtain⟨h1,h2,h3⟩:known (L (Ts 0))=true/\(L (Ts 0)).zero.all b49=true/\ae9 P L H (r++rest) (put d (.mp (H.length+j) 0) env) (j+1) (M++[.cells (.one (Ts 0)) (L (Ts 0)).zero]) K:=by
   rw[List.cons_append] at h;unfold ae9 at h;exact h
  obtain⟨env',g1,g2,g3⟩:=bW9 r (fun q=>Ts (q+1)) (j+1) (i+1) _ (put d (.mp (H.length+j) 0) env₀) _ (fun t=>by rw[get_put,get_put,he t]) (fun q o hq=>hr (q+1) o (by simpa using hq)) h3
  refine⟨env',fun t=>?_,fun q hq=>?_,?_⟩
  ·have e1:ab8 (fun k=>decide (k < i+(r.length+1))) (fun k=>.mp (H.length+(k - i+j)) 0) i (⟨d,.alloc (Ts 0),ty,pos,af,none⟩::r++rest) env₀=ab8 (fun k=>decide (k < i+1+r.length)) (fun k=>.mp (H.length+(k - (i+1)+(j+1))) 0) (i+1) (r++rest) (put d (.mp (H.length+j) 0) env₀):=by
    simp only[List.cons_append,ab8,show i < i+(r.length+1) by omega,decide_true,if_true,ao4,Nat.zero_add]
    exact aM5 (r++rest) (i+1) _ fun k _=>⟨by rw[show i+1+k - i+j=i+1+k - (i+1)+(j+1) by omega],decide_eq_decide.2 (by omega)⟩
   rw[List.length_cons,e1];exact g1 t
  ·cases q with
   |zero=>
    exact⟨h1,fun z hz=>dw7 (xq6.1 h2 z hz)⟩
   |succ q=>exact g2 q (by simpa using hq)
  ·rw[List.length_cons,show j+(r.length+1)=j+1+r.length by omega,List.range_succ_eq_map,List.map_cons,aT4]
   rw[List.append_assoc] at g3;exact g3
theorem bW8{K:Env->List AObj->Prop}{env:Env}{j:Nat}: ∀(r:List Oper) (M:List AObj),(∀o∈r,stOp o=true)->ae9 P L H r env j M K-> ∃oh:Nat->List AObj,oh 0=M/\(∀(k:Nat) o,r[k]?=some o-> ∃z,ab9 P L [] o env (oh k) fun x H'=>x=z/\H'=oh (k+1))/\K env (oh r.length)
 |[],M,_,h=>⟨fun _=>M,rfl,fun k o e=>by simp at e,h⟩
 |o::r,M,hr,h=>by
  have h':al1 P L [] o env M fun _ M'=>ae9 P L H r env j M' K:=by
   have:=hr o (aD9 ..);obtain⟨d,op,ty,pos,af,g⟩:=o;unfold ae9 at h;cases op<;>simp[stOp] at this
   exact h
  obtain⟨z,M',hz,hk⟩:=bJ5 h';obtain⟨oh,h0,h1,h2⟩:=bW8 r M' (fun q hq=>hr q (aJ4 _ hq)) hk
  refine⟨fun k=>if k=0 then M else oh (k - 1),rfl,fun k q e=>?_,?_⟩
  ·cases k with
   |zero=>
    simp only[List.getElem?_cons_zero,Option.some.injEq] at e;subst e;exact⟨z,by simpa [h0] using hz⟩
   |succ k=>
    simpa using h1 k q (by simpa using e)
  ·simpa using h2
def allT:Option Oper->TypeId
 |some o=>match o.op with|.alloc t=>t|_=>0
 |none=>0
def bW7(nr na:Nat)(ops:List Oper):Bool:=cg0 nr na ops&&(ops.take nr).all b42&&(ops.drop (nr+na)).all stOp&&decide (nr+na<=ops.length)
theorem bt0{P:Program}{L:Tab}(hL:ac7 P L)(hm:P.follows .mixedOrders=true){n rid:Nat}(nr na:Nat){ops:List Oper}(hops:ay3 n ops=true)(hdr:aI2 ops=true)(hok:bW7 nr na ops=true){Q:Exit->Env->List AObj->Prop}{env:Env}{H:List AObj}
  {K:Env->List AObj->Prop} (hK: ∀env H,K env H->Q .normal env H) (h:ae9 P L H ops env 0 H K):AW P n (.region rid ops.toArray true) Q env H:=by
 simp only[bW7,xq3,decide_eq_true_eq] at hok;obtain⟨⟨⟨ok1,ok2⟩,ok3⟩,hlen⟩:=hok;let Ts:Nat->TypeId:=fun j=>allT ops[nr+j]?
 have e0:ops=ops.take nr++((ops.drop nr).take na++ops.drop (nr+na)):=by
  rw[<-List.drop_drop,bt9,bt9]
 have l1:(ops.take nr).length=nr:=by rw[List.length_take];omega
 have l2:((ops.drop nr).take na).length=na:=by rw[List.length_take,List.length_drop];omega
 have hTs: ∀(j:Nat) o,j < na->ops[nr+j]?=some o->o.op=.alloc (Ts j)/\o.guard=none:=fun j o hj e=>by
  have ok1':=ok1;simp only[cg0,xq3,xq6] at ok1';have:=ok1'.1.1.1 o (ar7.2 ⟨j,by rw[aB1,if_pos hj,aL2];exact e⟩)
  show o.op=.alloc (allT ops[nr+j]?)/\_
  rw[e];obtain⟨d,op,ty,pos,af,g⟩:=o;cases op<;>simp at this
  exact⟨rfl,this⟩
 have hA: ∀(q:Nat) o,((ops.drop nr).take na)[q]?=some o-> ∃d ty pos af,o=⟨d,.alloc (Ts q),ty,pos,af,none⟩:=fun q o e=>by
  have hq:q < na:=by have:=aa0 e;omega
  rw[aB1,if_pos hq,aL2] at e;obtain⟨h1,h2⟩:=hTs q o hq e;obtain⟨d,op,ty,pos,af,g⟩:=o;simp only at h1 h2;subst h1;subst h2;exact⟨_,_,_,_,rfl⟩
 have hrd: ∀(i:Nat) o,i < nr->ops[i]?=some o->o.guard=none:=fun i o hi e=>by
  have:=xq6.1 ok2 o (ar7.2 ⟨i,by rw[aB1,if_pos hi];exact e⟩)
  simp only[b42,xq3,Option.isNone_iff_eq_none] at this;exact this.1
 generalize hrs:ops.take nr=rs at*;generalize has:(ops.drop nr).take na=al at*;generalize hss:ops.drop (nr+na)=ss at*;rw[e0] at h;obtain⟨zs,env1,h1,h2,h3⟩:=b86 (all:=ops) rs 0 env env (fun _=>rfl) (fun o ho=>xq6.1 ok2 o ho) h
 obtain⟨env2,g1,g2,g3⟩:=bW9 al Ts 0 nr env1 env1 H (fun _=>rfl) hA h3
 obtain⟨oh,k0,k1,k2⟩:=bW8 ss _ (fun o ho=>xq6.1 ok3 o ho) g3
 have hsplit: ∀(l:Nat->Bool) (z:Nat->AV) (a b:List Oper) (i:Nat) (e:Env),ab8 l z i (a++b) e=ab8 l z (i+a.length) b (ab8 l z i a e):=fun l z a=>by
  induction a with
  |nil=>intro b i e;rfl
  |cons o a ih=>
   intro b i e;simp only[List.cons_append,ab8,List.length_cons];rw[ih,show i+1+a.length=i+(a.length+1) by omega]
 have hcong: ∀(l l':Nat->Bool) (z z':Nat->AV) (a:List Oper) (i:Nat) (e e':Env),(∀t,get e t=get e' t)->(∀k,k < a.length->l (i+k)=l' (i+k)/\z (i+k)=z' (i+k))-> ∀t,get (ab8 l z i a e) t=get (ab8 l' z' i a e') t:=fun l l' z z' a i e e' he hk t=>
  aM6 (R:=fun x y=>x=y) a i e e' (he t) fun j o ej _=>⟨(hk j (aa0 ej)).1,fun _=>(hk j (aa0 ej)).2⟩
 refine cc8 hL hm (Ts:=Ts) (nr:=nr) (na:=na) hops hdr ok1 (fun j o hj e=>(hTs j o hj e).1) hlen zs (fun i o hi e N hN=>?_) (fun i hi=>?_) (fun j hj=>(g2 j (by omega)).1) (fun j hj=>(g2 j (by omega)).2) env2 (fun t=>?_) oh (by rw[k0,l2]) (fun j o e=>?_) ?_
 ·have hi':rs[i]?=some o:=by rw[<-hrs,aB1,if_pos hi];exact e
  rcases hN with hl|⟨M,rfl⟩
  ·have:=(h1 i o hi').1 []
   rw[Nat.zero_add,<-e0] at this;unfold DoesE at this⊢;rw[hrd i o hi e] at this⊢;exact aY6 hl this
  ·have:=(h1 i o hi').1 M
   rw[Nat.zero_add,<-e0] at this;exact this
 ·have hi':rs[i]?=some rs[i]:=xq1 (by omega)
  have:=(h1 i _ hi').2;rwa [Nat.zero_add] at this
 ·rw[<-g1 t]
  conv=>lhs;rw[e0]
  rw[hsplit,Nat.zero_add,l1];refine hcong _ _ _ _ _ _ _ _ (fun t=>?_) (fun k hk=>?_) t
  ·rw[<-h2 t,Nat.zero_add,hsplit,Nat.zero_add,l1]
   have hn:ab8 (fun j=>decide (j < nr)) zs nr (al++ss) (ab8 (fun j=>decide (j < nr)) zs 0 rs env)=ab8 (fun j=>decide (j < nr)) zs 0 rs env:=aD4 _ _ _ fun j _=>by simp
   rw[hn];refine hcong _ _ _ _ _ _ _ _ (fun _=>rfl) (fun k hk=>⟨?_,?_⟩) t
   ·rw[Nat.zero_add,decide_eq_true (by omega),decide_eq_true (by omega)]
   ·show (if 0+k < nr then zs (0+k) else _)=_
    rw[if_pos (by omega)]
  ·refine⟨by rw[l2],?_⟩
   show (if nr+k < nr then zs (nr+k) else AV.mp (H.length+(nr+k - nr)) 0)=AV.mp (H.length+(nr+k - nr+0)) 0
   rw[if_neg (by omega),aD8]
 ·exact k1 j o (by rw[<-hss,aL2];exact e)
 ·have:ops.length - (nr+na)=ss.length:=by rw[<-hss,List.length_drop]
  rw[this];exact hK _ _ k2
end
theorem dj9{P:Program}{L:Tab}(hL:ac7 P L)(hm:P.follows .mixedOrders=true)(mu:List Nat)(k:Nat)(nr na:Nat){n rid:Nat}{ops:List Oper}{rest:Code}{Q:Exit->Env->List AObj->Prop}{env:Env}{H:List AObj}(hok:(ay3 n ops&&aI2 ops&&bW7 nr na ops&&okC mu n rest)=true)
  (h:ae9 P L H ops env 0 H fun env H=>bu6 P L mu n k rest Q env H):AW P n (.seq (.region rid ops.toArray true) rest) Q env H:=by
 simp only[xq3] at hok;obtain⟨⟨⟨o1,o2⟩,o3⟩,o4⟩:=hok;exact bJ1 (bt0 hL hm nr na o1 o2 o3 (fun env H q=>bo5 hL hm k rest o4 q) h)
theorem dY7{P:Program}{L:Tab}(hL:ac7 P L)(hm:P.follows .mixedOrders=true)(mu:List Nat)(nr na:Nat){n rid:Nat}{ops:List Oper}{rest:Code}{Q:Exit->Env->List AObj->Prop}{env:Env}{H:List AObj}(hok:(ay3 n ops&&aI2 ops&&bW7 nr na ops&&okC mu n rest)=true)
  (h:ae9 P L H ops env 0 H fun env H=>vcC P L mu n rest Q env H):AW P n (.seq (.region rid ops.toArray true) rest) Q env H:=by
 simp only[xq3] at hok;obtain⟨⟨⟨o1,o2⟩,o3⟩,o4⟩:=hok;exact bJ1 (bt0 hL hm nr na o1 o2 o3 (fun env H q=>ad2 hL hm rest o4 q) h)
section
variable {P:Program}{L:Tab}{H M:List AObj}{r:List Oper}{env:Env}{j m:Nat}{K:Env->List AObj->Prop}{d:Option Tmp}{ty:TypeId}{pos:String}{af:Array Edge}
theorem d79:ae9 P L H [] env j M K=K env M:=rfl
theorem du7{t:TypeId}:ae9 P L H (⟨d,.alloc t,ty,pos,af,none⟩::r) env j M K=(known (L t)=true/\(L t).zero.all b49=true/\ae9 P L H r (put d (.mp (H.length+j) 0) env) (j+1) (M++[.cells (.one t) (L t).zero]) K):=rfl
theorem du4{t:TypeId}{a x:Operand}:ae9 P L H (⟨d,.store t a x,ty,pos,af,none⟩::r) env j M K=be6 L t (ev env a) (ev env x) M fun _ M'=>ae9 P L H r env j M' K:=rfl
theorem dR6{x:Operand}:ae9 P L H (⟨d,.move x,ty,pos,af,none⟩::r) env j M K=an2 P L ⟨d,.move x,ty,pos,af,none⟩ env [] fun z=>Low H.length z/\ae9 P L H r (put d z env) j M K:=rfl
theorem cq2{t:TypeId}{x y:Operand}:ae9 P L H (⟨d,.indexAddr t x y,ty,pos,af,none⟩::r) env j M K=an2 P L ⟨d,.indexAddr t x y,ty,pos,af,none⟩ env [] fun z=>Low H.length z/\ae9 P L H r (put d z env) j M K:=rfl
theorem dR8{t:TypeId}{x:Operand}:ae9 P L H (⟨d,.load t x,ty,pos,af,none⟩::r) env j M K=an2 P L ⟨d,.load t x,ty,pos,af,none⟩ env H fun z=>Low H.length z/\ae9 P L H r (put d z env) j M K:=rfl
theorem cU2{x:Operand}{k:Nat}:ae9 P L H (⟨d,.extract x k,ty,pos,af,none⟩::r) env j M K=an2 P L ⟨d,.extract x k,ty,pos,af,none⟩ env [] fun z=>Low H.length z/\ae9 P L H r (put d z env) j M K:=rfl
theorem du5{t:TypeId}{ps:Array (Nat×Operand)}:ae9 P L H (⟨d,.build t ps,ty,pos,af,none⟩::r) env j M K=an2 P L ⟨d,.build t ps,ty,pos,af,none⟩ env [] fun z=>Low H.length z/\ae9 P L H r (put d z env) j M K:=rfl
theorem du6{b:BinOp}{t t2:TypeId}{x y:Operand}:ae9 P L H (⟨d,.binOp b t x y t2,ty,pos,af,none⟩::r) env j M K=(ax1 y=false/\an2 P L ⟨d,.binOp b t x y t2,ty,pos,af,none⟩ env [] fun z=>Low H.length z/\ae9 P L H r (put d z env) j M K):=rfl
theorem d80{az:Array Operand}{ts:Array TypeId}:ae9 P L H (⟨d,.call ⟨.builtin .min,az,ts⟩,ty,pos,af,none⟩::r) env j M K=an2 P L ⟨d,.call ⟨.builtin .min,az,ts⟩,ty,pos,af,none⟩ env [] fun z=>Low H.length z/\ae9 P L H r (put d z env) j M K:=rfl
theorem dR9{f:Operand}{az:Array Operand}{ts:Array TypeId}:ae9 P L H (⟨d,.call ⟨.value f,az,ts⟩,ty,pos,af,none⟩::r) env j M K=bG3 P (ev env f) (az.toList.map (ev env)) H fun z=>Low H.length z/\ae9 P L H r (put d z env) j M K:=rfl
end
attribute [go_sem] du6 d80 du7 du5 dR9 cU2 cq2 dR8 dR6 d79 du4
end V
end
section
open Go V
namespace As
def gGo:List Usr->Nat->Bool
 |[],n=>decide (300 < n)
 |u::r,n=>if n<=300 then gGo r (n+u.agreed.length) else decide (300 < n)
def cu2(s:Idn):Bool:=gGo s.users (s.sess.length+s.users.length+s.bonds.length+s.plgs.length)
structure ShortI(s:Idn):Prop where
 bd:BdI s
 sess:s.sess.length<=1100000
 users:s.users.length<=1100000
 bonds:s.bonds.length<=1100000
 plgs:s.plgs.length<=1100000
theorem ea8{l:List Usr}{i n:Nat}(hi:i < l.length)(hn:n<=300):gGo (l.drop i) n=gGo (l.drop (i+1)) (n+(l.getD i ah3).agreed.length):=by
 rw[aL3 hi,List.getD,xq1 hi];exact if_pos hn
theorem dg1{l:List Usr}{n:Nat}(hn: ¬n<=300):gGo l n=true:=by
 cases l with
 |nil=>exact decide_eq_true (by omega)
 |cons u r=>unfold gGo;rw[if_neg hn];exact decide_eq_true (by omega)
theorem dV0(s:Idn)(H:List AObj)(h:ShortI s):o7 Tryz.prog 5 [ae0 s] H (fun y H'=>y=.bool (cu2 s)/\H'=H):=by
 obtain⟨hb,h1,h2,h3,h4⟩:=h;have hu:=hb.users;unfold cu2;generalize hG:gGo s.users (s.sess.length+s.users.length+s.bonds.length+s.plgs.length)=G;have w0:(((s.sess.length:Int)+(s.users.length:Int))+(s.bonds.length:Int))+(s.plgs.length:Int)=((s.sess.length+s.users.length+s.bonds.length+s.plgs.length:Nat):Int):=by omega
 unfold ae0;refine o8 [] [.tmp 2] 42 Tryz.func5 ?_;repeat' simp -dsimp -implicitDefEqProofs (disch:=omega) only[go_sem,w0]
 refine aa7 ab6 mixed [] [1,2] (fun p:Nat×Nat=>p.1<=s.users.length/\p.2<=5000000/\gGo (s.users.drop p.1) p.2=G) (fun p=>[(4,.lit (.int .i64 (p.1:Int))),(3,.lit (.int .i64 (p.2:Int)))]) (fun _=>H) (fun p=>s.users.length - p.1) (by kernel_rfl) ?_ (0,s.sess.length+s.users.length+s.bonds.length+s.plgs.length) ⟨by omega,by dsimp only;omega,hG⟩ aa3 rfl
 rintro⟨i,n⟩ ⟨hi,hn,hg⟩
 dsimp only at hi hn hg⊢;by_cases h:i < s.users.length
 ·have hc:((i:Int) < (s.users.length:Int))=True:=eq_true (by omega)
  have hx:=hu _ (ag9 (d:=ah3) h);by_cases h3:n<=300
  ·have hc3:((n:Int)<=300)=True:=eq_true (by omega)
   rw[ea8 h h3] at hg;repeat' first|refine l9 ?_|simp -dsimp -implicitDefEqProofs (disch:=first|assumption|omega) only[go_sem,hc,hc3]
   refine again ((i+1,n+(s.users.getD i ah3).agreed.length)) ?_ ?_ rfl aa3
   ·dsimp only;omega
   ·exact⟨by dsimp only;omega,by dsimp only;omega,hg⟩
  ·have hc3:((n:Int)<=300)=False:=eq_false (by omega)
   have hc4:(300 < (n:Int))=True:=eq_true (by omega)
   rw[dg1 h3] at hg;subst hg;repeat' first|refine l9 ?_|simp -dsimp -implicitDefEqProofs (disch:=omega) only[go_sem,hc,hc3,hc4]
   exact o5 ⟨rfl,rfl⟩
 ·obtain rfl:i=s.users.length:=by omega
  have hc:((s.users.length:Int) < (s.users.length:Int))=False:=eq_false (by omega)
  rw[bF7] at hg;subst hg;by_cases h3:n<=300
  ·have hc4:(300 < (n:Int))=False:=eq_false (by omega)
   repeat' first|refine l9 ?_|simp -dsimp -implicitDefEqProofs (disch:=omega) only[go_sem,hc,hc4]
   exact o5 ⟨ad5 (decide_eq_false (by omega)).symm,rfl⟩
  ·have hc4:(300 < (n:Int))=True:=eq_true (by omega)
   repeat' first|refine l9 ?_|simp -dsimp -implicitDefEqProofs (disch:=omega) only[go_sem,hc,hc4]
   exact o5 ⟨ad5 (decide_eq_true (by omega)).symm,rfl⟩
instance dat_nil0 (s:Nat):Dat (.sl .full s []):=⟨fun _=>bi7⟩
theorem cr0{m:Nat}{x:AV}[Dat x]:Low m x=True:=eq_true ab2
theorem cq9{m:Nat}{v:Value}:Low m (.ip (.lit v))=True:=eq_true (.ip _ fun x hx=>by cases hx with|head=>exact .lit _|tail _ h=>cases h)
def tk(s:Idn)(n:Int):Idn:=if aj8 s=true then {s with now:=min (s.now+n) 1099511627776} else s
def tkA(s:Idn):Ans:=if aj8 s=true then an0 else al5 1
theorem cl6{s:Idn}{n:Int}(hn:0<=n):aj8 (tk s n)=aj8 s:=by
 unfold tk;by_cases h:aj8 s=true
 ·rw[if_pos h,h]
  unfold aj8 at h⊢;simp only[xq3] at h⊢;refine⟨?_,h.2⟩;have:=h.1;unfold aq0 at this⊢;simp only[xq3,decide_eq_true_eq] at this⊢;omega
 ·rw[if_neg h]
theorem eh8{s:Idn}{a b:Int}(ha:0<=a)(hb:0<=b):tk (tk s a) b=tk s (min (a+b) 1099511627776):=by
 have hr:=cl6 (s:=s) ha;by_cases h:aj8 s=true
 ·rw[h] at hr
  unfold tk at hr⊢;rw[if_pos h] at hr⊢;rw[if_pos hr,if_pos h];have h0:0<=s.now:=by
   unfold aj8 aq0 at h;simp only[xq3,decide_eq_true_eq] at h;exact h.1.1
  have e:min (min (s.now+a) 1099511627776+b) 1099511627776=min (s.now+min (a+b) 1099511627776) 1099511627776:=by omega
  dsimp only;rw[e]
 ·rw[bQ6] at h
  rw[h] at hr;unfold tk at hr⊢;rw[h] at hr⊢;simp only[Bool.false_eq_true,if_false] at hr⊢;rw[h];rfl
theorem d37{s:Idn}{n:Int}(hn:0<=n):tkA (tk s n)=tkA s:=by unfold tkA;rw[cl6 hn]
theorem ek9{s:Idn}{n:Int}(h:BdI s):BdI (tk s n):=by
 unfold tk;split
 ·exact⟨h.sess,h.users,h.bonds,h.plgs⟩
 ·exact h
theorem dx0{s:Idn}{n:Int}:(tk s n).sess=s.sess/\(tk s n).users=s.users/\(tk s n).bonds=s.bonds/\(tk s n).plgs=s.plgs:=by
 unfold tk;split
 ·exact⟨rfl,rfl,rfl,rfl⟩
 ·exact⟨rfl,rfl,rfl,rfl⟩
theorem dn5(s:Idn)(n:Int)(H:List AObj)(hb:BdI s)(h1:0<=n)(h2:n<=1099511627776):o7 Tryz.prog 6 [ac6,ae0 s,.agg (aR6 14 [] [] n (.sl .full 0 []) (.sl .full 0 []))] H (fun y H'=>y=.tup [ae0 (tk s n),ap8 (tkA s)]/\H'=H):=by
 have c:=cP8 s (cx4 n) H hb rfl;have ht:aq0 (cx4 n).n=true:=by unfold aq0 cx4;simp;omega
 have e:aK4 s (cx4 n)=({s with now:=min (s.now+n) 1099511627776},an0):=by unfold aK4;rw[if_pos ht];rfl
 rw[e] at c;exact o7.weak c rfl (fun j x y e1 e2=>by
  match j,e1,e2 with
  |0,rfl,rfl=>exact Le.refl _
  |1,rfl,rfl=>exact Le.refl _
  |2,rfl,rfl=>exact dT2)
theorem ej3(s:Idn)(a b:Int)(hs:ShortI s)(ha1: -9223372036854775808<=a)(ha2:a < 9223372036854775808)(hb1: -9223372036854775808<=b)(hb2:b < 9223372036854775808)
  (cA: ∀H,o7 Tryz.prog 4 [] H (fun y H'=>y=.bool true/\H'=H)) (H:List AObj):
  o7 Tryz.prog 3 [ae0 s,.agg [.lit (.int .i64 a),.lit (.int .i64 b)]] H (fun y H'=>y=.bool true/\H'=H):=by
 have ch:=fun H=>cK0 H
 have cg:=fun H=>dV0 s H hs
 generalize cu2 s=G at*;by_cases h0:G=false/\0<=a/\a<=1099511627776/\0<=b/\b<=1099511627776
 ·obtain⟨hG,a1,a2,b1,b2⟩:=h0
  subst hG;have f1:(a < 0)=False:=eq_false (by omega)
  have f2:(1099511627776 < a)=False:=eq_false (by omega)
  have f3:(b < 0)=False:=eq_false (by omega)
  have f4:(1099511627776 < b)=False:=eq_false (by omega)
  have c1:=fun H=>dn5 s a H hs.bd a1 a2
  have c2:=fun H=>dn5 (tk s a) b H (ek9 hs.bd) b1 b2
  have c3:=fun H=>dn5 s (min (a+b) 1099511627776) H hs.bd (by omega) (by omega)
  rw[eh8 a1 b1,d37 a1] at c2;obtain⟨l1,l2,l3,l4⟩:=dx0 (s:=s) (n:=min (a+b) 1099511627776);have cs:=fun H=>c77 (tk s (min (a+b) 1099511627776)) H (by rw[l1];exact hs.sess) (by rw[l2];exact hs.users) (by rw[l3];exact hs.bonds) (by rw[l4];exact hs.plgs) (by rw[l2];exact hs.bd.users)
  clear l1 l2 l3 l4;have hm:a+b < 9223372036854775808:=by omega
  generalize tk s (min (a+b) 1099511627776)=s3 at*;generalize tk s a=s1 at*;generalize tkA s=x at*;unfold ae0 ap8 aR6 at*;refine by3 ab6 mixed [] 3 (rs:=[.tmp 4]) (n:=83) Tryz.func3 rfl rfl rfl rfl (nlb rfl) (by kernel_rfl) ?_
  repeat' first|refine l9 ?_|simp -dsimp -implicitDefEqProofs (disch:=omega) only[go_sem,f1,f2,f3,f4,ao5,an7,List.drop_zero,an6]|refine l7 (cA _) ?_|refine l7 (cg _) ?_|fail
  refine dj9 ab6 mixed [] 0 9 2 (by kernel_rfl) ?_
  repeat' first|refine l9 ?_|simp -dsimp -implicitDefEqProofs (disch:=omega) only[go_sem,cr0,cq9,ao5,an7,List.drop_zero,an6]|refine⟨_,fun _ _ _=>ch _,?_⟩|refine⟨_,fun _ _ _=>c1 _,?_⟩|fail
  refine dj9 ab6 mixed [] 0 9 2 (by kernel_rfl) ?_
  repeat' first|refine l9 ?_|simp -dsimp -implicitDefEqProofs only[go_sem,cr0,cq9,bo3,aD8,ao5,an7,List.drop_zero,an6]|refine⟨_,fun _ _ _=>ch _,?_⟩|refine⟨_,fun _ _ _=>c2 _,?_⟩|fail
  refine dY7 ab6 mixed [] 13 2 (by kernel_rfl) ?_
  repeat' first|refine l9 ?_|simp -dsimp -implicitDefEqProofs (disch:=omega) only[go_sem,cr0,cq9,bo3,aD8,ao5,an7,List.drop_zero,an6]|refine⟨_,fun _ _ _=>ch _,?_⟩|refine⟨_,fun _ _ _=>c3 _,?_⟩|refine l7 (cs _) ?_|fail
  exact aa1 (.bool true) (Le.refl _) (.lit _) ⟨rfl,rfl⟩
 ·unfold ae0 at*
  cases G with
  |true=>
   refine o8 [] [.tmp 4] 83 Tryz.func3 ?_;repeat' first|refine l9 ?_|simp -dsimp -implicitDefEqProofs only[go_sem]|refine l7 (cA _) ?_|refine l7 (cg _) ?_|fail
   exact o5 ⟨rfl,rfl⟩
  |false=>
   by_cases h1:a < 0
   ·have f1:=eq_true h1
    refine o8 [] [.tmp 4] 83 Tryz.func3 ?_;repeat' first|refine l9 ?_|simp -dsimp -implicitDefEqProofs (disch:=omega) only[go_sem,f1]|refine l7 (cA _) ?_|refine l7 (cg _) ?_|fail
    exact o5 ⟨rfl,rfl⟩
   ·have f1:=eq_false h1
    by_cases h2:1099511627776 < a
    ·have f2:=eq_true h2
     refine o8 [] [.tmp 4] 83 Tryz.func3 ?_;repeat' first|refine l9 ?_|simp -dsimp -implicitDefEqProofs (disch:=omega) only[go_sem,f1,f2]|refine l7 (cA _) ?_|refine l7 (cg _) ?_|fail
     exact o5 ⟨rfl,rfl⟩
    ·have f2:=eq_false h2
     by_cases h3:b < 0
     ·have f3:=eq_true h3
      refine o8 [] [.tmp 4] 83 Tryz.func3 ?_;repeat' first|refine l9 ?_|simp -dsimp -implicitDefEqProofs (disch:=omega) only[go_sem,f1,f2,f3]|refine l7 (cA _) ?_|refine l7 (cg _) ?_|fail
      exact o5 ⟨rfl,rfl⟩
     ·have f3:=eq_false h3
      have f4:(1099511627776 < b)=True:=eq_true (Int.not_le.1 fun h4=>h0 ⟨rfl,Int.not_lt.1 h1,Int.not_lt.1 h2,Int.not_lt.1 h3,h4⟩)
      refine o8 [] [.tmp 4] 83 Tryz.func3 ?_;repeat' first|refine l9 ?_|simp -dsimp -implicitDefEqProofs (disch:=omega) only[go_sem,f1,f2,f3,f4]|refine l7 (cA _) ?_|refine l7 (cg _) ?_|fail
      exact o5 ⟨rfl,rfl⟩
end As
end
section
open Go V
namespace As
theorem d00(s:Idn)(a b:Int)(hs:ShortI s)(ha:IntKind.i64.min<=a/\a<=IntKind.i64.max)(hb:IntKind.i64.min<=b/\b<=IntKind.i64.max):o7 Tryz.prog 3 [ae0 s,.agg [.lit (.int .i64 a),.lit (.int .i64 b)]] [] (fun y H'=>y=.bool true/\H'=[]):=by
 have h1:IntKind.i64.min= -9223372036854775808:=by decide
 have h2:IntKind.i64.max=9223372036854775807:=by decide
 rw[h1,h2] at ha hb;exact ej3 s a b hs ha.1 (by omega) hb.1 (by omega) dZ5 []
end As
end
section
open Go V Go.ChangeShapes Go.WideShapes Go.ChangeAt Go.RowKit
theorem own:ownKnob Tryz.prog.godebug=none:=by kernel_rfl
theorem kids:Kids Tryz.prog (· < Tryz.prog.types.size):=kids_rows (by kernel_rfl) (by kernel_rfl)
theorem c67:((List.range Tryz.prog.types.size).all fun t=>match Tryz.prog.underlying t with|some (.slice e)=>decide (0 < Tryz.prog.cellsOf e)|_=>true)=true:=by kernel_rfl
theorem hsz{t e:TypeId}(ht:t < Tryz.prog.types.size)(h:Tryz.prog.underlying t=some (.slice e)):0 < Tryz.prog.cellsOf e:=by
 have:=xq6.1 c67 t (bg1.2 ht);rw[h] at this;simpa using this
theorem dC7:Tryz.prog.cellsOf 5=1:=by kernel_rfl
theorem by1:Tryz.prog.cellsOf 364=1:=by kernel_rfl
theorem ej7:Tryz.prog.globalNamed "internal/strconv.uint64pow10" =some 5:=by kernel_rfl
theorem eh3:(Tryz.prog.globals[5]?).map (·.type)=some 451:=by kernel_rfl
theorem ek6:Tryz.prog.cellsOf 451=20:=by kernel_rfl
theorem dp5:(Rows.laid_internal_strconv_uint64pow10:DataW Unit)=Lib.tabData .u64 ((List.range 20).map fun i=>((10^i:Nat):Int)):=by kernel_rfl
theorem dz2:Tryz.prog.globalNamed "unicode/utf8.acceptRanges" =some 3:=by kernel_rfl
theorem dm7:(Tryz.prog.globals[3]?).map (·.type)=some 397:=by kernel_rfl
theorem ed4:Tryz.prog.cellsOf 396=2:=by kernel_rfl
theorem cF5:(Rows.laid_unicode_utf8_acceptRanges:DataW Unit)=Lib.acceptData:=by kernel_rfl
theorem ej8:Tryz.prog.globalNamed "vouchsafe/field.One" =some 7:=by kernel_rfl
theorem eh4:(Tryz.prog.globals[7]?).map (·.type)=some 402:=by kernel_rfl
theorem ek7:Tryz.prog.cellsOf 402=5:=by kernel_rfl
theorem dr7:(Rows.laid_vouchsafe_field_One:DataW Unit)=Lib.tabData .u64 (d64.map fun n:Nat=>(n:Int)):=by kernel_rfl
theorem ea7:Tryz.prog.globalNamed "vouchsafe/curve.once" =some 11:=by kernel_rfl
theorem d26:(Tryz.prog.globals[11]?).map (·.type)=some 402:=by kernel_rfl
theorem ec9:Tryz.prog.cellsOf 402=5:=by kernel_rfl
theorem da9:(Rows.laid_vouchsafe_curve_once:DataW Unit)=Lib.tabData .u64 (cT3.map fun n:Nat=>(n:Int)):=by kernel_rfl
theorem dV3:Tryz.prog.globalNamed "vouchsafe/scalar.order" =some 6:=by kernel_rfl
theorem dK5:(Tryz.prog.globals[6]?).map (·.type)=some 457:=by kernel_rfl
theorem dX9:Tryz.prog.cellsOf 457=4:=by kernel_rfl
theorem cS4:(Rows.laid_vouchsafe_scalar_order:DataW Unit)=Lib.tabData .u64 (c95.map fun n:Nat=>(n:Int)):=by kernel_rfl
theorem ea6:Tryz.prog.globalNamed "vouchsafe/scalar.tail" =some 10:=by kernel_rfl
theorem d25:(Tryz.prog.globals[10]?).map (·.type)=some 519:=by kernel_rfl
theorem ec7:Tryz.prog.cellsOf 519=2:=by kernel_rfl
theorem c43:(Rows.laid_vouchsafe_scalar_tail:DataW Unit)=Lib.tabData .u64 (dI7.map fun n:Nat=>(n:Int)):=by kernel_rfl
theorem ej6:Tryz.prog.globalNamed "strconv.ErrRange" =some 13:=by kernel_rfl
theorem eh2:(Tryz.prog.globals[13]?).map (·.type)=some 413:=by kernel_rfl
theorem ej5:Tryz.prog.globalNamed "strconv.ErrSyntax" =some 12:=by kernel_rfl
theorem eh1:(Tryz.prog.globals[12]?).map (·.type)=some 413:=by kernel_rfl
theorem dV2:Tryz.prog.globalNamed "vouchsafe/sha.roots" =some 0:=by kernel_rfl
theorem dK4:(Tryz.prog.globals[0]?).map (·.type)=some 382:=by kernel_rfl
theorem dX8:Tryz.prog.cellsOf 382=80:=by kernel_rfl
theorem cQ5:(Rows.laid_vouchsafe_sha_roots:DataW Unit)=Lib.tabData .u64 (bh3.map fun n:Nat=>(n:Int)):=by kernel_rfl
theorem dz1:Tryz.prog.globalNamed "vouchsafe/sha.begins" =some 1:=by kernel_rfl
theorem dm6:(Tryz.prog.globals[1]?).map (·.type)=some 389:=by kernel_rfl
theorem dC9:Tryz.prog.cellsOf 389=8:=by kernel_rfl
theorem cE6:(Rows.laid_vouchsafe_sha_begins:DataW Unit)=Lib.tabData .u64 (a02.map fun n:Nat=>(n:Int)):=by kernel_rfl
theorem dV4:Tryz.prog.globalNamed "unicode/utf8.first" =some 2:=by kernel_rfl
theorem dK6:(Tryz.prog.globals[2]?).map (·.type)=some 394:=by kernel_rfl
theorem dY0:Tryz.prog.cellsOf 394=256:=by kernel_rfl
theorem cW7:(Rows.laid_unicode_utf8_first:DataW Unit)=Lib.tabData .u8 ((List.range 256).map fun c=>(Lib.firstT c:Int)):=by kernel_rfl
theorem eh7: ∃m,Tryz.prog.underlying 413=some (.interface m):=⟨_,Tryz.underlying413⟩
theorem dn1{H:Type}{enc:TypeId×Value->H}{P:Program}{w:World}{base fuel:Nat}{sp:Nat->Bool}{t:TypeId}{m:Array (String×TypeId)}{cs:List Value}{n:String}{d:DataW H}{p:List MemPlace}(ht:P.underlying t=some (.interface m))
  (h:DataW.trod enc P w base sp false fuel t cs=some (.iface n d,p)): ∃u v,cs=[.iface u v]:=by
 cases fuel with
 |zero=>simp[DataW.trod] at h
 |succ fuel=>
  rcases cs with _|⟨c,_|⟨c',r⟩⟩
  ·simp[DataW.trod,ht] at h
  ·cases c<;>simp only[DataW.trod,ht] at h<;>try (simp at h;done)
   exact⟨_,_,rfl⟩
  ·simp[DataW.trod,ht] at h
theorem cv7{W:World}{n:String}{gi:Nat}{s:List UInt8}(h:Lib.VarReads Tryz.prog W n (.iface "*errors.errorString" (.ptr (.agg [.lit (.string s)]))))(hg0:Tryz.prog.globalNamed n=some gi)(hy0:(Tryz.prog.globals[gi]?).map (·.type)=some 413):
  ∃t v,W.cell? ⟨gi,0,none⟩=some (.iface t v):=by
 obtain⟨g,t,cs,fuel,p,hg,hty,hvar,hd⟩:=h;obtain rfl:=Option.some.inj (hg0.symm.trans hg);obtain rfl:=Option.some.inj (hy0.symm.trans hty);obtain⟨m,hm⟩:=eh7;obtain⟨u,v,hcs⟩:=dn1 hm hd;refine⟨u,v,?_⟩;rw[World.var?_cell hg hvar 0,<-aL0,hcs];rfl
noncomputable def a19:List (String×DataW Unit):=[("math/bits.deBruijn32tab",Rows.laid_math_bits_deBruijn32tab),("math/bits.deBruijn64tab",Rows.laid_math_bits_deBruijn64tab),("internal/strconv.uint64pow10",Rows.laid_internal_strconv_uint64pow10),("unicode/utf8.acceptRanges",Rows.laid_unicode_utf8_acceptRanges),("vouchsafe/field.One",Rows.laid_vouchsafe_field_One),("vouchsafe/curve.once",Rows.laid_vouchsafe_curve_once),("vouchsafe/scalar.order",Rows.laid_vouchsafe_scalar_order),("vouchsafe/scalar.tail",Rows.laid_vouchsafe_scalar_tail),("strconv.ErrRange",Rows.laid_strconv_ErrRange),("strconv.ErrSyntax",Rows.laid_strconv_ErrSyntax),("vouchsafe/sha.roots",Rows.laid_vouchsafe_sha_roots),("vouchsafe/sha.begins",Rows.laid_vouchsafe_sha_begins),("unicode/utf8.first",Rows.laid_unicode_utf8_first)]
theorem tabs{W:World}(h:laidMet Tryz.prog a19 W)(ho:W.ShapedOpen Tryz.prog):ch0 W:=by
 unfold a19 at h;refine⟨fun g j v e=>?_,fun g t e=>?_,fun g e=>?_⟩
 ·unfold bi8 at e
  split at e
  ·obtain⟨g,t,cs,fuel,p,hg,hty,hvar,hd⟩:=Lib.laidMet.reads h (n:= "vouchsafe/sha.roots") (d:=Rows.laid_vouchsafe_sha_roots) (by simp)
   obtain rfl:=Option.some.inj (dV2.symm.trans hg);obtain rfl:=Option.some.inj (dK4.symm.trans hty);rw[cQ5] at hd;have hcs:=Lib.cells_of_tab Tryz.underlying382 Tryz.underlying364 by1 dX8 hd;rw[World.var?_cell hg hvar j,<-aL0,hcs,aT4];exact e
  ·obtain⟨g,t,cs,fuel,p,hg,hty,hvar,hd⟩:=Lib.laidMet.reads h (n:= "vouchsafe/sha.begins") (d:=Rows.laid_vouchsafe_sha_begins) (by simp)
   obtain rfl:=Option.some.inj (dz1.symm.trans hg);obtain rfl:=Option.some.inj (dm6.symm.trans hty);rw[cE6] at hd;have hcs:=Lib.cells_of_tab Tryz.underlying389 Tryz.underlying364 by1 dC9 hd;rw[World.var?_cell hg hvar j,<-aL0,hcs,aT4];exact e
  ·obtain⟨g,t,cs,fuel,p,hg,hty,hvar,hd⟩:=Lib.laidMet.reads h (n:= "unicode/utf8.first") (d:=Rows.laid_unicode_utf8_first) (by simp)
   obtain rfl:=Option.some.inj (dV4.symm.trans hg);obtain rfl:=Option.some.inj (dK6.symm.trans hty);rw[cW7] at hd;have hcs:=Lib.cells_of_tab Tryz.underlying394 Tryz.underlying5 dC7 dY0 hd;rw[World.var?_cell hg hvar j,<-aL0,hcs,aT4];exact e
  ·obtain⟨g,t,cs,fuel,p,hg,hty,hvar,hd⟩:=Lib.laidMet.reads h (n:= "unicode/utf8.acceptRanges") (d:=Rows.laid_unicode_utf8_acceptRanges) (by simp)
   obtain rfl:=Option.some.inj (dz2.symm.trans hg);obtain rfl:=Option.some.inj (dm7.symm.trans hty);rw[cF5] at hd;rw[World.var?_cell hg hvar j,<-aL0];have hj:j < 32:=(show aL8.length=32 from rfl)▸(aa0 e:j < aL8.length)
   obtain⟨fuel',d,q,hdi,he⟩:=Lib.array_elem Tryz.underlying397 hd (j/2) (by omega)
   simp only[xq7,aO4 (show j/2 < 16 by omega),Option.map_some,Option.some.injEq] at hdi
   subst hdi;rw[ed4] at he;have hcs:=Lib.ints_of_struct Tryz.underlying396 (fun j f hj=>by
    match j,hj with
    |0,hj=>simp at hj;subst hj;exact⟨Tryz.underlying5,rfl,dC7⟩
    |1,hj=>simp at hj;subst hj;exact⟨Tryz.underlying5,rfl,dC7⟩
    |j+2,hj=>simp at hj) (by rw[ed4];rfl) he
   have e0:=congrArg (·[j%2]?) hcs;simp only[aB1,aL2,show j%2 < 2 by omega,if_true,show j/2*2+j%2=j by omega] at e0
   rw[e0,<-e];have key: ∀k,k < 32->(List.map (fun z=>Value.int .u8 z) [((Lib.accLo (k/2):Nat):Int),((Lib.accHi (k/2):Nat):Int)])[k%2]?=aL8[k]?:=by
    intro k hk;match k,hk with
    |0,_|1,_|2,_|3,_|4,_|5,_|6,_|7,_|8,_|9,_|10,_|11,_|12,_|13,_|14,_|15,_|16,_|17,_|18,_|19,_|20,_|21,_|22,_|23,_|24,_|25,_|26,_|27,_|28,_|29,_|30,_|31,_=>rfl
    |_+32,h=>omega
   exact key j hj
  ·obtain⟨g,t,cs,fuel,p,hg,hty,hvar,hd⟩:=Lib.laidMet.reads h (n:= "internal/strconv.uint64pow10") (d:=Rows.laid_internal_strconv_uint64pow10) (by simp)
   obtain rfl:=Option.some.inj (ej7.symm.trans hg);obtain rfl:=Option.some.inj (eh3.symm.trans hty);rw[dp5] at hd;have hcs:=Lib.cells_of_tab Tryz.underlying451 Tryz.underlying364 by1 ek6 hd;rw[World.var?_cell hg hvar j,<-aL0,hcs,aT4];exact e
  ·obtain⟨g,t,cs,fuel,p,hg,hty,hvar,hd⟩:=Lib.laidMet.reads h (n:= "vouchsafe/scalar.order") (d:=Rows.laid_vouchsafe_scalar_order) (by simp)
   obtain rfl:=Option.some.inj (dV3.symm.trans hg);obtain rfl:=Option.some.inj (dK5.symm.trans hty);rw[cS4] at hd;have hcs:=Lib.cells_of_tab Tryz.underlying457 Tryz.underlying364 by1 dX9 hd;rw[World.var?_cell hg hvar j,<-aL0,hcs,aT4];exact e
  ·obtain⟨g,t,cs,fuel,p,hg,hty,hvar,hd⟩:=Lib.laidMet.reads h (n:= "vouchsafe/field.One") (d:=Rows.laid_vouchsafe_field_One) (by simp)
   obtain rfl:=Option.some.inj (ej8.symm.trans hg);obtain rfl:=Option.some.inj (eh4.symm.trans hty);rw[dr7] at hd;have hcs:=Lib.cells_of_tab Tryz.underlying402 Tryz.underlying364 by1 ek7 hd;rw[World.var?_cell hg hvar j,<-aL0,hcs,aT4];exact e
  ·obtain⟨g,t,cs,fuel,p,hg,hty,hvar,hd⟩:=Lib.laidMet.reads h (n:= "vouchsafe/scalar.tail") (d:=Rows.laid_vouchsafe_scalar_tail) (by simp)
   obtain rfl:=Option.some.inj (ea6.symm.trans hg);obtain rfl:=Option.some.inj (d25.symm.trans hty);rw[c43] at hd;have hcs:=Lib.cells_of_tab Tryz.underlying519 Tryz.underlying364 by1 ec7 hd;rw[World.var?_cell hg hvar j,<-aL0,hcs,aT4];exact e
  ·obtain⟨g,t,cs,fuel,p,hg,hty,hvar,hd⟩:=Lib.laidMet.reads h (n:= "vouchsafe/curve.once") (d:=Rows.laid_vouchsafe_curve_once) (by simp)
   obtain rfl:=Option.some.inj (ea7.symm.trans hg);obtain rfl:=Option.some.inj (d26.symm.trans hty);rw[da9] at hd;have hcs:=Lib.cells_of_tab Tryz.underlying402 Tryz.underlying364 by1 ec9 hd;rw[World.var?_cell hg hvar j,<-aL0,hcs,aT4];exact e
  ·simp at e
 ·unfold bp3 at e
  split at e
  ·cases e
   exact cv7 (Lib.laidMet.reads h (n:= "strconv.ErrSyntax") (d:=Rows.laid_strconv_ErrSyntax) (by simp)) ej5 eh1
  ·cases e
   exact cv7 (Lib.laidMet.reads h (n:= "strconv.ErrRange") (d:=Rows.laid_strconv_ErrRange) (by simp)) ej6 eh2
  ·cases e
 ·unfold dy4 at e
  split at e
  ·exact cell_of_shapedOpen_int (t:=3) (zero:= #[.int .i64 0]) ho (of_decide_eq_true (by kernel_rfl)) (by kernel_rfl) rfl (by kernel_rfl) (by kernel_rfl) Tryz.underlying3
  ·cases e
noncomputable def aA9(cs:List Value):Obj->Obj
 |.cells _ t frozen=>.cells cs.toArray t frozen
 |o=>o
def cs3:DataW Unit->List Value
 |.agg l=>l.filterMap fun|.lit (.int k n)=>some (.int k n)|_=>none
 |_=>[]
noncomputable def bj6(os:Os):Array Obj:=(World.holding Tryz.prog os ⟨#[],#[],[]⟩).heap
noncomputable def laidWorld(os:Os):World:=
 {World.holding Tryz.prog os ⟨#[],#[],[]⟩ with heap:=(((((((((((((((bj6 os).modify 8 (aA9 (cs3 Rows.laid_math_bits_deBruijn32tab))).modify 9 (aA9 (cs3 Rows.laid_math_bits_deBruijn64tab))).modify 5 (aA9 bg6)).modify 3 (aA9 aL8)).modify 7 (aA9 c50)).modify 11 (aA9 cH1)).modify 6 (aA9 cj8)).modify 10 (aA9 cH0)).modify 13 (aA9 [.iface 540 (.pointer (some ⟨(bj6 os).size+0,0,none⟩))])).modify 12 (aA9 [.iface 540 (.pointer (some ⟨(bj6 os).size+1,0,none⟩))])).modify 0 (aA9 aX6)).modify 1 (aA9 aR8)).modify 2 (aA9 bg7)).push (.cells #[.string ⟨#[118,97,108,117,101,32,111,117,116,32,111,102,32,114,97,110,103,101]⟩] 542 (0,0))).push (.cells #[.string ⟨#[105,110,118,97,108,105,100,32,115,121,110,116,97,120]⟩] 542 (0,0))}
noncomputable def de5(os:Os):List Nat:=[8,9,5,3,7,11,6,10,13,(bj6 os).size+0,12,(bj6 os).size+1,0,1,2]
end
section
open Go V Go.ChangeShapes Go.WideShapes Go.ChangeAt Go.RowKit
theorem ef0{P:Program}{W:World}{base:Nat}{t:TypeId}{fs:Array Field}{v:Value}(hd:P.underlying t=some (.struct fs))(k:Value.okWide P W .any base t v): ∃cs,v=.agg cs:=by
 unfold Value.okWide at k;rw[hd] at k;obtain⟨cs,h,_⟩:=k;exact⟨cs,h⟩
theorem cZ0{P:Program}{W:World}{base:Nat}{t e:TypeId}{n:Nat}{v:Value}(hd:P.underlying t=some (.array n e))(k:Value.okWide P W .any base t v): ∃cs,v=.agg cs:=by
 unfold Value.okWide at k;rw[hd] at k;obtain⟨cs,h,_⟩:=k;exact⟨cs,h⟩
theorem ag8{W:World}{x:AV}{c:Value}(hx:x.flat=[x])(h:bF5 W x [c]):Rel (G₀ W) [] W x c:=h.2.2 0 x c (by rw[hx];rfl) rfl
section
variable {H:Type}{enc:TypeId×Value->H}{W:World}
theorem five{α:Type}{l:List α}(h:l.length=5): ∃a b c d e,l=[a,b,c,d,e]:=by
 match l,h with
 |[a,b,c,d,e],_=>exact⟨a,b,c,d,e,rfl⟩
end
theorem bX9{W:World}:laidMetH Tryz.prog a19 W=laidMet Tryz.prog a19 W:=MakeChecks.laidMetH_plain _ _ _ (by kernel_rfl)
theorem eh9{W:World}(h:laidMetH Tryz.prog a19 W)(ho:W.ShapedOpen Tryz.prog):ch0 W:=tabs (bX9▸h) ho
end
section
open Go V Go.ChangeShapes Go.WideShapes Go.ChangeAt Go.RowKit
namespace As
theorem bE7{H:Type}{d:DataW H}{l:List (DataW H)}(h:d∈l):Rows.uptoBulk d<=Rows.uptoBulkAll l:=by
 induction l with
 |nil=>cases h
 |cons x r ih=>
  simp only[Rows.uptoBulkAll];cases an8.1 h with
  |inl e=>subst e;omega
  |inr e=>have:=ih e;omega
theorem dD6{H:Type}(d:DataW H):1<=Rows.uptoBulk d:=by
 cases d with
 |lit l=>cases l<;>simp[Rows.uptoBulk]
 |_=>simp[Rows.uptoBulk]
theorem dD7{H:Type}(l:List (DataW H)):l.length<=Rows.uptoBulkAll l:=by
 induction l with
 |nil=>simp[Rows.uptoBulkAll]
 |cons x r ih=>have:=dD6 x;simp only[Rows.uptoBulkAll,List.length_cons];omega
def DB{H:Type}(d:DataW H):Prop:=Rows.uptoBulk d<=1100000
def QB(n:Nat):Prop:=n<=1100000
theorem bs8{H:Type}{l:List (DataW H)}(h:DB (.agg l)): ∀d∈l,DB d:=fun d hd=>by
 have:=bE7 hd;unfold DB at*;simp only[Rows.uptoBulk] at h;omega
theorem bj4{H:Type}(es rs:List (DataW H))(h:DB (.slice es rs)):QB es.length/\ ∀d∈es,DB d:=by
 have:=dD7 es;unfold DB QB at*;simp only[Rows.uptoBulk] at h;refine⟨by omega,fun d hd=>?_⟩
 have:=bE7 hd;omega
theorem qb0:QB 0:=aC0 _
theorem bm7:Tryz.prog.cellsOf 3=1:=by kernel_rfl
theorem aK7:Tryz.prog.cellsOf 9=1:=by kernel_rfl
theorem eb6:Tryz.prog.cellsOf 4=1:=by kernel_rfl
section
variable {H:Type}{enc:TypeId×Value->H}{W:World}
theorem ao2(n:Nat):aP2 DB enc Tryz.prog W n 9 AV.str (fun l=>QB l.length):=fun m cs x hm hx hd=>by
 obtain⟨s,rfl,rfl,hw⟩:=DataW.trod_string Tryz.underlying9 hx;refine⟨s.data.toList,?_,bh6 rfl rfl ?_⟩
 ·have:Rows.uptoBulk (DataW.lit (H:=H) (.string s.data.toList))=s.data.toList.length+1:=by simp[Rows.uptoBulk]
  unfold DB at hd;unfold QB;dsimp only at hd;omega
 ·have:s=⟨s.data.toList.toArray⟩:=by simp
  conv=>rhs;rw[this]
  exact .str _
theorem di1:Tryz.prog.cellsOf 32=1:=by kernel_rfl
theorem cX0:Tryz.prog.cellsOf 22=1:=by kernel_rfl
theorem dW8:Tryz.prog.cellsOf 23=1:=by kernel_rfl
theorem dW9:Tryz.prog.cellsOf 24=1:=by kernel_rfl
theorem di3:Tryz.prog.cellsOf 25=1:=by kernel_rfl
def c02(x:Addr):Prop:=QB x.medium.length/\QB x.wh.length
theorem bZ4:Tryz.prog.cellsOf 37=2:=by kernel_rfl
theorem bv8(n:Nat):aP2 DB enc Tryz.prog W n 37 aP1 c02:=fun m cs x hm hx hd=>by
 obtain⟨xs,n',rfl,rfl,hl,hxl,hf⟩:=DataW.trod_struct Tryz.underlying37 hx;rw[bZ4] at hl;have h0:DataW.trod enc Tryz.prog W 0 (fun _=>true) true n' 9 ((cs.drop 0).take (Tryz.prog.cellsOf 9))=xs[0]?:=hf 0 _ rfl
 rw[aK7] at h0;have h1:DataW.trod enc Tryz.prog W 0 (fun _=>true) true n' 9 ((cs.drop 1).take (Tryz.prog.cellsOf 9))=xs[1]?:=hf 1 _ rfl
 rw[aK7] at h1;obtain⟨x0,x1,rfl⟩: ∃x0 x1,xs=[x0,x1]:=by
  match xs,hxl with
  |[y0,y1],_=>exact⟨y0,y1,rfl⟩
 obtain⟨k0,k1,rfl⟩: ∃k0 k1,cs=[k0,k1]:=by
  match cs,hl with
  |[y0,y1],_=>exact⟨y0,y1,rfl⟩
 have hp:=bs8 hd;obtain⟨v0,b0,r0⟩:=ao2 (enc:=enc) (W:=W) n' n' _ _ (xq0 _) h0 (hp _ (by simp))
 obtain⟨v1,b1,r1⟩:=ao2 (enc:=enc) (W:=W) n' n' _ _ (xq0 _) h1 (hp _ (by simp))
 refine⟨⟨v0,v1⟩,⟨b0,b1⟩,rfl,rfl,fun j y u ey eu=>?_⟩
 match j,ey,eu with
 |0,ey,eu=>cases ey;cases eu;exact ag8 rfl r0
 |1,ey,eu=>cases ey;cases eu;exact ag8 rfl r1
 |j+2,ey,eu=>cases ey
def eg5(x:Sess):Prop:=QB x.secret.length/\c02 x.who/\QB x.token.length
theorem di2:Tryz.prog.cellsOf 109=10:=by kernel_rfl
theorem cS5(n:Nat):aP2 DB enc Tryz.prog W n 109 aj2 eg5:=fun m cs x hm hx hd=>by
 obtain⟨xs,n',rfl,rfl,hl,hxl,hf⟩:=DataW.trod_struct Tryz.underlying109 hx;rw[di2] at hl;have h0:DataW.trod enc Tryz.prog W 0 (fun _=>true) true n' 3 ((cs.drop 0).take (Tryz.prog.cellsOf 3))=xs[0]?:=hf 0 _ rfl
 rw[bm7] at h0;have h1:DataW.trod enc Tryz.prog W 0 (fun _=>true) true n' 9 ((cs.drop 1).take (Tryz.prog.cellsOf 9))=xs[1]?:=hf 1 _ rfl
 rw[aK7] at h1;have h2:DataW.trod enc Tryz.prog W 0 (fun _=>true) true n' 37 ((cs.drop 2).take (Tryz.prog.cellsOf 37))=xs[2]?:=hf 2 _ rfl
 rw[bZ4] at h2;have h3:DataW.trod enc Tryz.prog W 0 (fun _=>true) true n' 9 ((cs.drop 4).take (Tryz.prog.cellsOf 9))=xs[3]?:=hf 3 _ rfl
 rw[aK7] at h3;have h4:DataW.trod enc Tryz.prog W 0 (fun _=>true) true n' 3 ((cs.drop 5).take (Tryz.prog.cellsOf 3))=xs[4]?:=hf 4 _ rfl
 rw[bm7] at h4;have h5:DataW.trod enc Tryz.prog W 0 (fun _=>true) true n' 3 ((cs.drop 6).take (Tryz.prog.cellsOf 3))=xs[5]?:=hf 5 _ rfl
 rw[bm7] at h5;have h6:DataW.trod enc Tryz.prog W 0 (fun _=>true) true n' 3 ((cs.drop 7).take (Tryz.prog.cellsOf 3))=xs[6]?:=hf 6 _ rfl
 rw[bm7] at h6;have h7:DataW.trod enc Tryz.prog W 0 (fun _=>true) true n' 4 ((cs.drop 8).take (Tryz.prog.cellsOf 4))=xs[7]?:=hf 7 _ rfl
 rw[eb6] at h7;have h8:DataW.trod enc Tryz.prog W 0 (fun _=>true) true n' 3 ((cs.drop 9).take (Tryz.prog.cellsOf 3))=xs[8]?:=hf 8 _ rfl
 rw[bm7] at h8;obtain⟨x0,x1,x2,x3,x4,x5,x6,x7,x8,rfl⟩: ∃x0 x1 x2 x3 x4 x5 x6 x7 x8,xs=[x0,x1,x2,x3,x4,x5,x6,x7,x8]:=by
  match xs,hxl with
  |[y0,y1,y2,y3,y4,y5,y6,y7,y8],_=>exact⟨y0,y1,y2,y3,y4,y5,y6,y7,y8,rfl⟩
 obtain⟨k0,k1,k2,k3,k4,k5,k6,k7,k8,k9,rfl⟩: ∃k0 k1 k2 k3 k4 k5 k6 k7 k8 k9,cs=[k0,k1,k2,k3,k4,k5,k6,k7,k8,k9]:=by
  match cs,hl with
  |[y0,y1,y2,y3,y4,y5,y6,y7,y8,y9],_=>exact⟨y0,y1,y2,y3,y4,y5,y6,y7,y8,y9,rfl⟩
 have hp:=bs8 hd;obtain⟨v0,b0,r0⟩:=aC8 (enc:=enc) (w:=W) n' Tryz.underlying3 n' _ _ (xq0 _) h0;obtain⟨v1,b1,r1⟩:=ao2 (enc:=enc) (W:=W) n' n' _ _ (xq0 _) h1 (hp _ (by simp))
 obtain⟨v2,b2,r2⟩:=bv8 (enc:=enc) (W:=W) n' n' _ _ (xq0 _) h2 (hp _ (by simp))
 obtain⟨v3,b3,r3⟩:=ao2 (enc:=enc) (W:=W) n' n' _ _ (xq0 _) h3 (hp _ (by simp))
 obtain⟨v4,b4,r4⟩:=aC8 (enc:=enc) (w:=W) n' Tryz.underlying3 n' _ _ (xq0 _) h4;obtain⟨v5,b5,r5⟩:=aC8 (enc:=enc) (w:=W) n' Tryz.underlying3 n' _ _ (xq0 _) h5;obtain⟨v6,b6,r6⟩:=aC8 (enc:=enc) (w:=W) n' Tryz.underlying3 n' _ _ (xq0 _) h6;obtain⟨v7,b7,r7⟩:=cS6 (enc:=enc) (w:=W) n' Tryz.underlying4 n' _ _ (xq0 _) h7;obtain⟨v8,b8,r8⟩:=aC8 (enc:=enc) (w:=W) n' Tryz.underlying3 n' _ _ (xq0 _) h8;refine⟨⟨v0,v1,v2,v3,v4,v5,v6,v7,v8⟩,⟨b1,b2,b3⟩,rfl,rfl,fun j y u ey eu=>?_⟩
 match j,ey,eu with
 |0,ey,eu=>cases ey;cases eu;exact ag8 rfl r0
 |1,ey,eu=>cases ey;cases eu;exact ag8 rfl r1
 |2,ey,eu=>cases ey;cases eu;exact r2.2.2 0 _ _ rfl rfl
 |3,ey,eu=>cases ey;cases eu;exact r2.2.2 1 _ _ rfl rfl
 |4,ey,eu=>cases ey;cases eu;exact ag8 rfl r3
 |5,ey,eu=>cases ey;cases eu;exact ag8 rfl r4
 |6,ey,eu=>cases ey;cases eu;exact ag8 rfl r5
 |7,ey,eu=>cases ey;cases eu;exact ag8 rfl r6
 |8,ey,eu=>cases ey;cases eu;exact ag8 rfl r7
 |9,ey,eu=>cases ey;cases eu;exact ag8 rfl r8
 |j+10,ey,eu=>cases ey
def eg4(x:Usr):Prop:=QB x.token.length/\QB x.mxid.length/\(QB x.agreed.length/\ ∀y∈x.agreed,QB y.length)
theorem dJ8:Tryz.prog.cellsOf 70=3:=by kernel_rfl
theorem c97(n:Nat):aP2 DB enc Tryz.prog W n 70 af0 eg4:=fun m cs x hm hx hd=>by
 obtain⟨xs,n',rfl,rfl,hl,hxl,hf⟩:=DataW.trod_struct Tryz.underlying70 hx;rw[dJ8] at hl;have h0:DataW.trod enc Tryz.prog W 0 (fun _=>true) true n' 9 ((cs.drop 0).take (Tryz.prog.cellsOf 9))=xs[0]?:=hf 0 _ rfl
 rw[aK7] at h0;have h1:DataW.trod enc Tryz.prog W 0 (fun _=>true) true n' 9 ((cs.drop 1).take (Tryz.prog.cellsOf 9))=xs[1]?:=hf 1 _ rfl
 rw[aK7] at h1;have h2:DataW.trod enc Tryz.prog W 0 (fun _=>true) true n' 32 ((cs.drop 2).take (Tryz.prog.cellsOf 32))=xs[2]?:=hf 2 _ rfl
 rw[di1] at h2;obtain⟨x0,x1,x2,rfl⟩: ∃x0 x1 x2,xs=[x0,x1,x2]:=by
  match xs,hxl with
  |[y0,y1,y2],_=>exact⟨y0,y1,y2,rfl⟩
 obtain⟨k0,k1,k2,rfl⟩: ∃k0 k1 k2,cs=[k0,k1,k2]:=by
  match cs,hl with
  |[y0,y1,y2],_=>exact⟨y0,y1,y2,rfl⟩
 have hp:=bs8 hd;obtain⟨v0,b0,r0⟩:=ao2 (enc:=enc) (W:=W) n' n' _ _ (xq0 _) h0 (hp _ (by simp))
 obtain⟨v1,b1,r1⟩:=ao2 (enc:=enc) (W:=W) n' n' _ _ (xq0 _) h1 (hp _ (by simp))
 obtain⟨v2,⟨_,b2⟩,r2⟩:=aM3 qb0 bj4 Tryz.underlying32 aK7 (by decide) (ao2 (enc:=enc) (W:=W) n') n' _ _ (bt6 _) h2 (hp _ (by simp))
 refine⟨⟨v0,v1,v2⟩,⟨b0,b1,b2⟩,rfl,rfl,fun j y u ey eu=>?_⟩
 match j,ey,eu with
 |0,ey,eu=>cases ey;cases eu;exact ag8 rfl r0
 |1,ey,eu=>cases ey;cases eu;exact ag8 rfl r1
 |2,ey,eu=>cases ey;cases eu;exact ag8 rfl r2
 |j+3,ey,eu=>cases ey
def eg7(x:Bnd):Prop:=c02 x.who/\QB x.mxid.length
theorem dK0:Tryz.prog.cellsOf 123=4:=by kernel_rfl
theorem da1(n:Nat):aP2 DB enc Tryz.prog W n 123 av3 eg7:=fun m cs x hm hx hd=>by
 obtain⟨xs,n',rfl,rfl,hl,hxl,hf⟩:=DataW.trod_struct Tryz.underlying123 hx;rw[dK0] at hl;have h0:DataW.trod enc Tryz.prog W 0 (fun _=>true) true n' 37 ((cs.drop 0).take (Tryz.prog.cellsOf 37))=xs[0]?:=hf 0 _ rfl
 rw[bZ4] at h0;have h1:DataW.trod enc Tryz.prog W 0 (fun _=>true) true n' 9 ((cs.drop 2).take (Tryz.prog.cellsOf 9))=xs[1]?:=hf 1 _ rfl
 rw[aK7] at h1;have h2:DataW.trod enc Tryz.prog W 0 (fun _=>true) true n' 3 ((cs.drop 3).take (Tryz.prog.cellsOf 3))=xs[2]?:=hf 2 _ rfl
 rw[bm7] at h2;obtain⟨x0,x1,x2,rfl⟩: ∃x0 x1 x2,xs=[x0,x1,x2]:=by
  match xs,hxl with
  |[y0,y1,y2],_=>exact⟨y0,y1,y2,rfl⟩
 obtain⟨k0,k1,k2,k3,rfl⟩: ∃k0 k1 k2 k3,cs=[k0,k1,k2,k3]:=by
  match cs,hl with
  |[y0,y1,y2,y3],_=>exact⟨y0,y1,y2,y3,rfl⟩
 have hp:=bs8 hd;obtain⟨v0,b0,r0⟩:=bv8 (enc:=enc) (W:=W) n' n' _ _ (xq0 _) h0 (hp _ (by simp))
 obtain⟨v1,b1,r1⟩:=ao2 (enc:=enc) (W:=W) n' n' _ _ (xq0 _) h1 (hp _ (by simp))
 obtain⟨v2,b2,r2⟩:=aC8 (enc:=enc) (w:=W) n' Tryz.underlying3 n' _ _ (xq0 _) h2;refine⟨⟨v0,v1,v2⟩,⟨b0,b1⟩,rfl,rfl,fun j y u ey eu=>?_⟩
 match j,ey,eu with
 |0,ey,eu=>cases ey;cases eu;exact r0.2.2 0 _ _ rfl rfl
 |1,ey,eu=>cases ey;cases eu;exact r0.2.2 1 _ _ rfl rfl
 |2,ey,eu=>cases ey;cases eu;exact ag8 rfl r1
 |3,ey,eu=>cases ey;cases eu;exact ag8 rfl r2
 |j+4,ey,eu=>cases ey
def eg6(x:Plg):Prop:=QB x.token.length/\c02 x.who/\QB x.room.length/\QB x.sender.length/\QB x.seed.length/\QB x.bound.length
theorem dJ9:Tryz.prog.cellsOf 127=7:=by kernel_rfl
theorem c99(n:Nat):aP2 DB enc Tryz.prog W n 127 aw4 eg6:=fun m cs x hm hx hd=>by
 obtain⟨xs,n',rfl,rfl,hl,hxl,hf⟩:=DataW.trod_struct Tryz.underlying127 hx;rw[dJ9] at hl;have h0:DataW.trod enc Tryz.prog W 0 (fun _=>true) true n' 9 ((cs.drop 0).take (Tryz.prog.cellsOf 9))=xs[0]?:=hf 0 _ rfl
 rw[aK7] at h0;have h1:DataW.trod enc Tryz.prog W 0 (fun _=>true) true n' 37 ((cs.drop 1).take (Tryz.prog.cellsOf 37))=xs[1]?:=hf 1 _ rfl
 rw[bZ4] at h1;have h2:DataW.trod enc Tryz.prog W 0 (fun _=>true) true n' 9 ((cs.drop 3).take (Tryz.prog.cellsOf 9))=xs[2]?:=hf 2 _ rfl
 rw[aK7] at h2;have h3:DataW.trod enc Tryz.prog W 0 (fun _=>true) true n' 9 ((cs.drop 4).take (Tryz.prog.cellsOf 9))=xs[3]?:=hf 3 _ rfl
 rw[aK7] at h3;have h4:DataW.trod enc Tryz.prog W 0 (fun _=>true) true n' 9 ((cs.drop 5).take (Tryz.prog.cellsOf 9))=xs[4]?:=hf 4 _ rfl
 rw[aK7] at h4;have h5:DataW.trod enc Tryz.prog W 0 (fun _=>true) true n' 9 ((cs.drop 6).take (Tryz.prog.cellsOf 9))=xs[5]?:=hf 5 _ rfl
 rw[aK7] at h5;obtain⟨x0,x1,x2,x3,x4,x5,rfl⟩: ∃x0 x1 x2 x3 x4 x5,xs=[x0,x1,x2,x3,x4,x5]:=by
  match xs,hxl with
  |[y0,y1,y2,y3,y4,y5],_=>exact⟨y0,y1,y2,y3,y4,y5,rfl⟩
 obtain⟨k0,k1,k2,k3,k4,k5,k6,rfl⟩: ∃k0 k1 k2 k3 k4 k5 k6,cs=[k0,k1,k2,k3,k4,k5,k6]:=by
  match cs,hl with
  |[y0,y1,y2,y3,y4,y5,y6],_=>exact⟨y0,y1,y2,y3,y4,y5,y6,rfl⟩
 have hp:=bs8 hd;obtain⟨v0,b0,r0⟩:=ao2 (enc:=enc) (W:=W) n' n' _ _ (xq0 _) h0 (hp _ (by simp))
 obtain⟨v1,b1,r1⟩:=bv8 (enc:=enc) (W:=W) n' n' _ _ (xq0 _) h1 (hp _ (by simp))
 obtain⟨v2,b2,r2⟩:=ao2 (enc:=enc) (W:=W) n' n' _ _ (xq0 _) h2 (hp _ (by simp))
 obtain⟨v3,b3,r3⟩:=ao2 (enc:=enc) (W:=W) n' n' _ _ (xq0 _) h3 (hp _ (by simp))
 obtain⟨v4,b4,r4⟩:=ao2 (enc:=enc) (W:=W) n' n' _ _ (xq0 _) h4 (hp _ (by simp))
 obtain⟨v5,b5,r5⟩:=ao2 (enc:=enc) (W:=W) n' n' _ _ (xq0 _) h5 (hp _ (by simp))
 refine⟨⟨v0,v1,v2,v3,v4,v5⟩,⟨b0,b1,b2,b3,b4,b5⟩,rfl,rfl,fun j y u ey eu=>?_⟩
 match j,ey,eu with
 |0,ey,eu=>cases ey;cases eu;exact ag8 rfl r0
 |1,ey,eu=>cases ey;cases eu;exact r1.2.2 0 _ _ rfl rfl
 |2,ey,eu=>cases ey;cases eu;exact r1.2.2 1 _ _ rfl rfl
 |3,ey,eu=>cases ey;cases eu;exact ag8 rfl r2
 |4,ey,eu=>cases ey;cases eu;exact ag8 rfl r3
 |5,ey,eu=>cases ey;cases eu;exact ag8 rfl r4
 |6,ey,eu=>cases ey;cases eu;exact ag8 rfl r5
 |j+7,ey,eu=>cases ey
def ep1(x:Idn):Prop:=QB x.pepper.length/\(QB x.sess.length/\ ∀y∈x.sess,eg5 y)/\(QB x.users.length/\ ∀y∈x.users,eg4 y)/\(QB x.bonds.length/\ ∀y∈x.bonds,eg7 y)/\(QB x.plgs.length/\ ∀y∈x.plgs,eg6 y)
theorem ek1:Tryz.prog.cellsOf 27=6:=by kernel_rfl
theorem da0(n:Nat):aP2 DB enc Tryz.prog W n 27 ae0 ep1:=fun m cs x hm hx hd=>by
 obtain⟨xs,n',rfl,rfl,hl,hxl,hf⟩:=DataW.trod_struct Tryz.underlying27 hx;rw[ek1] at hl;have h0:DataW.trod enc Tryz.prog W 0 (fun _=>true) true n' 3 ((cs.drop 0).take (Tryz.prog.cellsOf 3))=xs[0]?:=hf 0 _ rfl
 rw[bm7] at h0;have h1:DataW.trod enc Tryz.prog W 0 (fun _=>true) true n' 9 ((cs.drop 1).take (Tryz.prog.cellsOf 9))=xs[1]?:=hf 1 _ rfl
 rw[aK7] at h1;have h2:DataW.trod enc Tryz.prog W 0 (fun _=>true) true n' 22 ((cs.drop 2).take (Tryz.prog.cellsOf 22))=xs[2]?:=hf 2 _ rfl
 rw[cX0] at h2;have h3:DataW.trod enc Tryz.prog W 0 (fun _=>true) true n' 23 ((cs.drop 3).take (Tryz.prog.cellsOf 23))=xs[3]?:=hf 3 _ rfl
 rw[dW8] at h3;have h4:DataW.trod enc Tryz.prog W 0 (fun _=>true) true n' 24 ((cs.drop 4).take (Tryz.prog.cellsOf 24))=xs[4]?:=hf 4 _ rfl
 rw[dW9] at h4;have h5:DataW.trod enc Tryz.prog W 0 (fun _=>true) true n' 25 ((cs.drop 5).take (Tryz.prog.cellsOf 25))=xs[5]?:=hf 5 _ rfl
 rw[di3] at h5;obtain⟨x0,x1,x2,x3,x4,x5,rfl⟩: ∃x0 x1 x2 x3 x4 x5,xs=[x0,x1,x2,x3,x4,x5]:=by
  match xs,hxl with
  |[y0,y1,y2,y3,y4,y5],_=>exact⟨y0,y1,y2,y3,y4,y5,rfl⟩
 obtain⟨k0,k1,k2,k3,k4,k5,rfl⟩: ∃k0 k1 k2 k3 k4 k5,cs=[k0,k1,k2,k3,k4,k5]:=by
  match cs,hl with
  |[y0,y1,y2,y3,y4,y5],_=>exact⟨y0,y1,y2,y3,y4,y5,rfl⟩
 have hp:=bs8 hd;obtain⟨v0,b0,r0⟩:=aC8 (enc:=enc) (w:=W) n' Tryz.underlying3 n' _ _ (xq0 _) h0;obtain⟨v1,b1,r1⟩:=ao2 (enc:=enc) (W:=W) n' n' _ _ (xq0 _) h1 (hp _ (by simp))
 obtain⟨v2,⟨_,b2⟩,r2⟩:=aM3 qb0 bj4 Tryz.underlying22 di2 (by decide) (cS5 (enc:=enc) (W:=W) n') n' _ _ (bt6 _) h2 (hp _ (by simp))
 obtain⟨v3,⟨_,b3⟩,r3⟩:=aM3 qb0 bj4 Tryz.underlying23 dJ8 (by decide) (c97 (enc:=enc) (W:=W) n') n' _ _ (bt6 _) h3 (hp _ (by simp))
 obtain⟨v4,⟨_,b4⟩,r4⟩:=aM3 qb0 bj4 Tryz.underlying24 dK0 (by decide) (da1 (enc:=enc) (W:=W) n') n' _ _ (bt6 _) h4 (hp _ (by simp))
 obtain⟨v5,⟨_,b5⟩,r5⟩:=aM3 qb0 bj4 Tryz.underlying25 dJ9 (by decide) (c99 (enc:=enc) (W:=W) n') n' _ _ (bt6 _) h5 (hp _ (by simp))
 refine⟨⟨v0,v1,v2,v3,v4,v5⟩,⟨b1,b2,b3,b4,b5⟩,rfl,rfl,fun j y u ey eu=>?_⟩
 match j,ey,eu with
 |0,ey,eu=>cases ey;cases eu;exact ag8 rfl r0
 |1,ey,eu=>cases ey;cases eu;exact ag8 rfl r1
 |2,ey,eu=>cases ey;cases eu;exact ag8 rfl r2
 |3,ey,eu=>cases ey;cases eu;exact ag8 rfl r3
 |4,ey,eu=>cases ey;cases eu;exact ag8 rfl r4
 |5,ey,eu=>cases ey;cases eu;exact ag8 rfl r5
 |j+6,ey,eu=>cases ey
theorem ek0:Tryz.prog.cellsOf 28=2:=by kernel_rfl
theorem c98(n:Nat):a98 enc Tryz.prog W n 28 (fun p:Int×Int=>.agg [.lit (.int .i64 p.1),.lit (.int .i64 p.2)]) (fun p=>(IntKind.i64.min<=p.1/\p.1<=IntKind.i64.max)/\(IntKind.i64.min<=p.2/\p.2<=IntKind.i64.max)):=fun m cs x hm hx=>by
 obtain⟨xs,n',rfl,rfl,hl,hxl,hf⟩:=DataW.trod_array Tryz.underlying28 hx;have hl:=hl.trans ek0;have h0:DataW.trod enc Tryz.prog W 0 (fun _=>true) true n' 3 ((cs.drop (0*Tryz.prog.cellsOf 3)).take (Tryz.prog.cellsOf 3))=xs[0]?:=hf 0 (by decide)
 have h1:DataW.trod enc Tryz.prog W 0 (fun _=>true) true n' 3 ((cs.drop (1*Tryz.prog.cellsOf 3)).take (Tryz.prog.cellsOf 3))=xs[1]?:=hf 1 (by decide)
 clear hf hx;rw[bm7] at h0 h1;obtain⟨x0,x1,rfl⟩: ∃x0 x1,xs=[x0,x1]:=by
  match xs,hxl with
  |[a,b],_=>exact⟨a,b,rfl⟩
 obtain⟨k0,k1,rfl⟩: ∃a b,cs=[a,b]:=by
  match cs,hl with
  |[a,b],_=>exact⟨a,b,rfl⟩
 obtain⟨a,p0,r0⟩:=aC8 (enc:=enc) (w:=W) (n'+1) Tryz.underlying3 n' _ _ (bt6 _) h0;obtain⟨b,p1,r1⟩:=aC8 (enc:=enc) (w:=W) (n'+1) Tryz.underlying3 n' _ _ (bt6 _) h1;refine⟨(a,b),⟨p0,p1⟩,rfl,rfl,fun j y u ey eu=>?_⟩
 match j,ey,eu with
 |0,ey,eu=>cases ey;cases eu;exact ag8 rfl r0
 |1,ey,eu=>cases ey;cases eu;exact ag8 rfl r1
 |j+2,ey,eu=>cases ey
end
end As
end
section
open Go Go.ChangeShapes Go.WideShapes Go.ChangeAt Go.RowKit
theorem cR8:laidOutB Tryz.prog=true:=by kernel_rfl
theorem dO0:mapsRowed Tryz.prog=true:=by kernel_rfl
theorem dp9:(Tryz.prog.stops==[])=true:=by kernel_rfl
theorem dq1:(Tryz.prog.stopKnobs==[])=true:=by kernel_rfl
theorem dO1:(true==Tryz.prog.plainKeys)=true:=by kernel_rfl
theorem dq2:Tryz.prog.stopsHeard=true:=by kernel_rfl
theorem dq3:Tryz.prog.mayEnter=true:=by kernel_rfl
theorem dq0:(false==Tryz.prog.liftsFinal)=true:=by kernel_rfl
theorem de7{P:Program}{f:FuncId}{fn:Func}{s:ChangeSpec}{c:OpenClaim}(h1:c.wf (OpenSpec.ofChange s)=true)(h2:laidOutB P=true)(h3:mapsRowed P=true)(h4:fn.params.all (P.readableRec ·)=true)(h5:namedTie P c.named s.vars=true)
  (h6:(c.stops==[])=true) (h7:(P.stops==[])=true) (h8:(c.knobs==[])=true) (h9:(P.stopKnobs==[])=true) (h10:(c.inPlace==P.inPlace f)=true) (h11:(c.unfollowed==P.unfollowed f)=true) (h12:(c.recurses==P.recurses f)=true) (h13:(c.named==P.varsNamed f)=true)
  (h14:((c.maps==(fn.params.toList++s.plain.varTypes P).any (P.mapsRec ·))&&(c.ifaces==(fn.params.toList++s.plain.varTypes P).any (P.ifacesRec ·))&&(c.mapsOut==P.mapsAmong fn.resultTypes.toList))=true)
  (h15:((c.loops==(fn.params.toList++s.plain.varTypes P).any (P.loopsFrom ·))&&(c.wideKeys==(fn.params.toList++s.plain.varTypes P++fn.resultTypes.toList).any (P.wideKeysFrom ·)))=true)
  (h16:(s.vars.all (P.varReadable ·)&&fn.resultTypes.all (fun t=>P.readableRec t&&decide (t < P.types.size))&&(c.ifacesOut==fn.resultTypes.toList.any (P.ifacesRec ·))&&(c.loopsOut==fn.resultTypes.toList.any (P.loopsFrom ·)))=true)
  (h17:(c.plainKeys==P.plainKeys)=true) (h18:c.shortTexts.isNone=true) (h19:P.stopsHeard=true) (h20:P.mayEnter=true) (h21:(c.lifted==P.liftsFinal)=true) (h22:(P.make==some c.make)=true)
  (h23:(c.kinds==(if c.domain.isEmpty then[] else fn.params.toList.map fun t=>match P.underlying t with|some (.int k)=>some k|_=>none))=true) (h24:(c.pinned==c.pinnedBy)=true)
  (h25:(c.veiled==(fn.params.toList++s.plain.varTypes P++fn.resultTypes.toList).any (P.veiledRec ·))=true) (h26:c.veiledFits P fn.params.toList (fn.params.toList++s.plain.varTypes P++fn.resultTypes.toList)=true):joinedFacts P f fn s c=true:=by
 simp only[Bool.and_eq_true] at h14 h15 h16;obtain⟨⟨a1,a2⟩,a3⟩:=h14;obtain⟨b1,b2⟩:=h15;obtain⟨⟨⟨c1,c2⟩,c3⟩,c4⟩:=h16;simp only[joinedFacts,Bool.and_eq_true];exact⟨⟨⟨⟨⟨⟨⟨⟨⟨⟨⟨⟨⟨⟨⟨⟨⟨⟨⟨⟨⟨⟨⟨⟨⟨⟨⟨⟨⟨⟨⟨h1,h2⟩,h3⟩,h4⟩,h5⟩,h6⟩,h7⟩,h8⟩,h9⟩,h10⟩,h11⟩,h12⟩,h13⟩,a1⟩,a2⟩,a3⟩,b1⟩,b2⟩,c1⟩,c2⟩,c3⟩,c4⟩,h17⟩,h18⟩,h19⟩,h20⟩,h21⟩,h22⟩,h23⟩,h24⟩,h25⟩,h26⟩
def bI3:List Nat->Bool
 |a::b::r=>Nat.blt a b&&bI3 (b::r)
 |_=>true
theorem cJ9: ∀{l:List Nat},bI3 l=true->l.Pairwise (· < ·)
 |[],_=>.nil
 |[a],_=>List.pairwise_singleton _ _
 |a::b::r,h=>by
  simp only[bI3,Bool.and_eq_true,Nat.blt_eq] at h;have ih:=cJ9 h.2;refine List.pairwise_cons.2 ⟨fun c hc=>?_,ih⟩
  rcases List.mem_cons.1 hc with rfl|hc
  ·exact h.1
  ·exact Nat.lt_trans h.1 ((List.pairwise_cons.1 ih).1 c hc)
theorem cU1{α:Type}(key:α->Nat){l:List α}(h:bI3 (l.map key)=true):l.Nodup:=by
 have:=cJ9 h;rw[List.pairwise_map] at this;exact this.imp fun hlt e=>by rw[e] at hlt;exact Nat.lt_irrefl _ hlt
def dJ0(bs:List Nat):MemPlace->Nat
 |.cell b off=>(bs.findIdx fun x=>Nat.beq x b)*65536+off
 |.map b=>(bs.findIdx fun x=>Nat.beq x b)*65536
theorem cs6{P:Program}{w:World}{l:List (String×DataW Unit)}(fuel:Nat)(key:MemPlace->Nat)(h:(DataW.laidRun P w fuel (l.map (·.1))).map (·.1)=some l)
  (hk:(DataW.laidRun P w fuel (l.map (·.1))).map (fun x=>bI3 (x.2.map key))=some true) (hr:(DataW.laidRun P w fuel (l.map (·.1))).map (fun x=>laidRowsB P w x.2)=some true):laidMet P l w:=by
 cases hx:DataW.laidRun P w fuel (l.map (·.1)) with
 |none=>simp[hx] at h
 |some x=>
  obtain⟨l',ps⟩:=x;simp only[hx,Option.map_some,Option.some.injEq] at h hr hk;subst h;exact laidMet_of_run fuel hx (decide_eq_true (cU1 key hk)) hr
theorem df8{P:Program}(h:(P.funcs.toList.all fun fn=>!fn.goes)=true)(f:FuncId):P.goes f=false:=by
 have h1: ∀fn∈P.funcs.toList,fn.goes=false:=fun fn hf=>by have:=List.all_eq_true.1 h fn hf;rwa [Bool.not_eq_true'] at this
 have h2: ∀g:FuncId,(P.funcs[g]?).any Func.goes=false:=fun g=>by
  cases e:P.funcs[g]? with
  |none=>rfl
  |some fn=>exact h1 fn (Array.mem_toList_iff.2 (Array.mem_of_getElem? e))
 have h3:P.funcs.any Func.goes=false:=by
  rw[<-Array.any_toList];exact List.any_eq_false.2 fun fn hf=>by rw[h1 fn hf];exact Bool.false_ne_true
 unfold Program.goes;rw[h3,Bool.and_false,Bool.or_false];exact List.any_eq_false.2 fun g _=>by rw[h2 g];exact Bool.false_ne_true
theorem cD0{P:Program}(h:(P.funcs.toList.all fun fn=>!fn.goes)=true){c:OpenClaim}(hs:c.start=.entering):false=c.goesBy P:=by
 unfold OpenClaim.goesBy Program.goesAt Program.goesFrom;rw[hs];cases P.funcNamed c.func with
 |none=>rfl
 |some f=>show false=(P.goes f||false);rw[df8 h];rfl
theorem dO2:(Tryz.prog.funcs.toList.all fun fn=>!fn.goes)=true:=by kernel_rfl
end
end Go.Proofs.YtdkpdjfimckdgaaGreatDoor
