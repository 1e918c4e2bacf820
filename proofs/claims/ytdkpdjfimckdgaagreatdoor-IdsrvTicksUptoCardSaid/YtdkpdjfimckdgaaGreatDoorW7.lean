/- The identity server's records, read. -/
import Derived.Test.YtdkpdjfimckdgaaGreatDoorW6
import Derived.Test.YtdkpdjfimckdgaaGreatDoorW4
import Derived.Test.YtdkpdjfimckdgaaGreatDoorW5
set_option linter.unusedVariables false
set_option linter.unusedSimpArgs false
set_option maxRecDepth 10000
set_option maxHeartbeats 4000000
namespace Go.Proofs.YtdkpdjfimckdgaaGreatDoor
section
open Go V
namespace As
theorem dw0{m:Nat}{x:AV}(h:Low m x:=by(first|(first|exact .lit _|exact .str _|exact .any|exact ac8|exact ad1|exact .mp _ _ (by omega)|exact .msl _ _ _ _ (by omega)|exact ac1 (fun k e=>by cases e)|exact ab1 _|exact ae4|exact ae7|exact af2|exact af1 _|exact ab5|exact ab2)|(refine ae2 ?_;repeat(first|exact aa4|(refine o9 ?_ ?_;focus(first|exact .lit _|exact .str _|exact .any|exact ac8|exact ad1|exact .mp _ _ (by omega)|exact .msl _ _ _ _ (by omega)|exact ac1 (fun k e=>by cases e)|exact ab1 _|exact ae4|exact ae7|exact af2|exact af1 _|exact ab5|exact ab2))))|(refine am9 ?_;repeat(first|exact aa4|(refine o9 ?_ ?_;focus(first|exact .lit _|exact .str _|exact .any|exact ac8|exact ad1|exact .mp _ _ (by omega)|exact .msl _ _ _ _ (by omega)|exact ac1 (fun k e=>by cases e)|exact ab1 _|exact ae4|exact ae7|exact af2|exact af1 _|exact ab5|exact ab2)))))):Low m x:=h
theorem bm8{H₀ H:List AObj}{R:AV->List AObj->Prop}{x:AV}{k:Nat}{sh:Shape}{cs:List AV}(hk:H[k]?=some (.cells sh cs))(hr:Done H₀ R x (H.set k .gone)):Done H₀ R x H:=by
 unfold Done at hr⊢;obtain⟨y,H'',he,hR⟩:=hr;refine⟨y,H'',be3 (fun G₀ w₀ G w v h0 hi hst r=>?_) he,hR⟩
 obtain⟨hi',st'⟩:=bB4 hi hk;exact⟨_,hi',hst.trans st',r.mono st'⟩
def az1(l:List JV):List AV:=[.sl .sh 5 (l.map jAV)]
theorem cj7{k:Nat}{sh:Shape}(l:List JV)(H:List AObj)(hk:H[k]?=some (.cells sh (az1 l)))(hl:l.length<=100000):o7 Tryz.prog 265 [.mp k 0] H (fun y H'=>y=jAV (l.headD aa9)/\H'=H.set k (.cells sh (az1 l.tail))):=by
 have hkl:=aa0 hk;unfold az1 at*;cases l with
 |nil=>
  have hs:H.set k (.cells sh [.sl .sh 5 (([]:List JV).tail.map jAV)])=H:=ba2 hk;rw[hs];rw[List.map_nil] at hk;refine o8 [1000002,1000002010012] [.cell 2 35] 24 Tryz.func265 ?_;repeat' first|refine l9 ?_|simp -dsimp -implicitDefEqProofs (disch:=first|assumption|simp only[ll];omega) only[go_sem,hk]
  exact aa1 (jAV aa9) (jle 0 0 [] [] (o:=.sh) ab7 ab7) (ab1 _) ⟨rfl,rfl⟩
 |cons v r=>
  have hp:(0 < (r.length:Int)+1)=True:=eq_true (by omega)
  have hp2:(0 < ((r.length+1:Nat):Int))=True:=eq_true (by omega)
  rw[List.map_cons] at hk;refine o8 [1000002,1000002010012] [.cell 2 35] 24 Tryz.func265 ?_;repeat' first|refine l9 ?_|simp -dsimp -implicitDefEqProofs (disch:=first|assumption|omega|simp only[ll];omega) only[go_sem,hk,hp,hp2,ao5,an7,List.drop_zero,an6]|refine vcA ?_ ?_|omega
  exact aS6 (ab1 _) (fun sh cs e=>by cases e;exact o9 ab5 aa4) ⟨rfl,rfl⟩
theorem cj5{k:Nat}{sh:Shape}(l:List JV)(H:List AObj)(hk:H[k]?=some (.cells sh (az1 l)))(hl:l.length<=100000):o7 Tryz.prog 188 [.mp k 0] H (fun y H'=>y=.str (l.headD aa9).text/\H'=H.set k (.cells sh (az1 l.tail))):=by
 have c:=cj7 l H hk hl;rw[az6] at c;refine o8 [] [.tmp 2] 6 Tryz.func188 ?_;repeat' first|simp -dsimp -implicitDefEqProofs (disch:=omega) only[go_sem]|refine l7 (c) ?_|fail
 exact aa5 _ (Le.refl _) (by rw[List.length_set];exact xq0 _) ⟨rfl,rfl⟩
theorem cp9{k:Nat}{sh:Shape}(l:List JV)(H:List AObj)(hk:H[k]?=some (.cells sh (az1 l)))(hl:l.length<=100000):o7 Tryz.prog 187 [.mp k 0] H (fun y H'=>y=.lit (.int .i64 (l.headD aa9).num)/\H'=H.set k (.cells sh (az1 l.tail))):=by
 have c:=cj7 l H hk hl;rw[az6] at c;refine o8 [] [.tmp 2] 6 Tryz.func187 ?_;repeat' first|simp -dsimp -implicitDefEqProofs (disch:=omega) only[go_sem]|refine l7 (c) ?_|fail
 exact aa5 _ (Le.refl _) (by rw[List.length_set];exact xq0 _) ⟨rfl,rfl⟩
theorem dw3{m k s:Nat}{l:List bytes}(h:k < m):Low m (.sl (.tok k) s (l.map .str)):=.sl _ _ _ (fun j e=>by cases e;exact h) be5
theorem dw5{m:Nat}{l:List JV}:aM9 m (az1 l):=o9 ab5 aa4
theorem dL9{k:Nat}{sh:Shape}(l:List JV)(H:List AObj)(hk:H[k]?=some (.cells sh (az1 l)))(hl:l.length<=100000)(hi:(l.headD aa9).items.length<=100000):o7 Tryz.prog 190 [.mp k 0] H (fun y H'=>y=.sl .sh 1 ((aQ3 (l.headD aa9)).map .str)/\H'=H.set k (.cells sh (az1 l.tail))):=by
 have hkl:=aa0 hk;have c:=cj7 l H hk hl;rw[az6] at c;unfold aQ3;have hL: ∀o:AObj,(H.set k o).length=H.length:=fun o=>List.length_set
 generalize (l.headD aa9).items=it at*;refine o8 [] [.tmp 2] 21 Tryz.func190 ?_;repeat' first|simp -dsimp -implicitDefEqProofs only[go_sem]|refine l7 (c) ?_|fail
 refine bt1 3 1 rfl (by decide) (fun h=>absurd rfl h) ?_
 rw[hL];refine aa7 ab6 mixed [] [2,8,9] (fun i:Nat=>i<=it.length) (fun i=>[(10,.lit (.int .i64 (i:Int))),(3,.sl (.tok H.length) 1 (((it.take i).map JV.text).map .str))]) (fun i=>H.set k (.cells sh (az1 l.tail))++[.grow 1 i none]) (fun i=>it.length - i) (by kernel_rfl) ?_ 0 (by omega) aa3 rfl
 intro i hi;by_cases h:i < it.length
 ·have hc:((i:Int) < (it.length:Int))=True:=eq_true (by omega)
  have hm:((it.take i).map JV.text).map AV.str++[.str (it.getD i aa9).text]=((it.take (i+1)).map JV.text).map .str:=by
   rw[bn9 h,aJ3,aJ3,List.getD,xq1 h];rfl
  have hl0:(((it.take i).map JV.text).map AV.str).length=i:=by simp;omega
  have hat: ∀(o x:AObj) (M:List AObj),(H.set k o++x::M)[H.length]?=some x:=fun o x M=>by rw[xq5 (by rw[hL];exact xq0 _),hL,ao4];rfl
  have hat1: ∀(o x y:AObj) (M:List AObj),(H.set k o++x::y::M)[H.length+1]?=some y:=fun o x y M=>by rw[xq5 (by rw[hL];omega),hL,au2];rfl
  have hst: ∀(o x z:AObj) (M:List AObj),(H.set k o++x::M).set H.length z=H.set k o++z::M:=fun o x z M=>by rw[az0 _ _ (by rw[hL];exact xq0 _),hL,ao4];rfl
  have hst1: ∀(o x y z:AObj) (M:List AObj),(H.set k o++x::y::M).set (H.length+1) z=H.set k o++x::z::M:=fun o x y z M=>by rw[az0 _ _ (by rw[hL];omega),hL,au2];rfl
  generalize hL0:((it.take i).map JV.text).map AV.str=L0 at*;repeat' first|refine l9 ?_|simp -dsimp -implicitDefEqProofs (disch:=first|assumption|omega) only[go_sem,hc,hm,hl0,hL,hat,hat1,hst,hst1]|refine vcA ?_ ?_|omega
  refine ak5 (H.length+1) ([.cells (.one 35) [.lit (.int .i64 (it.getD i aa9).kind),.lit (.int .i64 (it.getD i aa9).num),.str (it.getD i aa9).text,.sl .sh 1 ((it.getD i aa9).names.map .str),.sl .sh 5 ((it.getD i aa9).items.map jAV)]]) (i+1) ?_ ?_ ?_ ?_ ?_ (by repeat(first|exact ae1|(refine ad3 ?_ ?_;focus(first|exact dw3 (by omega)|exact dw0)))) ?_ aa3
  ·omega
  ·omega
  ·simp
  ·simp
  ·simp
  ·exact aF4 fun o ho sh cs e=>by
    subst e;simp at ho
 ·obtain rfl:i=it.length:=by omega
  have hc:((it.length:Int) < (it.length:Int))=False:=eq_false (by omega)
  rw[aL1];repeat' first|refine l9 ?_|simp -dsimp -implicitDefEqProofs only[go_sem,hc]
  exact aW2 _ as4 (ab5 (f:=AV.str) (l:=it.map JV.text)) (fun sh cs e=>by cases e;exact dw5) ⟨rfl,rfl⟩
theorem dE6(l:List JV):atJ l 0=l.headD aa9:=by cases l<;>rfl
theorem bN2{o:Own}(b:bytes)(H:List AObj)(hb:b.length<=10000)(hl:(ai8 b).length<=100000):o7 Tryz.prog 186 [.sl o 1 (b.map o6)] H (fun y H'=>y=.tup [.str (atJ (ai8 b) 0).text,.mp (H.length+1) 0]/\H'=H++[.gone,.cells (.one 352) (az1 (ai8 b).tail)]):=by
 have c1:=fun H=>d06 b H hb
 rw[dE6];unfold ai8 at*;generalize bB9 b=p at*;unfold ar2 at c1;rw[az6] at c1;by_cases h0:p.2=0
 ·rw[if_pos h0] at hl⊢
  rw[h0] at c1;have c2:=fun v=>cj5 (k:=H.length+1) (sh:=.one 352) p.1.items (H++[v,.cells (.one 352) (az1 p.1.items)]) ao7 hl
  unfold az1 at*;refine o8 [16,20] [.tmp 2,.tmp 3] 24 Tryz.func186 ?_;repeat' first|refine l9 ?_|simp -dsimp -implicitDefEqProofs only[go_sem]|refine l7 (c1 _) ?_|refine l7 (c2 _) ?_|fail
  refine bm8 aH4 ?_;rw[aP0,List.set_cons_zero];exact aq9 ⟨rfl,rfl⟩
 ·rw[if_neg h0]
  have f0:=eq_false h0;refine o8 [16,20] [.tmp 2,.tmp 3] 24 Tryz.func186 ?_;repeat' first|refine l9 ?_|simp -dsimp -implicitDefEqProofs only[go_sem,f0]|refine l7 (c1 _) ?_|fail
  refine bm8 aH4 ?_;rw[aP0,List.set_cons_zero];have e:H++[AObj.gone,AObj.cells (.one 352) [.sl .full 0 []]]=(H++[AObj.gone,AObj.cells (.one 352) [.sl .full 0 []]]).set (H.length+1) (AObj.cells (.one 352) [.sl .full 0 []]):=by rw[an1];rfl
  rw[e];refine bP2 (az1 []) (by simp) (LeAll.cons ab7 LeAll.nil) ?_
  rw[an1];exact aq9 ⟨rfl,rfl⟩
end As
end
section
open Go V
namespace As
theorem aS5{L:List JV}{i:Nat}:(L.drop i).headD aa9=atJ L i:=by
 unfold atJ;rw[List.getD,<-List.head?_drop];cases L.drop i<;>rfl
structure ReadOk(b:bytes):Prop where
 len:b.length<=10000
 items:(ai8 b).length<=100000
 l1:(atJ (ai8 b) 13).items.length<=100000
 l2:(atJ (ai8 b) 14).items.length<=100000
 l3:(atJ (ai8 b) 17).items.length<=100000
 size:aF1 (bP6 (bn5 (ai8 b)))<=39999
def bh9(p:Ask×Int):AV:=.tup [ai1 p.1,.lit (.int .i64 p.2)]
instance dat_readAV (p:Ask×Int):Dat (bh9 p):=inferInstanceAs (Dat (.tup [ai1 p.1,.lit (.int .i64 p.2)]))
def aP3:List AV:=[.lit (.int .i64 0),.str [],.str [],.str [],.str [],.str [],.str [],.str [],.lit (.int .i64 0),.lit (.int .i64 0),.str [],.lit (.int .i64 0),.sl .full 0 [],.sl .full 0 [],.str [],.str [],.sl .full 0 []]
theorem dx3:LeAll aP3 (ai1 bt4).flat:=by
 unfold aP3 ai1;repeat(first|exact LeAll.nil|(refine LeAll.cons ?_ ?_;focus(first|exact Le.refl _|exact ab7)))
theorem cI9{e:Int}:Le (.tup [.agg aP3,.lit (.int .i64 e)]) (bh9 (bt4,e)):=ad6 (ak3 dx3) (Le.refl _)
theorem d03{o:Own}(b:bytes)(H:List AObj)(hb:ReadOk b):o7 Tryz.prog 103 [.sl o 1 (b.map o6)] H (fun y H'=>y=bh9 (aG6 b)/\H'=H):=by
 obtain⟨h1,h2,h3,h4,h5,h6⟩:=hb;have c1:=bN2 (o:=o) b (H++[.cells (.one 53) aP3]) h1 h2;have hl1:(H++[AObj.cells (.one 53) aP3]).length=H.length+1:=by simp
 rw[hl1,List.append_assoc,List.singleton_append,<-List.drop_one] at c1;unfold aG6;generalize hL:ai8 b=L at*;have dl: ∀i,(L.drop i).length<=100000:=fun i=>by rw[List.length_drop];omega
 have ct:=fun i M=>cj5 (k:=H.length+2) (sh:=.one 352) (L.drop i) (H++ .cells (.one 53) aP3::.gone::.cells (.one 352) (az1 (L.drop i))::M) ao7 (dl i)
 have cn:=fun i M=>cp9 (k:=H.length+2) (sh:=.one 352) (L.drop i) (H++ .cells (.one 53) aP3::.gone::.cells (.one 352) (az1 (L.drop i))::M) ao7 (dl i)
 have cx:=fun i M hi=>dL9 (k:=H.length+2) (sh:=.one 352) (L.drop i) (H++ .cells (.one 53) aP3::.gone::.cells (.one 352) (az1 (L.drop i))::M) ao7 (dl i) hi
 simp only[aS5] at cx;have ct:=fun i M=>(ct i M).mono (R':=fun y H'=>y=.str (atJ L i).text/\H'=H++ .cells (.one 53) aP3::.gone::.cells (.one 352) (az1 (L.drop (i+1)))::M) fun y H' ⟨e1,e2⟩=>⟨e1.trans (by rw[aS5]),e2.trans (by rw[an1,bL2];rfl)⟩
 have cn:=fun i M=>(cn i M).mono (R':=fun y H'=>y=.lit (.int .i64 (atJ L i).num)/\H'=H++ .cells (.one 53) aP3::.gone::.cells (.one 352) (az1 (L.drop (i+1)))::M) fun y H' ⟨e1,e2⟩=>⟨e1.trans (by rw[aS5]),e2.trans (by rw[an1,bL2];rfl)⟩
 have cx:=fun i M hi=>(cx i M hi).mono (R':=fun y H'=>y=.sl .sh 1 ((aQ3 (atJ L i)).map .str)/\H'=H++ .cells (.one 53) aP3::.gone::.cells (.one 352) (az1 (L.drop (i+1)))::M) fun y H' ⟨e1,e2⟩=>⟨e1.trans (by try rw[aS5]),e2.trans (by rw[an1,bL2];rfl)⟩
 have c13:=fun M=>cx 13 M h3
 have c14:=fun M=>cx 14 M h4
 have c17:=fun M=>cx 17 M h5
 clear cx;have hA:bn5 L=⟨(atJ L 1).num,(atJ L 2).text,(atJ L 3).text,(atJ L 4).text,(atJ L 5).text,(atJ L 6).text,(atJ L 7).text,(atJ L 8).text,(atJ L 9).num,(atJ L 10).num,(atJ L 11).text,(atJ L 12).num,aQ3 (atJ L 13),aQ3 (atJ L 14),(atJ L 15).text,(atJ L 16).text,aQ3 (atJ L 17)⟩:=rfl;have c2:=fun H=>cy0 (bn5 L) H h6 (by rw[hA];unfold aQ3;simp;omega) (by rw[hA];unfold aQ3;simp;omega) (by rw[hA];unfold aQ3;simp;omega)
 generalize am8 (bn5 L)=q at*;unfold bB3 at c2;rw[hA] at c2;unfold ai1 at c2;dsimp only at c2;unfold aP3 at*;by_cases h0:q.2=0
 ·have f0:=eq_true h0
  by_cases hq:q.1=b
  ·have fq:=eq_true hq
   rw[if_pos ⟨h0,hq⟩];refine o8 [] [.cell 2 53,.tmp 3] 67 Tryz.func103 ?_;repeat' first|refine l9 ?_|simp -dsimp -implicitDefEqProofs only[go_sem,f0,fq,hL,ao5,an7,List.drop_zero,an6]|refine l7 (c1) ?_|refine l7 (ct _ _) ?_|refine l7 (cn _ _) ?_|refine l7 (c13 _) ?_|refine l7 (c14 _) ?_|refine l7 (c17 _) ?_|refine l7 (c2 _) ?_|fail
   exact aa1 (bh9 (bn5 L,0)) (Le.refl _) ab2 ⟨rfl,rfl⟩
  ·have fq:=eq_false hq
   rw[if_neg fun h=>hq h.2]
   refine o8 [] [.cell 2 53,.tmp 3] 67 Tryz.func103 ?_;repeat' first|refine l9 ?_|simp -dsimp -implicitDefEqProofs only[go_sem,f0,fq,hL,ao5,an7,List.drop_zero,an6]|refine l7 (c1) ?_|refine l7 (ct _ _) ?_|refine l7 (cn _ _) ?_|refine l7 (c13 _) ?_|refine l7 (c14 _) ?_|refine l7 (c17 _) ?_|refine l7 (c2 _) ?_|fail
   exact aa1 (bh9 (bt4,2)) cI9 ab2 ⟨rfl,rfl⟩
 ·have f0:=eq_false h0
  rw[if_neg fun h=>h0 h.1]
  refine o8 [] [.cell 2 53,.tmp 3] 67 Tryz.func103 ?_;repeat' first|refine l9 ?_|simp -dsimp -implicitDefEqProofs only[go_sem,f0,hL,ao5,an7,List.drop_zero,an6]|refine l7 (c1) ?_|refine l7 (ct _ _) ?_|refine l7 (cn _ _) ?_|refine l7 (c13 _) ?_|refine l7 (c14 _) ?_|refine l7 (c17 _) ?_|refine l7 (c2 _) ?_|fail
  exact aa1 (bh9 (bt4,2)) cI9 ab2 ⟨rfl,rfl⟩
end As
end
section
open Go V
namespace As
def zWr:Int×bytes:=(0,au4)
def al8(s:bytes):AV:=.agg (s.map o6)
def aG3(w:Int×bytes):AV:=.agg (.lit (.int .i64 w.1)::w.2.map o6)
def ae6(d:Dk):AV:=.agg [.sl .sh 128 (d.secs.map al8),.sl .sh 129 (d.loose.map aG3),.lit (.int .i64 d.fuse),.lit (.bool d.down)]
theorem dy8{l:List bytes}{i:Nat}(h:i < l.length):(l.map al8).getD i .any=.agg ((l.getD i au4).map o6):=getD_map _ _ h
theorem cK2{l:List (Int×bytes)}{i:Nat}(h:i < l.length):(l.map aG3).getD i .any=.agg (.lit (.int .i64 (l.getD i zWr).1)::(l.getD i zWr).2.map o6):=getD_map _ _ h
theorem eh5{w:Int×bytes}:aG3 w=.agg (.lit (.int .i64 w.1)::w.2.map o6):=rfl
instance dat_sec (s:bytes):Dat (al8 s):=inferInstanceAs (Dat (.agg (s.map o6)))
instance dat_wr (w:Int×bytes):Dat (aG3 w):=⟨fun _=>am9 (o9 (.lit _) (fun x hx=>by obtain⟨b,_,rfl⟩:=xq9.1 hx;exact .lit _))⟩
instance dat_dk (d:Dk):Dat (ae6 d):=inferInstanceAs (Dat (.agg [.sl .sh 128 (d.secs.map al8),.sl .sh 129 (d.loose.map aG3),.lit (.int .i64 d.fuse),.lit (.bool d.down)]))
theorem bq6{l:List bytes}(h: ∀s∈l,s.length=128): ∀y∈l.map al8,y.flat.length=128/\y.okv=true:=fun y hy=>by
 obtain⟨x,hx,rfl⟩:=xq9.1 hy;exact⟨by show (x.map o6).length=_;rw[List.length_map];exact h x hx,ao3⟩
structure WfK(d:Dk):Prop where
 secs: ∀s∈d.secs,s.length=128
 loose: ∀w∈d.loose,w.2.length=128
 n:d.secs.length<=100000
 m:d.loose.length<=100000
 f: -9223372036854775808<=d.fuse/\d.fuse < 9223372036854775808
theorem bM0(d:Dk)(i:Int)(H:List AObj):o7 Tryz.prog 181 [ae6 d,.lit (.int .i64 i)] H (fun y H'=>y=.bool (av5 d i)/\H'=H):=by
 unfold av5 ae6;by_cases h:0<=i
 ·have h1:=eq_true h
  refine o8 [] [.tmp 4] 14 Tryz.func181 ?_;repeat' first|refine l9 ?_|simp -dsimp -implicitDefEqProofs (disch:=omega) only[go_sem,h1]
  exact o5 ⟨by simp[h],rfl⟩
 ·have h1:=eq_false h
  refine o8 [] [.tmp 4] 14 Tryz.func181 ?_;repeat' first|refine l9 ?_|simp -dsimp -implicitDefEqProofs only[go_sem,h1]
  exact o5 ⟨by simp[h],rfl⟩
theorem dG6{o:Own}(g:FuncId)(cs:List AV)(p:Int×bytes->Bool)(l:List (Int×bytes))(H:List AObj)(hl:l.length<=1100000)(hw: ∀x∈l,x.2.length=128)(hp: ∀x∈l,o7 Tryz.prog g (aG3 x::cs) H (fun y H'=>y=.bool (p x)/\H'=H)):
  o7 Tryz.prog 261 [.sl o 129 (l.map aG3),.fn (.func g) [] cs] H (fun x H'=>x=.int .i64 (aR4 l p)/\H'=H):=by
 refine o8 [] [.tmp 4] 19 Tryz.func261 ?_;repeat' simp -dsimp -implicitDefEqProofs only[go_sem]
 refine aa7 ab6 mixed [] [0,1,7] (fun i:Nat=>i<=l.length/\ ∀j,j < i->p (l.getD j zWr)=false) (fun i=>[(8,.int .i64 i)]) (fun _=>H) (fun i=>l.length - i) (by kernel_rfl) ?_ 0 ⟨by omega,fun j hj=>by omega⟩ aa3 rfl
 rintro i ⟨hi,hq⟩
 have hlen:i < l.length->(l.getD i zWr).2.length=128:=fun h=>hw _ (ag9 h)
 repeat' first|refine l9 ?_|simp -dsimp -implicitDefEqProofs (disch:=omega) only[go_sem,cK2,hlen]|refine l7 (hp _ (ag9 (by omega))) ?_|refine vcA ?_ ?_|omega|refine aa8 fun _=>?_
 ·rename_i h1 h2
  refine o5 ⟨int_eq ?_,rfl⟩;rw[aR4,bf3 (d:=zWr) (by omega) hq h2]
 ·rename_i h1 h2
  refine again (i+1) ?_ ?_ rfl aa3
  ·omega
  ·exact⟨by omega,upto_succ hq h2⟩
 ·obtain rfl:i=l.length:=by omega
  refine o5 ⟨int_eq ?_,rfl⟩;rw[aR4,bf2 (d:=zWr) hq]
theorem d20{o:Own}(g:FuncId)(cs:List AV)(p:Int×bytes->Bool)(l:List (Int×bytes))(H:List AObj)(hl:l.length<=1100000)(hw: ∀x∈l,x.2.length=128)(hp: ∀x∈l,o7 Tryz.prog g (aG3 x::cs) H (fun y H'=>y=.bool (p x)/\H'=H)):
  o7 Tryz.prog 179 [.sl o 129 (l.map aG3),.fn (.func g) [] cs] H (fun x H'=>x=.bool (l.any p)/\H'=H):=by
 refine o8 [] [.tmp 4] 9 Tryz.func179 ?_;repeat' first|simp -dsimp -implicitDefEqProofs only[go_sem]|refine l7 (dG6 g cs p l H hl hw hp) ?_|fail
 refine o5 ⟨ad5 ?_,rfl⟩;rw[bf7,decide_eq_true_eq,bI4]
theorem dS7(d:Dk)(w:Int×bytes)(H:List AObj)(hw:w.2.length=128):o7 Tryz.prog 180 [aG3 w,.ip (ae6 d)] H (fun y H'=>y=.bool (!av5 d w.1)/\H'=H):=by
 have c1:=fun H=>bM0 d w.1 H
 generalize av5 d w.1=b at*;rw[eh5];unfold ae6 at*;refine o8 [] [.tmp 3] 9 Tryz.func180 ?_;repeat' first|simp -dsimp -implicitDefEqProofs (disch:=omega) only[go_sem,hw,ao3]|refine l7 (c1 _) ?_|fail
 exact o5 ⟨rfl,rfl⟩
theorem bk4(d:Dk)(H:List AObj)(hd:WfK d):o7 Tryz.prog 95 [ae6 d] H (fun y H'=>y=.bool (aB4 d)/\H'=H):=by
 have c1:=fun H=>d20 (o:=.sh) 180 [.ip (ae6 d)] (fun w=>!av5 d w.1) d.loose H (by have:=hd.m;omega) hd.loose (fun x hx=>dS7 d x _ (hd.loose x hx))
 have hb:(d.loose.all fun w=>av5 d w.1)=!(d.loose.any fun w=>!av5 d w.1):=by rw[List.not_any_eq_all_not];simp
 unfold aB4;rw[hb];generalize (d.loose.any fun w=>!av5 d w.1)=b at*
 unfold ae6 at*;by_cases h1:d.secs.length < 1
 ·have f1:((d.secs.length:Int) < 1)=True:=eq_true (by omega)
  refine o8 [] [.tmp 2] 24 Tryz.func95 ?_;repeat' first|refine l9 ?_|simp -dsimp -implicitDefEqProofs (disch:=omega) only[go_sem,f1]
  exact o5 ⟨by rw[decide_eq_false (by omega)];rfl,rfl⟩
 have f1:((d.secs.length:Int) < 1)=False:=eq_false (by omega)
 by_cases h2:2048 < d.secs.length
 ·have f2:(2048 < (d.secs.length:Int))=True:=eq_true (by omega)
  refine o8 [] [.tmp 2] 24 Tryz.func95 ?_;repeat' first|refine l9 ?_|simp -dsimp -implicitDefEqProofs (disch:=omega) only[go_sem,f1,f2]
  exact o5 ⟨by rw[decide_eq_false (by omega)];rfl,rfl⟩
 have f2:(2048 < (d.secs.length:Int))=False:=eq_false (by omega)
 by_cases h3:4096 < d.loose.length
 ·have f3:(4096 < (d.loose.length:Int))=True:=eq_true (by omega)
  refine o8 [] [.tmp 2] 24 Tryz.func95 ?_;repeat' first|refine l9 ?_|simp -dsimp -implicitDefEqProofs (disch:=omega) only[go_sem,f1,f2,f3]
  exact o5 ⟨by rw[decide_eq_false (by omega)];rfl,rfl⟩
 have f3:(4096 < (d.loose.length:Int))=False:=eq_false (by omega)
 refine o8 [] [.tmp 2] 24 Tryz.func95 ?_;repeat' first|refine l9 ?_|simp -dsimp -implicitDefEqProofs (disch:=omega) only[go_sem,f1,f2,f3]|refine l7 (c1 _) ?_|fail
 exact o5 ⟨by rw[decide_eq_true (by omega),Bool.true_and],rfl⟩
end As
end
section
open Go V
namespace As
theorem cu8{H:List AObj}{k:Nat}{a a':AV}{r:List AV}(h:Frz1 H k a a'):Frz1 H k (.agg (a::r)) (.agg (a'::r)):=.agg _ _ rfl fun j c d e1 e2=>by
 cases j with
 |zero=>cases e1;cases e2;exact h
 |succ j=>
  rw[List.getElem?_cons_succ] at e1 e2;rw[e1] at e2;cases e2
  exact .keep _
theorem cM3{n m:Nat}{z:AV}(hm:0 < m):ag7 (List.replicate m z) (n*m)=List.replicate (n*m) z:=by
 unfold ag7;refine aW9 fun j=>?_
 rw[xq7,b29];by_cases h:j < n*m
 ·rw[aO4 h,if_pos h,List.length_replicate]
  have:=Nat.mod_lt j hm;simp[List.getD,b29,this]
 ·rw[aw1 (by simp;omega),if_neg h]
  rfl
theorem dg6{n m:Nat}{z:AV}:aa2 (List.replicate n (.agg (List.replicate m z)))=List.replicate (n*m) z:=by
 induction n with
 |zero=>simp[aa2]
 |succ n ih=>
  rw[cM7,ag6,ih,aA1,bt7,Nat.add_comm,<-bG0];rfl
theorem d27{n:Nat}(h:n<=2048):WfK ⟨List.replicate n au4,[],-1,false⟩:=⟨fun s hs=>(by rw[List.eq_of_mem_replicate hs];rfl),fun w hw=>(by cases hw),by rw[List.length_replicate];omega,aC0 _,by dsimp only;omega⟩
theorem en3:al8 au4=.agg (List.replicate 128 (.lit (.int .u8 0))):=by unfold al8 au4;rw[bL3];rfl
def dkE(p:Dk×Int):AV:=.tup [ae6 p.1,.lit (.int .i64 p.2)]
instance dat_dkE (p:Dk×Int):Dat (dkE p):=inferInstanceAs (Dat (.tup [ae6 p.1,.lit (.int .i64 p.2)]))
theorem ef6(n:Int)(H:List AObj):o7 Tryz.prog 33 [.lit (.int .i64 n)] H (fun y H'=>y=dkE (aJ7 n)/\H'=H):=by
 unfold aJ7;by_cases h:1<=n/\n<=2048
 ·rw[if_pos h]
  obtain⟨m,rfl⟩: ∃m:Nat,n=m:=⟨n.toNat,by omega⟩
  have f1:((m:Int) < 1)=False:=eq_false (by omega)
  have f2:(2048 < (m:Int))=False:=eq_false (by omega)
  have f3:(((128:Nat):Int)*(m:Int)<=281474976710656)=True:=eq_true (by omega)
  rw[Int.toNat_natCast];refine o8 [] [.cell 2 59,.tmp 3] 14 Tryz.func33 ?_;repeat' first|refine l9 ?_|simp -dsimp -implicitDefEqProofs (disch:=first|omega|simp only[ll];omega) only[go_sem,f1,f2,cM3]|refine vcA ?_ ?_|omega
  have hk:(H++[AObj.cells (.one 59) [.msl (H.length+1) 0 m m,.sl .full 0 [],.lit (.int .i64 (-1)),.lit (.bool false)],AObj.cells (.one 167) (List.replicate (m*128) (.lit (.int .u8 0)))])[H.length+1]?=some (AObj.cells (.one 167) (List.replicate (m*128) (.lit (.int .u8 0)))):=ao7;refine ap1 (H':=[]) hk (bO7 (cu8 (aN9 (s:=128) (xs:=(List.replicate m au4).map al8) hk (by simp) (bq6 fun s hs=>(by rw[List.eq_of_mem_replicate hs];rfl)) (by rw[bL3,en3,dg6,aF0 (by simp)])))) ?_
  rw[an1];exact aa1 (dkE (⟨List.replicate m au4,[],-1,false⟩,0)) (ad6 (ak3 (LeAll.cons (Le.refl _) (LeAll.cons ab7 (LeAll.cons (Le.refl _) (LeAll.cons (Le.refl _) LeAll.nil))))) (Le.refl _)) ab2 ⟨rfl,rfl⟩
 ·rw[if_neg h]
  by_cases h1:n < 1
  ·have f1:=eq_true h1
   refine o8 [] [.cell 2 59,.tmp 3] 14 Tryz.func33 ?_;repeat' first|refine l9 ?_|simp -dsimp -implicitDefEqProofs (disch:=(simp only[ll];omega)) only[go_sem,f1]
   exact aa1 (dkE (⟨[],[],0,false⟩,1)) (ad6 (ak3 (LeAll.cons ab7 (LeAll.cons ab7 (LeAll.cons (Le.refl _) (LeAll.cons (Le.refl _) LeAll.nil))))) (Le.refl _)) ab2 ⟨rfl,rfl⟩
  ·have f1:=eq_false h1
   have f2:(2048 < n)=True:=eq_true (by omega)
   refine o8 [] [.cell 2 59,.tmp 3] 14 Tryz.func33 ?_;repeat' first|refine l9 ?_|simp -dsimp -implicitDefEqProofs (disch:=(simp only[ll];omega)) only[go_sem,f1,f2]
   exact aa1 (dkE (⟨[],[],0,false⟩,1)) (ad6 (ak3 (LeAll.cons ab7 (LeAll.cons ab7 (LeAll.cons (Le.refl _) (LeAll.cons (Le.refl _) LeAll.nil))))) (Le.refl _)) ab2 ⟨rfl,rfl⟩
theorem cH4(d:Dk)(H:List AObj)(hd0:WfK d):o7 Tryz.prog 339 [ae6 d] H (fun y H'=>y=dkE (al0 d)/\H'=H):=by
 unfold al0;unfold dkE;by_cases hd:d.down=true
 ·rw[if_pos (.inl hd)]
  unfold ae6;rw[hd];refine o8 [1] [.cell 2 59,.tmp 3] 21 Tryz.func339 ?_;repeat' first|refine l9 ?_|simp -dsimp -implicitDefEqProofs (disch:=(simp only[ll];omega)) only[go_sem]
  exact aa1 _ (Le.refl _) ab2 ⟨rfl,rfl⟩
 ·have hd:d.down=false:=by simpa using hd
  unfold ae6;rw[hd];by_cases hf:d.fuse=0
  ·rw[if_pos (.inr hf)]
   have f1:=eq_true hf;refine o8 [1] [.cell 2 59,.tmp 3] 21 Tryz.func339 ?_;repeat' first|refine l9 ?_|simp -dsimp -implicitDefEqProofs (disch:=first|omega|simp only[ll];omega) only[go_sem,f1]
   exact aa1 _ (Le.refl _) ab2 ⟨rfl,rfl⟩
  ·rw[if_neg (by simp[hf])]
   have f1:=eq_false hf;by_cases h0:0 < d.fuse
   ·have f2:=eq_true h0
    rw[if_pos h0];have hf1:=hd0.f.2;refine o8 [1] [.cell 2 59,.tmp 3] 21 Tryz.func339 ?_;repeat' first|refine l9 ?_|simp -dsimp -implicitDefEqProofs (disch:=first|omega|simp only[ll];omega) only[go_sem,f1,f2]
    exact aa1 _ (Le.refl _) ab2 ⟨rfl,rfl⟩
   ·have f2:=eq_false h0
    rw[if_neg h0];refine o8 [1] [.cell 2 59,.tmp 3] 21 Tryz.func339 ?_;repeat' first|refine l9 ?_|simp -dsimp -implicitDefEqProofs (disch:=first|omega|simp only[ll];omega) only[go_sem,f1,f2]
    exact aa1 _ (Le.refl _) ab2 ⟨by rw[hd],rfl⟩
end As
end
section
open Go V
namespace As
theorem ca7{x:AV}: ∀(xs cs:List AV) (off:Nat),af4 cs off (xs++[x])=(af4 cs off xs).set (off+xs.length) x
 |[],cs,off=>rfl
 |y::r,cs,off=>by
  rw[List.cons_append,af4,af4,ca7 r,List.length_cons];congr 1
  omega
theorem al6{k n:Nat}:(ag3 k n).length=k:=by simp[ag3]
theorem dc4{k n:Nat}:ag3 (k+1) n=ag3 k n++[UInt8.ofNat (n/256^k)]:=by simp[ag3,List.range_succ]
theorem cQ3{g i:Nat}:IntKind.u8.wrap ((g:Int).fdiv (2^(8*(i:Int)).toNat))=((UInt8.ofNat (g/256^i)).toNat:Int):=by
 have e1:(8*(i:Int)).toNat=8*i:=by omega
 rw[e1,cN1 _ (by exact Int.le_of_lt (Int.pow_pos (by decide)))]
 have e3:((2:Int)^(8*i))=((256^i:Nat):Int):=by rw[show (256:Nat)=2^8 from rfl,<-Nat.pow_mul];simp
 rw[e3,<-Int.natCast_ediv];exact bG6
theorem bi6{k off m cap:Nat}{sh:Shape}{cs:List AV}(g:Nat)(H:List AObj)(hk:H[k]?=some (.cells sh cs))(hm:m<=8)(ho:off+m<=cs.length):o7 Tryz.prog 172 [.msl k off m cap,.lit (.int .i64 (g:Int))] H (fun y H'=>y=.tup []/\H'=H.set k (.cells sh (af4 cs off ((ag3 m g).map o6)))):=by
 have hkl:=aa0 hk;have hat: ∀o,(H.set k o)[k]?=some o:=fun o=>aA0 hkl
 refine o8 [] [] 19 Tryz.func172 ?_;repeat' simp -dsimp -implicitDefEqProofs only[go_sem]
 refine aa7 ab6 mixed [] [0,1,6] (fun i:Nat=>i<=m) (fun i=>[(7,.lit (.int .i64 (i:Int)))]) (fun i=>H.set k (.cells sh (af4 cs off ((ag3 i g).map o6)))) (fun i=>m - i) (by kernel_rfl) ?_ 0 (by omega) aa3 (ba2 hk).symm
 intro i hi;by_cases h:i < m
 ·have hc:((i:Int) < (m:Int))=True:=eq_true (by omega)
  have hb:=cQ3 (g:=g) (i:=i);have hw:IntKind.i64.wrap (8*(i:Int))=8*(i:Int):=by rw[IntKind.wrap_i64];omega
  repeat' first|refine l9 ?_|simp -dsimp -implicitDefEqProofs (disch:=omega) only[go_sem,hc,hat,ap2,hw,hb,List.set_set]|refine vcA ?_ ?_|omega
  refine again (i+1) ?_ ?_ ?_ aa3
  ·omega
  ·omega
  ·rw[dc4,aJ3,List.map_cons,List.map_nil,ca7,List.length_map,al6]
   rfl
 ·obtain rfl:i=m:=by omega
  have hc:((i:Int) < (i:Int))=False:=eq_false (by omega)
  repeat' first|refine l9 ?_|simp -dsimp -implicitDefEqProofs only[go_sem,hc]
  exact aa5 _ (Le.refl _) (by rw[List.length_set];exact xq0 _) ⟨rfl,rfl⟩
end As
end
section
open Go V
namespace As
theorem eg8{o:Own}{xs:List AV}(H:List AObj):o7 Tryz.prog 263 [.sl o 1 xs] H (fun y H'=>y=.fn (.func 345) [] [.ip (.sl o 1 xs)]/\H'=H):=by
 refine o8 [] [.tmp 2] 4 Tryz.func263 ?_;repeat' simp -dsimp -implicitDefEqProofs only[go_sem]
 exact o5 ⟨rfl,rfl⟩
theorem dY5{o:Own}{k:Nat}(b:bytes)(Hs:Nat->List AObj)(hb:b.length<=1000000)(hlen:(Hs b.length).length<=(Hs 0).length)
  (hy: ∀i,i < b.length->aF9 Tryz.prog k [.lit (.int .i64 (i:Int)),o6 (b.getD i 0)] (Hs (i+1)) (fun x H'=>x=.lit (.bool true)/\H'=Hs i)):
  o7 Tryz.prog 345 [.yld k,.ip (.sl o 1 (b.map o6))] (Hs b.length) (fun x H'=>x=.tup []/\H'=Hs 0):=by
 refine o8 [] [] 19 Tryz.func345 ?_;repeat' simp -dsimp -implicitDefEqProofs (disch:=omega) only[go_sem]
 refine aa7 ab6 mixed [] [0,1] (fun i:Nat=>i<=b.length) (fun i=>[(3,.lit (.int .i64 ((i:Int) - 1)))]) Hs (fun i=>i) (by kernel_rfl) ?_ b.length (by omega) aa3 rfl
 intro i hi;cases i with
 |zero=>
  have hc:(0<=((0:Nat):Int) - 1)=False:=eq_false (by omega)
  repeat' first|refine l9 ?_|simp -dsimp -implicitDefEqProofs only[go_sem,hc]
  exact aa5 _ (Le.refl _) hlen ⟨rfl,rfl⟩
 |succ j=>
  have he:((j+1:Nat):Int) - 1=(j:Int):=by omega
  have hc:(0<=(j:Int))=True:=eq_true (by omega)
  have hY:=hy j (by omega)
  have hg:=bY7 (l:=b) (i:=j) (by omega)
  repeat' first|refine l9 ?_|simp -dsimp -implicitDefEqProofs (disch:=omega) only[go_sem,he,hc]|refine bj7 (hY) ?_|refine vcA ?_ ?_|omega
  refine again (j) ?_ ?_ ?_ aa3
  ·omega
  ·omega
  ·rfl
theorem dU6{n:Nat}{x:UInt8}(h:n < 281474976710656):IntKind.i64.wrap (((BitVec.ofInt IntKind.i64.bits ((n:Int)*256)|||BitVec.ofInt IntKind.i64.bits (x.toNat:Int)).toNat:Nat):Int)=((x.toNat+256*n:Nat):Int):=by
 have hx:=x.toNat_lt;have e1:(BitVec.ofInt IntKind.i64.bits ((n:Int)*256)).toNat=n<<<8:=by
  show (BitVec.ofInt 64 ((n:Int)*256)).toNat=_
  rw[cd2,cd5];omega
 have e2:(BitVec.ofInt IntKind.i64.bits (x.toNat:Int)).toNat=x.toNat:=by
  show (BitVec.ofInt 64 (x.toNat:Int)).toNat=_
  rw[cd2];omega
 rw[ce1,e1,e2,<-Nat.shiftLeft_add_eq_or_of_lt (by omega),cd5,IntKind.wrap_i64]
 omega
theorem bu9(l:bytes):ax8 l < 256^l.length:=by
 induction l with
 |nil=>decide
 |cons x r ih=>
  have hx:=x.toNat_lt;show x.toNat+256*ax8 r < _
  rw[List.length_cons,Nat.pow_succ];omega
theorem c36{l:bytes}{i:Nat}(h:i < l.length):ax8 (l.drop i)=(l.getD i 0).toNat+256*ax8 (l.drop (i+1)):=by
 rw[aL3 h,List.getD,xq1 h];rfl
theorem b34{o:Own}(b:bytes)(H:List AObj)(hb:b.length<=6):o7 Tryz.prog 184 [.sl o 1 (b.map o6)] H (fun y H'=>y=.lit (.int .i64 (ax8 b:Nat))/\H'=H):=by
 refine aQ5 ab6 (rs:=[.tmp 2]) (n:=16) Tryz.func184 rfl rfl rfl rfl (nlb rfl) ?_;refine an5 (ak0 (ad2 ab6 mixed (mu:=[]) _ ?ok ?_));case ok=>kernel_rfl
 repeat' simp -dsimp -implicitDefEqProofs only[go_sem]
 refine an5 (ak0 (ad2 ab6 mixed (mu:=[]) _ ?ok ?_));case ok=>kernel_rfl
 repeat' simp -dsimp -implicitDefEqProofs only[go_sem]
 refine an5 ?_;refine an5 (ak0 (ad2 ab6 mixed (mu:=[]) _ ?ok ?_));case ok=>kernel_rfl
 have hB:=fun H=>eg8 (o:=o) (xs:=b.map o6) H
 repeat' first|simp -dsimp -implicitDefEqProofs only[go_sem]|refine l7 (hB _) ?_|fail
 refine bn4 ?_;refine bn3 rfl Tryz.func345 rfl rfl ?_;intro r hr1 hr2 hr3 hr4 hr5 hr6;generalize hE:([(7,AV.fn (.func 345) [] [.ip (.sl o 1 (b.map o6))]),(6,.sl o 1 (b.map o6)),(3,.mp H.length 0),(2,.lit (.int .i64 0)),(0,.sl o 1 (b.map o6))]:Env)=E;have h0:(0:Int)=(ax8 (b.drop b.length):Nat):=by rw[bF7];rfl
 have hC:=dY5 (o:=o) (k:=H.length+1) b (fun i=>H++[.cells (.one 3) [.lit (.int .i64 (ax8 (b.drop i):Nat))],.loop r E]) (by omega) (by simp) (fun i hi=>by
  have hN:=bu9 (b.drop (i+1));have hle:(256:Nat)^(b.drop (i+1)).length<=256^5:=bo0 (by decide) (by rw[List.length_drop];omega)
  have hn:=c36 hi;have hg:ax8 (b.drop (i+1)) < 1099511627776:=aB2 hN hle;rw[hn];have hor:=dU6 (n:=ax8 (b.drop (i+1))) (x:=b.getD i 0) (by omega)
  generalize ax8 (b.drop (i+1))=N at*;generalize b.getD i 0=x at*;have hat: ∀c y,(H++[c,y])[H.length+1]?=some y:=fun c y=>ao7
  have hst: ∀c y z,(H++[c,y]).set (H.length+1) z=H++[c,z]:=fun c y z=>an1
  have:=b66 (P:=Tryz.prog) (k:=H.length+1) (n:=16) (p:=8) (q:=9) (r:=r) (E:=E) (arg:=.lit (.int .i64 (i:Int))) (arg2:=o6 x) (H:=H++[.cells (.one 3) [.lit (.int .i64 (N:Nat))],.loop r E]) (B:=H++[.cells (.one 3) [.lit (.int .i64 ((x.toNat+256*N:Nat):Int))],.loop (busy r) E]) (hat _ _) hr1 hr2 hr3 hr6 (by omega) (by omega) (by
   rw[hr4,hr5];generalize AObj.loop (busy r) E=lpb at*;generalize AObj.loop r E=lp at*;subst hE;refine ad2 ab6 mixed (mu:=[]) _ ?ok ?_;case ok=>kernel_rfl
   repeat' simp -dsimp -implicitDefEqProofs only[go_sem]
   all_goals first|exact hat _ _|rw[hst]|skip
   refine ad2 ab6 mixed (mu:=[]) _ ?ok ?_;case ok=>kernel_rfl
   repeat' first|simp -dsimp -implicitDefEqProofs (disch:=omega) only[go_sem,hor]|refine vcA ?_ ?_
   )
  rw[hst] at this;exact this)
 rw[h0,List.append_assoc];have hl:(H++[AObj.cells (.one 3) [.lit (.int .i64 ((ax8 (b.drop b.length):Nat):Int))]]).length=H.length+1:=by simp
 rw[hl];refine hC.mono fun x H' ⟨_,hH⟩=>⟨H++[.cells (.one 3) [.lit (.int .i64 (ax8 b:Nat))]],[],by rw[hH,List.drop_zero];simp,by simp,fun j o e=>?_,?_⟩
 ·rcases xq8 j H.length with hj|hj
  ·rw[xq4 hj] at e⊢
   exact .inl e
  ·rw[xq5 hj] at e
   cases hn:j - H.length with
   |zero=>rw[hn] at e;cases e;exact .inr (aA5 (fun sh cs h=>by cases h;exact fun y hy=>by rw[aT1.1 hy];exact .lit _) rfl)
   |succ n=>rw[hn] at e;cases e
 ·rw[ba7,bb5]
  clear hC;subst hE;refine ak0 (ad2 ab6 mixed (mu:=[]) _ ?ok ?_);case ok=>kernel_rfl
  repeat' simp -dsimp -implicitDefEqProofs only[go_sem]
  exact aa1 _ (Le.refl _) (.lit _) ⟨rfl,rfl⟩
end As
end
section
namespace V
open Go
def cs5:AObj->AObj
 |.cells _ _=>.gone
 |.mo _=>.gone
 |o=>o
def aD1(H:List AObj):List AObj:=H.map cs5
theorem am3{H:List AObj}{k:Nat}:(aD1 H)[k]?=(H[k]?).map cs5:=xq7 ..
theorem cU9{H:List AObj}{k:Nat}{sh:Shape}{cs:List AV}(h:(aD1 H)[k]?=some (.cells sh cs)):False:=by
 rw[am3] at h;cases e:H[k]? with
 |none=>rw[e] at h;cases h
 |some o=>rw[e] at h;cases o<;>cases h
theorem dS9{H:List AObj}{k:Nat}{x:MO}(h:(aD1 H)[k]?=some (.mo x)):False:=by
 rw[am3] at h;cases e:H[k]? with
 |none=>rw[e] at h;cases h
 |some o=>rw[e] at h;cases o<;>cases h
theorem ba5{H:List AObj}{k s n:Nat}{t:Option TypeId}:(aD1 H)[k]?=some (.grow s n t)↔H[k]?=some (.grow s n t):=by
 rw[am3];cases e:H[k]? with
 |none=>simp
 |some o=>cases o<;>simp[cs5]
theorem dd8{H:List AObj}{k:Nat}{r:Loop}{E:Env}:(aD1 H)[k]?=some (.loop r E)↔H[k]?=some (.loop r E):=by
 rw[am3];cases e:H[k]? with
 |none=>simp
 |some o=>cases o<;>simp[cs5]
def bm0(G:Gh)(H:List AObj)(b:Nat):Prop:= ∃i,((∃sh cs,H[i]?=some (.cells sh cs))\/ ∃x,H[i]?=some (.mo x))/\b=G.blk i
def bX7(G:Gh)(H:List AObj):Gh:={G with imm:=fun b off=>G.imm b off\/bm0 G H b}
theorem bX8{G:Gh}{H:List AObj}{b:Nat}(h:bm0 G H b): ∃i,site G H i=some b/\b=G.blk i/\(aD1 H)[i]?=some .gone:=by
 obtain⟨i,⟨sh,cs,e⟩|⟨x,e⟩,rfl⟩:=h
 ·exact⟨i,by simp[site,e],rfl,by rw[am3,e];rfl⟩
 ·exact⟨i,by simp[site,e],rfl,by rw[am3,e];rfl⟩
theorem bC7{G:Gh}{H:List AObj}{w:World}:Step G H w (bX7 G H) (aD1 H) w:=
 ⟨rfl,rfl,rfl,xq0 _,fun _ _ h=>.inl h,fun _ _ _=>rfl,fun _ _=>rfl,fun i=>by
  cases e:H[i]? with
  |none=>exact aN5 (by rw[am3,e];rfl)
  |some o=>
   cases o with
   |cells t c=>exact⟨⟨.gone,by rw[am3,e];rfl,rfl⟩,rfl,rfl⟩
   |mo x=>exact⟨⟨.gone,by rw[am3,e];rfl,rfl⟩,rfl,rfl⟩
   |gone=>exact⟨by rw[am3,e];rfl,rfl,rfl⟩
   |loop r E=>exact⟨by rw[am3,e];rfl,rfl,rfl⟩
   |grow s n t=>exact⟨n,by rw[am3,e];rfl,xq0 _,fun _=>rfl⟩⟩
theorem b90{G:Gh}{H:List AObj}{k b:Nat}(h:site (bX7 G H) (aD1 H) k=some b):site G H k=some b:=by
 unfold site at h⊢;rw[am3] at h;cases e:H[k]? with
 |none=>rw[e] at h;cases h
 |some o=>rw[e] at h;cases o<;>first|(cases h;done)|exact h
theorem dx2{G:Gh}{H:List AObj}{w:World}(hi:HInv G H w):HInv (bX7 G H) (aD1 H) w:=by
 refine⟨fun b off h=>?_,fun k sh cs e=>(cU9 e).elim,fun i s n t ei=>?_,fun k k' b e e'=>hi.apart k k' b (b90 e) (b90 e'),hi.tabs.step bC7 fun k x e=>(dS9 e).elim⟩
 ·rcases h with h|h
  ·exact hi.lt b off h
  ·obtain⟨i,hs,_⟩:=bX8 h
   exact hi.site_lt hs
 ·have ei:=ba5.1 ei
  obtain⟨h0,h1,h2,h3⟩:=hi.grow i s n t ei;have hne: ∀b off,(G.own i).1=some ⟨b,off,none⟩->(n < (G.own i).2\/t.isSome=true/\0 < (G.own i).2)-> ¬bm0 G H b:=fun b off ea hc hb=>by
   obtain⟨j,hs,rfl,hg⟩:=bX8 hb;have hij:i=j:=by
    refine hi.apart i j (G.blk j) ?_ hs;unfold site;rw[ei,show G.own i=(some ⟨G.blk j,off,none⟩,(G.own i).2) by rw[<-ea]]
    simp only;rw[if_pos hc]
   subst hij;rw[am3,ei] at hg;cases hg
  refine⟨h0,h1,fun hn=>?_,aj1 h3 rfl (xq0 _) (fun b arr e fr hb=>⟨arr,hb,rfl⟩) fun b off arr e fr hb ea hc ht hx _=>?_⟩
  ·obtain⟨b,off,arr,T,fr,ea,hb,hsz,hj⟩:=h2 hn
   refine⟨b,off,arr,T,fr,ea,hb,hsz,fun j h4 h5=>⟨?_,(hj j h4 h5).2⟩⟩
   rintro(h|h)
   ·exact(hj j h4 h5).1 h
   ·exact hne b off ea (.inl hn) h
  ·rcases hx with hx|hx
   ·exact hx
   ·exact absurd hx (hne b 0 ea (.inr ⟨ht,hc⟩))
inductive Lend(H:List AObj):AV->AV->Prop
 |keep (x:AV):Lend H x x
 |msl (k off len cap s:Nat) (sh:Shape) (cs xs:List AV) (ho:H[k]?=some (.cells sh cs)) (hx:xs.length=len) (hs: ∀x∈xs,x.flat.length=s/\x.okv=true)
   (h: ∀(j:Nat) y,(aa2 xs)[j]?=some y->cs[off+j]?=some y):Lend H (.msl k off len cap) (.sl .sh s xs)
 |sl (o:Own) (s:Nat) (xs ys:List AV) (hx:ys.length=xs.length) (hs: ∀y∈ys,y.flat.length=s/\y.okv=true) (hf:(aa2 ys).length=(aa2 xs).length)
   (h: ∀(j:Nat) c d,(aa2 xs)[j]?=some c->(aa2 ys)[j]?=some d->Lend H c d):Lend H (.sl o s xs) (.sl o s ys)
theorem dx1{G:Gh}{H:List AObj}{w:World}(hi:HInv G H w){x y:AV}(f:Lend H x y): ∀v,Rel G H w x v->Rel (bX7 G H) (aD1 H) w y v:=by
 induction f with
 |keep x=>intro v r;exact r.mono bC7
 |msl k off len cap s sh cs xs ho hx hs h=>
  intro v r;obtain⟨arr,T,fr,hb,hsz,hr,_⟩:=hi.cells k sh cs ho;cases r with
  |msl _ _ _ _ o h1 h2 hcap=>
   have key: ∀(j:Nat) y,(aa2 xs)[j]?=some y-> ∃u,arr[off+j]?=some u/\Rel G H w y u:=fun j y e=>by
    have e1:=h j y e;have hj:=aa0 e1;exact⟨_,xq2 (by omega),hr _ _ _ e1 (xq2 (by omega))⟩
   refine .sl .sh s xs _ _ _ (fun j=>(arr[off+j]?).getD undef) hx.symm hcap hs (fun j y e=>?_) (fun j y e=>?_) (fun e=>by cases e) (fun _=>rfl) (fun k e=>by cases e)
   ·obtain⟨u,e1,_⟩:=key j y e
    refine⟨G.blk k,off,rfl,.inr ⟨k,.inl ⟨_,_,ho⟩,rfl⟩,?_⟩;rw[aq7 hb,e1];rfl
   ·obtain⟨u,e1,e2⟩:=key j y e
    rw[e1];exact e2.mono bC7
 |sl o s xs ys hx hs hf h ih=>
  intro v r;cases r with
  |sl _ _ _ a len cap val hl hcap hs' hc hr hf' ha ho=>
   have key: ∀(j:Nat) d,(aa2 ys)[j]?=some d-> ∃c,(aa2 xs)[j]?=some c:=fun j d e=>⟨_,xq1 (by rw[<-hf];exact aa0 e)⟩
   refine .sl o s ys a len cap val (hl.trans hx.symm) hcap hs (fun j d e=>?_) (fun j d e=>?_) hf' ha (fun k e=>?_)
   ·obtain⟨c,ec⟩:=key j d e
    obtain⟨b,off,h1,h2,h3⟩:=hc j c ec;exact⟨b,off,h1,.inl h2,h3⟩
   ·obtain⟨c,ec⟩:=key j d e
    exact ih j c d ec e _ (hr j c ec)
   ·obtain⟨n,t,h1,h2,h3⟩:=ho k e
    exact⟨n,t,ba5.2 h1,by omega,fun h=>h3 (by omega)⟩
inductive Plain:AV->Prop
 |any:Plain .any
 |lit (v:Value):Plain (.lit v)
 |str (l:List UInt8):Plain (.str l)
 |agg (cs:List AV) (h: ∀x∈cs,Plain x):Plain (.agg cs)
 |tup (cs:List AV) (h: ∀x∈cs,Plain x):Plain (.tup cs)
theorem c86{G G':Gh}{H H':List AObj}{w w':World}{x:AV}(hp:Plain x): ∀{v},Rel G H w x v->Rel G' H' w' x v:=by
 induction hp with
 |any=>intro v _;exact .any v
 |lit u=>intro v r;cases r;exact .lit u
 |str l=>intro v r;cases r;exact .str l
 |agg cs h ih=>
  intro v r;cases r with
  |agg _ arr hl hr=>exact .agg cs arr hl fun j x u e e'=>ih x (bF9 e) (hr j x u e e')
 |tup cs h ih=>
  intro v r;cases r with
  |tup _ arr hl hr=>exact .tup cs arr hl fun j x u e e'=>ih x (bF9 e) (hr j x u e e')
def bn2(G G':Gh)(H:List AObj):Gh:={G' with imm:=fun b off=>G'.imm b off/\ ¬bm0 G H b}
theorem d31{G G':Gh}{H:List AObj}{w w':World}(hi:HInv G H w)(hi':HInv G' (aD1 H) w')(st:Step (bX7 G H) (aD1 H) w G' (aD1 H) w'):HInv (bn2 G G' H) H w'/\Step G H w (bn2 G G' H) H w':=by
 have hblk: ∀i,(aD1 H)[i]?=some .gone->G'.blk i=G.blk i/\G'.own i=G.own i:=fun i e=>by
  have:=st.obj i;rw[e] at this;exact this.2
 have hgrow: ∀i s n t,H[i]?=some (.grow s n t)->G'.own i=G.own i:=fun i s n t e=>by
  have:=st.obj i;rw[ba5.2 e] at this;obtain⟨n',h1,_,h3⟩:=this;rw[ba5.2 e] at h1;cases h1
  exact h3 rfl
 have himm: ∀b off,G.imm b off-> ¬bm0 G H b:=fun b off h hb=>by
  obtain⟨i,⟨sh,cs,e⟩|⟨x,e⟩,rfl⟩:=hb
  ·obtain⟨_,_,_,_,_,_,hf,_⟩:=hi.cells i sh cs e
   exact hf off h
  ·exact(hi.tabs.1.2 i x e).1 off h
 have hwh: ∀b,bm0 G H b->w'.heap[b]?=w.heap[b]?:=fun b h=>st.whole b fun off=>.inr h
 have ST:Step G H w (bn2 G G' H) H w':=by
  refine⟨st.os,st.tape,st.output,st.size,fun b off h=>⟨st.imm b off (.inl h),himm b off h⟩,fun b off h=>st.cell b off (.inl h),fun b h=>st.whole b fun off=>.inl (h off),fun i=>?_⟩
  cases e:H[i]? with
  |none=>exact aN5 e
  |some o=>
   cases o with
   |cells t c=>
    have:=hblk i (by rw[am3,e];rfl)
    exact⟨⟨_,e,rfl⟩,this.1,this.2⟩
   |mo x=>
    have:=hblk i (by rw[am3,e];rfl)
    exact⟨⟨_,e,rfl⟩,this.1,this.2⟩
   |gone=>
    have:=hblk i (by rw[am3,e];rfl)
    exact⟨e,this.1,this.2⟩
   |loop r E=>
    have:=st.obj i;rw[dd8.2 e] at this;exact⟨e,this.2.1,this.2.2⟩
   |grow s n t=>exact⟨n,e,xq0 _,fun _=>hgrow i s n t e⟩
 refine⟨⟨fun b off h=>hi'.lt b off h.1,fun k sh cs e=>?_,fun k s n t e=>?_,fun k k' b e e'=>?_,hi.tabs.step ST fun k x e=>?_⟩,ST⟩
 ·obtain⟨arr,T,fr,hb,hs,hr,hf1,hf2,hf3⟩:=hi.cells k sh cs e
  have hl:bm0 G H (G.blk k):=⟨k,.inl ⟨_,_,e⟩,rfl⟩;obtain⟨h1,h2⟩:=hblk k (by rw[am3,e];rfl)
  have hbk:(bn2 G G' H).blk k=G.blk k:=h1;rw[hbk];have hw:=hwh _ hl;refine⟨arr,T,fr,hw.trans hb,hs,fun j x v ex ev=>(hr j x v ex ev).mono ST,fun off h=>h.2 hl,fun off ho=>?_,aI5 h2 hf3⟩
  have:=hf2 off ho;simp only[World.frozen?,hw] at this⊢;exact this
 ·obtain⟨h0,h1,h2,h3⟩:=hi'.grow k s n t (ba5.2 e)
  refine⟨h0,h1,fun hn=>?_,fun e' et=>?_⟩
  ·obtain⟨b,off,arr,T,fr,ea,hb,hsz,hj⟩:=h2 hn
   exact⟨b,off,arr,T,fr,ea,hb,hsz,fun j h4 h5=>⟨fun h=>(hj j h4 h5).1 h.1,(hj j h4 h5).2⟩⟩
  ·rcases h3 e' et with h|⟨b,arr,fr,g1,g2,g3,g4,g5,g6⟩
   ·exact .inl h
   ·exact .inr ⟨b,arr,fr,g1,g2,g3,g4,g5,fun off ho h=>g6 off ho h.1⟩
 ·have key: ∀{k b},site (bn2 G G' H) H k=some b->site G H k=some b:=fun {k b} h=>by
   unfold site at h⊢;cases e:H[k]? with
   |none=>rw[e] at h;cases h
   |some o=>
    rw[e] at h;cases o with
    |cells sh cs=>
     have h1:(bn2 G G' H).blk k=G.blk k:=(hblk k (by rw[am3,e];rfl)).1
     simp only[h1] at h;exact h
    |mo x=>
     have h1:(bn2 G G' H).blk k=G.blk k:=(hblk k (by rw[am3,e];rfl)).1
     simp only[h1] at h;exact h
    |gone=>cases h
    |loop r E=>cases h
    |grow s n t=>
     have h1:(bn2 G G' H).own k=G.own k:=hgrow k s n t e;simp only[h1] at h;exact h
  exact hi.apart k k' b (key e) (key e')
 ·have hl:bm0 G H (G.blk k):=⟨k,.inr ⟨_,e⟩,rfl⟩
  exact⟨e,hwh _ hl,fun off h=>absurd hl h.2⟩
theorem cF6{P:Program}{f:FuncId}{args args':List AV}{H:List AObj}{R:AV->Prop}(hl:args'.length=args.length)(hf: ∀(j:Nat) x y,args[j]?=some x->args'[j]?=some y->Lend H x y)
  (hp: ∀x,R x->Plain x) (h:o7 P f args' (aD1 H) (fun x H'=>R x/\H'=aD1 H)):o7 P f args H (fun x H'=>R x/\H'=H):=fun G w vs hi ha=>by
 refine(h _ w vs (dx2 hi) ⟨ha.1.trans hl.symm,fun j y v ey ev=>?_⟩).mono ?_
 ·have hj:j < args.length:=by rw[<-hl];exact aa0 ey
  exact dx1 hi (hf j _ y (xq1 hj) ey) v (ha.2 j _ v (xq1 hj) ev)
 ·rintro v w' ⟨x,G',H',h1,h2,h3,h4,rfl⟩
  obtain⟨h5,h6⟩:=d31 hi h1 h2;exact⟨x,_,H,h5,h6,c86 (hp x h4) h3,h4,rfl⟩
end V
end
section
open Go V
namespace As
def ao1(p:Part):AV:=.agg [.lit (.int .i64 (p.gen:Nat)),.lit (.int .i64 (p.index:Nat)),.lit (.int .u8 (p.marks:Nat)),.sl .sh 1 (p.data.map o6)]
instance dat_bytes (o:List UInt8):Dat (.sl .sh 1 (o.map o6)):=⟨fun _=>ab5⟩
instance dat_part (p:Part):Dat (ao1 p):=inferInstanceAs (Dat (.agg [.lit (.int .i64 (p.gen:Nat)),.lit (.int .i64 (p.index:Nat)),.lit (.int .u8 (p.marks:Nat)),.sl .sh 1 (p.data.map o6)]))
theorem aS8{A B X:bytes}{off:Nat}(ho:off=A.length)(h:X.length<=B.length):af4 ((A++B).map o6) off (X.map o6)=(A++(X++B.drop X.length)).map o6:=by
 subst ho;rw[aO2 _ _ _ (by simp;omega)]
 simp only[aJ3,List.length_map,List.append_assoc];rw[cd4 (by simp),List.drop_append]
 simp only[List.length_map,List.map_drop];rw[bc5 (by simp),List.nil_append]
 congr 2
 congr 1
 omega
theorem dV7(l:bytes):aa2 (l.map o6)=l.map o6:=au8 o6 (fun _=>rfl) l
theorem dF7{k n cap:Nat}{sh:Shape}(b:bytes)(H:List AObj)(hk:H[k]?=some (.cells sh (b.map o6)))(hn:n<=b.length)(hb:b.length<=1000000):o7 Tryz.prog 225 [.sl .full 1 [.msl k 0 n cap]] H (fun y H'=>y=.agg ((sum256 (b.take n)).map o6)/\H'=H):=by
 have hu: ∀x∈(b.take n).map o6,x.flat.length=1/\x.okv=true:=fun x hx=>by
  obtain⟨c,_,rfl⟩:=xq9.1 hx;exact⟨rfl,rfl⟩
 refine cF6 (R:=fun y=>y=.agg ((sum256 (b.take n)).map o6)) (args':=[.sl .full 1 [.sl .sh 1 ((b.take n).map o6)]]) rfl (fun j x y e1 e2=>?_) (fun x hx=>?_) (dF8 (o:=.full) (o2:=.sh) (b.take n) (aD1 H) (by rw[List.length_take];omega))
 ·match j,e1,e2 with
  |0,rfl,rfl=>
   refine .sl .full 1 _ _ rfl (fun y hy=>by rw[aT1.1 hy];exact⟨rfl,rfl⟩) rfl fun j c d e1 e2=>?_
   match j,e1,e2 with
   |0,rfl,rfl=>
    refine .msl k 0 n cap 1 sh _ _ hk (by rw[List.length_map,List.length_take];omega) hu fun j y e=>?_
    rw[dV7,List.map_take,aB1] at e;split at e
    ·rw[Nat.zero_add];exact e
    ·cases e
 ·subst hx
  exact .agg _ fun x hx=>by
   obtain⟨c,_,rfl⟩:=xq9.1 hx;exact .lit _
theorem b94{p:Part}(h:p.data.length<=100):(headB p).length=120:=by
 unfold headB;simp only[List.length_append,List.length_cons,al6,List.length_replicate];omega
theorem take8{l:bytes}(h:l.length=32):(l.take 8).length=8:=by rw[List.length_take,h];rfl
theorem bl1{p:Part}(h:p.data.length<=100):(aA2 p).length=128:=by
 unfold aA2;rw[List.length_append,b94 h,take8 (bv1 _)]
theorem cG4:List.replicate 128 (AV.lit (.int .u8 0))=([]++List.replicate 128 0:bytes).map o6:=by
 show _=(List.replicate 128 (0:UInt8)).map o6
 rw[bL3];rfl
theorem c74(p:Part)(H:List AObj)(h1:p.gen < 9223372036854775808)(h2:p.index < 9223372036854775808)(h3:p.marks < 256)(h4:p.data.length<=100):o7 Tryz.prog 255 [ao1 p] H (fun y H'=>y=.agg ((aA2 p).map o6)/\H'=H):=by
 have hs:=bv1 (headB p);obtain⟨g,i,m,d⟩:=p;dsimp only at h1 h2 h3 h4;unfold ao1;dsimp only;have e1:af4 (List.replicate 128 (AV.lit (.int .u8 0))) 0 ((ag3 8 g).map o6)=(ag3 8 g++List.replicate 120 0).map o6:=by
  have:=aS8 (A:=[]) (B:=List.replicate 128 0) (X:=ag3 8 g) (off:=0) rfl (by rw[al6];simp)
  rw[cG4,this,al6];rfl
 have e2:af4 ((ag3 8 g++List.replicate 120 (0:UInt8)).map o6) 8 ((ag3 4 i).map o6)=((ag3 8 g++ag3 4 i)++List.replicate 116 0).map o6:=by
  rw[aS8 (by rw[al6]) (by rw[al6];simp),al6,List.append_assoc]
  rfl
 have e3:(((ag3 8 g++ag3 4 i)++List.replicate 116 (0:UInt8)).map o6).set 12 (o6 (UInt8.ofNat d.length))=((ag3 8 g++ag3 4 i++[UInt8.ofNat d.length])++List.replicate 115 0).map o6:=by
  have:=aS8 (A:=ag3 8 g++ag3 4 i) (B:=List.replicate 116 0) (X:=[UInt8.ofNat d.length]) (off:=12) (by rw[List.length_append,al6,al6]) (by simp)
  rw[List.append_assoc _ [_]];exact this
 have e4:(((ag3 8 g++ag3 4 i++[UInt8.ofNat d.length])++List.replicate 115 (0:UInt8)).map o6).set 13 (o6 (UInt8.ofNat m))=((ag3 8 g++ag3 4 i++[UInt8.ofNat d.length,UInt8.ofNat m])++List.replicate 114 0).map o6:=by
  have:=aS8 (A:=ag3 8 g++ag3 4 i++[UInt8.ofNat d.length]) (B:=List.replicate 115 0) (X:=[UInt8.ofNat m]) (off:=13) (by rw[List.length_append,List.length_append,al6,al6];rfl) (by simp)
  have e:ag3 8 g++ag3 4 i++[UInt8.ofNat d.length,UInt8.ofNat m]=(ag3 8 g++ag3 4 i++[UInt8.ofNat d.length])++[UInt8.ofNat m]:=by simp
  rw[e,List.append_assoc _ [UInt8.ofNat m]];exact this
 have e5:af4 (((ag3 8 g++ag3 4 i++[UInt8.ofNat d.length,UInt8.ofNat m])++List.replicate 114 (0:UInt8)).map o6) 14 (d.map o6)=(headB ⟨g,i,m,d⟩++List.replicate 8 0).map o6:=by
  rw[aS8 (by rw[List.length_append,List.length_append,al6,al6];rfl) (by rw[List.length_replicate];omega)]
  unfold headB;simp only[List.append_assoc,List.cons_append,List.nil_append,List.drop_replicate,bG0];congr 8
  omega
 have hh:(headB ⟨g,i,m,d⟩).length=120:=b94 h4;have e6:af4 ((headB ⟨g,i,m,d⟩++List.replicate 8 (0:UInt8)).map o6) 120 (((sum256 (headB ⟨g,i,m,d⟩)).take 8).map o6)=(aA2 ⟨g,i,m,d⟩).map o6:=by
  rw[aS8 hh.symm (by rw[take8 hs];simp),take8 hs]
  unfold aA2;simp
 have hm:AV.lit (.int .u8 (m:Int))=o6 (UInt8.ofNat m):=by
  rw[<-IntWalk.u8_in (m:Int) (by omega),bG6]
  rfl
 have hd:AV.lit (.int .u8 (d.length:Int))=o6 (UInt8.ofNat d.length):=by
  rw[<-IntWalk.u8_in (d.length:Int) (by omega),bG6]
  rfl
 have hsl:=bl1 (p:=⟨g,i,m,d⟩) h4;have ht:((headB ⟨g,i,m,d⟩++List.replicate 8 (0:UInt8)).take 120)=headB ⟨g,i,m,d⟩:=by rw[<-hh,aQ6]
 have hmin:min 32 8=8:=rfl;generalize headB ⟨g,i,m,d⟩=hb at*;generalize hS:aA2 ⟨g,i,m,d⟩=S at*;have hS0:S.length=128:=hsl;generalize hO:AObj.cells (.one 167) (List.replicate 128 (AV.lit (.int .u8 0)))=O at*;have c1:=bi6 (k:=H.length+1) (off:=0) (m:=8) (cap:=128) (sh:=.one 167) (cs:=List.replicate 128 (AV.lit (.int .u8 0))) g (H++[O,.cells (.one 167) (List.replicate 128 (AV.lit (.int .u8 0)))]) ao7 (by omega) (by simp)
 rw[an1,List.set_cons_succ,List.set_cons_zero,e1] at c1;have c2:=bi6 (k:=H.length+1) (off:=8) (m:=4) (cap:=120) (sh:=.one 167) (cs:=(ag3 8 g++List.replicate 120 (0:UInt8)).map o6) i (H++[O,.cells (.one 167) ((ag3 8 g++List.replicate 120 (0:UInt8)).map o6)]) ao7 (by omega) (by simp[al6])
 rw[an1,List.set_cons_succ,List.set_cons_zero,e2] at c2;have c3:=dF7 (k:=H.length+1) (n:=120) (cap:=128) (sh:=.one 167) (hb++List.replicate 8 (0:UInt8)) (H++[O,.cells (.one 167) ((hb++List.replicate 8 (0:UInt8)).map o6)]) ao7 (by simp;omega) (by simp;omega)
 rw[ht] at c3;have l2:(ag3 8 g++List.replicate 120 (0:UInt8)).length=128:=by simp[al6]
 have l3:(ag3 8 g++ag3 4 i++List.replicate 116 (0:UInt8)).length=128:=by simp[al6]
 have l4:(ag3 8 g++ag3 4 i++[UInt8.ofNat d.length]++List.replicate 115 (0:UInt8)).length=128:=by simp[al6]
 have l5:(ag3 8 g++ag3 4 i++[UInt8.ofNat d.length,UInt8.ofNat m]++List.replicate 114 (0:UInt8)).length=128:=by simp[al6]
 have l6:(hb++List.replicate 8 (0:UInt8)).length=128:=by simp;omega
 generalize ag3 8 g++ag3 4 i++[UInt8.ofNat d.length,UInt8.ofNat m]++List.replicate 114 (0:UInt8)=b5 at*;generalize ag3 8 g++ag3 4 i++[UInt8.ofNat d.length]++List.replicate 115 (0:UInt8)=b4 at*;generalize ag3 8 g++ag3 4 i++List.replicate 116 (0:UInt8)=b3 at*;generalize ag3 8 g++List.replicate 120 (0:UInt8)=b2 at*;generalize hb++List.replicate 8 (0:UInt8)=b6 at*;generalize sum256 hb=sm at*;have hw:IntKind.u8.wrap (d.length:Int)=(d.length:Int):=IntWalk.u8_in _ (by omega)
 subst hO;have e7:af4 (List.replicate 128 (AV.lit (.int .u8 0))) 0 (S.map o6)=S.map o6:=by
  have:=aS8 (A:=[]) (B:=List.replicate 128 0) (X:=S) (off:=0) rfl (by rw[hS0];simp)
  rw[cG4,this,hS0];simp
 have hT:S.take 128=S:=aF0 (by omega)
 rw[<-hd] at e3;rw[<-hm] at e4;refine o8 [1000002,1000003,1000004,1000004005007,1000005,1000007] [.cell 2 167] 32 Tryz.func255 ?_;repeat' first|refine l9 ?_|simp -dsimp -implicitDefEqProofs (disch:=first|omega|simp only[ll];omega) only[go_sem,hw,e3,e4,e5,e6,e7,hT,hmin,l2,l3,l4,l5,l6,ao3,hS0,hs]|refine⟨_,_,c1,?_⟩|refine⟨_,_,c2,?_⟩|refine l7 (c3) ?_|refine vcA ?_ ?_|omega
 exact aa1 _ (Le.refl _) cr8 ⟨rfl,rfl⟩
end As
end
section
open Go V
namespace As
theorem dI1{o:Own}(b:bytes)(H:List AObj)(hb:b.length<=1000000):o7 Tryz.prog 337 [.sl o 1 (b.map o6)] H (fun y H'=>y=.sl .sh 1 (b.map o6)/\H'=H):=by
 cases b with
 |nil=>
  refine o8 [] [.tmp 2] 8 Tryz.func337 ?_;repeat' simp -dsimp -implicitDefEqProofs only[go_sem]
  intro b;cases b
  all_goals
   repeat' first|refine l9 ?_|simp -dsimp -implicitDefEqProofs only[go_sem]
   first
    |exact bI5 _ ab7 ⟨rfl,rfl⟩
    |exact aa1 _ as4 (ab5 (f:=o6) (l:=[])) ⟨rfl,rfl⟩
 |cons c r=>
  have hne:(c::r).map o6≠[]:=by simp
  generalize c::r=b at*;refine o8 [] [.tmp 2] 8 Tryz.func337 ?_;repeat' first|refine l9 ?_|simp -dsimp -implicitDefEqProofs only[go_sem,hne]|refine vcA ?_ ?_|omega
  exact aa1 _ as4 ab5 ⟨rfl,rfl⟩
theorem dO5{x y:UInt8}:((x|||y).toNat=0)=(x=0/\y=0):=by
 apply propext
 constructor
 ·intro h
  have h1:x.toNat|||y.toNat=0:=by rw[<-UInt8.toNat_or];exact h
  have h2:=Nat.or_eq_zero_iff.1 h1;exact⟨bo1.1 h2.1,bo1.1 h2.2⟩
 ·rintro⟨rfl,rfl⟩
  rfl
theorem bS5{x y:UInt8}:IntKind.u8.wrap (((BitVec.ofInt IntKind.u8.bits (x.toNat:Int)|||BitVec.ofInt IntKind.u8.bits (y.toNat:Int)).toNat:Nat):Int)=((x|||y).toNat:Int):=by
 have hx:=x.toNat_lt;have hy:=y.toNat_lt;have e1:(BitVec.ofInt IntKind.u8.bits (x.toNat:Int)).toNat=x.toNat:=by
  show (BitVec.ofInt 8 (x.toNat:Int)).toNat=_
  rw[cd2];omega
 have e2:(BitVec.ofInt IntKind.u8.bits (y.toNat:Int)).toNat=y.toNat:=by
  show (BitVec.ofInt 8 (y.toNat:Int)).toNat=_
  rw[cd2];omega
 rw[ce1,e1,e2,bG6,<-UInt8.toNat_or];simp
def aA3(q:Part×Bool):AV:=.tup [ao1 q.1,.bool q.2]
instance dat_partE (q:Part×Bool):Dat (aA3 q):=inferInstanceAs (Dat (.tup [ao1 q.1,.bool q.2]))
theorem aW7:ao1 as1=.agg [.lit (.int .i64 0),.lit (.int .i64 0),.lit (.int .u8 0),.sl .sh 1 []]:=rfl
theorem b82(s:bytes):(partOf s).gen < 281474976710656/\(partOf s).index < 4294967296/\(partOf s).marks < 256/\(partOf s).data.length<=(s.getD 12 0).toNat:=by
 have h1:=bu9 (s.take 6);have h2:=bu9 ((s.drop 8).take 4);have h3:=(s.getD 13 0).toNat_lt;have e1:(256:Nat)^(s.take 6).length<=256^6:=bo0 (by decide) (by rw[List.length_take];omega)
 have e2:(256:Nat)^((s.drop 8).take 4).length<=256^4:=bo0 (by decide) (by rw[List.length_take];omega)
 refine⟨aB2 h1 e1,aB2 h2 e2,h3,?_⟩;show ((s.drop 14).take _).length<=_
 rw[List.length_take];omega
theorem ci7(s:bytes)(H:List AObj)(hs:s.length=128):o7 Tryz.prog 252 [.agg (s.map o6)] H (fun y H'=>y=aA3 (aj3 s)/\H'=H):=by
 have hz:=dO5 (x:=s.getD 6 0) (y:=s.getD 7 0);have b12:=(s.getD 12 0).toNat_lt;by_cases h1:(s.getD 12 0).toNat<=100
 ·have f1:(100 < ((s.getD 12 0).toNat:Int))=False:=eq_false (by omega)
  by_cases h2:(s.getD 13 0).toNat<=3
  ·have f2:(3 < ((s.getD 13 0).toNat:Int))=False:=eq_false (by omega)
   by_cases h3:s.getD 6 0=0/\s.getD 7 0=0
   ·have f3:(((s.getD 6 0|||s.getD 7 0).toNat:Int)=0)=True:=eq_true (by have:=hz.mpr h3;omega)
    have hP:aj3 s=(partOf s,decide (1<=(partOf s).gen)&&(decide ((partOf s).gen<=1099511627776)&&decide (aA2 (partOf s)=s))):=by unfold aj3;rw[if_pos ⟨h1,h2,h3⟩]
    rw[hP];clear hP h3 hz;obtain⟨g1,g2,g3,g4⟩:=b82 s;have c1:=fun H=>b34 (o:=.sh) (s.take 6) H (by rw[List.length_take];omega)
    have c2:=fun H=>b34 (o:=.sh) ((s.drop 8).take 4) H (by rw[List.length_take];omega)
    have c3:=fun H=>dI1 (o:=.sh) ((s.drop 14).take (s.getD 12 0).toNat) H (by rw[List.length_take,List.length_drop];omega)
    have c4:=fun H=>c74 (partOf s) H (by omega) (by omega) (by omega) (by omega)
    have hsl:=bl1 (p:=partOf s) (by omega)
    have z1:(14+((s.getD 12 0).toNat:Int)).toNat - 14=(s.getD 12 0).toNat:=by omega
    generalize aA2 (partOf s)=S at*;have hp:partOf s=⟨ax8 (s.take 6),ax8 ((s.drop 8).take 4),(s.getD 13 0).toNat,(s.drop 14).take (s.getD 12 0).toNat⟩:=rfl;rw[hp] at c4 g1⊢;unfold ao1 at c4;unfold aA3 ao1;dsimp only at c4 g1⊢;generalize ax8 (s.take 6)=A at*;generalize ax8 ((s.drop 8).take 4)=B at*;by_cases k1:1<=A
    ·have q1:(1<=(A:Int))=True:=eq_true (by omega)
     by_cases k2:A<=1099511627776
     ·have q2:((A:Int)<=1099511627776)=True:=eq_true (by omega)
      rw[decide_eq_true k1,decide_eq_true k2,Bool.true_and,Bool.true_and];refine o8 [2000024,2000026,2000034,1000003,1000003001013,1000003003013,1000003005013,1000003007013,1000003008013,1000003011013,1000004,1000004000011,1000004012011,1000004012015] [.cell 2 256,.tmp 3] 51 Tryz.func252 ?_;repeat' first|refine l9 ?_|simp -dsimp -implicitDefEqProofs (disch:=first|omega|simp only[ll];omega) only[go_sem,hs,f1,f2,f3,bS5,z1,q1,q2,ao3]|refine l7 (c1 _) ?_|refine⟨_,_,c1 _,?_⟩|refine l7 (c2 _) ?_|refine⟨_,_,c2 _,?_⟩|refine l7 (c3 _) ?_|refine⟨_,_,c3 _,?_⟩|refine⟨_,_,c4 _,?_⟩|refine vcA ?_ ?_|omega
      exact aa1 _ (Le.refl _) ab2 ⟨rfl,rfl⟩
     ·have q2:((A:Int)<=1099511627776)=False:=eq_false (by omega)
      rw[decide_eq_true k1,decide_eq_false k2,Bool.true_and,az9];refine o8 [2000024,2000026,2000034,1000003,1000003001013,1000003003013,1000003005013,1000003007013,1000003008013,1000003011013,1000004,1000004000011,1000004012011,1000004012015] [.cell 2 256,.tmp 3] 51 Tryz.func252 ?_;repeat' first|refine l9 ?_|simp -dsimp -implicitDefEqProofs (disch:=first|omega|simp only[ll];omega) only[go_sem,hs,f1,f2,f3,bS5,z1,q1,q2,ao3]|refine l7 (c1 _) ?_|refine⟨_,_,c1 _,?_⟩|refine l7 (c2 _) ?_|refine⟨_,_,c2 _,?_⟩|refine l7 (c3 _) ?_|refine⟨_,_,c3 _,?_⟩|refine vcA ?_ ?_|omega
      exact aa1 _ (Le.refl _) ab2 ⟨rfl,rfl⟩
    ·have q1:(1<=(A:Int))=False:=eq_false (by omega)
     rw[decide_eq_false k1,az9];refine o8 [2000024,2000026,2000034,1000003,1000003001013,1000003003013,1000003005013,1000003007013,1000003008013,1000003011013,1000004,1000004000011,1000004012011,1000004012015] [.cell 2 256,.tmp 3] 51 Tryz.func252 ?_;repeat' first|refine l9 ?_|simp -dsimp -implicitDefEqProofs (disch:=first|omega|simp only[ll];omega) only[go_sem,hs,f1,f2,f3,bS5,z1,q1,ao3]|refine l7 (c1 _) ?_|refine⟨_,_,c1 _,?_⟩|refine l7 (c2 _) ?_|refine⟨_,_,c2 _,?_⟩|refine l7 (c3 _) ?_|refine⟨_,_,c3 _,?_⟩|refine vcA ?_ ?_|omega
     exact aa1 _ (Le.refl _) ab2 ⟨rfl,rfl⟩
   ·have f3:(((s.getD 6 0|||s.getD 7 0).toNat:Int)=0)=False:=eq_false (fun h=>h3 (hz.mp (by omega)))
    have hP:aj3 s=(as1,false):=by unfold aj3;rw[if_neg fun h=>h3 h.2.2]
    rw[hP];unfold aA3;rw[aW7];refine o8 [2000024,2000026,2000034,1000003,1000003001013,1000003003013,1000003005013,1000003007013,1000003008013,1000003011013,1000004,1000004000011,1000004012011,1000004012015] [.cell 2 256,.tmp 3] 51 Tryz.func252 ?_;repeat' first|refine l9 ?_|simp -dsimp -implicitDefEqProofs (disch:=first|omega|simp only[ll];omega) only[go_sem,hs,f1,f2,f3,bS5,ao3]
    exact aa1 (aA3 (as1,false)) (ad6 (ak3 (LeAll.cons (Le.refl _) (LeAll.cons (Le.refl _) (LeAll.cons (Le.refl _) (LeAll.cons ab7 LeAll.nil))))) (Le.refl _)) ab2 ⟨rfl,rfl⟩
  ·have f2:(3 < ((s.getD 13 0).toNat:Int))=True:=eq_true (by omega)
   have hP:aj3 s=(as1,false):=by unfold aj3;rw[if_neg fun h=>h2 h.2.1]
   rw[hP];unfold aA3;rw[aW7];refine o8 [2000024,2000026,2000034,1000003,1000003001013,1000003003013,1000003005013,1000003007013,1000003008013,1000003011013,1000004,1000004000011,1000004012011,1000004012015] [.cell 2 256,.tmp 3] 51 Tryz.func252 ?_;repeat' first|refine l9 ?_|simp -dsimp -implicitDefEqProofs (disch:=first|omega|simp only[ll];omega) only[go_sem,hs,f1,f2,ao3]
   exact aa1 (aA3 (as1,false)) (ad6 (ak3 (LeAll.cons (Le.refl _) (LeAll.cons (Le.refl _) (LeAll.cons (Le.refl _) (LeAll.cons ab7 LeAll.nil))))) (Le.refl _)) ab2 ⟨rfl,rfl⟩
 ·have f1:(100 < ((s.getD 12 0).toNat:Int))=True:=eq_true (by omega)
  have hP:aj3 s=(as1,false):=by unfold aj3;rw[if_neg fun h=>h1 h.1]
  rw[hP];unfold aA3;rw[aW7];refine o8 [2000024,2000026,2000034,1000003,1000003001013,1000003003013,1000003005013,1000003007013,1000003008013,1000003011013,1000004,1000004000011,1000004012011,1000004012015] [.cell 2 256,.tmp 3] 51 Tryz.func252 ?_;repeat' first|refine l9 ?_|simp -dsimp -implicitDefEqProofs (disch:=first|omega|simp only[ll];omega) only[go_sem,hs,f1,ao3]
  exact aa1 (aA3 (as1,false)) (ad6 (ak3 (LeAll.cons (Le.refl _) (LeAll.cons (Le.refl _) (LeAll.cons (Le.refl _) (LeAll.cons ab7 LeAll.nil))))) (Le.refl _)) ab2 ⟨rfl,rfl⟩
end As
end
section
open Go V
namespace As
theorem av4:List.replicate 128 (AV.lit (.int .u8 0))=au4.map o6:=by unfold au4;rw[bL3];rfl
theorem ao8:au4.length=128:=rfl
theorem by2{S T:bytes}(hS:S.length=128)(hT:T.length=128):af4 (T.map o6) 0 (S.map o6)=S.map o6:=by
 have:=aS8 (A:=[]) (B:=T) (X:=S) (off:=0) rfl (by omega)
 rw[List.nil_append] at this;rw[this,bc5 (by omega)]
 simp
theorem dk4{S:bytes}(hS:S.length=128)(x:AV):af4 (x::au4.map o6) 1 (S.map o6)=x::S.map o6:=by
 rw[aO2 _ _ _ (by simp[hS,ao8])]
 simp[hS,ao8]
theorem dI5:ag7 (AV.lit (.int .i64 0)::au4.map o6) 129=AV.lit (.int .i64 0)::au4.map o6:=by rw[<-av4];rfl
theorem aX5{S:bytes}(hS:S.length=128):S.take 128=S:=aF0 (by omega)
def cf4(q:bytes×Int):AV:=.tup [.agg (q.1.map o6),.lit (.int .i64 q.2)]
instance dat_readE (q:bytes×Int):Dat (cf4 q):=inferInstanceAs (Dat (.tup [.agg (q.1.map o6),.lit (.int .i64 q.2)]))
theorem cu4{d:Dk}(hd:WfK d){i:Nat}(h:i < d.secs.length):(d.secs.getD i au4).length=128:=hd.secs _ (ag9 h)
theorem d23{o:Own}{xs:List AV}(H:List AObj):o7 Tryz.prog 336 [.sl o 129 xs] H (fun y H'=>y=.fn (.func 406) [] [.ip (.sl o 129 xs)]/\H'=H):=by
 refine o8 [] [.tmp 2] 4 Tryz.func336 ?_;repeat' simp -dsimp -implicitDefEqProofs only[go_sem]
 exact o5 ⟨rfl,rfl⟩
theorem dj7{o:Own}{k:Nat}(H:List AObj):o7 Tryz.prog 406 [.yld k,.ip (.sl o 129 [])] H (fun x H'=>x=.tup []/\H'=H):=by
 refine o8 [] [] 19 Tryz.func406 ?_;repeat' simp -dsimp -implicitDefEqProofs (disch:=omega) only[go_sem]
 refine aa7 ab6 mixed [] [0,1] (fun _:Unit=>True) (fun _=>[(3,.lit (.int .i64 (-1)))]) (fun _=>H) (fun _=>0) (by kernel_rfl) ?_ () trivial aa3 rfl
 rintro⟨⟩ _
 repeat' first|refine l9 ?_|simp -dsimp -implicitDefEqProofs only[go_sem]
 exact o5 ⟨rfl,rfl⟩
theorem cL5(d:Dk)(i:Int)(H:List AObj)(hd:WfK d)(hL:d.loose=[]\/d.down=true):o7 Tryz.prog 251 [ae6 d,.lit (.int .i64 i)] H (fun y H'=>y=cf4 (as3 d i)/\H'=H):=by
 have c1:=fun H=>bM0 d i H
 have c2:=fun H=>bk4 d H hd
 have he:=by2 (S:=au4) (T:=au4) rfl rfl;have ht:=aX5 (S:=au4) rfl;unfold ae6 at*;refine aQ5 ab6 (rs:=[.cell 4 167,.cell 5 31]) (n:=39) Tryz.func251 rfl rfl rfl rfl (nlb rfl) ?_;refine an5 (ak0 (ad2 ab6 mixed (mu:=[]) _ ?ok ?_));case ok=>kernel_rfl
 repeat' simp -dsimp -implicitDefEqProofs only[go_sem,av4]
 cases hw:av5 d i with
 |false=>
  have hP:as3 d i=(au4,1):=by unfold as3;rw[hw,if_neg (by simp)]
  rw[hP];rw[hw] at c1;refine an5 (ak0 (ad2 ab6 mixed (mu:=[]) _ ?ok ?_));case ok=>kernel_rfl
  repeat' first|refine l9 ?_|simp -dsimp -implicitDefEqProofs only[go_sem,av4,ao8,ao3,he,ht]|refine l7 (c1 _) ?_|fail
  exact aa1 _ (Le.refl _) ab2 ⟨rfl,rfl⟩
 |true=>
  rw[hw] at c1;cases hr:aB4 d with
  |false=>
   have hP:as3 d i=(au4,1):=by unfold as3;rw[hr,if_neg (by simp)]
   rw[hP];rw[hr] at c2;refine an5 (ak0 (ad2 ab6 mixed (mu:=[]) _ ?ok ?_));case ok=>kernel_rfl
   repeat' first|refine l9 ?_|simp -dsimp -implicitDefEqProofs only[go_sem,av4,ao8,ao3,he,ht]|refine l7 (c1 _) ?_|refine l7 (c2 _) ?_|fail
   exact aa1 _ (Le.refl _) ab2 ⟨rfl,rfl⟩
  |true=>
   rw[hr] at c2;cases hdn:d.down with
   |true=>
    have hP:as3 d i=(au4,9):=by unfold as3;rw[hw,hr,hdn,if_pos ⟨rfl,rfl⟩,if_pos rfl]
    rw[hP];rw[hdn] at c1 c2;refine an5 (ak0 (ad2 ab6 mixed (mu:=[]) _ ?ok ?_));case ok=>kernel_rfl
    repeat' first|refine l9 ?_|simp -dsimp -implicitDefEqProofs only[go_sem,av4,ao8,ao3,he,ht]|refine l7 (c1 _) ?_|refine l7 (c2 _) ?_|fail
    exact aa1 _ (Le.refl _) ab2 ⟨rfl,rfl⟩
   |false=>
    have hl:d.loose=[]:=hL.resolve_right (by rw[hdn];simp)
    have hP:as3 d i=(d.secs.getD i.toNat au4,0):=by unfold as3;rw[hw,hr,hdn,hl,if_pos ⟨rfl,rfl⟩,if_neg (by simp)];rfl
    rw[hP];rw[hdn] at c1 c2;unfold av5 at hw;have hw:=of_decide_eq_true hw;obtain⟨n,rfl⟩: ∃n:Nat,i=n:=⟨i.toNat,by omega⟩
    have hn:n < d.secs.length:=by omega
    have hlen:=cu4 hd hn;rw[hl,List.map_nil];rw[hl,List.map_nil] at c1 c2;refine an5 (ak0 (ad2 ab6 mixed (mu:=[]) _ ?ok ?_));case ok=>kernel_rfl
    repeat' first|refine l9 ?_|simp -dsimp -implicitDefEqProofs only[go_sem,av4,ao8,ao3,he,ht]|refine l7 (c1 _) ?_|refine l7 (c2 _) ?_|fail
    refine an5 ?_;refine an5 (ak0 (ad2 ab6 mixed (mu:=[]) _ ?ok ?_));case ok=>kernel_rfl
    have hB:=fun H=>d23 (o:=.sh) (xs:=[]) H
    repeat' first|simp -dsimp -implicitDefEqProofs (disch:=omega) only[go_sem]|refine l7 (hB _) ?_|fail
    refine bn4 ?_;refine bn3 rfl Tryz.func406 rfl rfl ?_;intro r hr1 hr2 hr3 hr4 hr5 hr6;refine(dj7 _).mono fun x H' ⟨_,hH⟩=>⟨_,[],hH,rfl,fun j o e=>.inl e,?_⟩
    rw[ba7,bb5];refine ak0 (ad2 ab6 mixed (mu:=[]) _ ?ok ?_);case ok=>kernel_rfl
    have he:=by2 (S:=d.secs.getD n au4) (T:=au4) hlen rfl;have ht:=aX5 hlen;repeat' first|simp -dsimp -implicitDefEqProofs (disch:=first|assumption|omega|simp only[ll];omega) only[go_sem,dy8,hlen,ao8,he,ht,ao3]|refine vcA ?_ ?_|omega
    exact aa1 _ (Le.refl _) ab2 ⟨rfl,rfl⟩
theorem bv3{d:Dk}(hd:WfK d):WfK (al0 d).1:=by
 have hf:=hd.f;unfold al0;by_cases h:d.down=true\/d.fuse=0
 ·rw[if_pos h];exact⟨hd.secs,hd.loose,hd.n,hd.m,hd.f⟩
 ·rw[if_neg h]
  by_cases h2:0 < d.fuse
  ·rw[if_pos h2];exact⟨hd.secs,hd.loose,hd.n,hd.m,by dsimp only;omega⟩
  ·rw[if_neg h2];exact hd
theorem d22{o:Own}{xs:List AV}(H:List AObj)(hl:xs.length<=1000000):o7 Tryz.prog 340 [.sl o 129 xs] H (fun y H'=>y=.sl .full 129 xs/\H'=H):=by
 refine o8 [] [.tmp 2] 9 Tryz.func340 ?_;repeat' first|simp -dsimp -implicitDefEqProofs (disch:=omega) only[go_sem]|refine vcA ?_ ?_|omega
 exact o5 ⟨rfl,rfl⟩
theorem dF5(d:Dk)(i:Int)(b:bytes)(H:List AObj)(hd:WfK d)(hb:b.length=128):o7 Tryz.prog 254 [ae6 d,.lit (.int .i64 i),.agg (b.map o6)] H (fun y H'=>y=dkE (aH6 d i b)/\H'=H):=by
 have c1:=fun H=>bM0 d i H
 have c2:=fun H=>bk4 d H hd
 have c3:=fun H=>cH4 d H hd
 unfold dkE at c3;have hsw:=bv3 hd;have h1:=dk4 hb;have hT:=aX5 hb;unfold aH6;cases hw:av5 d i with
 |false=>
  rw[if_neg (by simp)]
  rw[hw] at c1;unfold dkE ae6 at*;refine o8 [3,1000008,1000008004002,1000008006002] [.cell 6 59,.tmp 7] 50 Tryz.func254 ?_;repeat' first|refine l9 ?_|simp -dsimp -implicitDefEqProofs (disch:=(simp only[ll];omega)) only[go_sem,hb,ao3]|refine l7 (c1 _) ?_|fail
  exact aa1 _ (Le.refl _) ab2 ⟨rfl,rfl⟩
 |true=>
  rw[hw] at c1;cases hr:aB4 d with
  |false=>
   rw[if_neg (by simp)]
   rw[hr] at c2;unfold dkE ae6 at*;refine o8 [3,1000008,1000008004002,1000008006002] [.cell 6 59,.tmp 7] 50 Tryz.func254 ?_;repeat' first|refine l9 ?_|simp -dsimp -implicitDefEqProofs (disch:=(simp only[ll];omega)) only[go_sem,hb,ao3]|refine l7 (c1 _) ?_|refine l7 (c2 _) ?_|fail
   exact aa1 _ (Le.refl _) ab2 ⟨rfl,rfl⟩
  |true=>
   rw[if_pos ⟨rfl,rfl⟩];rw[hr] at c2;by_cases hfull:d.down=false/\d.loose.length=4096
   ·rw[if_pos hfull]
    have f1:((d.loose.length:Int)=4096)=True:=eq_true (by omega)
    unfold dkE ae6 at*;rw[hfull.1] at c1 c2⊢;clear c3;refine o8 [3,1000008,1000008004002,1000008006002] [.cell 6 59,.tmp 7] 50 Tryz.func254 ?_;repeat' first|refine l9 ?_|simp -dsimp -implicitDefEqProofs (disch:=first|omega|simp only[ll];omega) only[go_sem,hb,ao3,f1]|refine l7 (c1 _) ?_|refine l7 (c2 _) ?_|fail
    exact aa1 _ (Le.refl _) ab2 ⟨rfl,rfl⟩
   ·rw[if_neg hfull]
    have hcond:d.down=true\/((d.loose.length:Int)=4096)=False:=by
     cases hdn:d.down with
     |true=>exact .inl rfl
     |false=>exact .inr (eq_false fun h=>hfull ⟨hdn,by omega⟩)
    by_cases he:(al0 d).2=0
    ·rw[if_pos he]
     rw[he] at c3;generalize (al0 d).1=q at*;have hqm:=hsw.m;have c4:=fun H=>d22 (o:=.sh) (xs:=q.loose.map aG3) H (by simp;omega)
     unfold dkE ae6 at*;rcases hcond with h|h
     ·rw[h] at c1 c2 c3⊢
      refine o8 [3,1000008,1000008004002,1000008006002] [.cell 6 59,.tmp 7] 50 Tryz.func254 ?_;repeat' first|refine l9 ?_|simp -dsimp -implicitDefEqProofs (disch:=first|omega|simp only[ll];omega) only[go_sem,hb,ao3,av4,ao8,dI5,h1,hT,ao5,an7,List.drop_zero,an6]|refine l7 (c1 _) ?_|refine l7 (c2 _) ?_|refine l7 (c3 _) ?_|refine⟨_,_,c4 _,?_⟩|refine vcA ?_ ?_|omega
      exact aa1 (dkE ({q with loose:=q.loose++[(i,b)]},0)) (ad6 (ak3 (LeAll.cons (Le.refl _) (LeAll.cons (by rw[aJ3];exact as4) (LeAll.cons (Le.refl _) (LeAll.cons (Le.refl _) LeAll.nil))))) (Le.refl _)) ab2 ⟨rfl,rfl⟩
     ·refine o8 [3,1000008,1000008004002,1000008006002] [.cell 6 59,.tmp 7] 50 Tryz.func254 ?_
      repeat' first|refine l9 ?_|simp -dsimp -implicitDefEqProofs (disch:=first|omega|simp only[ll];omega) only[go_sem,hb,ao3,h,av4,ao8,dI5,h1,hT,ao5,an7,List.drop_zero,an6]|refine l7 (c1 _) ?_|refine l7 (c2 _) ?_|refine l7 (c3 _) ?_|refine⟨_,_,c4 _,?_⟩|refine vcA ?_ ?_|omega|refine aa8 fun _=>?_
      all_goals exact aa1 (dkE ({q with loose:=q.loose++[(i,b)]},0)) (ad6 (ak3 (LeAll.cons (Le.refl _) (LeAll.cons (by rw[aJ3];exact as4) (LeAll.cons (Le.refl _) (LeAll.cons (Le.refl _) LeAll.nil))))) (Le.refl _)) ab2 ⟨rfl,rfl⟩
    ·rw[if_neg he]
     have f2:=eq_false he;generalize al0 d=q at*;unfold dkE ae6 at*;rcases hcond with h|h
     ·rw[h] at c1 c2 c3⊢
      refine o8 [3,1000008,1000008004002,1000008006002] [.cell 6 59,.tmp 7] 50 Tryz.func254 ?_;repeat' first|refine l9 ?_|simp -dsimp -implicitDefEqProofs (disch:=(simp only[ll];omega)) only[go_sem,hb,ao3,f2]|refine l7 (c1 _) ?_|refine l7 (c2 _) ?_|refine l7 (c3 _) ?_|fail
      exact aa1 _ (Le.refl _) ab2 ⟨rfl,rfl⟩
     ·refine o8 [3,1000008,1000008004002,1000008006002] [.cell 6 59,.tmp 7] 50 Tryz.func254 ?_
      repeat' first|refine l9 ?_|simp -dsimp -implicitDefEqProofs (disch:=first|omega|simp only[ll];omega) only[go_sem,hb,ao3,h,f2]|refine l7 (c1 _) ?_|refine l7 (c2 _) ?_|refine l7 (c3 _) ?_|refine vcA ?_ ?_|refine aa8 fun _=>?_
      all_goals exact aa1 _ (Le.refl _) ab2 ⟨rfl,rfl⟩
end As
end
section
open Go V
namespace As
theorem dw2{m:Nat}{x:AV}(h:Low m x:=by(first|(first|exact .lit _|exact .str _|exact .any|exact ac8|exact ad1|exact .mp _ _ (by omega)|exact .msl _ _ _ _ (by omega)|exact ac1 (fun k e=>by cases e)|exact ab1 _|exact ae4|exact ae7|exact af2|exact af1 _|exact ab5|exact ab2)|(refine ae2 ?_;repeat(first|exact aa4|(refine o9 ?_ ?_;focus(first|exact .lit _|exact .str _|exact .any|exact ac8|exact ad1|exact .mp _ _ (by omega)|exact .msl _ _ _ _ (by omega)|exact ac1 (fun k e=>by cases e)|exact ab1 _|exact ae4|exact ae7|exact af2|exact af1 _|exact ab5|exact ab2))))|(refine am9 ?_;repeat(first|exact aa4|(refine o9 ?_ ?_;focus(first|exact .lit _|exact .str _|exact .any|exact ac8|exact ad1|exact .mp _ _ (by omega)|exact .msl _ _ _ _ (by omega)|exact ac1 (fun k e=>by cases e)|exact ab1 _|exact ae4|exact ae7|exact af2|exact af1 _|exact ab5|exact ab2)))))):Low m x:=h
theorem cY2{A B X:List AV}{off:Nat}(h:off+X.length<=B.length):af4 (A++B) (A.length+off) X=A++af4 B off X:=by
 rw[aO2 _ _ _ (by rw[List.length_append];omega),aO2 _ _ _ h,bo3,List.take_length_add_append,List.drop_length_add_append]
 simp only[List.append_assoc]
theorem cl0{b:bytes}(hb:b.length=128): ∀{l:List bytes} {i:Nat},i < l.length->(∀s∈l,s.length=128)->af4 (aa2 (l.map al8)) (i*128) (b.map o6)=aa2 ((l.set i b).map al8)
 |[],_,h,_=>by cases h
 |s::r,0,_,hl=>by
  have hs:=hl s (by simp)
  show af4 (s.map o6++aa2 (r.map al8)) (0*128) (b.map o6)=b.map o6++aa2 (r.map al8)
  rw[bQ7,aO2 _ _ _ (by simp;omega),an6,List.nil_append,Nat.zero_add,bG1 (by simp;omega),bc5 (by simp;omega),List.nil_append]
 |s::r,i+1,h,hl=>by
  have hs:=hl s (by simp)
  have hr: ∀s∈r,s.length=128:=fun x hx=>hl x (by simp[hx])
  have hf:(aa2 (r.map al8)).length=r.length*128:=by rw[af5 (s:=128) fun y hy=>(bq6 hr y hy).1,List.length_map]
  have e:(i+1)*128=(s.map o6).length+i*128:=by rw[List.length_map,hs];omega
  show af4 (s.map o6++aa2 (r.map al8)) ((i+1)*128) (b.map o6)=s.map o6++aa2 ((r.set i b).map al8)
  have hi:i < r.length:=by simpa using h
  rw[e,cY2 (by rw[hf,List.length_map,hb];omega),cl0 hb hi hr]
theorem dH6{xs:List AV}{H:List AObj}(hu: ∀y∈xs,y.flat.length=128/\y.okv=true)(hne:xs≠[])(hl:xs.length<=100000):o7 Tryz.prog 96 [.sl .sh 128 xs] H (fun y H'=>y=.mrow H.length xs.length/\H'=H++[.cells (.prow 128) (aa2 xs)]):=by
 have hpos:=aD7.2 hne;refine o8 [7] [.tmp 2] 8 Tryz.func96 ?_;repeat' first|refine l9 ?_|simp -dsimp -implicitDefEqProofs (disch:=omega) only[go_sem,hne]|refine vcA ?_ ?_|omega
 exact aq9 ⟨rfl,rfl⟩
theorem dH5(l:List bytes)(H:List AObj)(hne:l.map al8≠[])(hl:l.length<=100000):o7 Tryz.prog 96 [.sl .sh 128 (l.map al8)] H (fun y H'=>y=.sl .sh 128 (l.map al8)/\H'=H):=by
 refine o8 [] [.tmp 2] 8 Tryz.func96 ?_;repeat' first|refine l9 ?_|simp -dsimp -implicitDefEqProofs (disch:=omega) only[go_sem,hne]|refine vcA ?_ ?_|omega
 exact aa1 _ as4 ab5 ⟨rfl,rfl⟩
def aH2(d:Dk)(i:Nat):List bytes:=(d.loose.take i).foldl (fun s w=>s.set w.1.toNat w.2) d.secs
theorem bm3(d:Dk)(i:Nat):(aH2 d i).length=d.secs.length:=by
 unfold aH2;generalize d.loose.take i=l;generalize d.secs=s;induction l generalizing s with
 |nil=>rfl
 |cons w r ih=>rw[List.foldl_cons,ih,List.length_set]
theorem cc6{α:Type}{l:List α}{i:Nat}{a x:α}(h:x∈l.set i a):x∈l\/x=a:=by
 rcases List.mem_or_eq_of_mem_set h with h|h
 ·exact .inl h
 ·exact .inr h
theorem bw2{d:Dk}(hd:WfK d)(i:Nat): ∀s∈aH2 d i,s.length=128:=by
 unfold aH2;have h1: ∀w∈d.loose.take i,w.2.length=128:=fun w hw=>hd.loose w (bg0 hw)
 have h2:=hd.secs;generalize d.loose.take i=l at*;generalize d.secs=s at*;induction l generalizing s with
 |nil=>exact h2
 |cons w r ih=>
  rw[List.foldl_cons];exact ih (fun x hx=>h1 x (by simp[hx])) _ fun x hx=>(cc6 hx).elim (h2 x) fun e=>by rw[e];exact h1 w (by simp)
theorem cV2{d:Dk}{i:Nat}(h:i < d.loose.length):aH2 d (i+1)=(aH2 d i).set (d.loose.getD i zWr).1.toNat (d.loose.getD i zWr).2:=by
 unfold aH2;rw[bn9 h,bQ8,List.getD,xq1 h];rfl
theorem bD0(d:Dk):aH2 d d.loose.length=d.loose.foldl (fun s w=>s.set w.1.toNat w.2) d.secs:=by
 unfold aH2;rw[aL1]
theorem bU0(d:Dk):(al0 d).1.secs=d.secs/\(al0 d).1.loose=d.loose:=by
 unfold al0;split
 ·exact⟨rfl,rfl⟩
 ·split<;>exact⟨rfl,rfl⟩
theorem d01(d:Dk)(H:List AObj)(hd:WfK d):o7 Tryz.prog 256 [ae6 d] H (fun y H'=>y=dkE (bv0 d)/\H'=H):=by
 have c2:=fun H=>bk4 d H hd
 have c3:=fun H=>cH4 d H hd
 unfold dkE at c3;have hsw:=bv3 hd;unfold bv0;cases hr:aB4 d with
 |false=>
  rw[if_neg (by simp)]
  rw[hr] at c2;unfold dkE ae6 at*;refine o8 [1] [.cell 2 59,.tmp 3] 41 Tryz.func256 ?_;repeat' first|refine l9 ?_|simp -dsimp -implicitDefEqProofs (disch:=(simp only[ll];omega)) only[go_sem]|refine l7 (c2 _) ?_|fail
  exact aa1 _ (Le.refl _) ab2 ⟨rfl,rfl⟩
 |true=>
  rw[if_pos rfl];rw[hr] at c2;by_cases he:(al0 d).2=0
  ·rw[if_pos he]
   rw[he] at c3;have hss:=bU0 d;unfold aB4 at hr;rw[xq3,decide_eq_true_eq] at hr;obtain⟨⟨hr1,hr2,hr3⟩,hr4⟩:=hr;have hr4: ∀w∈(al0 d).1.loose,0<=w.1/\w.1.toNat < (al0 d).1.secs.length:=fun w hw=>by
    rw[hss.2] at hw;have:=xq6.1 hr4 w hw;unfold av5 at this;have:=of_decide_eq_true this;rw[hss.1];omega
   rw[<-hss.1] at hr1 hr2;rw[<-hss.2] at hr3;clear hss;generalize (al0 d).1=q at*;have hqs:=hsw.secs;have hne:q.secs.map al8≠[]:=fun e=>by rw[cM5] at e;rw[e] at hr1;exact absurd hr1 (by decide)
   have hcl:=fun(H:List AObj)=>dH6 (xs:=q.secs.map al8) (H:=H) (bq6 hqs) hne (by rw[List.length_map];omega)
   rw[<-bD0];unfold dkE ae6 at*;refine o8 [1] [.cell 2 59,.tmp 3] 41 Tryz.func256 ?_;repeat' first|refine l9 ?_|simp -dsimp -implicitDefEqProofs (disch:=first|omega|simp only[ll];omega) only[go_sem]|refine l7 (c2 _) ?_|refine l7 (c3 _) ?_|refine l7 (hcl _) ?_|fail
   refine aa7 ab6 mixed [1] [1,2,3,25,26] (fun i:Nat=>i<=q.loose.length) (fun i=>[(27,.lit (.int .i64 (i:Int)))]) (fun i=>H++[.cells (.one 59) [.mrow (H.length+2) q.secs.length,.sl .sh 129 (q.loose.map aG3),.lit (.int .i64 q.fuse),.lit (.bool q.down)],.cells (.one 59) [.sl .full 0 [],.sl .full 0 [],.lit (.int .i64 0),.lit (.bool false)],.cells (.prow 128) (aa2 ((aH2 q i).map al8))]) (fun i=>q.loose.length - i) (by kernel_rfl) ?_ 0 (by omega) aa3 rfl
   intro i hi;have hfl:(aa2 ((aH2 q i).map al8)).length=q.secs.length*128:=by rw[af5 (s:=128) fun y hy=>(bq6 (bw2 hsw i) y hy).1,List.length_map,bm3]
   by_cases h:i < q.loose.length
   ·have hc:((i:Int) < (q.loose.length:Int))=True:=eq_true (by omega)
    have hw:=hr4 _ (ag9 (d:=zWr) h);have hwl:=hsw.loose _ (ag9 (d:=zWr) h);have hnx:=cV2 h;generalize hgw:q.loose.getD i zWr=w at*;obtain⟨a,b⟩:=w;dsimp only at hw hwl hnx;obtain⟨n,rfl⟩: ∃n:Nat,a=n:=⟨a.toNat,by omega⟩
    rw[Int.toNat_natCast] at hw hnx;have hset:=cl0 hwl (l:=aH2 q i) (i:=n) (by rw[bm3];exact hw.2) (bw2 hsw i)
    rw[<-hnx] at hset;have hn:=hw.2;have h1:=dk4 hwl;have hT:=aX5 hwl;repeat' first|refine l9 ?_|simp -dsimp -implicitDefEqProofs (disch:=first|assumption|omega|simp only[ll];omega) only[go_sem,hc,cK2,hgw,av4,ao8,hwl,ao3,hT,hset,hfl,h1,hn,ao5,an7,List.drop_zero,an6]|refine vcA ?_ ?_|omega
    refine ak5 (H.length+3) ([.cells (.one 169) (.lit (.int .i64 (n:Int))::b.map o6)]) (i+1) ?_ ?_ ?_ ?_ ?_ (by repeat(first|exact ae1|(refine ad3 ?_ ?_;focus(first|exact ab2|exact dw2)))) ?_ aa3
    ·omega
    ·omega
    ·simp
    ·simp
    ·simp
    ·exact aF4 fun o ho sh cs e=>by
      simp only[an8,aJ2,or_false] at ho;rcases ho with rfl|rfl|rfl<;>cases e
      ·exact o9 (.mrow _ _ (by omega)) (o9 ab5 (o9 (.lit _) (o9 (.lit _) aa4)))
      ·exact o9 (ac1 (fun k e=>by cases e)) (o9 (ac1 (fun k e=>by cases e)) (o9 (.lit _) (o9 (.lit _) aa4)))
      ·exact be5
   ·obtain rfl:i=q.loose.length:=by omega
    have hc:((q.loose.length:Int) < (q.loose.length:Int))=False:=eq_false (by omega)
    repeat' first|refine l9 ?_|simp -dsimp -implicitDefEqProofs (disch:=(simp only[ll];omega)) only[go_sem,hc]
    have hk:(H++[AObj.cells (.one 59) [.mrow (H.length+2) q.secs.length,.sl .full 0 [],.lit (.int .i64 q.fuse),.lit (.bool q.down)],AObj.cells (.one 59) [.mrow (H.length+2) q.secs.length,.sl .full 0 [],.lit (.int .i64 q.fuse),.lit (.bool q.down)],AObj.cells (.prow 128) (aa2 ((aH2 q q.loose.length).map al8))])[H.length+2]?=some (AObj.cells (.prow 128) (aa2 ((aH2 q q.loose.length).map al8))):=ao7;refine ap1 (H':=[]) hk (bO7 (cu8 (bs7 hk (by rw[List.length_map,bm3]) (bq6 (bw2 hsw _)) rfl))) ?_
    rw[an1];exact aa1 (dkE (⟨aH2 q q.loose.length,[],q.fuse,q.down⟩,0)) (ad6 (ak3 (LeAll.cons (Le.refl _) (LeAll.cons ab7 (LeAll.cons (Le.refl _) (LeAll.cons (Le.refl _) LeAll.nil))))) (Le.refl _)) ab2 ⟨rfl,rfl⟩
  ·rw[if_neg he]
   have f2:=eq_false he;generalize al0 d=q at*;unfold dkE ae6 at*;refine o8 [1] [.cell 2 59,.tmp 3] 41 Tryz.func256 ?_;repeat' first|refine l9 ?_|simp -dsimp -implicitDefEqProofs (disch:=(simp only[ll];omega)) only[go_sem,f2]|refine l7 (c2 _) ?_|refine l7 (c3 _) ?_|fail
   exact aa1 _ (Le.refl _) ab2 ⟨rfl,rfl⟩
theorem eh0(d:Dk)(n:Int)(H:List AObj):o7 Tryz.prog 98 [ae6 d,.lit (.int .i64 n)] H (fun y H'=>y=ae6 {d with fuse:=max n (-1)}/\H'=H):=by
 unfold ae6;refine o8 [2] [.cell 4 59] 9 Tryz.func98 ?_;repeat' simp -dsimp -implicitDefEqProofs (disch:=(simp only[ll];omega)) only[go_sem]
 exact aa1 _ (Le.refl _) ab2 ⟨rfl,rfl⟩
instance dat_slnil (s:Nat):Dat (.sl .sh s []):=⟨fun _=>.sl _ _ _ (fun k e=>by cases e) (fun x hx=>by cases hx)⟩
theorem d17(d:Dk)(n:Int)(H:List AObj)(hd:WfK d)(hl:d.loose=[]):o7 Tryz.prog 39 [ae6 d,.sl .full 0 [],.lit (.int .i64 n)] H (fun y H'=>y=dkE (aA4 d n)/\H'=H):=by
 have c2:=fun H=>bk4 d H hd
 unfold aA4;cases hr:aB4 d with
 |false=>
  rw[if_neg (by simp)]
  rw[hr] at c2;unfold dkE ae6 at*;refine o8 [3,1000009] [.cell 6 59,.tmp 7] 55 Tryz.func39 ?_;repeat' first|refine l9 ?_|simp -dsimp -implicitDefEqProofs (disch:=(simp only[ll];omega)) only[go_sem]|refine l7 (c2 _) ?_|fail
  exact aa1 _ (Le.refl _) ab2 ⟨rfl,rfl⟩
 |true=>
  rw[if_pos rfl];rw[hr] at c2;unfold aB4 at hr;rw[xq3,decide_eq_true_eq] at hr;obtain⟨⟨hr1,hr2,hr3⟩,hr4⟩:=hr;have hne:d.secs.map al8≠[]:=fun e=>by rw[cM5] at e;rw[e] at hr1;exact absurd hr1 (by decide)
  have hcl:=fun(H:List AObj)=>dH5 d.secs H hne (by omega)
  unfold dkE;have c3:=fun H=>eh0 ⟨d.secs,[],d.fuse,false⟩ n H
  unfold ae6 at*;dsimp only at c3⊢;rw[List.map_nil] at c3⊢;have c4:=fun H=>o7.weak (args:=[.agg [.sl .sh 128 (d.secs.map al8),.sl .full 0 [],.lit (.int .i64 d.fuse),.lit (.bool false)],.lit (.int .i64 n)]) (c3 H) rfl (fun j x y e1 e2=>by
   match j,e1,e2 with
   |0,rfl,rfl=>exact ak3 (LeAll.cons (Le.refl _) (LeAll.cons ab7 (LeAll.cons (Le.refl _) (LeAll.cons (Le.refl _) LeAll.nil))))
   |1,rfl,rfl=>exact Le.refl _)
  clear c3;rw[hl,List.map_nil] at c2⊢;refine o8 [3,1000009] [.cell 6 59,.tmp 7] 55 Tryz.func39 ?_;repeat' first|refine l9 ?_|simp -dsimp -implicitDefEqProofs (disch:=first|omega|simp only[ll];omega) only[go_sem]|refine l7 (c2 _) ?_|refine l7 (hcl _) ?_|fail
  refine aa7 ab6 mixed [3,1000009] [1,2,3,6,7,20,21] (fun _:Unit=>True) (fun _=>[(22,.lit (.int .i64 0))]) (fun _=>H++[.cells (.one 59) [.sl .sh 128 (d.secs.map al8),.sl .sh 129 [],.lit (.int .i64 d.fuse),.lit (.bool d.down)],.cells (.one 59) [.sl .full 0 [],.sl .full 0 [],.lit (.int .i64 0),.lit (.bool false)]]) (fun _=>0) (by kernel_rfl) ?_ () trivial aa3 rfl
  rintro⟨⟩ _
  repeat' first|refine l9 ?_|simp -dsimp -implicitDefEqProofs (disch:=(simp only[ll];omega)) only[go_sem]|refine l7 (c4 _) ?_|fail
  exact aa1 _ (Le.refl _) ab2 ⟨rfl,rfl⟩
end As
end
section
open Go V
namespace As
def am1(d:Dk)(half:Nat):List AV:=[.sl .sh 128 (d.secs.map al8),.sl .sh 129 (d.loose.map aG3),.lit (.int .i64 d.fuse),.lit (.bool d.down),.lit (.int .i64 (half:Int))]
theorem bD5(d:Dk):((ac4 d:Nat):Int)=(d.secs.length:Int)/2:=by unfold ac4;omega
theorem bU5{k:Nat}{sh:Shape}(d:Dk)(half:Nat)(H:List AObj)(hk:H[k]?=some (.cells sh (am1 d half)))(hd:WfK d):o7 Tryz.prog 178 [.mp k 0] H (fun y H'=>y=.lit (.int .i64 (ac4 d:Nat))/\H'=H):=by
 have hn:=hd.n;unfold am1 at hk;rw[bD5];refine o8 [] [.tmp 2] 10 Tryz.func178 ?_;repeat' simp -dsimp -implicitDefEqProofs (disch:=omega) only[go_sem,hk]
 exact o5 ⟨rfl,rfl⟩
theorem bu7{s:bytes}:(aj3 s).1.data.length<=100/\(aj3 s).1.marks<=3/\(aj3 s).1.gen < 281474976710656/\(aj3 s).1.index < 4294967296:=by
 unfold aj3;split
 ·rename_i h
  obtain⟨g1,g2,g3,g4⟩:=b82 s;refine⟨?_,?_,g1,g2⟩
  ·show (partOf s).data.length<=100
   omega
  ·show (s.getD 13 0).toNat<=3
   exact h.2.1
 ·exact⟨by decide,by decide,by decide,by decide⟩
theorem bu8{s:bytes}(h:(aj3 s).2=true):1<=(aj3 s).1.gen/\(aj3 s).1.gen<=1099511627776:=by
 unfold aj3 at h⊢;split
 ·rename_i hc
  rw[if_pos hc] at h;simp only[xq3,decide_eq_true_eq] at h;exact⟨h.1,h.2.1⟩
 ·rename_i hc
  rw[if_neg hc] at h;cases h
theorem b81{d:Dk}(hd:WfK d)(i:Int):(as3 d i).1.length=128:=by
 unfold as3;split
 ·rename_i h
  split
  ·rfl
  ·split
   ·rename_i w hw
    exact hd.loose w (bR0.1 (List.mem_of_find?_eq_some hw))
   ·have:=h.1
    unfold av5 at this;have:=of_decide_eq_true this;exact cu4 hd (by omega)
 ·rfl
theorem cn0(d:Dk)(half index:Nat):(au5 d half index).1.data.length<=100/\(au5 d half index).1.marks<=3/\(au5 d half index).1.gen < 281474976710656/\(au5 d half index).1.index < 4294967296:=by
 unfold au5;split
 ·split
  ·exact bu7
  ·exact⟨by decide,by decide,by decide,by decide⟩
 ·exact⟨by decide,by decide,by decide,by decide⟩
theorem br9{k:Nat}{sh:Shape}(d:Dk)(half index:Nat)(H:List AObj)(hk:H[k]?=some (.cells sh (am1 d half)))(hd:WfK d)(hL:d.loose=[]\/d.down=true)(hh:half<=1):o7 Tryz.prog 182 [.mp k 0,.lit (.int .i64 (index:Int))] H (fun y H'=>y=aA3 (au5 d half index)/\H'=H):=by
 have hn:=hd.n;have c1:=fun M=>bU5 d half (H++M) (by rw[xq4 (aa0 hk)];exact hk) hd
 have hnn:ac4 d<=50000:=by unfold ac4;omega
 have hkl:=aa0 hk;by_cases hi:index < ac4 d
 ·have f1:(((ac4 d:Nat):Int)<=(index:Int))=False:=eq_false (by omega)
  have hmul:half*ac4 d<=1*50000:=Nat.mul_le_mul hh hnn;have w1:IntKind.i64.wrap ((half:Int)*((ac4 d:Nat):Int))=((half*ac4 d:Nat):Int):=by rw[<-b30,IntKind.wrap_i64];omega
  have w2:IntKind.i64.wrap (((half*ac4 d:Nat):Int)+(index:Int))=((half*ac4 d+index:Nat):Int):=by rw[IntKind.wrap_i64];omega
  have c2:=fun H=>cL5 d ((half*ac4 d+index:Nat):Int) H hd hL
  have hP:au5 d half index=(if(as3 d (half*ac4 d+index:Nat)).2=0 then((aj3 (as3 d (half*ac4 d+index:Nat)).1).1,(aj3 (as3 d (half*ac4 d+index:Nat)).1).2&&decide ((aj3 (as3 d (half*ac4 d+index:Nat)).1).1.index=index)) else(as1,false)):=by unfold au5;rw[if_pos hi]
  rw[hP];clear hP;have hrl:=b81 hd ((half*ac4 d+index:Nat):Int);generalize ((half*ac4 d+index:Nat):Int)=at0 at*;generalize as3 d at0=q at*;obtain⟨sc,e⟩:=q;dsimp only at hrl⊢;unfold cf4 ae6 at c2;have hk0:=hk;unfold am1 at hk;have he:=by2 (S:=sc) (T:=au4) hrl rfl;have ht:=aX5 hrl;by_cases h0:e=0
  ·subst h0
   rw[if_pos rfl];have c3:=fun H=>ci7 sc H hrl
   have hul:=bu7 (s:=sc);generalize aj3 sc=u at*;obtain⟨p,ok⟩:=u;dsimp only at hul⊢;unfold aA3 ao1 at c3⊢;cases ok with
   |true=>
    by_cases hx:p.index=index
    ·have f3:((p.index:Int)=(index:Int))=True:=eq_true (by omega)
     rw[Bool.true_and,decide_eq_true hx];refine o8 [2000025,2000029,1000003,1000003003017,1000003007017,1000003009017,1000003013017,1000007,1000007004008] [.cell 4 256,.tmp 5] 48 Tryz.func182 ?_;repeat' first|refine l9 ?_|simp -dsimp -implicitDefEqProofs (disch:=first|assumption|omega|simp only[ll];omega) only[go_sem,hk,f1,w1,w2,av4,ao8,hrl,ao3,he,ht,f3]|refine l7 (c1 _) ?_|refine⟨_,_,c1 _,?_⟩|refine l7 (c2 _) ?_|refine⟨_,_,c2 _,?_⟩|refine l7 (c3 _) ?_|refine vcA ?_ ?_
     exact aa1 _ (Le.refl _) ab2 ⟨rfl,rfl⟩
    ·have f3:((p.index:Int)=(index:Int))=False:=eq_false (by omega)
     rw[Bool.true_and,decide_eq_false hx];refine o8 [2000025,2000029,1000003,1000003003017,1000003007017,1000003009017,1000003013017,1000007,1000007004008] [.cell 4 256,.tmp 5] 48 Tryz.func182 ?_;repeat' first|refine l9 ?_|simp -dsimp -implicitDefEqProofs (disch:=first|assumption|omega|simp only[ll];omega) only[go_sem,hk,f1,w1,w2,av4,ao8,hrl,ao3,he,ht,f3]|refine l7 (c1 _) ?_|refine⟨_,_,c1 _,?_⟩|refine l7 (c2 _) ?_|refine⟨_,_,c2 _,?_⟩|refine l7 (c3 _) ?_|refine vcA ?_ ?_
     exact aa1 _ (Le.refl _) ab2 ⟨rfl,rfl⟩
   |false=>
    rw[az9];refine o8 [2000025,2000029,1000003,1000003003017,1000003007017,1000003009017,1000003013017,1000007,1000007004008] [.cell 4 256,.tmp 5] 48 Tryz.func182 ?_;repeat' first|refine l9 ?_|simp -dsimp -implicitDefEqProofs (disch:=first|assumption|simp only[ll];omega) only[go_sem,hk,f1,w1,w2,av4,ao8,hrl,ao3,he,ht]|refine l7 (c1 _) ?_|refine⟨_,_,c1 _,?_⟩|refine l7 (c2 _) ?_|refine⟨_,_,c2 _,?_⟩|refine l7 (c3 _) ?_|refine vcA ?_ ?_
    exact aa1 _ (Le.refl _) ab2 ⟨rfl,rfl⟩
  ·have f2:=eq_false h0
   rw[if_neg h0];unfold aA3;rw[aW7];refine o8 [2000025,2000029,1000003,1000003003017,1000003007017,1000003009017,1000003013017,1000007,1000007004008] [.cell 4 256,.tmp 5] 48 Tryz.func182 ?_;repeat' first|refine l9 ?_|simp -dsimp -implicitDefEqProofs (disch:=first|assumption|simp only[ll];omega) only[go_sem,hk,f1,f2,w1,w2,av4,ao8,hrl,ao3,he,ht]|refine l7 (c1 _) ?_|refine⟨_,_,c1 _,?_⟩|refine l7 (c2 _) ?_|refine⟨_,_,c2 _,?_⟩|refine vcA ?_ ?_
   exact aa1 (aA3 (as1,false)) (ad6 (ak3 (LeAll.cons (Le.refl _) (LeAll.cons (Le.refl _) (LeAll.cons (Le.refl _) (LeAll.cons ab7 LeAll.nil))))) (Le.refl _)) ab2 ⟨rfl,rfl⟩
 ·have f1:(((ac4 d:Nat):Int)<=(index:Int))=True:=eq_true (by omega)
  have hP:au5 d half index=(as1,false):=by unfold au5;rw[if_neg hi]
  rw[hP];unfold aA3;rw[aW7];refine o8 [2000025,2000029,1000003,1000003003017,1000003007017,1000003009017,1000003013017,1000007,1000007004008] [.cell 4 256,.tmp 5] 48 Tryz.func182 ?_;repeat' first|refine l9 ?_|simp -dsimp -implicitDefEqProofs (disch:=(simp only[ll];omega)) only[go_sem,f1]|refine l7 (c1 _) ?_|fail
  exact aa1 (aA3 (as1,false)) (ad6 (ak3 (LeAll.cons (Le.refl _) (LeAll.cons (Le.refl _) (LeAll.cons (Le.refl _) (LeAll.cons ab7 LeAll.nil))))) (Le.refl _)) ab2 ⟨rfl,rfl⟩
end As
end
section
open Go V
theorem dw1{m:Nat}{x:AV}(h:Low m x:=by(first|(first|exact .lit _|exact .str _|exact .any|exact ac8|exact ad1|exact .mp _ _ (by omega)|exact .msl _ _ _ _ (by omega)|exact ac1 (fun k e=>by cases e)|exact ab1 _|exact ae4|exact ae7|exact af2|exact af1 _|exact ab5|exact ab2)|(refine ae2 ?_;repeat(first|exact aa4|(refine o9 ?_ ?_;focus(first|exact .lit _|exact .str _|exact .any|exact ac8|exact ad1|exact .mp _ _ (by omega)|exact .msl _ _ _ _ (by omega)|exact ac1 (fun k e=>by cases e)|exact ab1 _|exact ae4|exact ae7|exact af2|exact af1 _|exact ab5|exact ab2))))|(refine am9 ?_;repeat(first|exact aa4|(refine o9 ?_ ?_;focus(first|exact .lit _|exact .str _|exact .any|exact ac8|exact ad1|exact .mp _ _ (by omega)|exact .msl _ _ _ _ (by omega)|exact ac1 (fun k e=>by cases e)|exact ab1 _|exact ae4|exact ae7|exact af2|exact af1 _|exact ab5|exact ab2)))))):Low m x:=h
section
variable {P:Program}{L:Tab}{mu:List Nat}{rid i:Nat}{d:Option Tmp}{ty:TypeId}{pos:String}{af:Array Edge}{g:Option (Nat×Bool)}{env:Env}{H H':List AObj}{z:AV}{hist:List (Nat×List AObj)}{rs:List (Nat×Oper×Env×AV)}{k:List (Nat×List AObj)->List (Nat×Oper×Env×AV)->Prop}
theorem dR5{op:BinOp}{t t':TypeId}{x:Operand}{j:Tmp}:ah4 P L mu rid i ⟨d,.binOp op t x (.tmp j) t',ty,pos,af,g⟩ env H z H' hist rs k=k hist rs:=cp7 rfl
attribute [go_sem ↓] dR5
end
namespace As
theorem dm8{d:Dk}{i:Int}{b:bytes}(hd:WfK d)(hb:b.length=128):WfK (aH6 d i b).1:=by
 have hs:=bv3 hd;unfold aH6;split
 ·rename_i h
  split
  ·exact hd
  ·split
   ·have hss:=bU0 d
    have hr:=h.2;unfold aB4 at hr;rw[xq3,decide_eq_true_eq] at hr;refine⟨hs.secs,fun w hw=>?_,hs.n,?_,hs.f⟩
    ·rcases aT2.1 hw with h1|h1
     ·exact hs.loose w h1
     ·rw[aT1.1 h1];exact hb
    ·show ((al0 d).1.loose++[(i,b)]).length<=100000
     rw[List.length_append,hss.2];simp only[List.length_cons,List.length_nil];omega
   ·exact hs
 ·exact hd
theorem bJ3(half:Nat)(p:Part): ∀(l:List Part) (d:Dk),af9 half d (l++[p])=if(af9 half d l).2=0 then aH6 (af9 half d l).1 (half*ac4 (af9 half d l).1+p.index:Nat) (aA2 p) else af9 half d l
 |[],d=>by
  rw[List.nil_append,af9,af9];dsimp only;rw[if_pos rfl];by_cases h:(aH6 d (half*ac4 d+p.index:Nat) (aA2 p)).2=0
  ·rw[if_pos h,af9];exact Prod.ext rfl h.symm
  ·rw[if_neg h]
 |q::r,d=>by
  rw[List.cons_append,af9,af9];by_cases h:(aH6 d (half*ac4 d+q.index:Nat) (aA2 q)).2=0
  ·rw[if_pos h,if_pos h];exact bJ3 half p r _
  ·rw[if_neg h,if_neg h,if_neg h]
theorem bS0(half:Nat)(m:List Part): ∀(l:List Part) (d:Dk),(af9 half d l).2≠0->af9 half d (l++m)=af9 half d l
 |[],d,h=>absurd rfl h
 |q::r,d,h=>by
  rw[List.cons_append,af9];rw[af9] at h⊢;by_cases h1:(aH6 d (half*ac4 d+q.index:Nat) (aA2 q)).2=0
  ·rw[if_pos h1] at h⊢
   rw[if_pos h1];exact bS0 half m r _ h
  ·rw[if_neg h1,if_neg h1]
structure PartOk(p:Part):Prop where
 gen:p.gen < 9223372036854775808
 index:p.index < 4294967296
 marks:p.marks < 256
 data:p.data.length<=100
theorem bk8{half:Nat}: ∀{l:List Part} {d:Dk},WfK d->(∀p∈l,PartOk p)->WfK (af9 half d l).1
 |[],_,hd,_=>hd
 |p::r,d,hd,hp=>by
  rw[af9];have h1:=dm8 (i:=(half*ac4 d+p.index:Nat)) hd (bl1 (hp p (by simp)).data)
  split
  ·exact bk8 h1 fun x hx=>hp x (by simp[hx])
  ·exact h1
theorem b95{l:List Part}{i:Nat}(h:i < l.length):(l.map ao1).getD i .any=.agg [.lit (.int .i64 ((l.getD i as1).gen:Nat)),.lit (.int .i64 ((l.getD i as1).index:Nat)),.lit (.int .u8 ((l.getD i as1).marks:Nat)),.sl .sh 1 ((l.getD i as1).data.map o6)]:=getD_map _ _ h
theorem ci9{l:List Part}: ∀y∈l.map ao1,y.flat.length=4/\y.okv=true:=fun y hy=>by
 obtain⟨x,_,rfl⟩:=xq9.1 hy;exact⟨rfl,rfl⟩
theorem dQ8{H:List AObj}{k m:Nat}{o o':AObj}(h:o'.low m): ∀(j:Nat) (x:AObj),(H.set k o')[j]?=some x->(H.set k o)[j]?=some x\/x.low m:=fun j x e=>by
 by_cases hj:k=j
 ·subst hj
  rcases xq8 k H.length with hl|hl
  ·rw[aA0 hl] at e
   cases e
   exact .inr h
  ·rw[aw1 (by rw[List.length_set];exact hl)] at e
   cases e
 ·rw[ar6 hj] at e⊢
  exact .inl e
theorem cr5{m:Nat}{d:Dk}{half:Nat}:aM9 m (am1 d half):=o9 ab5 (o9 ab5 (o9 (.lit _) (o9 (.lit _) (o9 (.lit _) aa4))))
theorem ci0{k:Nat}{sh:Shape}(d:Dk)(half:Nat)(l:List Part)(H:List AObj)(hk:H[k]?=some (.cells sh (am1 d half)))(hd:WfK d)(hh:half<=1)(hl:l.length<=100000)(hp: ∀p∈l,PartOk p):
  o7 Tryz.prog 171 [.mp k 0,.sl .sh 4 (l.map ao1)] H (fun y H'=>y=.lit (.int .i64 (aM1 half d l).2)/\H'=H.set k (.cells sh (am1 (aM1 half d l).1 half))):=by
 have hkl:=aa0 hk;have hat: ∀o M,(H.set k o++M)[k]?=some o:=fun o M=>br1 hkl
 have hat0: ∀o,(H.set k o)[k]?=some o:=fun o=>aA0 hkl
 have hst: ∀o x M,(H.set k o++M).set k x=H.set k x++M:=fun o x M=>bM7 hkl
 have hlen: ∀o,(H.set k o).length=H.length:=fun o=>List.length_set
 refine o8 [1000004,1000004004010,1000004004016,1000004008010,1000004008016,1000004013010,1000004013016,1000004015010] [.tmp 4] 52 Tryz.func171 ?_;repeat' simp -dsimp -implicitDefEqProofs only[go_sem]
 refine aa7 ab6 mixed [1000004,1000004004010,1000004004016,1000004008010,1000004008016,1000004013010,1000004013016,1000004015010] [0,7,8] (fun i:Nat=>i<=l.length/\(af9 half d (l.take i)).2=0) (fun i=>[(9,.lit (.int .i64 (i:Int)))]) (fun i=>H.set k (.cells sh (am1 (af9 half d (l.take i)).1 half))) (fun i=>l.length - i) (by kernel_rfl) ?_ 0 ⟨by omega,rfl⟩ aa3 (ba2 hk).symm
 rintro i ⟨hi,hI⟩
 have hDw:WfK (af9 half d (l.take i)).1:=bk8 hd fun p hp'=>hp p (bg0 hp')
 by_cases h:i < l.length
 ·have hc:((i:Int) < (l.length:Int))=True:=eq_true (by omega)
  have hps:=hp _ (ag9 (d:=as1) h);have hnx:af9 half d (l.take (i+1))=aH6 (af9 half d (l.take i)).1 (half*ac4 (af9 half d (l.take i)).1+(l.getD i as1).index:Nat) (aA2 (l.getD i as1)):=by
   have e:l.take (i+1)=l.take i++[l.getD i as1]:=by
    rw[bn9 h,List.getD,xq1 h];rfl
   rw[e,bJ3,if_pos hI]
  have herr:(af9 half d (l.take (i+1))).2≠0->af9 half d l=af9 half d (l.take (i+1)):=fun he=>by
   have:=bS0 half (l.drop (i+1)) (l.take (i+1)) d he;rwa [bt9] at this
  generalize hW:af9 half d (l.take (i+1))=W at*;generalize (af9 half d (l.take i)).1=D at*;generalize hgp:l.getD i as1=p at*;obtain⟨p1,p2,p3,p4⟩:=hps;have hn:=hDw.n;have hnn:ac4 D<=50000:=by unfold ac4;omega
  have hmul:half*ac4 D<=1*50000:=Nat.mul_le_mul hh hnn;have w1:IntKind.i64.wrap ((half:Int)*((ac4 D:Nat):Int))=((half*ac4 D:Nat):Int):=by rw[<-b30,IntKind.wrap_i64];omega
  have w2:IntKind.i64.wrap (((half*ac4 D:Nat):Int)+(p.index:Int))=((half*ac4 D+p.index:Nat):Int):=by rw[IntKind.wrap_i64];omega
  have c1:=fun M=>bU5 D half (H.set k (.cells sh (am1 D half))++M) (br1 hkl) hDw
  have c2:=fun H=>c74 p H p1 (by omega) p3 p4
  have c3:=fun H=>dF5 D ((half*ac4 D+p.index:Nat):Int) (aA2 p) H hDw (bl1 p4)
  rw[<-hnx] at c3;clear hnx;generalize ((half*ac4 D+p.index:Nat):Int)=at0 at*;generalize aA2 p=S at*;obtain⟨q,e⟩:=W;dsimp only at herr c3;unfold dkE ae6 at c3;unfold ao1 at c2;by_cases he:e=0
  ·subst he
   unfold am1 at*;repeat' first|refine l9 ?_|simp -dsimp -implicitDefEqProofs (disch:=first|assumption|omega|simp only[ll];omega) only[go_sem,hc,b95,hgp,hat,hst,hlen,w1,w2]|refine⟨_,_,c1 _,?_⟩|refine⟨_,_,c2 _,?_⟩|refine⟨_,_,c3 _,?_⟩|fail
   refine ak5 (H.length) ([.cells (.one 256) [.lit (.int .i64 (p.gen:Nat)),.lit (.int .i64 (p.index:Nat)),.lit (.int .u8 (p.marks:Nat)),.sl .sh 1 (p.data.map o6)]]) (i+1) ?_ ?_ ?_ ?_ ?_ (by repeat(first|exact ae1|(refine ad3 ?_ ?_;focus(first|exact ab2|exact dw1)))) ?_ aa3
   ·omega
   ·exact⟨by omega,by rw[hW]⟩
   ·rw[hW]
   ·simp
   ·simp
   ·exact dQ8 (aA5 (fun sh cs e=>by cases e;exact cr5) rfl)
  ·have hfe:=eq_false he
   have hput:aM1 half d l=(q,e):=by
    have:=herr he;unfold aM1;rw[this];exact if_neg he
   rw[hput];unfold am1 at*;repeat' first|refine l9 ?_|simp -dsimp -implicitDefEqProofs (disch:=first|assumption|omega|simp only[ll];omega) only[go_sem,hc,b95,hgp,hat,hst,hlen,w1,w2,hfe]|refine⟨_,_,c1 _,?_⟩|refine⟨_,_,c2 _,?_⟩|refine⟨_,_,c3 _,?_⟩|fail
   exact aS6 (.lit _) (fun sh cs e=>by cases e;exact cr5 (d:=q) (half:=half)) ⟨rfl,rfl⟩
 ·obtain rfl:i=l.length:=by omega
  have hc:((l.length:Int) < (l.length:Int))=False:=eq_false (by omega)
  rw[aL1] at hI hDw⊢;have hput:aM1 half d l=bv0 (af9 half d l).1:=if_pos hI;rw[hput];have c4:=fun H=>d01 (af9 half d l).1 H hDw
  generalize (af9 half d l).1=D at*;generalize bv0 D=q at*;unfold dkE ae6 at c4;unfold am1 at*;repeat' first|refine l9 ?_|simp -dsimp -implicitDefEqProofs only[go_sem,hc,hat0,List.set_set]|refine l7 (c4 _) ?_|fail
  exact aa5 _ (Le.refl _) (by rw[List.length_set];exact xq0 _) ⟨rfl,rfl⟩
theorem cG5{k:Nat}{sh:Shape}{o:Own}(d:Dk)(half:Nat)(l:List Part)(H:List AObj)(hk:H[k]?=some (.cells sh (am1 d half)))(hd:WfK d)(hh:half<=1)(hl:l.length<=100000)(hp: ∀p∈l,PartOk p):
  o7 Tryz.prog 171 [.mp k 0,.sl o 4 (l.map ao1)] H (fun y H'=>y=.lit (.int .i64 (aM1 half d l).2)/\H'=H.set k (.cells sh (am1 (aM1 half d l).1 half))):=
 o7.weak (ci0 d half l H hk hd hh hl hp) rfl fun j x y e1 e2=>by
  match j,e1,e2 with
  |0,rfl,rfl=>exact Le.refl _
  |1,rfl,rfl=>exact as4
end As
end
section
open Go V
namespace As
theorem cr2{m:Nat}{x:AV}(h:Low m x:=by(first|(first|exact .lit _|exact .str _|exact .any|exact ac8|exact ad1|exact .mp _ _ (by omega)|exact .msl _ _ _ _ (by omega)|exact ac1 (fun k e=>by cases e)|exact ab1 _|exact ae4|exact ae7|exact af2|exact af1 _|exact ab5|exact ab2)|(refine ae2 ?_;repeat(first|exact aa4|(refine o9 ?_ ?_;focus(first|exact .lit _|exact .str _|exact .any|exact ac8|exact ad1|exact .mp _ _ (by omega)|exact .msl _ _ _ _ (by omega)|exact ac1 (fun k e=>by cases e)|exact ab1 _|exact ae4|exact ae7|exact af2|exact af1 _|exact ab5|exact ab2))))|(refine am9 ?_;repeat(first|exact aa4|(refine o9 ?_ ?_;focus(first|exact .lit _|exact .str _|exact .any|exact ac8|exact ad1|exact .mp _ _ (by omega)|exact .msl _ _ _ _ (by omega)|exact ac1 (fun k e=>by cases e)|exact ab1 _|exact ae4|exact ae7|exact af2|exact af1 _|exact ab5|exact ab2)))))):Low m x:=h
theorem cx9(d:Dk)(H:List AObj)(hd:WfK d):o7 Tryz.prog 81 [ae6 d] H (fun y H'=>y=.lit (.int .i64 (aD6 d))/\H'=H):=by
 have c2:=fun H=>bk4 d H hd
 unfold aD6;by_cases h:8<=d.secs.length
 ·have f1:((d.secs.length:Int) < 8)=False:=eq_false (by omega)
  cases hr:aB4 d with
  |false=>
   rw[hr] at c2;rw[if_neg (by simp)]
   unfold ae6 at*;refine o8 [] [.tmp 2] 16 Tryz.func81 ?_;repeat' first|refine l9 ?_|simp -dsimp -implicitDefEqProofs (disch:=omega) only[go_sem,f1]|refine l7 (c2 _) ?_|fail
   exact o5 ⟨rfl,rfl⟩
  |true=>
   rw[hr] at c2;rw[if_pos ⟨h,rfl⟩];unfold ae6 at*;cases hdn:d.down with
   |false=>
    rw[hdn] at c2;refine o8 [] [.tmp 2] 16 Tryz.func81 ?_;repeat' first|refine l9 ?_|simp -dsimp -implicitDefEqProofs (disch:=omega) only[go_sem,f1]|refine l7 (c2 _) ?_|fail
    exact o5 ⟨rfl,rfl⟩
   |true=>
    rw[hdn] at c2;refine o8 [] [.tmp 2] 16 Tryz.func81 ?_;repeat' first|refine l9 ?_|simp -dsimp -implicitDefEqProofs (disch:=omega) only[go_sem,f1]|refine l7 (c2 _) ?_|fail
    exact o5 ⟨rfl,rfl⟩
 ·have f1:((d.secs.length:Int) < 8)=True:=eq_true (by omega)
  rw[if_neg fun q=>h q.1]
  unfold ae6;refine o8 [] [.tmp 2] 16 Tryz.func81 ?_;repeat' first|refine l9 ?_|simp -dsimp -implicitDefEqProofs (disch:=omega) only[go_sem,f1]
  exact o5 ⟨rfl,rfl⟩
def az3(l:Lg):AV:=.agg [.lit (.int .i64 l.half),.lit (.int .i64 l.gen),.lit (.int .i64 l.used)]
instance dat_lg (l:Lg):Dat (az3 l):=inferInstanceAs (Dat (.agg [.lit (.int .i64 l.half),.lit (.int .i64 l.gen),.lit (.int .i64 l.used)]))
theorem dw9(d:Dk)(l:Lg)(H:List AObj)(hd:WfK d)(h:aA7 d l=true):o7 Tryz.prog 257 [ae6 d,az3 l] H (fun y H'=>y=.bool true/\H'=H):=by
 unfold aA7 at h;obtain⟨h1,h2,h3,h4,h5,h6⟩:=of_decide_eq_true h;rw[bD5] at h6;have hn:=hd.n;have f1:=eq_true h1;have f2:=eq_true h2;have f3:=eq_true h3;have f4:=eq_true h4;have f5:=eq_true h5;have f6:=eq_true h6;unfold ae6 az3;refine o8 [] [.tmp 4] 37 Tryz.func257 ?_;repeat' first|refine l9 ?_|simp -dsimp -implicitDefEqProofs (disch:=omega) only[go_sem,f1,f2,f3,f4,f5,f6]
 exact o5 ⟨rfl,rfl⟩
theorem cH8(d:Dk)(l:Lg)(H:List AObj)(hd:WfK d)(h:aD6 d=0->aA7 d l=true):o7 Tryz.prog 175 [ae6 d,az3 l] H (fun y H'=>y=.lit (.int .i64 (aO8 d l))/\H'=H):=by
 have c1:=fun H=>cx9 d H hd
 unfold aO8;by_cases h0:aD6 d=0
 ·have c2:=fun H=>dw9 d l H hd (h h0)
  rw[if_pos h0,if_pos (h h0)];rw[h0] at c1;unfold ae6 az3 at*;refine o8 [] [.tmp 4] 15 Tryz.func175 ?_;repeat' first|refine l9 ?_|simp -dsimp -implicitDefEqProofs only[go_sem]|refine l7 (c1 _) ?_|refine l7 (c2 _) ?_|fail
  exact o5 ⟨rfl,rfl⟩
 ·have f1:=eq_false h0
  rw[if_neg h0];generalize aD6 d=e at*;unfold ae6 az3 at*;refine o8 [] [.tmp 4] 15 Tryz.func175 ?_;repeat' first|refine l9 ?_|simp -dsimp -implicitDefEqProofs only[go_sem,f1]|refine l7 (c1 _) ?_|fail
  exact o5 ⟨rfl,rfl⟩
theorem cL3(n:Nat)(H:List AObj)(hn:n<=1000000000):o7 Tryz.prog 176 [.lit (.int .i64 (n:Int))] H (fun y H'=>y=.lit (.int .i64 (aP8 n:Nat))/\H'=H):=by
 have f1:((n:Int) < 0)=False:=eq_false (by omega)
 unfold aP8;by_cases h:n<=4096
 ·have f2:(4096 < (n:Int))=False:=eq_false (by omega)
  rw[if_pos h];refine o8 [] [.tmp 2] 14 Tryz.func176 ?_;repeat' first|refine l9 ?_|simp -dsimp -implicitDefEqProofs (disch:=omega) only[go_sem,f1,f2]
  exact o5 ⟨int_eq (by omega),rfl⟩
 ·have f2:(4096 < (n:Int))=True:=eq_true (by omega)
  rw[if_neg h];refine o8 [] [.tmp 2] 14 Tryz.func176 ?_;repeat' first|refine l9 ?_|simp -dsimp -implicitDefEqProofs only[go_sem,f1,f2]
  exact o5 ⟨rfl,rfl⟩
instance dat_ip (l:List AV) [k:DatL l]:Dat (.ip (.agg l)):=⟨fun m=>.ip _ (k.low m)⟩
theorem cu6(d:Dk): ∀(k n:Nat),n<=1099511627776->(a88 d k n).1<=1099511627776
 |0,n,h=>h
 |k+1,n,h=>by
  unfold a88;dsimp only;split
  ·refine cu6 d k _ ?_
   split
   ·rename_i h1
    have:=(bu8 h1).2;omega
   ·exact h
  ·exact aC0 _
theorem ej4(d:Dk)(H:List AObj)(hd:WfK d)(hL:d.loose=[]\/d.down=true):o7 Tryz.prog 169 [ae6 d] H (fun y H'=>y=.tup [.lit (.int .i64 ((bj0 d).1:Nat)),.lit (.int .i64 (bj0 d).2)]/\H'=H):=by
 have hn:=hd.n;have c0:=fun i H=>cL5 d i H hd hL
 unfold bj0;generalize hG:a88 d d.secs.length 0=G;unfold ae6 at*;refine o8 [] [.tmp 2,.tmp 3] 40 Tryz.func169 ?_;repeat' simp -dsimp -implicitDefEqProofs (disch:=omega) only[go_sem]
 refine aa7 ab6 mixed [] [12] (fun p:Nat×Nat=>p.1<=d.secs.length/\p.2<=1099511627776/\a88 d p.1 p.2=G) (fun p=>[(13,.lit (.int .i64 ((d.secs.length - p.1:Nat):Int))),(4,.lit (.int .i64 (p.2:Int))),(1,.ip (.agg [.sl .sh 128 (d.secs.map al8),.sl .sh 129 (d.loose.map aG3),.lit (.int .i64 d.fuse),.lit (.bool d.down)]))]) (fun _=>H) (fun p=>p.1) (by kernel_rfl) ?_ (d.secs.length,0) ⟨xq0 _,aC0 _,hG⟩ aa3 rfl
 rintro⟨k,n⟩ ⟨h1,h2,h3⟩
 dsimp only at*;cases k with
 |zero=>
  have hc:(((d.secs.length - 0:Nat):Int) < (d.secs.length:Int))=False:=eq_false (by omega)
  obtain rfl:(n,0)=G:=h3;dsimp only;rw[if_pos rfl];by_cases hb:1099511627776<=n
  ·have hb1:(1099511627776<=(n:Int))=True:=eq_true (by omega)
   rw[if_pos hb];repeat' first|refine l9 ?_|simp -dsimp -implicitDefEqProofs only[go_sem,hc,hb1]
   exact o5 ⟨rfl,rfl⟩
  ·have hb1:(1099511627776<=(n:Int))=False:=eq_false (by omega)
   rw[if_neg hb];repeat' first|refine l9 ?_|simp -dsimp -implicitDefEqProofs (disch:=omega) only[go_sem,hc,hb1]
   exact o5 ⟨rfl,rfl⟩
 |succ k=>
  have hc:(((d.secs.length - (k+1):Nat):Int) < (d.secs.length:Int))=True:=eq_true (by omega)
  have c1:=fun H=>c0 ((d.secs.length - (k+1):Nat):Int) H
  have hrl:=b81 hd ((d.secs.length - (k+1):Nat):Int);unfold a88 at h3;dsimp only at h3;have hnx:((d.secs.length - (k+1):Nat):Int)+1=((d.secs.length - k:Nat):Int):=by omega
  generalize hI:((d.secs.length - (k+1):Nat):Int)=I at*;have hI0:0<=I/\I<=100000:=by omega
  generalize as3 d I=q at*;obtain⟨sc,e⟩:=q;dsimp only at hrl h3;unfold cf4 at c1;have he:=by2 (S:=sc) (T:=au4) hrl rfl;have ht:=aX5 hrl;by_cases h0:e=0
  ·subst h0
   rw[if_pos rfl] at h3;have c3:=fun H=>ci7 sc H hrl
   have hug:=bu8 (s:=sc);have hul:=bu7 (s:=sc);generalize aj3 sc=u at*;obtain⟨p,ok⟩:=u;dsimp only at hug hul h3;unfold aA3 ao1 at c3;cases ok with
   |true=>
    rw[if_pos rfl] at h3;have hgp:=hug rfl;have hmx:max (n:Int) (p.gen:Int)=((max n p.gen:Nat):Int):=by omega
    repeat' first|refine l9 ?_|simp -dsimp -implicitDefEqProofs (disch:=first|omega|simp only[ll];omega) only[go_sem,hc,hnx,hmx,av4,ao8,hrl,ao3,he,ht]|refine l7 (c1 _) ?_|refine l7 (c3 _) ?_|fail
    refine aw0 ((k,max n p.gen)) ?_ ?_ (by repeat(first|exact ae1|(refine ad3 ?_ ?_;focus exact cr2))) aa3
    ·dsimp only;omega
    ·exact⟨by dsimp only;omega,by dsimp only;omega,h3⟩
   |false=>
    rw[if_neg (by simp)] at h3
    repeat' first|refine l9 ?_|simp -dsimp -implicitDefEqProofs (disch:=first|omega|simp only[ll];omega) only[go_sem,hc,hnx,av4,ao8,hrl,ao3,he,ht]|refine l7 (c1 _) ?_|refine l7 (c3 _) ?_|fail
    refine aw0 ((k,n)) ?_ ?_ (by repeat(first|exact ae1|(refine ad3 ?_ ?_;focus exact cr2))) aa3
    ·dsimp only;omega
    ·exact⟨by dsimp only;omega,h2,h3⟩
  ·have f2:=eq_false h0
   rw[if_neg h0] at h3;subst h3;dsimp only;rw[if_neg h0];repeat' first|refine l9 ?_|simp -dsimp -implicitDefEqProofs only[go_sem,hc,f2,av4,ao8,hrl,ao3,he,ht]|refine l7 (c1 _) ?_|fail
   exact aa1 _ (Le.refl _) ab2 ⟨rfl,rfl⟩
end As
end
section
open Go V
theorem dE4{P:Program}{n:Nat}{Q:Exit->Env->List AObj->Prop}{env:Env}{H:List AObj}{c:Operand}{x y:Code}(hc:ev env c=.lit (.bool true))(h:AWm P n x Q env H):AWm P n (.cond c x y) Q env H:=fun N ds G a w s=>by
 have r:=s.ev c;rw[hc] at r;generalize hv:a.eval c=v at r;cases r
 exact wpIn_cond_split hv (fun _=>h N ds G a w s) (fun e=>by cases e)
namespace As
theorem dC3{k:Nat}(b:bytes){n:Nat}(Ha Hb:List AObj)(h1:1<=b.length)(h2:b.length<=n)(hn:n<=1000000)(hlen:Ha.length<=Hb.length)
  (hy:aF9 Tryz.prog k [.sl .full 1 (b.map o6)] Ha (fun x H'=>x=.lit (.bool true)/\H'=Hb)):
  o7 Tryz.prog 338 [.yld k,.ip (.sl .sh 1 (b.map o6)),.ip (.lit (.int .i64 (n:Int)))] Ha (fun x H'=>x=.tup []/\H'=Hb):=by
 refine o8 [1000003] [] 31 Tryz.func338 ?_;repeat' simp -dsimp -implicitDefEqProofs only[go_sem]
 refine aa7 ab6 mixed [1000003] [0,1,2] (fun i:Nat=>i<=1) (fun i=>[(4,.lit (.int .i64 ((i*n:Nat):Int)))]) (fun i=>if i=0 then Ha else Hb) (fun i=>1 - i) (by kernel_rfl) ?_ 0 (by omega) aa3 rfl
 intro i hi;obtain rfl|rfl:i=0\/i=1:=by omega
 ·have hlt:(((0*n:Nat):Int) < ((b.length:Nat):Int))=True:=eq_true (by omega)
  have e0:((0*n:Nat):Int)=0:=by omega
  have hm:min ((n:Int)) ((b.length:Nat):Int)=(b.length:Int):=by omega
  have ht:b.take b.length=b:=aL1;rw[e0] at hlt⊢;repeat' first|refine l9 ?_|simp -dsimp -implicitDefEqProofs (disch:=first|omega|simp only[ll];omega) only[go_sem,hlt,hm,ht]|refine bj7 (hy) ?_|refine vcA ?_ ?_|omega
  refine again (1) ?_ ?_ ?_ aa3
  ·omega
  ·omega
  ·rfl
 ·have hlt:(((1*n:Nat):Int) < ((b.length:Nat):Int))=False:=eq_false (by omega)
  repeat' first|refine l9 ?_|simp -dsimp -implicitDefEqProofs only[go_sem,hlt]
  exact aa5 _ (Le.refl _) hlen ⟨rfl,rfl⟩
theorem ba3{rec:bytes}(h1:1<=rec.length)(h2:rec.length<=100)(g i:Nat):aH9 rec g i=[⟨g,i,3,rec⟩]:=by
 unfold aH9;have hne:rec≠[]:=fun e=>by rw[e] at h1;exact absurd h1 (by decide)
 have hc:cuts 100 rec=[rec]:=by
  unfold cuts;have:(rec.length+100 - 1)/100=1:=by omega
  rw[this];show [(rec.drop (0*100)).take 100]=[rec]
  rw[bQ7,List.drop_zero,aF0 h2]
 rw[if_neg hne,hc];rfl
theorem cm9(rec:bytes)(g i:Nat)(H:List AObj)(h1:1<=rec.length)(h2:rec.length<=100)(hi:i<=1000000000):o7 Tryz.prog 170 [.sl .sh 1 (rec.map o6),.lit (.int .i64 (g:Int)),.lit (.int .i64 (i:Int))] H (fun y H'=>y=.sl .sh 4 ((aH9 rec g i).map ao1)/\H'=H):=by
 rw[ba3 h1 h2];have hp:(0 < (rec.length:Int))=True:=eq_true (by omega)
 refine aQ5 ab6 (rs:=[.tmp 6]) (n:=45) Tryz.func170 rfl rfl rfl rfl (nlb rfl) ?_;refine an5 (ak0 (ad2 ab6 mixed (mu:=[12]) _ ?ok ?_));case ok=>kernel_rfl
 repeat' simp -dsimp -implicitDefEqProofs only[go_sem]
 refine an5 (ak0 (ad2 ab6 mixed (mu:=[12]) _ ?ok ?_));case ok=>kernel_rfl
 repeat' simp -dsimp -implicitDefEqProofs (disch:=omega) only[go_sem]
 refine an5 ?_;refine an5 (ak0 (ad2 ab6 mixed (mu:=[12]) _ ?ok ?_));case ok=>kernel_rfl
 repeat' simp -dsimp -implicitDefEqProofs only[go_sem,hp]
 refine dE4 rfl ?_;refine an5 (ak0 (ad2 ab6 mixed (mu:=[12]) _ ?ok ?_));case ok=>kernel_rfl
 repeat' simp -dsimp -implicitDefEqProofs only[go_sem]
 refine an5 ?_;refine an5 (ak0 (ad2 ab6 mixed (mu:=[12]) _ ?ok ?_));case ok=>kernel_rfl
 have hC:=fun H=>cM2 (xs:=rec.map o6) (n:=100) (H:=H) (by omega) (by omega)
 repeat' first|simp -dsimp -implicitDefEqProofs only[go_sem]|refine l7 (hC _) ?_|fail
 refine bn4 ?_;refine bn3 rfl Tryz.func338 rfl rfl ?_;intro r hr1 hr2 hr3 hr4 hr5 hr6;generalize hE:([(19,AV.fn (.func 338) [] [.ip (.sl .sh 1 (rec.map o6)),.ip (.lit (.int .i64 100))]),(18,.sl .sh 1 (rec.map o6)),(17,.msl H.length 0 0 1),(16,.msl H.length 0 1 1),(15,.bool true),(14,.int .i64 (rec.length:Nat)),(13,.sl .sh 1 (rec.map o6)),(7,.mp (H.length+1) 0),(12,.msl H.length 0 1 1),
  (11,.agg [.lit (.int .i64 (g:Int)),.lit (.int .i64 (i:Int)),.lit (.int .u8 1),.sl .full 0 []]),(10,.lit (.int .i64 (i:Int))),(9,.lit (.int .i64 (g:Int))),(6,.sl .full 0 []),(5,.ip (.lit (.int .i64 (i:Int)))),(4,.ip (.lit (.int .i64 (g:Int)))),(0,.sl .sh 1 (rec.map o6)),(1,.lit (.int .i64 (g:Int))),(2,.lit (.int .i64 (i:Int)))]:Env)=E
 have hw:IntKind.i64.wrap (i:Int)=(i:Int):=by rw[IntKind.wrap_i64];omega
 have hat: ∀a c y,(H++[a,c,y])[H.length+2]?=some y:=fun a c y=>ao7
 have hst: ∀a c y z,(H++[a,c,y]).set (H.length+2) z=H++[a,c,z]:=fun a c y z=>an1
 have hC1:=dC3 (k:=H.length+2) rec (n:=100) (H++[.cells (.one 256) [.lit (.int .i64 (g:Int)),.lit (.int .i64 (i:Int)),.lit (.int .u8 1),.sl .full 0 []],.cells (.one 251) [.msl H.length 0 0 1],.loop r E])
  (H++[.cells (.one 256) [.lit (.int .i64 (g:Int)),.lit (.int .i64 (i:Int)),.lit (.int .u8 0),.sl .full 1 (rec.map o6)],.cells (.one 251) [.msl H.length 0 1 1],.loop r E]) h1 h2 (by omega) (by simp) (by
  have:=bz0 (P:=Tryz.prog) (k:=H.length+2) (n:=45) (p:=20) (r:=r) (E:=E) (arg:=.sl .full 1 (rec.map o6)) (H:=H++[.cells (.one 256) [.lit (.int .i64 (g:Int)),.lit (.int .i64 (i:Int)),.lit (.int .u8 1),.sl .full 0 []],.cells (.one 251) [.msl H.length 0 0 1],.loop r E])
   (B:=H++[.cells (.one 256) [.lit (.int .i64 (g:Int)),.lit (.int .i64 (i:Int)),.lit (.int .u8 0),.sl .full 1 (rec.map o6)],.cells (.one 251) [.msl H.length 0 1 1],.loop (busy r) E]) (hat _ _ _) hr1 hr2 hr3 hr6 (by omega) (by
   rw[hr4,hr5];generalize AObj.loop (busy r) E=lpb at*;generalize AObj.loop r E=lp at*;subst hE;refine ad2 ab6 mixed (mu:=[12]) _ ?ok ?_;case ok=>kernel_rfl
   repeat' simp -dsimp -implicitDefEqProofs only[go_sem]
   all_goals first|exact hat _ _ _|rw[hst]|skip
   refine ad2 ab6 mixed (mu:=[12]) _ ?ok ?_;case ok=>kernel_rfl
   repeat' first|simp -dsimp -implicitDefEqProofs (disch:=first|omega|simp only[ll];omega) only[go_sem,hw]
   rw[Int.add_zero];rfl)
  rw[hst] at this;exact this)
 rw[List.append_assoc];have hl:(H++[AObj.cells (.one 256) [.lit (.int .i64 (g:Int)),.lit (.int .i64 (i:Int)),.lit (.int .u8 1),.sl .full 0 []],AObj.cells (.one 251) [.msl H.length 0 0 1]]).length=H.length+2:=by simp
 rw[hl];refine hC1.mono fun x H' ⟨_,hH⟩=>⟨H++[.cells (.one 256) [.lit (.int .i64 (g:Int)),.lit (.int .i64 (i:Int)),.lit (.int .u8 0),.sl .full 1 (rec.map o6)],.cells (.one 251) [.msl H.length 0 1 1]],[],by rw[hH];simp,by simp,fun j o e=>?_,?_⟩
 ·exact aF4 (fun o ho sh cs e=>by
   simp only[an8,aJ2,or_false] at ho;rcases ho with rfl|rfl<;>cases e
   ·exact o9 (.lit _) (o9 (.lit _) (o9 (.lit _) (o9 (.sl _ _ _ (fun k e=>by cases e) be5) aa4)))
   ·exact o9 (.msl _ _ _ _ (by omega)) aa4) rfl j o e
 ·rw[ba7,bb5]
  clear hC1;subst hE;refine ak0 (ad2 ab6 mixed (mu:=[12]) _ ?ok ?_);case ok=>kernel_rfl
  repeat' simp -dsimp -implicitDefEqProofs only[go_sem]
  refine ak0 (ad2 ab6 mixed (mu:=[12]) _ ?ok ?_);case ok=>kernel_rfl
  repeat' simp -dsimp -implicitDefEqProofs (disch:=omega) only[go_sem]
  have h3:IntKind.u8.wrap (((BitVec.ofInt IntKind.u8.bits 1|||BitVec.ofInt IntKind.u8.bits 2).toNat:Nat):Int)=3:=by decide
  rw[h3];have e:H++[AObj.cells (.one 256) [.lit (.int .i64 (g:Int)),.lit (.int .i64 (i:Int)),.lit (.int .u8 3),.sl .full 1 (rec.map o6)],AObj.cells (.one 251) [.msl H.length 0 1 1]]=(H++[AObj.cells (.one 256) [.lit (.int .i64 (g:Int)),.lit (.int .i64 (i:Int)),.lit (.int .u8 3),.sl .full 1 (rec.map o6)],AObj.cells (.one 251) [.msl H.length 0 1 1]]).set H.length (AObj.cells (.one 256) [.lit (.int .i64 (g:Int)),.lit (.int .i64 (i:Int)),.lit (.int .u8 3),.sl .full 1 (rec.map o6)]):=by rw[aP0,List.set_cons_zero]
  rw[e];refine bP2 [.lit (.int .i64 (g:Int)),.lit (.int .i64 (i:Int)),.lit (.int .u8 3),.sl .sh 1 (rec.map o6)] (by simp) (LeAll.cons (Le.refl _) (LeAll.cons (Le.refl _) (LeAll.cons (Le.refl _) (LeAll.cons as4 LeAll.nil)))) ?_
  rw[aP0,List.set_cons_zero];have hk:(H++[AObj.cells (.one 256) [.lit (.int .i64 (g:Int)),.lit (.int .i64 (i:Int)),.lit (.int .u8 3),.sl .sh 1 (rec.map o6)],AObj.cells (.one 251) [.msl H.length 0 1 1]])[H.length]?=some (AObj.cells (.one 256) [.lit (.int .i64 (g:Int)),.lit (.int .i64 (i:Int)),.lit (.int .u8 3),.sl .sh 1 (rec.map o6)]):=aH4;refine ap1 (H':=[]) hk (aN9 (s:=4) (xs:=[ao1 ⟨g,i,3,rec⟩]) hk rfl (ci9 (l:=[⟨g,i,3,rec⟩])) rfl) ?_;rw[aP0,List.set_cons_zero];exact aa1 _ (Le.refl _) (ab5 (f:=ao1) (l:=[⟨g,i,3,rec⟩])) ⟨rfl,rfl⟩
end As
end
section
open Go V
theorem d91{o:Own}{s:Nat}{xs ys:List AV}(hlen:ys.length=xs.length)(hu: ∀y∈ys,y.flat.length=s/\y.okv=true)(hfl:LeAll (aa2 xs) (aa2 ys)):Le (.sl o s xs) (.sl .sh s ys):=fun G H w v r=>by
 obtain⟨h1,h2⟩:=hfl.get;cases r with
 |sl _ _ _ a len cap val hl hcap hs hc hr hf ha ho=>
  refine .sl .sh s ys a len cap val (hl.trans hlen.symm) hcap hu (fun j y e=>?_) (fun j y e=>?_) (fun e=>by cases e) ha (fun k e=>by cases e)
  ·obtain⟨x,ex,_⟩:=h2 j y e
   exact hc j x ex
  ·obtain⟨x,ex,hle⟩:=h2 j y e
   exact hle _ _ _ _ (hr j x ex)
theorem dY8{P:Program}{n:Nat}{Q:Exit->Env->List AObj->Prop}{env:Env}{H:List AObj}{c:Code}(t k:Nat){sh:Shape}{cap:Nat}(l:bytes)(ht:get env t=.msl k 0 l.length cap)(hk:H[k]?=some (.cells sh (l.map o6)))(h:AW P n c Q ((t,.sl .sh 1 (l.map o6))::env) (H.set k .gone)):AW P n c Q env H:=
 ee2 hk (fun u=>by
  rw[aZ3];split
  ·rename_i e
   subst e;rw[ht];exact dg2 hk
  ·exact .keep _) h
namespace As
def al2(r:bytes):AV:=.sl .sh 1 (r.map o6)
theorem aZ4{l:List bytes}{i:Nat}(h:i < l.length):(l.map al2).getD i .any=.sl .sh 1 ((l.getD i []).map o6):=getD_map _ _ h
instance dat_rec (r:bytes):Dat (al2 r):=⟨fun _=>ab5⟩
theorem by9{g:Nat}{recs:List bytes}{i:Nat}(h:i < recs.length):ax6 g (recs.take (i+1))=ax6 g (recs.take i)++aH9 (recs.getD i []) g (1+(ax6 g (recs.take i)).length):=by
 unfold ax6;rw[bn9 h,bQ8,List.getD,xq1 h];rfl
def aU1(recs:List bytes):Bool:=decide (recs.length<=1000)&&recs.all fun r=>decide (1<=r.length/\r.length<=100)
theorem short_at{recs:List bytes}(h:aU1 recs=true):recs.length<=1000/\ ∀r∈recs,1<=r.length/\r.length<=100:=by
 unfold aU1 at h;rw[xq3] at h;exact⟨of_decide_eq_true h.1,fun r hr=>of_decide_eq_true (xq6.1 h.2 r hr)⟩
theorem bK4{g:Nat}(hg:g<=1099511627777){recs:List bytes}(h:aU1 recs=true): ∀i,i<=recs.length->(ax6 g (recs.take i)).length=i/\ ∀p∈ax6 g (recs.take i),PartOk p
 |0,_=>⟨rfl,fun p hp=>by cases hp⟩
 |i+1,hi=>by
  obtain⟨h1,h2⟩:=short_at h;obtain⟨h3,h4⟩:=bK4 hg h i (by omega)
  obtain⟨h5,h6⟩:=h2 _ (ag9 (d:=[]) (show i < recs.length by omega))
  rw[by9 (by omega),ba3 h5 h6,List.length_append,h3]
  refine⟨rfl,fun p hp=>?_⟩
  rcases aT2.1 hp with hp|hp
  ·exact h4 p hp
  ·rw[aT1.1 hp]
   exact⟨by dsimp only;omega,by dsimp only;omega,by dsimp only;omega,h6⟩
theorem dM1{d:Dk}(hd:WfK d):WfK (bv0 d).1:=by
 have hs:=bv3 hd;unfold bv0;split
 ·split
  ·refine⟨?_,fun w hw=>(by cases hw),?_,aC0 _,hs.f⟩
   ·have:=bw2 hs (al0 d).1.loose.length
    rwa [bD0] at this
   ·have:=bm3 (al0 d).1 (al0 d).1.loose.length
    rw[bD0] at this;dsimp only;rw[this];exact hs.n
  ·exact hs
 ·exact hd
theorem d57{half:Nat}{d:Dk}{l:List Part}(hd:WfK d)(hp: ∀p∈l,PartOk p):WfK (aM1 half d l).1:=by
 unfold aM1;split
 ·exact dM1 (bk8 hd hp)
 ·exact bk8 hd hp
end As
end
section
open Go V
namespace As
def aE4(p:Dk×Lg×Int):AV:=.tup [ae6 p.1,az3 p.2.1,.lit (.int .i64 p.2.2)]
instance dat_layE (p:Dk×Lg×Int):Dat (aE4 p):=inferInstanceAs (Dat (.tup [ae6 p.1,az3 p.2.1,.lit (.int .i64 p.2.2)]))
theorem dV1(d:Dk):(bj0 d).1<=1099511627776:=by
 have:=cu6 d d.secs.length 0 (aC0 _);unfold bj0;split
 ·split
  ·exact aC0 _
  ·dsimp only;omega
 ·exact aC0 _
theorem cV1{o:Own}(d:Dk)(half:Nat)(recs:List bytes)(H:List AObj)(hd:WfK d)(hL:d.loose=[]\/d.down=true)(hh:half<=1)(hs:aU1 recs=true):
  o7 Tryz.prog 82 [ae6 d,.lit (.int .i64 (half:Int)),.sl o 1 (recs.map al2)] H (fun y H'=>y=aE4 (aV7 d half recs)/\H'=H):=by
 have c1:=fun H=>ej4 d H hd hL
 have hg:=dV1 d;obtain⟨s1,s2⟩:=short_at hs;unfold aV7;by_cases h0:(bj0 d).2=0
 ·rw[if_pos h0]
  rw[h0] at c1;generalize (bj0 d).1=g at*;have hok:=bK4 (g:=g) (by omega) hs
  dsimp only;unfold ae6 at c1;refine by3 ab6 mixed [46,65,66] 9 (rs:=[.cell 6 59,.cell 7 61,.tmp 8]) (n:=90) Tryz.func82 rfl rfl rfl rfl (nlb rfl) (by kernel_rfl) ?_
  unfold ae6;repeat' first|refine l9 ?_|simp -dsimp -implicitDefEqProofs only[go_sem]|refine l7 (c1 _) ?_|fail
  refine bt1 11 4 rfl (by decide) (fun h=>absurd rfl h) ?_
  have hl2:(H++[AObj.cells (.one 59) [.sl .full 0 [],.sl .full 0 [],.lit (.int .i64 0),.lit (.bool false)],AObj.cells (.one 61) [.lit (.int .i64 0),.lit (.int .i64 0),.lit (.int .i64 0)]]).length=H.length+2:=by simp
  rw[hl2,List.append_assoc];clear hl2;refine aa7 ab6 mixed [46,65,66] [1,3,6,7,8,9,28,29] (fun i:Nat=>i<=recs.length) (fun i=>[(30,.lit (.int .i64 (i:Int))),(11,.sl (.tok (H.length+2)) 4 ((ax6 g (recs.take i)).map ao1))]) (fun i=>H++[.cells (.one 59) [.sl .full 0 [],.sl .full 0 [],.lit (.int .i64 0),.lit (.bool false)],.cells (.one 61) [.lit (.int .i64 0),.lit (.int .i64 0),.lit (.int .i64 0)],.grow 4 (ax6 g (recs.take i)).length none]) (fun i=>recs.length - i) (by kernel_rfl) ?_ 0 (by omega) aa3 rfl
  intro i hi;by_cases h:i < recs.length
  ·have hc:((i:Int) < (recs.length:Int))=True:=eq_true (by omega)
   obtain⟨q1,q2⟩:=hok i hi;have hn:=by9 (g:=g) h;obtain⟨r1,r2⟩:=s2 _ (ag9 (d:=[]) h);rw[q1] at hn;have hn1:=(hok (i+1) (by omega)).1
   have c2:=fun H=>cm9 (recs.getD i []) g (1+i) H r1 r2 (by omega)
   have hpl:(aH9 (recs.getD i []) g (1+i)).length=1:=by rw[ba3 r1 r2];rfl
   have w1:(1:Int)+((i:Nat):Int)=((1+i:Nat):Int):=by omega
   generalize aH9 (recs.getD i []) g (1+i)=pp at*;have hm:(ax6 g (recs.take i)).map ao1++pp.map ao1=(ax6 g (recs.take (i+1))).map ao1:=by rw[hn,aJ3]
   generalize ax6 g (recs.take i)=L0 at*;repeat' first|refine l9 ?_|simp -dsimp -implicitDefEqProofs (disch:=first|assumption|omega) only[go_sem,hc,aZ4,q1,w1,hm,hpl]|refine l7 (c2 _) ?_|refine vcA ?_ ?_|omega
   refine again (i+1) ?_ ?_ ?_ aa3
   ·omega
   ·omega
   ·rw[hn1]
  ·obtain rfl:i=recs.length:=by omega
   have hc:((recs.length:Int) < (recs.length:Int))=False:=eq_false (by omega)
   obtain⟨q1,q2⟩:=hok recs.length (xq0 _);rw[aL1] at*;generalize hLL:ax6 g recs=L at*;have hlen:L.length<=1000:=by omega
   have c3:=cG5 (k:=H.length+3) (sh:=.one 178) (o:=.tok (H.length+2)) d half L (H++[.cells (.one 59) [.sl .full 0 [],.sl .full 0 [],.lit (.int .i64 0),.lit (.bool false)],.cells (.one 61) [.lit (.int .i64 0),.lit (.int .i64 0),.lit (.int .i64 0)],.grow 4 L.length none,.cells (.one 178) (am1 d half)]) ao7 hd hh (by omega) q2
   rw[an1,List.set_cons_succ,List.set_cons_succ,List.set_cons_succ,List.set_cons_zero] at c3;have hpw:=d57 (half:=half) (l:=L) hd q2;by_cases h1:(aM1 half d L).2=0
   ·rw[if_pos h1]
    rw[h1] at c3;generalize (aM1 half d L).1=D at*;have c4:=bi6 (k:=H.length+4) (off:=0) (m:=4) (cap:=4) (sh:=.one 5) (cs:=List.replicate 4 (AV.lit (.int .u8 0))) L.length (H++[.cells (.one 59) [.sl .full 0 [],.sl .full 0 [],.lit (.int .i64 0),.lit (.bool false)],.cells (.one 61) [.lit (.int .i64 0),.lit (.int .i64 0),.lit (.int .i64 0)],.grow 4 L.length none,.cells (.one 178) (am1 D half),.cells (.one 5) (List.replicate 4 (AV.lit (.int .u8 0)))]) ao7 (by omega) (by simp)
    have e4:af4 (List.replicate 4 (AV.lit (.int .u8 0))) 0 ((ag3 4 L.length).map o6)=(ag3 4 L.length).map o6:=by
     rw[aO2 _ _ _ (by simp[al6])]
     simp[al6]
    rw[an1,List.set_cons_succ,List.set_cons_succ,List.set_cons_succ,List.set_cons_succ,List.set_cons_zero,e4] at c4;unfold am1 at c3 c4;repeat' first|refine l9 ?_|simp -dsimp -implicitDefEqProofs only[go_sem,hc]|refine l7 (c3) ?_|refine l7 (c4) ?_|fail
    refine dY8 16 (H.length+4) (ag3 4 L.length) rfl ao7 ?_;rw[an1,List.set_cons_succ,List.set_cons_succ,List.set_cons_succ,List.set_cons_succ,List.set_cons_zero];have hnl:(ag3 4 L.length).length=4:=al6;have hmag:(magicS++ag3 4 L.length).length=7:=by rw[List.length_append,hnl];rfl
    have hpo: ∀p∈[(⟨g,0,3,magicS++ag3 4 L.length⟩:Part)],PartOk p:=fun p hp=>by
     rw[aT1.1 hp];exact⟨by dsimp only;omega,by dsimp only;omega,by dsimp only;omega,by dsimp only;omega⟩
    refine dK2 ab6 mixed [46,65,66] (by kernel_rfl) ?_
    have hDw:WfK D:=hpw;have c5:=o7.weak (args:=[.mp (H.length+3) 0,.sl .full 4 [.agg [.lit (.int .i64 (g:Nat)),.lit (.int .i64 0),.lit (.int .u8 3),.sl (.tok (H.length+6)) 1 (.lit (.int .u8 108)::.lit (.int .u8 111)::.lit (.int .u8 103)::(ag3 4 L.length).map o6)]]])
     (ci0 (k:=H.length+3) (sh:=.one 178) D half [⟨g,0,3,magicS++ag3 4 L.length⟩] (H++[.cells (.one 59) [.sl .full 0 [],.sl .full 0 [],.lit (.int .i64 0),.lit (.bool false)],.cells (.one 61) [.lit (.int .i64 0),.lit (.int .i64 0),.lit (.int .i64 0)],.grow 4 L.length none,.cells (.one 178) (am1 D half),.gone,.gone,.grow 1 7 none]) ao7 hDw hh (by simp) hpo) rfl (fun j x y e1 e2=>by
      match j,e1,e2 with
      |0,rfl,rfl=>exact Le.refl _
      |1,rfl,rfl=>exact d91 rfl ci9 (LeAll.cons (Le.refl _) (LeAll.cons (Le.refl _) (LeAll.cons (Le.refl _) (LeAll.cons as4 LeAll.nil)))))
    rw[an1,List.set_cons_succ,List.set_cons_succ,List.set_cons_succ,List.set_cons_zero] at c5;generalize aM1 half D [⟨g,0,3,magicS++ag3 4 L.length⟩]=q at*;unfold am1 at c5;by_cases h2:q.2=0
    ·rw[if_pos h2]
     have f2:=eq_true h2;have w3:(1:Int)+(L.length:Int)=((1+L.length:Nat):Int):=by omega
     repeat' first|refine l9 ?_|simp -dsimp -implicitDefEqProofs (disch:=first|omega|simp only[ll];omega) only[go_sem,hnl,f2,w3,ao5,an7,List.drop_zero,an6]|refine l7 (c5) ?_|fail
     exact aa1 (aE4 (q.1,⟨half,g,((1+L.length:Nat):Int)⟩,0)) (Le.refl _) ab2 ⟨rfl,rfl⟩
    ·rw[if_neg h2]
     have f2:=eq_false h2;repeat' first|refine l9 ?_|simp -dsimp -implicitDefEqProofs (disch:=first|omega|simp only[ll];omega) only[go_sem,hnl,f2,ao5,an7,List.drop_zero,an6]|refine l7 (c5) ?_|fail
     exact aa1 (aE4 (q.1,zLg,q.2)) (Le.refl _) ab2 ⟨rfl,rfl⟩
   ·rw[if_neg h1]
    have f1:=eq_false h1;generalize aM1 half d L=q at*;unfold am1 at c3;repeat' first|refine l9 ?_|simp -dsimp -implicitDefEqProofs only[go_sem,hc,f1,ao5,an7,List.drop_zero,an6]|refine l7 (c3) ?_|fail
    exact aa1 (aE4 (q.1,zLg,q.2)) (Le.refl _) ab2 ⟨rfl,rfl⟩
 ·rw[if_neg h0]
  have f0:=eq_false h0;generalize bj0 d=q at*;unfold aE4 ae6 at*;refine o8 [46,65,66] [.cell 6 59,.cell 7 61,.tmp 8] 90 Tryz.func82 ?_;repeat' first|refine l9 ?_|simp -dsimp -implicitDefEqProofs (disch:=(simp only[ll];omega)) only[go_sem,f0]|refine l7 (c1 _) ?_|fail
  exact aa1 (aE4 (d,zLg,q.2)) (Le.refl _) ab2 ⟨rfl,rfl⟩
end As
end
section
open Go V
namespace As
theorem dH0(d:Dk)(H:List AObj)(hd:WfK d)(hL:d.loose=[]\/d.down=true):o7 Tryz.prog 34 [ae6 d] H (fun y H'=>y=aE4 (aF7 d)/\H'=H):=by
 have c1:=fun H=>cx9 d H hd
 have c2:=fun H=>o7.weak (args:=[ae6 d,.lit (.int .i64 0),.sl .full 0 []]) (cV1 (o:=.sh) d 0 [] H hd hL (by omega) rfl) rfl (fun j x y e1 e2=>by
  match j,e1,e2 with
  |0,rfl,rfl=>exact Le.refl _
  |1,rfl,rfl=>exact Le.refl _
  |2,rfl,rfl=>exact ab7)
 unfold aF7;by_cases h0:aD6 d=0
 ·rw[if_pos h0]
  rw[h0] at c1;generalize aV7 d 0 []=q at*;unfold aE4 ae6 az3 at*;refine o8 [] [.cell 2 59,.cell 3 61,.tmp 4] 18 Tryz.func34 ?_;repeat' first|refine l9 ?_|simp -dsimp -implicitDefEqProofs (disch:=(simp only[ll];omega)) only[go_sem]|refine l7 (c1 _) ?_|refine l7 (c2 _) ?_|fail
  exact aa1 _ (Le.refl _) ab2 ⟨rfl,rfl⟩
 ·rw[if_neg h0]
  have f0:=eq_false h0;generalize aD6 d=e at*;unfold aE4 ae6 az3 at*;clear c2;refine o8 [] [.cell 2 59,.cell 3 61,.tmp 4] 18 Tryz.func34 ?_;repeat' first|refine l9 ?_|simp -dsimp -implicitDefEqProofs (disch:=(simp only[ll];omega)) only[go_sem,f0]|refine l7 (c1 _) ?_|fail
  exact aa1 _ (Le.refl _) ab2 ⟨rfl,rfl⟩
theorem dI2(d:Dk)(l:Lg)(rec:bytes)(H:List AObj)(hd:WfK d)(hl:aA7 d l=true)(h1:1<=rec.length)(h2:rec.length<=100):o7 Tryz.prog 94 [ae6 d,az3 l,.sl .sh 1 (rec.map o6)] H (fun y H'=>y=aE4 (aS9 d l rec)/\H'=H):=by
 have c1:=fun H=>cH8 d l H hd fun _=>hl
 unfold aA7 at hl;obtain⟨l1,l2,l3,l4,l5,l6⟩:=of_decide_eq_true hl;have hn:=hd.n;have hnn:ac4 d<=50000:=by unfold ac4;omega
 obtain⟨lh,lg,lu⟩:=l;dsimp only at*;obtain⟨hf,rfl⟩: ∃n:Nat,lh=n:=⟨lh.toNat,by omega⟩
 obtain⟨g,rfl⟩: ∃n:Nat,lg=n:=⟨lg.toNat,by omega⟩
 obtain⟨u,rfl⟩: ∃n:Nat,lu=n:=⟨lu.toNat,by omega⟩
 have hsz:aP8 rec.length=1:=by unfold aP8;rw[if_pos (by omega)];omega
 unfold aS9;by_cases h0:aO8 d ⟨hf,g,u⟩=0
 ·rw[if_pos h0,if_pos (by omega),hsz]
  rw[h0] at c1;have f4:(4096 < (rec.length:Int))=False:=eq_false (by omega)
  have c2:=fun H=>cL3 rec.length H (by omega)
  rw[hsz] at c2;have c3:=bU5 (k:=H.length+3) (sh:=.one 178) d hf (H++[.cells (.one 61) [.lit (.int .i64 (hf:Nat)),.lit (.int .i64 (g:Nat)),.lit (.int .i64 (u:Nat))],.cells (.one 59) [.sl .full 0 [],.sl .full 0 [],.lit (.int .i64 0),.lit (.bool false)],.cells (.one 61) [.lit (.int .i64 0),.lit (.int .i64 0),.lit (.int .i64 0)],.cells (.one 178) (am1 d hf)]) ao7 hd;dsimp only;have hpo: ∀p∈aH9 rec g u,PartOk p:=fun p hp=>by
   rw[ba3 h1 h2] at hp;rw[aT1.1 hp];exact⟨by dsimp only;omega,by dsimp only;omega,by dsimp only;omega,h2⟩
  have hpl:(aH9 rec g u).length<=100000:=by rw[ba3 h1 h2];simp
  have c4:=fun H=>cm9 rec g u H h1 h2 (by omega)
  have c5:=cG5 (k:=H.length+3) (sh:=.one 178) (o:=.sh) d hf (aH9 rec g u) (H++[.cells (.one 61) [.lit (.int .i64 (hf:Nat)),.lit (.int .i64 (g:Nat)),.lit (.int .i64 (u:Nat))],.cells (.one 59) [.sl .full 0 [],.sl .full 0 [],.lit (.int .i64 0),.lit (.bool false)],.cells (.one 61) [.lit (.int .i64 0),.lit (.int .i64 0),.lit (.int .i64 0)],.cells (.one 178) (am1 d hf)]) ao7 hd (by omega) hpl hpo
  rw[an1,List.set_cons_succ,List.set_cons_succ,List.set_cons_succ,List.set_cons_zero] at c5;rw[Int.toNat_natCast,Int.toNat_natCast,Int.toNat_natCast];generalize aM1 hf d (aH9 rec g u)=q at*;unfold am1 at c3 c5;unfold aE4 ae6 az3 at*;dsimp only at*;by_cases hr:((1:Nat):Int)<=(ac4 d:Int) - (u:Int)
  ·have f5:((ac4 d:Int) - (u:Int) < ((1:Nat):Int))=False:=eq_false (by omega)
   rw[if_pos hr];by_cases he:q.2=0
   ·rw[if_pos he]
    have f6:=eq_true he;refine o8 [4,16,1000004,1000004001003,1000006,1000006001002,1000007,1000007006002,1000007006004,1000008,1000008001002,1000011,1000011004006,1000012,1000012001004,1000013,1000013004005] [.cell 6 59,.cell 7 61,.tmp 8] 72 Tryz.func94 ?_;repeat' first|refine l9 ?_|simp -dsimp -implicitDefEqProofs (disch:=omega) only[go_sem,f4,f5,f6,ao5,an7,List.drop_zero,an6]|refine l7 (c1 _) ?_|refine⟨_,_,c2 _,?_⟩|refine⟨_,_,c3,?_⟩|refine l7 (c4 _) ?_|refine l7 (c5) ?_|refine vcA ?_ ?_|omega|refine aa8 fun _=>?_
    exact aa1 _ (Le.refl _) ab2 ⟨rfl,rfl⟩
   ·rw[if_neg he]
    have f6:=eq_false he;refine o8 [4,16,1000004,1000004001003,1000006,1000006001002,1000007,1000007006002,1000007006004,1000008,1000008001002,1000011,1000011004006,1000012,1000012001004,1000013,1000013004005] [.cell 6 59,.cell 7 61,.tmp 8] 72 Tryz.func94 ?_;repeat' first|refine l9 ?_|simp -dsimp -implicitDefEqProofs (disch:=omega) only[go_sem,f4,f5,f6,ao5,an7,List.drop_zero,an6]|refine l7 (c1 _) ?_|refine⟨_,_,c2 _,?_⟩|refine⟨_,_,c3,?_⟩|refine l7 (c4 _) ?_|refine l7 (c5) ?_|refine vcA ?_ ?_|omega|refine aa8 fun _=>?_
    exact aa1 _ (Le.refl _) ab2 ⟨rfl,rfl⟩
  ·have f5:((ac4 d:Int) - (u:Int) < ((1:Nat):Int))=True:=eq_true (by omega)
   rw[if_neg hr];refine o8 [4,16,1000004,1000004001003,1000006,1000006001002,1000007,1000007006002,1000007006004,1000008,1000008001002,1000011,1000011004006,1000012,1000012001004,1000013,1000013004005] [.cell 6 59,.cell 7 61,.tmp 8] 72 Tryz.func94 ?_;repeat' first|refine l9 ?_|simp -dsimp -implicitDefEqProofs (disch:=first|omega|simp only[ll];omega) only[go_sem,f4,f5]|refine l7 (c1 _) ?_|refine⟨_,_,c2 _,?_⟩|refine⟨_,_,c3,?_⟩|refine vcA ?_ ?_|omega|refine aa8 fun _=>?_
   exact aa1 _ (Le.refl _) ab2 ⟨rfl,rfl⟩
 ·rw[if_neg h0]
  have f0:=eq_false h0;generalize aO8 d ⟨hf,g,u⟩=e at*;unfold aE4 ae6 az3 at*;dsimp only at*;refine o8 [4,16,1000004,1000004001003,1000006,1000006001002,1000007,1000007006002,1000007006004,1000008,1000008001002,1000011,1000011004006,1000012,1000012001004,1000013,1000013004005] [.cell 6 59,.cell 7 61,.tmp 8] 72 Tryz.func94 ?_;repeat' first|refine l9 ?_|simp -dsimp -implicitDefEqProofs (disch:=first|omega|simp only[ll];omega) only[go_sem,f0]|refine l7 (c1 _) ?_|fail
  exact aa1 _ (Le.refl _) ab2 ⟨rfl,rfl⟩
theorem c68{recs:List bytes}(h: ∀r∈recs,1<=r.length/\r.length<=100):(recs.map fun r=>aP8 r.length).sum=recs.length:=by
 induction recs with
 |nil=>rfl
 |cons r t ih=>
  have hr:=h r (by simp)
  have hz:aP8 r.length=1:=by unfold aP8;rw[if_pos (by omega)];omega
  rw[List.map_cons,bQ9,hz,ih fun x hx=>h x (by simp[hx]),List.length_cons]
  omega
theorem cZ7(d:Dk)(l:Lg)(recs:List bytes)(H:List AObj)(hd:WfK d)(hL:d.loose=[]\/d.down=true)(hl:aA7 d l=true)(hs:aU1 recs=true):o7 Tryz.prog 84 [ae6 d,az3 l,.sl .sh 1 (recs.map al2)] H (fun y H'=>y=aE4 (by0 d l recs)/\H'=H):=by
 have c1:=fun H=>cH8 d l H hd fun _=>hl
 unfold aA7 at hl;obtain⟨l1,l2,l3,l4,l5,l6⟩:=of_decide_eq_true hl;have hn:=hd.n;have hnn:ac4 d<=50000:=by unfold ac4;omega
 have hni:=bD5 d;obtain⟨s1,s2⟩:=short_at hs;obtain⟨lh,lg,lu⟩:=l;dsimp only at*;obtain⟨hf,rfl⟩: ∃n:Nat,lh=n:=⟨lh.toNat,by omega⟩
 have hany:(recs.any fun r=>decide (4096 < r.length))=false:=by
  rw[cO1];intro r hr;have:=(s2 r hr).2;simp
  omega
 unfold by0;by_cases h0:aO8 d ⟨hf,lg,lu⟩=0
 ·rw[if_pos h0,hany,if_neg (by simp),c68 s2]
  rw[h0] at c1;unfold aE4 ae6 az3 at*;dsimp only at*;refine o8 [3,1000003,1000003001003,1000009,1000009001002,1000013,1000013001002,1000016,1000016001003,1000017,1000017001002] [.cell 6 59,.cell 7 61,.tmp 8] 65 Tryz.func84 ?_;repeat' first|refine l9 ?_|simp -dsimp -implicitDefEqProofs (disch:=(simp only[ll];omega)) only[go_sem]|refine l7 (c1 _) ?_|fail
  refine aa7 ab6 mixed [3,1000003,1000003001003,1000009,1000009001002,1000013,1000013001002,1000016,1000016001003,1000017,1000017001002] [2,3,4,6,7,23,24] (fun i:Nat=>i<=recs.length) (fun i=>[(25,.lit (.int .i64 (i:Int))),(10,.lit (.int .i64 ((1+i:Nat):Int)))]) (fun _=>H++[.cells (.one 59) [.sl .sh 128 (d.secs.map al8),.sl .sh 129 (d.loose.map aG3),.lit (.int .i64 d.fuse),.lit (.bool d.down)],.cells (.one 59) [.sl .full 0 [],.sl .full 0 [],.lit (.int .i64 0),.lit (.bool false)],.cells (.one 61) [.lit (.int .i64 0),.lit (.int .i64 0),.lit (.int .i64 0)]]) (fun i=>recs.length - i) (by kernel_rfl) ?_ 0 (by omega) aa3 rfl
  intro i hi;by_cases h:i < recs.length
  ·have hc:((i:Int) < (recs.length:Int))=True:=eq_true (by omega)
   obtain⟨r1,r2⟩:=s2 _ (ag9 (d:=[]) h);have f4:(4096 < ((recs.getD i []).length:Int))=False:=eq_false (by omega)
   have c2:=fun H=>cL3 (recs.getD i []).length H (by omega)
   have hz:aP8 (recs.getD i []).length=1:=by unfold aP8;rw[if_pos (by omega)];omega
   rw[hz] at c2;have w1:((1+i:Nat):Int)+((1:Nat):Int)=((1+(i+1):Nat):Int):=by omega
   repeat' first|refine l9 ?_|simp -dsimp -implicitDefEqProofs (disch:=first|assumption|omega) only[go_sem,hc,aZ4,f4,w1]|refine l7 (c2 _) ?_|fail
   refine again (i+1) ?_ ?_ rfl aa3
   ·omega
   ·omega
  ·obtain rfl:i=recs.length:=by omega
   have hc:((recs.length:Int) < (recs.length:Int))=False:=eq_false (by omega)
   by_cases hr:(ac4 d:Int) < 1+(recs.length:Int)
   ·have f5:((d.secs.length:Int)/2 < ((1+recs.length:Nat):Int))=True:=eq_true (by omega)
    rw[if_pos hr];repeat' first|refine l9 ?_|simp -dsimp -implicitDefEqProofs (disch:=first|omega|simp only[ll];omega) only[go_sem,hc,f5]
    exact aa1 _ (Le.refl _) ab2 ⟨rfl,rfl⟩
   ·have f5:((d.secs.length:Int)/2 < ((1+recs.length:Nat):Int))=False:=eq_false (by omega)
    rw[if_neg hr];have w2:(1:Int) - (hf:Int)=((1 - hf:Nat):Int):=by omega
    have c3:=fun H=>cV1 (o:=.sh) d (1 - hf) recs H hd hL (by omega) hs
    rw[w2,Int.toNat_natCast];generalize aV7 d (1 - hf) recs=q at*;unfold aE4 ae6 az3 at c3;by_cases he:q.2.2=0
    ·rw[if_pos he]
     have f6:=eq_true he;repeat' first|refine l9 ?_|simp -dsimp -implicitDefEqProofs (disch:=first|omega|simp only[ll];omega) only[go_sem,hc,f5,f6,w2]|refine l7 (c3 _) ?_|fail
     exact aa1 _ (Le.refl _) ab2 ⟨rfl,rfl⟩
    ·rw[if_neg he]
     have f6:=eq_false he;repeat' first|refine l9 ?_|simp -dsimp -implicitDefEqProofs (disch:=first|omega|simp only[ll];omega) only[go_sem,hc,f5,f6,w2]|refine l7 (c3 _) ?_|fail
     exact aa1 _ (Le.refl _) ab2 ⟨rfl,rfl⟩
 ·rw[if_neg h0]
  have f0:=eq_false h0;generalize aO8 d ⟨hf,lg,lu⟩=e at*;unfold aE4 ae6 az3 at*;dsimp only at*;refine o8 [3,1000003,1000003001003,1000009,1000009001002,1000013,1000013001002,1000016,1000016001003,1000017,1000017001002] [.cell 6 59,.cell 7 61,.tmp 8] 65 Tryz.func84 ?_;repeat' first|refine l9 ?_|simp -dsimp -implicitDefEqProofs (disch:=(simp only[ll];omega)) only[go_sem,f0]|refine l7 (c1 _) ?_|fail
  exact aa1 _ (Le.refl _) ab2 ⟨rfl,rfl⟩
end As
end
section
open Go V
namespace As
theorem cr1{m:Nat}{x:AV}(h:Low m x:=by(first|(first|exact .lit _|exact .str _|exact .any|exact ac8|exact ad1|exact .mp _ _ (by omega)|exact .msl _ _ _ _ (by omega)|exact ac1 (fun k e=>by cases e)|exact ab1 _|exact ae4|exact ae7|exact af2|exact af1 _|exact ab5|exact ab2)|(refine ae2 ?_;repeat(first|exact aa4|(refine o9 ?_ ?_;focus(first|exact .lit _|exact .str _|exact .any|exact ac8|exact ad1|exact .mp _ _ (by omega)|exact .msl _ _ _ _ (by omega)|exact ac1 (fun k e=>by cases e)|exact ab1 _|exact ae4|exact ae7|exact af2|exact af1 _|exact ab5|exact ab2))))|(refine am9 ?_;repeat(first|exact aa4|(refine o9 ?_ ?_;focus(first|exact .lit _|exact .str _|exact .any|exact ac8|exact ad1|exact .mp _ _ (by omega)|exact .msl _ _ _ _ (by omega)|exact ac1 (fun k e=>by cases e)|exact ab1 _|exact ae4|exact ae7|exact af2|exact af1 _|exact ab5|exact ab2)))))):Low m x:=h
def av7(s gen index:Nat):List AV:=[.mp s 0,.lit (.int .i64 (gen:Int)),.lit (.int .i64 (index:Int))]
def au0(q:Option (bytes×Nat)):AV:=.tup [.sl .sh 1 (((q.map (·.1)).getD []).map o6),.bool q.isSome]
theorem eo8: ∀m:Nat,m<=3->IntKind.u8.wrap (((BitVec.ofInt IntKind.u8.bits ((m:Nat):Int)&&&BitVec.ofInt IntKind.u8.bits 1).toNat:Nat):Int)=((m%2:Nat):Int):=by decide
theorem eo7: ∀m:Nat,m<=3->IntKind.u8.wrap (((BitVec.ofInt IntKind.u8.bits ((m:Nat):Int)&&&BitVec.ofInt IntKind.u8.bits 2).toNat:Nat):Int)=((m/2%2*2:Nat):Int):=by decide
theorem au6{m:Nat}{q:Option (bytes×Nat)}:Low m (au0 q):=ae2 (o9 ab5 (o9 (.lit _) aa4))
theorem d81{r s:Nat}{sh sh2:Shape}(d:Dk)(half gen index:Nat)(H:List AObj)(hr:H[r]?=some (.cells sh2 (av7 s gen index)))(hk:H[s]?=some (.cells sh (am1 d half)))(hrs:r≠s)(hd:WfK d)(hL:d.loose=[]\/d.down=true)(hh:half<=1)(hi:index<=1000000)(hg:gen<=1099511627777):
  o7 Tryz.prog 185 [.mp r 0] H (fun y H'=>y=au0 (bv9 d half gen index)/\H'=match bv9 d half gen index with|none=>H|some q=>H.set r (.cells sh2 (av7 s gen q.2))):=by
 have hn:=hd.n;have hnn:ac4 d<=50000:=by unfold ac4;omega
 have hrl:=aa0 hr;have hkl:=aa0 hk;unfold bv9;generalize hQ:bl7 d half gen index (ac4 d+1) index []=Q;have c0:=fun ix M=>br9 d half ix (H++M) (by rw[xq4 hkl];exact hk) hd hL hh
 unfold av7 at*;refine o8 [1000005,1000006] [.tmp 2,.tmp 3] 88 Tryz.func185 ?_;repeat' simp -dsimp -implicitDefEqProofs only[go_sem,hr]
 refine bt1 4 1 rfl (by decide) (fun h=>absurd rfl h) ?_
 refine aa7 ab6 mixed [1000005,1000006] [0] (fun p:Nat×Nat×bytes=>p.1<=ac4 d+1/\p.2.1<=2000000/\p.2.1+p.1=index+ac4 d+1/\ac4 d+1<=p.1+p.2.1/\p.2.2.length<=4096/\bl7 d half gen index p.1 p.2.1 p.2.2=Q) (fun p=>[(5,.lit (.int .i64 (p.2.1:Int))),(4,.sl (.tok H.length) 1 (p.2.2.map o6))]) (fun p=>H++[.grow 1 p.2.2.length none]) (fun p=>p.1) (by kernel_rfl) ?_ (ac4 d+1,index,[]) ⟨xq0 _,by dsimp only;omega,by dsimp only;omega,by dsimp only;omega,by simp,hQ⟩ aa3 rfl
 rintro⟨f,i,rec⟩ ⟨h1,h2,h3,h4,h5,h6⟩
 dsimp only at*;have c1:=fun M=>c0 i M
 have hpk:=cn0 d half i;have hf0:f=0->au5 d half i=(as1,false):=fun h=>by
  unfold au5;rw[if_neg (by omega)]
 have hstep: ∀g,f=g+1->bl7 d half gen index (g+1) i rec=Q:=fun g h=>by rw[<-h];exact h6
 cases f with
 |zero=>
  have hp:=hf0 rfl;rw[hp] at c1;obtain rfl:none=Q:=h6;unfold aA3 at c1;rw[aW7] at c1;repeat' first|refine l9 ?_|simp -dsimp -implicitDefEqProofs (disch:=first|assumption|omega) only[go_sem,hr]|refine l7 (c1 _) ?_|refine vcA ?_ ?_
  exact aa1 (au0 none) (ad6 ab7 (Le.refl _)) au6 ⟨rfl,rfl⟩
 |succ f=>
  unfold bl7 at h6;dsimp only at h6;generalize au5 d half i=q at*;obtain⟨⟨pg,pi,pm,pd⟩,ok⟩:=q;dsimp only at*;obtain⟨k1,k2,k3,k4⟩:=hpk;have b1:=eo8 pm k2;have b2:=eo7 pm k2;unfold aA3 ao1 at c1;dsimp only at c1;clear hf0 hstep;have w1:(i:Int)+1=((i+1:Nat):Int):=by omega
  have hap:rec.map o6++pd.map o6=(rec++pd).map o6:=by rw[aJ3]
  have hal:rec.length+pd.length=(rec++pd).length:=by rw[List.length_append]
  cases ok with
  |false=>
   rw[if_pos (.inl rfl)] at h6;subst h6;repeat' first|refine l9 ?_|simp -dsimp -implicitDefEqProofs (disch:=first|assumption|omega) only[go_sem,hr,b1,b2]|refine l7 (c1 _) ?_|refine vcA ?_ ?_
   exact aa1 (au0 none) (ad6 ab7 (Le.refl _)) au6 ⟨rfl,rfl⟩
  |true=>
   by_cases hpg:pg=gen
   ·have fg:((pg:Int)=(gen:Int))=True:=eq_true (by omega)
    by_cases hb:pm%2=1
    ·have fb:(((pm%2:Nat):Int)=0)=False:=eq_false (by omega)
     by_cases hx:i=index
     ·have fx:((i:Int)=(index:Int))=True:=eq_true (by omega)
      rw[if_neg (by simp[hpg,hb,hx])] at h6
      by_cases he:pm/2%2=1
      ·have fe:(((pm/2%2*2:Nat):Int)=0)=False:=eq_false (by omega)
       rw[if_neg (by omega)] at h6
       by_cases hl:4096 < rec.length+pd.length
       ·have fl:(4096 < (rec.length:Int)+(pd.length:Int))=True:=eq_true (by omega)
        rw[if_pos hl] at h6;subst h6;repeat' first|refine l9 ?_|simp -dsimp -implicitDefEqProofs (disch:=first|assumption|omega) only[go_sem,hr,b1,b2,fg,fb,fx,fe,fl]|refine l7 (c1 _) ?_|refine vcA ?_ ?_|omega|refine aa8 fun _=>?_
        exact aa1 (au0 none) (ad6 ab7 (Le.refl _)) au6 ⟨rfl,rfl⟩
       ·have fl:(4096 < (rec.length:Int)+(pd.length:Int))=False:=eq_false (by omega)
        rw[if_neg hl] at h6;rw[if_pos (by omega)] at h6
        subst h6;repeat' first|refine l9 ?_|simp -dsimp -implicitDefEqProofs (disch:=first|assumption|omega) only[go_sem,hr,b1,b2,fg,fb,fx,fe,fl,w1]|refine l7 (c1 _) ?_|refine vcA ?_ ?_|omega|refine aa8 fun _=>?_
        exact aW2 (au0 (some (rec++pd,i+1))) (ad6 as4 (Le.refl _)) au6 (fun sh cs e=>by cases e;exact o9 (.mp _ _ hkl) (o9 (.lit _) (o9 (.lit _) aa4))) ⟨rfl,rfl⟩
      ·have fe:(((pm/2%2*2:Nat):Int)=0)=True:=eq_true (by omega)
       by_cases hd1:pd.length < 100
       ·have f0:((pd.length:Int) < 100)=True:=eq_true (by omega)
        rw[if_pos (.inl ⟨by omega,hd1⟩)] at h6
        subst h6;repeat' first|refine l9 ?_|simp -dsimp -implicitDefEqProofs (disch:=first|assumption|omega) only[go_sem,hr,b1,b2,fg,fb,fx,fe,f0]|refine l7 (c1 _) ?_|refine vcA ?_ ?_
        exact aa1 (au0 none) (ad6 ab7 (Le.refl _)) au6 ⟨rfl,rfl⟩
       ·have f0:((pd.length:Int) < 100)=False:=eq_false (by omega)
        have f00:((pd.length:Int)=0)=False:=eq_false (by omega)
        rw[if_neg (by rintro(h|h);exact hd1 h.2;exact absurd h.2 (fun e=>by rw[e] at hd1;exact hd1 (by decide)))] at h6
        by_cases hl:4096 < rec.length+pd.length
        ·have fl:(4096 < (rec.length:Int)+(pd.length:Int))=True:=eq_true (by omega)
         rw[if_pos hl] at h6;subst h6;repeat' first|refine l9 ?_|simp -dsimp -implicitDefEqProofs (disch:=first|assumption|omega) only[go_sem,hr,b1,b2,fg,fb,fx,fe,f0,f00,fl]|refine l7 (c1 _) ?_|refine vcA ?_ ?_|omega|refine aa8 fun _=>?_
         exact aa1 (au0 none) (ad6 ab7 (Le.refl _)) au6 ⟨rfl,rfl⟩
        ·have fl:(4096 < (rec.length:Int)+(pd.length:Int))=False:=eq_false (by omega)
         rw[if_neg hl] at h6;rw[if_neg (by omega)] at h6
         repeat' first|refine l9 ?_|simp -dsimp -implicitDefEqProofs (disch:=first|assumption|omega) only[go_sem,hr,b1,b2,fg,fb,fx,fe,f0,f00,fl,w1,hap]|refine l7 (c1 _) ?_|refine vcA ?_ ?_|omega|refine aa8 fun _=>?_
         refine ak5 (H.length+1) ([.cells (.one 256) [.lit (.int .i64 (pg:Nat)),.lit (.int .i64 (pi:Nat)),.lit (.int .u8 (pm:Nat)),.sl .sh 1 (pd.map o6)]]) ((f,i+1,rec++pd)) ?_ ?_ ?_ ?_ ?_ (by repeat(first|exact ae1|(refine ad3 ?_ ?_;focus(first|exact cr4 (by omega)|exact cr1)))) ?_ aa3
         ·dsimp only;omega
         ·exact⟨by dsimp only;omega,by dsimp only;omega,by dsimp only;omega,by dsimp only;omega,by dsimp only;rw[List.length_append];omega,h6⟩
         ·simp
         ·simp
         ·simp
         ·exact aF4 fun o ho sh cs e=>by
           subst e;simp at ho
     ·have fx:((i:Int)=(index:Int))=False:=eq_false (by omega)
      rw[if_pos (.inr (.inr (by simp[hb,hx])))] at h6
      subst h6;repeat' first|refine l9 ?_|simp -dsimp -implicitDefEqProofs (disch:=first|assumption|omega) only[go_sem,hr,b1,b2,fg,fb,fx]|refine l7 (c1 _) ?_|refine vcA ?_ ?_
      exact aa1 (au0 none) (ad6 ab7 (Le.refl _)) au6 ⟨rfl,rfl⟩
    ·have fb:(((pm%2:Nat):Int)=0)=True:=eq_true (by omega)
     by_cases hx:i=index
     ·have fx:((i:Int)=(index:Int))=True:=eq_true (by omega)
      rw[if_pos (.inr (.inr (by simp[hb,hx])))] at h6
      subst h6;repeat' first|refine l9 ?_|simp -dsimp -implicitDefEqProofs (disch:=first|assumption|omega) only[go_sem,hr,b1,b2,fg,fb,fx]|refine l7 (c1 _) ?_|refine vcA ?_ ?_
      exact aa1 (au0 none) (ad6 ab7 (Le.refl _)) au6 ⟨rfl,rfl⟩
     ·have fx:((i:Int)=(index:Int))=False:=eq_false (by omega)
      rw[if_neg (by simp[hpg,hb,hx])] at h6
      by_cases he:pm/2%2=1
      ·have fe:(((pm/2%2*2:Nat):Int)=0)=False:=eq_false (by omega)
       by_cases hd0:pd=[]
       ·have f0:((pd.length:Int)=0)=True:=eq_true (by rw[hd0];rfl)
        rw[if_pos (.inr ⟨by omega,hd0⟩)] at h6
        subst h6;repeat' first|refine l9 ?_|simp -dsimp -implicitDefEqProofs (disch:=first|assumption|omega) only[go_sem,hr,b1,b2,fg,fb,fx,fe,f0]|refine l7 (c1 _) ?_|refine vcA ?_ ?_
        exact aa1 (au0 none) (ad6 ab7 (Le.refl _)) au6 ⟨rfl,rfl⟩
       ·have f0:((pd.length:Int)=0)=False:=eq_false (fun h=>hd0 (aB0 (by omega)))
        rw[if_neg (by rintro(h|h);exact absurd h.1 (by omega);exact hd0 h.2)] at h6
        by_cases hl:4096 < rec.length+pd.length
        ·have fl:(4096 < (rec.length:Int)+(pd.length:Int))=True:=eq_true (by omega)
         rw[if_pos hl] at h6;subst h6;repeat' first|refine l9 ?_|simp -dsimp -implicitDefEqProofs (disch:=first|assumption|omega) only[go_sem,hr,b1,b2,fg,fb,fx,fe,f0,fl]|refine l7 (c1 _) ?_|refine vcA ?_ ?_|omega|refine aa8 fun _=>?_
         exact aa1 (au0 none) (ad6 ab7 (Le.refl _)) au6 ⟨rfl,rfl⟩
        ·have fl:(4096 < (rec.length:Int)+(pd.length:Int))=False:=eq_false (by omega)
         rw[if_neg hl] at h6;rw[if_pos (by omega)] at h6
         subst h6;repeat' first|refine l9 ?_|simp -dsimp -implicitDefEqProofs (disch:=first|assumption|omega) only[go_sem,hr,b1,b2,fg,fb,fx,fe,f0,fl,w1]|refine l7 (c1 _) ?_|refine vcA ?_ ?_|omega|refine aa8 fun _=>?_
         exact aW2 (au0 (some (rec++pd,i+1))) (ad6 as4 (Le.refl _)) au6 (fun sh cs e=>by cases e;exact o9 (.mp _ _ hkl) (o9 (.lit _) (o9 (.lit _) aa4))) ⟨rfl,rfl⟩
      ·have fe:(((pm/2%2*2:Nat):Int)=0)=True:=eq_true (by omega)
       by_cases hd1:pd.length < 100
       ·have f0:((pd.length:Int) < 100)=True:=eq_true (by omega)
        rw[if_pos (.inl ⟨by omega,hd1⟩)] at h6
        subst h6;repeat' first|refine l9 ?_|simp -dsimp -implicitDefEqProofs (disch:=first|assumption|omega) only[go_sem,hr,b1,b2,fg,fb,fx,fe,f0]|refine l7 (c1 _) ?_|refine vcA ?_ ?_
        exact aa1 (au0 none) (ad6 ab7 (Le.refl _)) au6 ⟨rfl,rfl⟩
       ·have f0:((pd.length:Int) < 100)=False:=eq_false (by omega)
        have f00:((pd.length:Int)=0)=False:=eq_false (by omega)
        rw[if_neg (by rintro(h|h);exact hd1 h.2;exact absurd h.2 (fun e=>by rw[e] at hd1;exact hd1 (by decide)))] at h6
        by_cases hl:4096 < rec.length+pd.length
        ·have fl:(4096 < (rec.length:Int)+(pd.length:Int))=True:=eq_true (by omega)
         rw[if_pos hl] at h6;subst h6;repeat' first|refine l9 ?_|simp -dsimp -implicitDefEqProofs (disch:=first|assumption|omega) only[go_sem,hr,b1,b2,fg,fb,fx,fe,f0,f00,fl]|refine l7 (c1 _) ?_|refine vcA ?_ ?_|omega|refine aa8 fun _=>?_
         exact aa1 (au0 none) (ad6 ab7 (Le.refl _)) au6 ⟨rfl,rfl⟩
        ·have fl:(4096 < (rec.length:Int)+(pd.length:Int))=False:=eq_false (by omega)
         rw[if_neg hl] at h6;rw[if_neg (by omega)] at h6
         repeat' first|refine l9 ?_|simp -dsimp -implicitDefEqProofs (disch:=first|assumption|omega) only[go_sem,hr,b1,b2,fg,fb,fx,fe,f0,f00,fl,w1,hap]|refine l7 (c1 _) ?_|refine vcA ?_ ?_|omega|refine aa8 fun _=>?_
         refine ak5 (H.length+1) ([.cells (.one 256) [.lit (.int .i64 (pg:Nat)),.lit (.int .i64 (pi:Nat)),.lit (.int .u8 (pm:Nat)),.sl .sh 1 (pd.map o6)]]) ((f,i+1,rec++pd)) ?_ ?_ ?_ ?_ ?_ (by repeat(first|exact ae1|(refine ad3 ?_ ?_;focus(first|exact cr4 (by omega)|exact cr1)))) ?_ aa3
         ·dsimp only;omega
         ·exact⟨by dsimp only;omega,by dsimp only;omega,by dsimp only;omega,by dsimp only;omega,by dsimp only;rw[List.length_append];omega,h6⟩
         ·simp
         ·simp
         ·simp
         ·exact aF4 fun o ho sh cs e=>by
           subst e;simp at ho
   ·have fg:((pg:Int)=(gen:Int))=False:=eq_false (by omega)
    rw[if_pos (.inr (.inl hpg))] at h6;subst h6;repeat' first|refine l9 ?_|simp -dsimp -implicitDefEqProofs (disch:=first|assumption|omega) only[go_sem,hr,b1,b2,fg]|refine l7 (c1 _) ?_|refine vcA ?_ ?_
    exact aa1 (au0 none) (ad6 ab7 (Le.refl _)) au6 ⟨rfl,rfl⟩
end As
end
section
open Go V
namespace As
theorem dI0{o o2:Own}(a b:bytes)(H:List AObj):o7 Tryz.prog 344 [.sl o 1 (a.map o6),.sl o2 1 (b.map o6)] H (fun y H'=>y=.bool (decide (a=b))/\H'=H):=by
 refine o8 [] [.tmp 4] 10 Tryz.func344 ?_;repeat' simp -dsimp -implicitDefEqProofs only[go_sem]
 exact o5 ⟨rfl,rfl⟩
theorem dp4(p s:bytes)(h:p.length<=s.length):p.isPrefixOf s=decide (s.take p.length=p):=by
 rw[bf7,bR4,decide_eq_true_eq];constructor
 ·rintro⟨t,rfl⟩;exact aQ6
 ·intro h;exact⟨s.drop p.length,by have:=bt9 p.length s;rwa [h] at this⟩
theorem dN9{p s:bytes}(h: ¬p.length<=s.length):p.isPrefixOf s=false:=by
 rw[Bool.eq_false_iff];intro hp;exact h (bR4.1 hp).length_le
theorem dm3{o o2:Own}(s p:bytes)(H:List AObj):o7 Tryz.prog 262 [.sl o 1 (s.map o6),.sl o2 1 (p.map o6)] H (fun y H'=>y=.bool (p.isPrefixOf s)/\H'=H):=by
 by_cases h:p.length<=s.length
 ·have hc:((p.length:Int)<=(s.length:Int))=True:=eq_true (by omega)
  rw[dp4 p s h];have c1:=fun(o:Own) H=>dI0 (o:=o) (o2:=o2) (s.take p.length) p H
  refine o8 [] [.tmp 4] 18 Tryz.func262 ?_;repeat' first|refine l9 ?_|simp -dsimp -implicitDefEqProofs only[go_sem,hc]|refine l7 (c1 _ _) ?_|fail
  exact o5 ⟨rfl,rfl⟩
 ·have hc:((p.length:Int)<=(s.length:Int))=False:=eq_false (by omega)
  rw[dN9 h];refine o8 [] [.tmp 4] 18 Tryz.func262 ?_;repeat' first|refine l9 ?_|simp -dsimp -implicitDefEqProofs only[go_sem,hc]
  exact o5 ⟨rfl,rfl⟩
theorem eg9{o2:Own}(s p:bytes)(H:List AObj):o7 Tryz.prog 183 [.sl .sh 1 (s.map o6),.sl o2 1 (p.map o6)] H (fun y H'=>y=.tup [.sl .sh 1 ((if p.isPrefixOf s=true then s.drop p.length else s).map o6),.bool (p.isPrefixOf s)]/\H'=H):=by
 have c1:=fun H=>dm3 (o:=.sh) (o2:=o2) s p H
 cases hp:p.isPrefixOf s with
 |false=>
  rw[hp] at c1;rw[if_neg (by simp)]
  refine o8 [] [.tmp 4,.tmp 5] 15 Tryz.func183 ?_;repeat' first|refine l9 ?_|simp -dsimp -implicitDefEqProofs only[go_sem]|refine l7 (c1 _) ?_|fail
  exact o5 ⟨rfl,rfl⟩
 |true=>
  rw[hp] at c1;rw[if_pos rfl];have hl:=(bR4.1 hp).length_le;have ht:(s.drop p.length).take (s.length - p.length)=s.drop p.length:=aF0 (by rw[List.length_drop];omega)
  have hle:((p.length:Int)<=(s.length:Int))=True:=eq_true (by omega)
  refine o8 [] [.tmp 4,.tmp 5] 15 Tryz.func183 ?_;repeat' first|refine l9 ?_|simp -dsimp -implicitDefEqProofs (disch:=(simp only[ll];omega)) only[go_sem,hle,ht]|refine l7 (c1 _) ?_|refine vcA ?_ ?_|omega
  exact o5 ⟨rfl,rfl⟩
def df4(h:Held):AV:=.agg [.sl .sh 1 (h.recs.map al2),.lit (.int .i64 (h.gen:Nat))]
def aV9(p:Held×Bool):AV:=.tup [df4 p.1,.bool p.2]
instance dat_heldE (p:Held×Bool):Dat (aV9 p):=inferInstanceAs (Dat (.tup [.agg [.sl .sh 1 (p.1.recs.map al2),.lit (.int .i64 (p.1.gen:Nat))],.bool p.2]))
theorem b85{d:Dk}{half gen st:Nat}: ∀{f i:Nat} {rec:bytes} {x:bytes} {j:Nat},bl7 d half gen st f i rec=some (x,j)->i < ac4 d/\i < j/\j<=ac4 d
 |0,_,_,_,_,h=>by cases h
 |f+1,i,rec,x,j,h=>by
  unfold bl7 at h;dsimp only at h;have hi:i < ac4 d:=by
   rcases xq8 i (ac4 d) with hlt|hge
   ·exact hlt
   ·have:au5 d half i=(as1,false):=by unfold au5;rw[if_neg (by omega)]
    rw[this,if_pos (.inl rfl)] at h;cases h
  split at h
  ·cases h
  ·split at h
   ·cases h
   ·split at h
    ·cases h
    ·split at h
     ·cases h;exact⟨hi,by omega,by omega⟩
     ·have:=b85 h
      exact⟨hi,by omega,this.2.2⟩
theorem c89(d:Dk)(half i:Nat)(h:(au5 d half i).2=true):(au5 d half i).1.gen<=1099511627777:=by
 unfold au5 at h⊢;split
 ·rename_i h1
  rw[if_pos h1] at h;split
  ·rename_i h2
   rw[if_pos h2] at h;rw[xq3] at h;have:=(bu8 h.1).2;dsimp only;omega
  ·exact aC0 _
 ·exact aC0 _
theorem d54{k:Nat}{sh:Shape}(d:Dk)(half:Nat)(H:List AObj)(hk:H[k]?=some (.cells sh (am1 d half)))(hd:WfK d)(hL:d.loose=[]\/d.down=true)(hh:half<=1):o7 Tryz.prog 99 [.mp k 0] H (fun y H'=>y=aV9 (aU6 d half)/\H'=H):=by
 have hn:=hd.n;have hnn:ac4 d<=50000:=by unfold ac4;omega
 have hkl:=aa0 hk;have c0:=fun M=>br9 d half 0 (H++M) (by rw[xq4 hkl];exact hk) hd hL hh
 have cs:=fun M=>bU5 d half (H++M) (by rw[xq4 hkl];exact hk) hd
 obtain⟨k1,k2,k3,k4⟩:=cn0 d half 0;have hpg0:(au5 d half 0).2=true->(au5 d half 0).1.gen<=1099511627777:=c89 d half 0;unfold aU6;dsimp only;generalize au5 d half 0=q at*;obtain⟨⟨pg,pi,pm,pd⟩,ok⟩:=q;unfold aA3 ao1 at c0;dsimp only at*;have c1:=fun H=>eg9 (o2:=.full) pd magicS H
 by_cases h1:ok=true/\magicS.isPrefixOf pd=true/\pd.length=7/\pm=3
 ·obtain⟨rfl,h2,h3,rfl⟩:=h1
  have hpg:=hpg0 rfl;rw[if_pos ⟨rfl,h2,h3,rfl⟩];rw[h2,if_pos rfl] at c1;have hml:magicS.length=3:=rfl;rw[hml] at c1;have hdl:(pd.drop 3).length=4:=by rw[List.length_drop];omega
  have c2:=fun H=>b34 (o:=.sh) (pd.drop 3) H (by omega)
  have htl:=bu9 (pd.drop 3);rw[hdl] at htl;have htl:ax8 (pd.drop 3) < 4294967296:=htl;generalize ax8 (pd.drop 3)=n at*;generalize hB:pd.drop 3=B at*;unfold magicS at c1;simp only[List.map_cons,List.map_nil] at c1;by_cases h4:n < ac4 d
  ·rw[if_pos h4]
   have f4:(((ac4 d:Nat):Int)<=(n:Int))=False:=eq_false (by omega)
   refine o8 [22,23,58] [.cell 2 175,.tmp 3] 96 Tryz.func99 ?_;repeat' first|refine l9 ?_|simp -dsimp -implicitDefEqProofs (disch:=omega) only[go_sem,hdl,f4]|refine l7 (c0 _) ?_|refine l7 (c1 _) ?_|refine l7 (c2 _) ?_|refine l7 (cs _) ?_|fail
   refine bP5 (H.length+3) 0 1 (by simp;exact⟨rfl,rfl⟩) rfl (by decide) ?_
   have hcn:=fun(i:Nat) (out:List bytes) (hi:i<=1000000)=>d81 (r:=H.length+4) (s:=k) (sh2:=.one 276) d half pg i (H++[.cells (.one 175) [.sl .full 0 [],.lit (.int .i64 0)],.cells (.one 256) [.lit (.int .i64 (pg:Nat)),.lit (.int .i64 (pi:Nat)),.lit (.int .u8 3),.sl .sh 1 (pd.map o6)],.gone,.cells (.one 175) [.sl (.tok (H.length+5)) 1 (out.map al2),.lit (.int .i64 (pg:Nat))],.cells (.one 276) (av7 k pg i),.grow 1 out.length none]) ao7 (by rw[xq4 hkl];exact hk) (by omega) hd hL hh hi hpg
   generalize hQ:bV7 d half pg n (ac4 d+1) 1 []=Q;refine aa7 ab6 mixed [22,23,58] [2,8,9,10] (fun p:Nat×Nat×List bytes=>1<=p.1/\ac4 d+2<=p.1+p.2.1/\p.2.1<=ac4 d+1/\p.1+p.2.2.length=ac4 d+1/\bV7 d half pg n p.1 p.2.1 p.2.2=Q) (fun _=>[]) (fun p=>H++[.cells (.one 175) [.sl .full 0 [],.lit (.int .i64 0)],.cells (.one 256) [.lit (.int .i64 (pg:Nat)),.lit (.int .i64 (pi:Nat)),.lit (.int .u8 3),.sl .sh 1 (pd.map o6)],.gone,.cells (.one 175) [.sl (.tok (H.length+5)) 1 (p.2.2.map al2),.lit (.int .i64 (pg:Nat))],.cells (.one 276) (av7 k pg p.2.1),.grow 1 p.2.2.length none]) (fun p=>p.1) (by kernel_rfl) ?_ (ac4 d+1,1,[]) ⟨by dsimp only;omega,by dsimp only;omega,by dsimp only;omega,by dsimp only;simp,hQ⟩ aa3 (by simp[av7])
   rintro⟨f,i,out⟩ ⟨i1,i2,i3,i4,i5⟩
   dsimp only at*;obtain⟨f,rfl⟩: ∃g,f=g+1:=⟨f - 1,by omega⟩
   unfold bV7 at i5;have c3:=hcn i out (by omega)
   have hns:=fun x j (h:bv9 d half pg i=some (x,j))=>b85 (by unfold bv9 at h;exact h)
   cases hnk:bv9 d half pg i with
   |none=>
    have c3:=c3.mono (R':=fun y H'=>y=au0 none/\H'=H++[.cells (.one 175) [.sl .full 0 [],.lit (.int .i64 0)],.cells (.one 256) [.lit (.int .i64 (pg:Nat)),.lit (.int .i64 (pi:Nat)),.lit (.int .u8 3),.sl .sh 1 (pd.map o6)],.gone,.cells (.one 175) [.sl (.tok (H.length+5)) 1 (out.map al2),.lit (.int .i64 (pg:Nat))],.cells (.one 276) (av7 k pg i),.grow 1 out.length none]) fun y H' ⟨e1,e2⟩=>by rw[hnk] at e1 e2;exact⟨e1,e2⟩
    rw[hnk] at i5;dsimp only at i5;unfold au0 av7 at c3;unfold av7;by_cases hw:i<=n
    ·have fw:((i:Int)<=(n:Int))=True:=eq_true (by omega)
     rw[if_pos hw] at i5;subst i5;repeat' first|refine l9 ?_|simp -dsimp -implicitDefEqProofs (disch:=(simp only[ll];omega)) only[go_sem,fw]|refine l7 (c3) ?_|fail
     exact aa1 (aV9 (⟨[],0⟩,false)) (ad6 (ak3 (LeAll.cons ab7 (LeAll.cons (Le.refl _) LeAll.nil))) (Le.refl _)) ab2 ⟨rfl,rfl⟩
    ·have fw:((i:Int)<=(n:Int))=False:=eq_false (by omega)
     rw[if_neg hw] at i5;subst i5;repeat' first|refine l9 ?_|simp -dsimp -implicitDefEqProofs (disch:=(simp only[ll];omega)) only[go_sem,fw]|refine l7 (c3) ?_|fail
     exact aa1 (aV9 (⟨out,pg⟩,true)) (ad6 (ak3 (LeAll.cons as4 (LeAll.cons (Le.refl _) LeAll.nil))) (Le.refl _)) ab2 ⟨rfl,rfl⟩
   |some q=>
    obtain⟨x,j⟩:=q;obtain⟨j1,j2,j3⟩:=hns x j hnk;have c3:=c3.mono (R':=fun y H'=>y=au0 (some (x,j))/\H'=H++[.cells (.one 175) [.sl .full 0 [],.lit (.int .i64 0)],.cells (.one 256) [.lit (.int .i64 (pg:Nat)),.lit (.int .i64 (pi:Nat)),.lit (.int .u8 3),.sl .sh 1 (pd.map o6)],.gone,.cells (.one 175) [.sl (.tok (H.length+5)) 1 (out.map al2),.lit (.int .i64 (pg:Nat))],.cells (.one 276) (av7 k pg j),.grow 1 out.length none]) fun y H' ⟨e1,e2⟩=>by rw[hnk] at e1 e2;exact⟨e1,e2.trans (by dsimp only;rw[an1];rfl)⟩
    rw[hnk] at i5;dsimp only at i5;unfold au0 at c3;have hm:out.map al2++[.sl .sh 1 (x.map o6)]=(out++[x]).map al2:=by rw[aJ3];rfl
    by_cases hw:i<=n
    ·have fw:((i:Int)<=(n:Int))=True:=eq_true (by omega)
     by_cases hj:n+1 < j
     ·have fj:((n:Int)+1 < (j:Int))=True:=eq_true (by omega)
      rw[if_pos ⟨hw,hj⟩] at i5;subst i5;unfold av7 at c3;unfold av7;repeat' first|refine l9 ?_|simp -dsimp -implicitDefEqProofs (disch:=first|omega|simp only[ll];omega) only[go_sem,fw,fj]|refine l7 (c3) ?_|fail
      exact aa1 (aV9 (⟨[],0⟩,false)) (ad6 (ak3 (LeAll.cons ab7 (LeAll.cons (Le.refl _) LeAll.nil))) (Le.refl _)) ab2 ⟨rfl,rfl⟩
     ·have fj:((n:Int)+1 < (j:Int))=False:=eq_false (by omega)
      rw[if_neg fun h=>hj h.2] at i5
      unfold av7 at c3;unfold av7;repeat' first|refine l9 ?_|simp -dsimp -implicitDefEqProofs (disch:=omega) only[go_sem,fw,fj,hm]|refine l7 (c3) ?_|refine vcA ?_ ?_|omega
      refine again ((f,j,out++[x])) ?_ ?_ ?_ aa3
      ·dsimp only;omega
      ·exact⟨by dsimp only;omega,by dsimp only;omega,by dsimp only;omega,by dsimp only;rw[List.length_append];simp;omega,i5⟩
      ·simp
    ·have fw:((i:Int)<=(n:Int))=False:=eq_false (by omega)
     rw[if_neg fun h=>hw h.1] at i5
     unfold av7 at c3;unfold av7;repeat' first|refine l9 ?_|simp -dsimp -implicitDefEqProofs (disch:=omega) only[go_sem,fw,hm]|refine l7 (c3) ?_|refine vcA ?_ ?_|omega
     refine again ((f,j,out++[x])) ?_ ?_ ?_ aa3
     ·dsimp only;omega
     ·exact⟨by dsimp only;omega,by dsimp only;omega,by dsimp only;omega,by dsimp only;rw[List.length_append];simp;omega,i5⟩
     ·simp
  ·rw[if_neg h4]
   have f4:(((ac4 d:Nat):Int)<=(n:Int))=True:=eq_true (by omega)
   refine o8 [22,23,58] [.cell 2 175,.tmp 3] 96 Tryz.func99 ?_;repeat' first|refine l9 ?_|simp -dsimp -implicitDefEqProofs (disch:=first|omega|simp only[ll];omega) only[go_sem,hdl,f4]|refine l7 (c0 _) ?_|refine l7 (c1 _) ?_|refine l7 (c2 _) ?_|refine l7 (cs _) ?_|fail
   exact aa1 (aV9 (⟨[],0⟩,false)) (ad6 (ak3 (LeAll.cons ab7 (LeAll.cons (Le.refl _) LeAll.nil))) (Le.refl _)) ab2 ⟨rfl,rfl⟩
 ·rw[if_neg h1]
  cases ok with
  |false=>
   refine o8 [22,23,58] [.cell 2 175,.tmp 3] 96 Tryz.func99 ?_;repeat' first|refine l9 ?_|simp -dsimp -implicitDefEqProofs (disch:=first|omega|simp only[ll];omega) only[go_sem]|refine l7 (c0 _) ?_|refine l7 (c1 _) ?_|fail
   exact aa1 (aV9 (⟨[],0⟩,false)) (ad6 (ak3 (LeAll.cons ab7 (LeAll.cons (Le.refl _) LeAll.nil))) (Le.refl _)) ab2 ⟨rfl,rfl⟩
  |true=>
   have hml:magicS.length=3:=rfl;cases h2:magicS.isPrefixOf pd with
   |false=>
    rw[h2,if_neg (by simp)] at c1
    unfold magicS at c1;simp only[List.map_cons,List.map_nil] at c1;refine o8 [22,23,58] [.cell 2 175,.tmp 3] 96 Tryz.func99 ?_;repeat' first|refine l9 ?_|simp -dsimp -implicitDefEqProofs (disch:=first|omega|simp only[ll];omega) only[go_sem]|refine l7 (c0 _) ?_|refine l7 (c1 _) ?_|fail
    exact aa1 (aV9 (⟨[],0⟩,false)) (ad6 (ak3 (LeAll.cons ab7 (LeAll.cons (Le.refl _) LeAll.nil))) (Le.refl _)) ab2 ⟨rfl,rfl⟩
   |true=>
    have hle:=(bR4.1 h2).length_le;rw[h2,if_pos rfl,hml] at c1;have hdl:(pd.drop 3).length=pd.length - 3:=List.length_drop;generalize pd.drop 3=B at*;unfold magicS at c1;simp only[List.map_cons,List.map_nil] at c1;by_cases h3:pd.length=7
    ·have f3:((B.length:Int)=4)=True:=eq_true (by omega)
     have h5:pm≠3:=fun h=>h1 ⟨rfl,h2,h3,h⟩
     have f5:((pm:Int)=3)=False:=eq_false (by omega)
     refine o8 [22,23,58] [.cell 2 175,.tmp 3] 96 Tryz.func99 ?_;repeat' first|refine l9 ?_|simp -dsimp -implicitDefEqProofs (disch:=first|omega|simp only[ll];omega) only[go_sem,f3,f5]|refine l7 (c0 _) ?_|refine l7 (c1 _) ?_|fail
     exact aa1 (aV9 (⟨[],0⟩,false)) (ad6 (ak3 (LeAll.cons ab7 (LeAll.cons (Le.refl _) LeAll.nil))) (Le.refl _)) ab2 ⟨rfl,rfl⟩
    ·have f3:((B.length:Int)=4)=False:=eq_false (by omega)
     refine o8 [22,23,58] [.cell 2 175,.tmp 3] 96 Tryz.func99 ?_;repeat' first|refine l9 ?_|simp -dsimp -implicitDefEqProofs (disch:=first|omega|simp only[ll];omega) only[go_sem,f3]|refine l7 (c0 _) ?_|refine l7 (c1 _) ?_|fail
     exact aa1 (aV9 (⟨[],0⟩,false)) (ad6 (ak3 (LeAll.cons ab7 (LeAll.cons (Le.refl _) LeAll.nil))) (Le.refl _)) ab2 ⟨rfl,rfl⟩
end As
end
section
open Go V
namespace As
theorem bN4{m:Nat}{x:AV}(h:Low m x:=by(first|(first|exact .lit _|exact .str _|exact .any|exact ac8|exact ad1|exact .mp _ _ (by omega)|exact .msl _ _ _ _ (by omega)|exact ac1 (fun k e=>by cases e)|exact ab1 _|exact ae4|exact ae7|exact af2|exact af1 _|exact ab5|exact ab2)|(refine ae2 ?_;repeat(first|exact aa4|(refine o9 ?_ ?_;focus(first|exact .lit _|exact .str _|exact .any|exact ac8|exact ad1|exact .mp _ _ (by omega)|exact .msl _ _ _ _ (by omega)|exact ac1 (fun k e=>by cases e)|exact ab1 _|exact ae4|exact ae7|exact af2|exact af1 _|exact ab5|exact ab2))))|(refine am9 ?_;repeat(first|exact aa4|(refine o9 ?_ ?_;focus(first|exact .lit _|exact .str _|exact .any|exact ac8|exact ad1|exact .mp _ _ (by omega)|exact .msl _ _ _ _ (by omega)|exact ac1 (fun k e=>by cases e)|exact ab1 _|exact ae4|exact ae7|exact af2|exact af1 _|exact ab5|exact ab2)))))):Low m x:=h
def ap6(d:Dk):Nat->Held×Int
 |0=>(⟨[],0⟩,-1)
 |i+1=>if(aU6 d i).2=true/\(ap6 d i).1.gen < (aU6 d i).1.gen then((aU6 d i).1,(i:Int)) else ap6 d i
def bl5(p:Dk×Lg×List bytes×Int):AV:=.tup [ae6 p.1,az3 p.2.1,.sl .sh 1 (p.2.2.1.map al2),.lit (.int .i64 p.2.2.2)]
instance dat_openE (p:Dk×Lg×List bytes×Int):Dat (bl5 p):=inferInstanceAs (Dat (.tup [ae6 p.1,az3 p.2.1,.sl .sh 1 (p.2.2.1.map al2),.lit (.int .i64 p.2.2.2)]))
theorem cS7(d:Dk):bd7 d=if aD6 d=0 then(if(ap6 d 2).2 < 0 then(d,zLg,[],20) else(if(aV7 d (1 - (ap6 d 2).2).toNat (ap6 d 2).1.recs).2.2=0 then((aV7 d (1 - (ap6 d 2).2).toNat (ap6 d 2).1.recs).1,(aV7 d (1 - (ap6 d 2).2).toNat (ap6 d 2).1.recs).2.1,(ap6 d 2).1.recs,0) else((aV7 d (1 - (ap6 d 2).2).toNat (ap6 d 2).1.recs).1,(aV7 d (1 - (ap6 d 2).2).toNat (ap6 d 2).1.recs).2.1,[],(aV7 d (1 - (ap6 d 2).2).toNat (ap6 d 2).1.recs).2.2))) else(d,zLg,[],aD6 d):=rfl
theorem ca6(d:Dk): ∀i,-1<=(ap6 d i).2/\(ap6 d i).2 < i
 |0=>⟨bf9 _,by show (-1:Int) < 0;decide⟩
 |i+1=>by
  have:=ca6 d i;unfold ap6;split
  ·dsimp only;omega
  ·omega
theorem ef5(d:Dk)(H:List AObj)(hd:WfK d)(hL:d.loose=[]\/d.down=true)(hs:aU1 (ap6 d 2).1.recs=true):o7 Tryz.prog 40 [ae6 d] H (fun y H'=>y=bl5 (bd7 d)/\H'=H):=by
 have c1:=fun H=>cx9 d H hd
 rw[cS7];by_cases h0:aD6 d=0
 ·rw[if_pos h0]
  rw[h0] at c1;have hbf:=ca6 d;unfold ae6 at c1;unfold ae6;refine o8 [1,29,1000017,1000017001003,1000018,1000018001004,1000018003004,1000018003005] [.cell 2 59,.cell 3 61,.tmp 4,.tmp 5] 69 Tryz.func40 ?_;repeat' first|refine l9 ?_|simp -dsimp -implicitDefEqProofs (disch:=(simp only[ll];omega)) only[go_sem]|refine l7 (c1 _) ?_|fail
  refine cx3 (H.length+3) (cs':=[.sl .sh 1 [],.lit (.int .i64 0)]) ao7 (LeAll.cons ab7 (LeAll.cons (Le.refl _) LeAll.nil)) ?_;rw[an1,List.set_cons_succ,List.set_cons_succ,List.set_cons_succ,List.set_cons_zero];refine aa7 ab6 mixed [1,29,1000017,1000017001003,1000018,1000018001004,1000018003004,1000018003005] [1,2,3,4,5,7] (fun p:Nat×Held×Int=>p.1<=2/\p.2=ap6 d p.1) (fun p=>[(23,.lit (.int .i64 (p.1:Int))),(8,.lit (.int .i64 p.2.2))]) (fun p=>H++[.cells (.one 59) [.sl .sh 128 (d.secs.map al8),.sl .sh 129 (d.loose.map aG3),.lit (.int .i64 d.fuse),.lit (.bool d.down)],.cells (.one 59) [.sl .full 0 [],.sl .full 0 [],.lit (.int .i64 0),.lit (.bool false)],.cells (.one 61) [.lit (.int .i64 0),.lit (.int .i64 0),.lit (.int .i64 0)],.cells (.one 175) [.sl .sh 1 (p.2.1.recs.map al2),.lit (.int .i64 (p.2.1.gen:Nat))]]) (fun p=>2 - p.1) (by kernel_rfl) ?_ (0,⟨[],0⟩,-1) ⟨by dsimp only;omega,rfl⟩ aa3 rfl
  rintro⟨i,b0⟩ ⟨hi,hb0⟩
  dsimp only at hi hb0⊢;by_cases h:i < 2
  ·have hc:((i:Int) < 2)=True:=eq_true (by omega)
   have cr:=d54 (k:=H.length+4) (sh:=.one 178) d i (H++[.cells (.one 59) [.sl .sh 128 (d.secs.map al8),.sl .sh 129 (d.loose.map aG3),.lit (.int .i64 d.fuse),.lit (.bool d.down)],.cells (.one 59) [.sl .full 0 [],.sl .full 0 [],.lit (.int .i64 0),.lit (.bool false)],.cells (.one 61) [.lit (.int .i64 0),.lit (.int .i64 0),.lit (.int .i64 0)],.cells (.one 175) [.sl .sh 1 (b0.1.recs.map al2),.lit (.int .i64 (b0.1.gen:Nat))],.cells (.one 178) (am1 d i)]) ao7 hd hL (by omega)
   have hnx:ap6 d (i+1)=if(aU6 d i).2=true/\b0.1.gen < (aU6 d i).1.gen then((aU6 d i).1,(i:Int)) else b0:=by rw[hb0];rfl
   clear hb0;generalize aU6 d i=rh at*;obtain⟨⟨rr,rg⟩,ok⟩:=rh;unfold aV9 df4 at cr;unfold am1 at cr;dsimp only at*;cases ok with
   |false=>
    rw[if_neg (by simp)] at hnx
    repeat' first|refine l9 ?_|simp -dsimp -implicitDefEqProofs (disch:=omega) only[go_sem,hc,ao5,an7,List.drop_zero,an6]|refine l7 (cr) ?_|fail
    refine ak5 (H.length+4) ([.cells (.one 178) (am1 d i),.cells (.one 175) [.sl .sh 1 (rr.map al2),.lit (.int .i64 (rg:Nat))]]) ((i+1,b0)) ?_ ?_ ?_ ?_ ?_ (by repeat(first|exact ae1|(refine ad3 ?_ ?_;focus(first|exact ab2|exact bN4)))) ?_ aa3
    ·dsimp only;omega
    ·exact⟨by dsimp only;omega,hnx.symm⟩
    ·dsimp only
     unfold am1;simp
    ·simp
    ·simp
    ·exact aF4 fun o ho sh cs e=>by
      simp only[an8,aJ2,or_false] at ho;rcases ho with rfl|rfl|rfl|rfl<;>cases e
      ·exact o9 ab5 (o9 ab5 (o9 (.lit _) (o9 (.lit _) aa4)))
      ·exact o9 (ac1 (fun k e=>by cases e)) (o9 (ac1 (fun k e=>by cases e)) (o9 (.lit _) (o9 (.lit _) aa4)))
      ·exact o9 (.lit _) (o9 (.lit _) (o9 (.lit _) aa4))
      ·exact o9 ab5 (o9 (.lit _) aa4)
   |true=>
    by_cases hg:b0.1.gen < rg
    ·have fg:((b0.1.gen:Int) < (rg:Int))=True:=eq_true (by omega)
     rw[if_pos ⟨rfl,hg⟩] at hnx;repeat' first|refine l9 ?_|simp -dsimp -implicitDefEqProofs (disch:=omega) only[go_sem,hc,fg,ao5,an7,List.drop_zero,an6]|refine l7 (cr) ?_|fail
     refine ak5 (H.length+4) ([.cells (.one 178) (am1 d i),.cells (.one 175) [.sl .sh 1 (rr.map al2),.lit (.int .i64 (rg:Nat))]]) ((i+1,⟨rr,rg⟩,(i:Int))) ?_ ?_ ?_ ?_ ?_ (by repeat(first|exact ae1|(refine ad3 ?_ ?_;focus(first|exact ab2|exact bN4)))) ?_ aa3
     ·dsimp only;omega
     ·exact⟨by dsimp only;omega,hnx.symm⟩
     ·dsimp only
      unfold am1;simp
     ·simp
     ·simp
     ·exact aF4 fun o ho sh cs e=>by
       simp only[an8,aJ2,or_false] at ho;rcases ho with rfl|rfl|rfl|rfl<;>cases e
       ·exact o9 ab5 (o9 ab5 (o9 (.lit _) (o9 (.lit _) aa4)))
       ·exact o9 (ac1 (fun k e=>by cases e)) (o9 (ac1 (fun k e=>by cases e)) (o9 (.lit _) (o9 (.lit _) aa4)))
       ·exact o9 (.lit _) (o9 (.lit _) (o9 (.lit _) aa4))
       ·exact o9 ab5 (o9 (.lit _) aa4)
    ·have fg:((b0.1.gen:Int) < (rg:Int))=False:=eq_false (by omega)
     rw[if_neg fun q=>hg q.2] at hnx
     repeat' first|refine l9 ?_|simp -dsimp -implicitDefEqProofs (disch:=omega) only[go_sem,hc,fg,ao5,an7,List.drop_zero,an6]|refine l7 (cr) ?_|fail
     refine ak5 (H.length+4) ([.cells (.one 178) (am1 d i),.cells (.one 175) [.sl .sh 1 (rr.map al2),.lit (.int .i64 (rg:Nat))]]) ((i+1,b0)) ?_ ?_ ?_ ?_ ?_ (by repeat(first|exact ae1|(refine ad3 ?_ ?_;focus(first|exact ab2|exact bN4)))) ?_ aa3
     ·dsimp only;omega
     ·exact⟨by dsimp only;omega,hnx.symm⟩
     ·dsimp only
      unfold am1;simp
     ·simp
     ·simp
     ·exact aF4 fun o ho sh cs e=>by
       simp only[an8,aJ2,or_false] at ho;rcases ho with rfl|rfl|rfl|rfl<;>cases e
       ·exact o9 ab5 (o9 ab5 (o9 (.lit _) (o9 (.lit _) aa4)))
       ·exact o9 (ac1 (fun k e=>by cases e)) (o9 (ac1 (fun k e=>by cases e)) (o9 (.lit _) (o9 (.lit _) aa4)))
       ·exact o9 (.lit _) (o9 (.lit _) (o9 (.lit _) aa4))
       ·exact o9 ab5 (o9 (.lit _) aa4)
  ·obtain rfl:i=2:=by omega
   have hc:(((2:Nat):Int) < 2)=False:=eq_false (by omega)
   have hb:=hbf 2;subst hb0;by_cases hneg:(ap6 d 2).2 < 0
   ·have fn:=eq_true hneg
    rw[if_pos hneg];generalize ap6 d 2=b at*;repeat' first|refine l9 ?_|simp -dsimp -implicitDefEqProofs (disch:=(simp only[ll];omega)) only[go_sem,hc,fn]
    exact aa1 (bl5 (d,zLg,[],20)) (ba6 (LeAll.cons (Le.refl _) (LeAll.cons (Le.refl _) (LeAll.cons ab7 (LeAll.cons (Le.refl _) LeAll.nil))))) ab2 ⟨rfl,rfl⟩
   ·have fn:=eq_false hneg
    rw[if_neg hneg];generalize ap6 d 2=b at*;obtain⟨⟨br,bg⟩,bf⟩:=b;dsimp only at*;obtain⟨n,rfl⟩: ∃n:Nat,bf=n:=⟨bf.toNat,by omega⟩
    have w1:(1:Int) - (n:Int)=((1 - n:Nat):Int):=by omega
    rw[w1,Int.toNat_natCast];have c3:=fun H=>cV1 (o:=.sh) d (1 - n) br H hd hL (by omega) hs
    generalize aV7 d (1 - n) br=q at*;unfold aE4 ae6 az3 at c3;by_cases he:q.2.2=0
    ·rw[if_pos he]
     have f6:=eq_true he;repeat' first|refine l9 ?_|simp -dsimp -implicitDefEqProofs (disch:=first|omega|simp only[ll];omega) only[go_sem,hc,fn,w1,f6]|refine l7 (c3 _) ?_|fail
     exact aa1 (bl5 (q.1,q.2.1,br,0)) (Le.refl _) ab2 ⟨rfl,rfl⟩
    ·rw[if_neg he]
     have f6:=eq_false he;repeat' first|refine l9 ?_|simp -dsimp -implicitDefEqProofs (disch:=first|omega|simp only[ll];omega) only[go_sem,hc,fn,w1,f6]|refine l7 (c3 _) ?_|fail
     exact aa1 (bl5 (q.1,q.2.1,[],q.2.2)) (ba6 (LeAll.cons (Le.refl _) (LeAll.cons (Le.refl _) (LeAll.cons ab7 (LeAll.cons (Le.refl _) LeAll.nil))))) ab2 ⟨rfl,rfl⟩
 ·rw[if_neg h0]
  have f0:=eq_false h0;generalize aD6 d=e at*;unfold bl5 ae6 az3 at*;refine o8 [1,29,1000017,1000017001003,1000018,1000018001004,1000018003004,1000018003005] [.cell 2 59,.cell 3 61,.tmp 4,.tmp 5] 69 Tryz.func40 ?_;repeat' first|refine l9 ?_|simp -dsimp -implicitDefEqProofs (disch:=(simp only[ll];omega)) only[go_sem,f0]|refine l7 (c1 _) ?_|fail
  exact aa1 (bl5 (d,zLg,[],e)) (ba6 (LeAll.cons (Le.refl _) (LeAll.cons (Le.refl _) (LeAll.cons ab7 (LeAll.cons (Le.refl _) LeAll.nil))))) ab2 ⟨rfl,rfl⟩
end As
end
section
open Go V
namespace As
theorem c92{sh:Shape}{o:Own}(rows:List bytes)(l:List JV)(H:List AObj)(hs:aF1 l<=39999)(h0:(rowP l).2=0)(hr:rows.length<=100000):
  o7 Tryz.prog 173 [.mp H.length 0,.sl o 5 (l.map jAV)] (H++[.cells sh [.sl (.tok (H.length+1)) 1 (rows.map al2),.lit (.int .i64 0)],.grow 1 rows.length none]) (fun y H'=>y=.tup []/\H'=H++[.cells sh [.sl (.tok (H.length+1)) 1 ((rows++[(rowP l).1]).map al2),.lit (.int .i64 0)],.grow 1 (rows.length+1) none]):=by
 have c1:=fun H=>dI9 (o:=o) l H hs
 unfold bB3 at c1;rw[h0] at c1;generalize (rowP l).1=r at*;have hm:rows.map al2++[.sl .sh 1 (r.map o6)]=(rows++[r]).map al2:=by rw[aJ3];rfl
 refine o8 [] [] 30 Tryz.func173 ?_;repeat' first|refine l9 ?_|simp -dsimp -implicitDefEqProofs (disch:=omega) only[go_sem,hm]|refine l7 (c1 _) ?_|refine vcA ?_ ?_|omega
 exact aa5 _ (Le.refl _) (by simp) ⟨rfl,rfl⟩
theorem bC0{s:Idn}(h1:s.sess=[])(h2:s.users=[])(h3:s.bonds=[])(h4:s.plgs=[])(hr:aj8 s=true)(h0:(rowP [ac5 [109],aC2 s.now,ac5 s.pepper]).2=0):aP9 s=([(rowP [ac5 [109],aC2 s.now,ac5 s.pepper]).1],0):=by
 unfold aP9;have hrow:cf2 s=[[ac5 [109],aC2 s.now,ac5 s.pepper]]:=by unfold cf2;rw[h1,h2,h3,h4];rfl
 rw[if_pos hr,hrow];simp[h0]
def bW1(p:List bytes×Int):AV:=.tup [.sl .sh 1 (p.1.map al2),.lit (.int .i64 p.2)]
instance dat_packE (p:List bytes×Int):Dat (bW1 p):=inferInstanceAs (Dat (.tup [.sl .sh 1 (p.1.map al2),.lit (.int .i64 p.2)]))
structure Bare(s:Idn):Prop where
 sess:s.sess=[]
 users:s.users=[]
 bonds:s.bonds=[]
 plgs:s.plgs=[]
 right:aj8 s=true
 row:(rowP [ac5 [109],aC2 s.now,ac5 s.pepper]).2=0
theorem cL6(s:Idn)(H:List AObj)(hb:BdI s)(h:Bare s)(hp:s.pepper.length<=10000):o7 Tryz.prog 83 [ae0 s] H (fun y H'=>y=bW1 (aP9 s)/\H'=H):=by
 obtain⟨h1,h2,h3,h4,h5,h6⟩:=h;have c1:=fun H=>bh4 s H hb
 rw[bC0 h1 h2 h3 h4 h5 h6];rw[h5] at c1;have c2:=fun s H=>b35 s H
 have c3:=fun n H=>b84 n H
 have c4:=c92 (sh:=.one 259) (o:=.full) [] [ac5 [109],aC2 s.now,ac5 s.pepper] H (by simp[ac5,aC2,am5,aF1];omega) h6 (by simp)
 simp only[List.map_cons,List.map_nil] at c4;generalize (rowP [ac5 [109],aC2 s.now,ac5 s.pepper]).1=r at*;unfold ae0 at*;rw[h1,h2,h3,h4] at c1⊢
 refine by3 ab6 mixed [17,1000004,1000004003001,1000004006001,1000004006004,1000008,1000008003001,1000008006001,1000008006004,1000008010001,1000008010004,1000008010007,1000008014001,1000008014004,1000008014007,1000008014011,1000008017001,1000008017004,1000008017007,1000008017011,1000008017015,1000008020001,1000008020004,1000008020007,1000008020011,1000008020015,1000008020018,1000008023001,1000008023004,1000008023007,1000008023011,1000008023015,1000008023018,1000008023021,1000008026001,1000008026004,1000008026007,1000008026011,1000008026015,1000008026018,1000008026021,1000008026024,1000008029001,1000008029004,1000008029007,1000008029011,1000008029015,1000008029018,1000008029021,1000008029024,1000008029027,1000008033001,1000008033004,1000008033007,1000008033011,1000008033015,1000008033018,1000008033021,1000008033024,1000008033027,1000008033030,1000008033031,1000013,1000013003001,1000013006001,1000013006004,1000013009001,1000013009004,1000013009007,1000018,1000018004001,1000018008001,1000018008005,1000018011001,1000018011005,1000018011009,1000018014001,1000018014005,1000018014009,1000018014012,1000023,1000023003001,1000023007001,1000023007004,1000023011001,1000023011004,1000023011008,1000023014001,1000023014004,1000023014008,1000023014012,1000023017001,1000023017004,1000023017008,1000023017012,1000023017015,1000023020001,1000023020004,1000023020008,1000023020012,1000023020015,1000023020018,1000023023001,1000023023004,1000023023008,1000023023012,1000023023015,1000023023018,1000023023021,1000026] 3 (rs:=[.tmp 2,.tmp 3]) (n:=168) Tryz.func83 rfl rfl rfl rfl (nlb rfl) (by kernel_rfl) ?_
 repeat' first|refine l9 ?_|simp -dsimp -implicitDefEqProofs only[go_sem]|refine l7 (c1 _) ?_|fail
 refine bP5 H.length 0 1 aH4 rfl (by decide) ?_
 rw[aP0,List.set_cons_zero,List.append_assoc]
 refine dK2 ab6 mixed [17,1000004,1000004003001,1000004006001,1000004006004,1000008,1000008003001,1000008006001,1000008006004,1000008010001,1000008010004,1000008010007,1000008014001,1000008014004,1000008014007,1000008014011,1000008017001,1000008017004,1000008017007,1000008017011,1000008017015,1000008020001,1000008020004,1000008020007,1000008020011,1000008020015,1000008020018,1000008023001,1000008023004,1000008023007,1000008023011,1000008023015,1000008023018,1000008023021,1000008026001,1000008026004,1000008026007,1000008026011,1000008026015,1000008026018,1000008026021,1000008026024,1000008029001,1000008029004,1000008029007,1000008029011,1000008029015,1000008029018,1000008029021,1000008029024,1000008029027,1000008033001,1000008033004,1000008033007,1000008033011,1000008033015,1000008033018,1000008033021,1000008033024,1000008033027,1000008033030,1000008033031,1000013,1000013003001,1000013006001,1000013006004,1000013009001,1000013009004,1000013009007,1000018,1000018004001,1000018008001,1000018008005,1000018011001,1000018011005,1000018011009,1000018014001,1000018014005,1000018014009,1000018014012,1000023,1000023003001,1000023007001,1000023007004,1000023011001,1000023011004,1000023011008,1000023014001,1000023014004,1000023014008,1000023014012,1000023017001,1000023017004,1000023017008,1000023017012,1000023017015,1000023020001,1000023020004,1000023020008,1000023020012,1000023020015,1000023020018,1000023023001,1000023023004,1000023023008,1000023023012,1000023023015,1000023023018,1000023023021,1000026] (by kernel_rfl) ?_
 repeat' first|refine l9 ?_|simp -dsimp -implicitDefEqProofs (disch:=first|omega|simp only[ll];omega) only[go_sem]|refine⟨_,_,c2 _ _,?_⟩|refine⟨_,_,c3 _ _,?_⟩|refine⟨_,_,c4,?_⟩|fail
 refine aa7 ab6 mixed [17,1000004,1000004003001,1000004006001,1000004006004,1000008,1000008003001,1000008006001,1000008006004,1000008010001,1000008010004,1000008010007,1000008014001,1000008014004,1000008014007,1000008014011,1000008017001,1000008017004,1000008017007,1000008017011,1000008017015,1000008020001,1000008020004,1000008020007,1000008020011,1000008020015,1000008020018,1000008023001,1000008023004,1000008023007,1000008023011,1000008023015,1000008023018,1000008023021,1000008026001,1000008026004,1000008026007,1000008026011,1000008026015,1000008026018,1000008026021,1000008026024,1000008029001,1000008029004,1000008029007,1000008029011,1000008029015,1000008029018,1000008029021,1000008029024,1000008029027,1000008033001,1000008033004,1000008033007,1000008033011,1000008033015,1000008033018,1000008033021,1000008033024,1000008033027,1000008033030,1000008033031,1000013,1000013003001,1000013006001,1000013006004,1000013009001,1000013009004,1000013009007,1000018,1000018004001,1000018008001,1000018008005,1000018011001,1000018011005,1000018011009,1000018014001,1000018014005,1000018014009,1000018014012,1000023,1000023003001,1000023007001,1000023007004,1000023011001,1000023011004,1000023011008,1000023014001,1000023014004,1000023014008,1000023014012,1000023017001,1000023017004,1000023017008,1000023017012,1000023017015,1000023020001,1000023020004,1000023020008,1000023020012,1000023020015,1000023020018,1000023023001,1000023023004,1000023023008,1000023023012,1000023023015,1000023023018,1000023023021,1000026] [1,2,3,4,29,30] (fun _:Unit=>True) (fun _=>[(31,.lit (.int .i64 0))]) (fun _=>H++[.cells (.one 259) [.sl (.tok (H.length+1)) 1 ([]++[r]|>.map al2),.lit (.int .i64 0)],.grow 1 1 none]) (fun _=>0) (by kernel_rfl) ?_ () trivial aa3 rfl
 rintro⟨⟩ _
 repeat' first|refine l9 ?_|simp -dsimp -implicitDefEqProofs (disch:=omega) only[go_sem]
 refine aa7 ab6 mixed [17,1000004,1000004003001,1000004006001,1000004006004,1000008,1000008003001,1000008006001,1000008006004,1000008010001,1000008010004,1000008010007,1000008014001,1000008014004,1000008014007,1000008014011,1000008017001,1000008017004,1000008017007,1000008017011,1000008017015,1000008020001,1000008020004,1000008020007,1000008020011,1000008020015,1000008020018,1000008023001,1000008023004,1000008023007,1000008023011,1000008023015,1000008023018,1000008023021,1000008026001,1000008026004,1000008026007,1000008026011,1000008026015,1000008026018,1000008026021,1000008026024,1000008029001,1000008029004,1000008029007,1000008029011,1000008029015,1000008029018,1000008029021,1000008029024,1000008029027,1000008033001,1000008033004,1000008033007,1000008033011,1000008033015,1000008033018,1000008033021,1000008033024,1000008033027,1000008033030,1000008033031,1000013,1000013003001,1000013006001,1000013006004,1000013009001,1000013009004,1000013009007,1000018,1000018004001,1000018008001,1000018008005,1000018011001,1000018011005,1000018011009,1000018014001,1000018014005,1000018014009,1000018014012,1000023,1000023003001,1000023007001,1000023007004,1000023011001,1000023011004,1000023011008,1000023014001,1000023014004,1000023014008,1000023014012,1000023017001,1000023017004,1000023017008,1000023017012,1000023017015,1000023020001,1000023020004,1000023020008,1000023020012,1000023020015,1000023020018,1000023023001,1000023023004,1000023023008,1000023023012,1000023023015,1000023023018,1000023023021,1000026] [1,2,3,4,74,75] (fun _:Unit=>True) (fun _=>[(76,.lit (.int .i64 0))]) (fun _=>H++[.cells (.one 259) [.sl (.tok (H.length+1)) 1 ([]++[r]|>.map al2),.lit (.int .i64 0)],.grow 1 1 none]) (fun _=>0) (by kernel_rfl) ?_ () trivial aa3 rfl
 rintro⟨⟩ _
 repeat' first|refine l9 ?_|simp -dsimp -implicitDefEqProofs (disch:=omega) only[go_sem]
 refine aa7 ab6 mixed [17,1000004,1000004003001,1000004006001,1000004006004,1000008,1000008003001,1000008006001,1000008006004,1000008010001,1000008010004,1000008010007,1000008014001,1000008014004,1000008014007,1000008014011,1000008017001,1000008017004,1000008017007,1000008017011,1000008017015,1000008020001,1000008020004,1000008020007,1000008020011,1000008020015,1000008020018,1000008023001,1000008023004,1000008023007,1000008023011,1000008023015,1000008023018,1000008023021,1000008026001,1000008026004,1000008026007,1000008026011,1000008026015,1000008026018,1000008026021,1000008026024,1000008029001,1000008029004,1000008029007,1000008029011,1000008029015,1000008029018,1000008029021,1000008029024,1000008029027,1000008033001,1000008033004,1000008033007,1000008033011,1000008033015,1000008033018,1000008033021,1000008033024,1000008033027,1000008033030,1000008033031,1000013,1000013003001,1000013006001,1000013006004,1000013009001,1000013009004,1000013009007,1000018,1000018004001,1000018008001,1000018008005,1000018011001,1000018011005,1000018011009,1000018014001,1000018014005,1000018014009,1000018014012,1000023,1000023003001,1000023007001,1000023007004,1000023011001,1000023011004,1000023011008,1000023014001,1000023014004,1000023014008,1000023014012,1000023017001,1000023017004,1000023017008,1000023017012,1000023017015,1000023020001,1000023020004,1000023020008,1000023020012,1000023020015,1000023020018,1000023023001,1000023023004,1000023023008,1000023023012,1000023023015,1000023023018,1000023023021,1000026] [1,2,3,4,95,96] (fun _:Unit=>True) (fun _=>[(97,.lit (.int .i64 0))]) (fun _=>H++[.cells (.one 259) [.sl (.tok (H.length+1)) 1 ([]++[r]|>.map al2),.lit (.int .i64 0)],.grow 1 1 none]) (fun _=>0) (by kernel_rfl) ?_ () trivial aa3 rfl
 rintro⟨⟩ _
 repeat' first|refine l9 ?_|simp -dsimp -implicitDefEqProofs only[go_sem]
 refine aa7 ab6 mixed [17,1000004,1000004003001,1000004006001,1000004006004,1000008,1000008003001,1000008006001,1000008006004,1000008010001,1000008010004,1000008010007,1000008014001,1000008014004,1000008014007,1000008014011,1000008017001,1000008017004,1000008017007,1000008017011,1000008017015,1000008020001,1000008020004,1000008020007,1000008020011,1000008020015,1000008020018,1000008023001,1000008023004,1000008023007,1000008023011,1000008023015,1000008023018,1000008023021,1000008026001,1000008026004,1000008026007,1000008026011,1000008026015,1000008026018,1000008026021,1000008026024,1000008029001,1000008029004,1000008029007,1000008029011,1000008029015,1000008029018,1000008029021,1000008029024,1000008029027,1000008033001,1000008033004,1000008033007,1000008033011,1000008033015,1000008033018,1000008033021,1000008033024,1000008033027,1000008033030,1000008033031,1000013,1000013003001,1000013006001,1000013006004,1000013009001,1000013009004,1000013009007,1000018,1000018004001,1000018008001,1000018008005,1000018011001,1000018011005,1000018011009,1000018014001,1000018014005,1000018014009,1000018014012,1000023,1000023003001,1000023007001,1000023007004,1000023011001,1000023011004,1000023011008,1000023014001,1000023014004,1000023014008,1000023014012,1000023017001,1000023017004,1000023017008,1000023017012,1000023017015,1000023020001,1000023020004,1000023020008,1000023020012,1000023020015,1000023020018,1000023023001,1000023023004,1000023023008,1000023023012,1000023023015,1000023023018,1000023023021,1000026] [2,3,4,121,122] (fun _:Unit=>True) (fun _=>[(123,.lit (.int .i64 0))]) (fun _=>H++[.cells (.one 259) [.sl (.tok (H.length+1)) 1 ([]++[r]|>.map al2),.lit (.int .i64 0)],.grow 1 1 none]) (fun _=>0) (by kernel_rfl) ?_ () trivial aa3 rfl
 rintro⟨⟩ _
 repeat' first|refine l9 ?_|simp -dsimp -implicitDefEqProofs (disch:=omega) only[go_sem]
 exact aa1 (bW1 ([r],0)) (ad6 as4 (Le.refl _)) ab2 ⟨rfl,rfl⟩
end As
end
section
open Go V
namespace As
def aC1(s:Srv):List AV:=[.lit (.int .i64 s.st.now),.str s.st.pepper,.sl .sh 10 (s.st.sess.map aj2),.sl .sh 3 (s.st.users.map af0),.sl .sh 4 (s.st.bonds.map av3),.sl .sh 7 (s.st.plgs.map aw4),.sl .sh 128 (s.disk.secs.map al8),.sl .sh 129 (s.disk.loose.map aG3),.lit (.int .i64 s.disk.fuse),.lit (.bool s.disk.down),.lit (.int .i64 s.log.half),.lit (.int .i64 s.log.gen),.lit (.int .i64 s.log.used),.lit (.bool s.down)]
def ay7(s:Srv):AV:=.agg (aC1 s)
theorem dS2{m:Nat}{s:Srv}:aM9 m (aC1 s):=o9 (.lit _) (o9 (.str _) (o9 ab5 (o9 ab5 (o9 ab5 (o9 ab5 (o9 ab5 (o9 ab5 (o9 (.lit _) (o9 (.lit _) (o9 (.lit _) (o9 (.lit _) (o9 (.lit _) (o9 (.lit _) aa4)))))))))))))
instance dat_srv (s:Srv):Dat (ay7 s):=⟨fun _=>am9 dS2⟩
structure LayOk(s:Srv):Prop where
 bd:BdI s.st
 bare:Bare s.st
 pep:s.st.pepper.length<=10000
 wf:WfK s.disk
 loose:s.disk.loose=[]
 log:aA7 s.disk s.log=true
 short:aU1 (aP9 s.st).1=true
theorem cX9{k:Nat}{sh:Shape}(s:Srv)(H:List AObj)(hk:H[k]?=some (.cells sh (aC1 s)))(h:LayOk s):o7 Tryz.prog 35 [.mp k 0] H (fun y H'=>y=.lit (.int .i64 (aB7 s).2)/\H'=H.set k (.cells sh (aC1 (aB7 s).1))):=by
 obtain⟨h1,h2,h3,h4,h5,h6,h7⟩:=h;have hkl:=aa0 hk;have c1:=fun H=>cL6 s.st H h1 h2 h3
 have c2:=fun H=>cZ7 s.disk s.log (aP9 s.st).1 H h4 (.inl h5) h6 h7
 have hp:(aP9 s.st).2=0:=by rw[bC0 h2.sess h2.users h2.bonds h2.plgs h2.right h2.row]
 unfold aB7;rw[if_pos hp];unfold bW1 at c1;rw[hp] at c1;generalize (aP9 s.st).1=r at*;generalize by0 s.disk s.log r=q at*;unfold aE4 at c2;unfold ae0 at c1;unfold ae6 az3 at c2;unfold aC1 at*;refine o8 [1000004] [.tmp 2] 37 Tryz.func35 ?_;repeat' first|refine l9 ?_|simp -dsimp -implicitDefEqProofs (disch:=assumption) only[go_sem,hk,ao5,an7,List.drop_zero,an6]|refine l7 (c1 _) ?_|refine⟨_,_,c2 _,?_⟩|fail
 exact aa5 _ (Le.refl _) (by rw[List.length_set];exact xq0 _) ⟨rfl,rfl⟩
theorem d95{k:Nat}{sh:Shape}(s:Srv)(rec:bytes)(H:List AObj)(hk:H[k]?=some (.cells sh (aC1 s)))(h4:WfK s.disk)(h6:aA7 s.disk s.log=true)(h1:1<=rec.length)(h2:rec.length<=100)(hf:(aS9 s.disk s.log rec).2.2≠10):o7 Tryz.prog 38 [.mp k 0,.sl .sh 1 (rec.map o6)] H (fun y H'=>y=.lit (.int .i64 (aV8 s rec).2)/\H'=H.set k (.cells sh (aC1 (aV8 s rec).1))):=by
 have hkl:=aa0 hk;have c2:=fun H=>dI2 s.disk s.log rec H h4 h6 h1 h2
 unfold aV8;dsimp only;rw[if_neg hf];generalize aS9 s.disk s.log rec=q at*;have f1:=eq_false hf;unfold aE4 at c2;unfold ae6 az3 at c2;unfold aC1 at*;refine o8 [1000001,1000007] [.tmp 4] 54 Tryz.func38 ?_;repeat' first|refine l9 ?_|simp -dsimp -implicitDefEqProofs (disch:=assumption) only[go_sem,hk,f1,ao5,an7,List.drop_zero,an6]|refine⟨_,_,c2 _,?_⟩|fail
 exact aa5 _ (Le.refl _) (by rw[List.length_set];exact xq0 _) ⟨rfl,rfl⟩
end As
end
section
open Go V
namespace As
def aD3(d:Dk)(l:Lg):Srv:=⟨{dm5 with pepper:=[112]},d,l,false⟩
def cP9(d:Dk)(l:Lg):List AV:=[.lit (.int .i64 0),.str [112],.sl .full 0 [],.sl .full 0 [],.sl .full 0 [],.sl .full 0 [],.sl .sh 128 (d.secs.map al8),.sl .sh 129 (d.loose.map aG3),.lit (.int .i64 d.fuse),.lit (.bool d.down),.lit (.int .i64 l.half),.lit (.int .i64 l.gen),.lit (.int .i64 l.used),.lit (.bool false)]
theorem dT1{d:Dk}{l:Lg}:LeAll (cP9 d l) (aC1 (aD3 d l)):=by
 unfold cP9 aC1 aD3;repeat(first|exact LeAll.nil|(refine LeAll.cons ?_ ?_;focus(first|exact Le.refl _|exact ab7)))
theorem cX8{k:Nat}{sh:Shape}(d:Dk)(l:Lg)(H:List AObj)(hk:H[k]?=some (.cells sh (cP9 d l)))(h:LayOk (aD3 d l)):o7 Tryz.prog 35 [.mp k 0] H (fun y H'=>y=.lit (.int .i64 (aB7 (aD3 d l)).2)/\H'=H.set k (.cells sh (aC1 (aB7 (aD3 d l)).1))):=by
 refine aW5 hk dT1 ?_;have:=cX9 (sh:=sh) (aD3 d l) (H.set k (.cells sh (aC1 (aD3 d l)))) (aA0 (aa0 hk)) h;rwa [List.set_set] at this
def nwE(s:Srv):AV:=.tup [ay7 s,.lit (.int .i64 0)]
instance dat_nwE (s:Srv):Dat (nwE s):=inferInstanceAs (Dat (.tup [ay7 s,.lit (.int .i64 0)]))
theorem em2(n:Int)(H:List AObj)(hn:1<=n/\n<=2048)(hf:(aF7 (aJ7 n).1).2.2=0)(hL:LayOk (aD3 (aF7 (aJ7 n).1).1 (aF7 (aJ7 n).1).2.1))(hc:(aB7 (aD3 (aF7 (aJ7 n).1).1 (aF7 (aJ7 n).1).2.1)).2=0):o7 Tryz.prog 9 [ac6,.lit (.int .i64 n)] H (fun y H'=>y=nwE (aB7 (aD3 (aF7 (aJ7 n).1).1 (aF7 (aJ7 n).1).2.1)).1/\H'=H):=by
 have c1:=fun H=>a05 H
 have c2:=fun H=>ef6 n H
 have hw:WfK (aJ7 n).1:=by unfold aJ7;rw[if_pos hn];exact d27 (by omega)
 have h0:(aJ7 n).2=0:=by unfold aJ7;rw[if_pos hn]
 have hl:(aJ7 n).1.loose=[]:=by unfold aJ7;rw[if_pos hn]
 have c3:=fun H=>dH0 (aJ7 n).1 H hw (.inl hl)
 unfold dkE at c2;rw[h0] at c2;generalize (aJ7 n).1=d at*;generalize aF7 d=q at*;have c4:=fun k H hk=>cX8 (k:=k) (sh:=.one 63) q.1 q.2.1 H hk hL
 rw[hc] at c4;generalize (aB7 (aD3 q.1 q.2.1)).1=s at*;unfold aE4 at c3;rw[hf] at c3;unfold ac6 o6 at*;unfold cP9 aC1 at c4;unfold ae6 az3 at*;unfold nwE ay7 aC1;refine o8 [] [.cell 4 63,.tmp 5] 43 Tryz.func9 ?_;repeat' first|refine l9 ?_|simp -dsimp -implicitDefEqProofs only[go_sem,aG4,List.set_cons_zero,List.set_cons_succ,af4,ao5,an7,List.drop_zero,an6]|refine l7 (c1 _) ?_|refine l7 (c2 _) ?_|refine l7 (c3 _) ?_|refine l7 (c4 _ _ (by exact ao7)) ?_|fail
 exact aa1 _ (Le.refl _) ab2 ⟨rfl,rfl⟩
end As
end
section
open Go V
namespace As
theorem dv9{m:Nat}{x:AV}(h:Low m x:=by(first|(first|exact .lit _|exact .str _|exact .any|exact ac8|exact ad1|exact .mp _ _ (by omega)|exact .msl _ _ _ _ (by omega)|exact ac1 (fun k e=>by cases e)|exact ab1 _|exact ae4|exact ae7|exact af2|exact af1 _|exact ab5|exact ab2)|(refine ae2 ?_;repeat(first|exact aa4|(refine o9 ?_ ?_;focus(first|exact .lit _|exact .str _|exact .any|exact ac8|exact ad1|exact .mp _ _ (by omega)|exact .msl _ _ _ _ (by omega)|exact ac1 (fun k e=>by cases e)|exact ab1 _|exact ae4|exact ae7|exact af2|exact af1 _|exact ab5|exact ab2))))|(refine am9 ?_;repeat(first|exact aa4|(refine o9 ?_ ?_;focus(first|exact .lit _|exact .str _|exact .any|exact ac8|exact ad1|exact .mp _ _ (by omega)|exact .msl _ _ _ _ (by omega)|exact ac1 (fun k e=>by cases e)|exact ab1 _|exact ae4|exact ae7|exact af2|exact af1 _|exact ab5|exact ab2)))))):Low m x:=h
theorem bM1{α:Type}{l m:List α}{d:α}(hl:l.length=m.length)(h: ∀j,j < l.length->l.getD j d=m.getD j d):l=m:=by
 refine List.ext_getElem hl fun j h1 h2=>?_
 have:=h j h1;rwa [List.getD,xq1 h1,List.getD,xq1 h2] at this
theorem dH2{o o':Own}(l m:List bytes)(H:List AObj)(hl:l.length<=1100000):o7 Tryz.prog 89 [.sl o 1 (l.map .str),.sl o' 1 (m.map .str)] H (fun x H'=>x=.bool (decide (l=m))/\H'=H):=by
 refine o8 [1000006] [.tmp 4] 26 Tryz.func89 ?_;repeat' first|refine l9 ?_|simp -dsimp -implicitDefEqProofs only[go_sem]|refine vcA ?_ ?_|refine aa8 fun _=>?_
 ·rename_i h
  exact o5 ⟨ad5 (decide_eq_false fun e=>h (by rw[e])).symm,rfl⟩
 ·refine aa7 ab6 mixed [1000006] [0,1,12] (fun i:Nat=>i<=l.length/\ ∀j,j < i->l.getD j []=m.getD j []) (fun i=>[(13,.int .i64 i)]) (fun _=>H) (fun i=>l.length - i) (by kernel_rfl) ?_ 0 ⟨by omega,fun j hj=>by omega⟩ aa3 rfl
  rintro i ⟨hi,hp⟩
  repeat' first|refine l9 ?_|simp -dsimp -implicitDefEqProofs (disch:=omega) only[go_sem]|refine vcA ?_ ?_|omega|refine aa8 fun _=>?_
  ·rename_i h1 h2
   exact o5 ⟨ad5 (decide_eq_false fun e=>h2 (by rw[e])).symm,rfl⟩
  ·rename_i h1 h2
   refine again (i+1) ?_ ?_ rfl aa3
   ·omega
   ·exact⟨by omega,upto_succ hp h2⟩
  ·obtain rfl:i=l.length:=by omega
   exact o5 ⟨ad5 (decide_eq_true (bM1 (d:=[]) (by omega) hp)).symm,rfl⟩
theorem ej9(x y:Usr)(H:List AObj)(hx:x.agreed.length<=1100000):o7 Tryz.prog 88 [af0 x,af0 y] H (fun z H'=>z=.bool (decide (x=y))/\H'=H):=by
 have c1:=fun H=>dH2 (o:=.sh) (o':=.sh) x.agreed y.agreed H hx
 obtain⟨a,b,c⟩:=x;obtain⟨a',b',c'⟩:=y;unfold af0;dsimp only at*;by_cases h1:a=a'
 ·subst h1
  by_cases h2:b=b'
  ·subst h2
   have e:decide (Usr.mk a b c=Usr.mk a b c')=decide (c=c'):=by rw[decide_eq_decide,Usr.mk.injEq];simp
   rw[e];refine o8 [] [.tmp 4] 24 Tryz.func88 ?_;repeat' first|refine l9 ?_|simp -dsimp -implicitDefEqProofs (disch:=omega) only[go_sem]|refine l7 (c1 _) ?_|fail
   exact o5 ⟨rfl,rfl⟩
  ·have e:decide (Usr.mk a b c=Usr.mk a b' c')=false:=decide_eq_false fun e=>h2 (by injection e)
   rw[e];have f2:=eq_false h2;refine o8 [] [.tmp 4] 24 Tryz.func88 ?_;repeat' first|refine l9 ?_|simp -dsimp -implicitDefEqProofs (disch:=omega) only[go_sem,f2]
   exact o5 ⟨rfl,rfl⟩
 ·have e:decide (Usr.mk a b c=Usr.mk a' b' c')=false:=decide_eq_false fun e=>h1 (by injection e)
  rw[e];have f1:=eq_false h1;refine o8 [] [.tmp 4] 24 Tryz.func88 ?_;repeat' first|refine l9 ?_|simp -dsimp -implicitDefEqProofs (disch:=omega) only[go_sem,f1]
  exact o5 ⟨rfl,rfl⟩
theorem dl7{o o':Own}(H:List AObj):o7 Tryz.prog 90 [.sl o 10 [],.sl o' 10 []] H (fun x H'=>x=.bool true/\H'=H):=by
 refine o8 [1000006] [.tmp 4] 26 Tryz.func90 ?_;repeat' first|refine l9 ?_|simp -dsimp -implicitDefEqProofs only[go_sem]
 refine aa7 ab6 mixed [1000006] [0,1,12] (fun _:Unit=>True) (fun _=>[(13,.lit (.int .i64 0))]) (fun _=>H) (fun _=>0) (by kernel_rfl) ?_ () trivial aa3 rfl
 rintro⟨⟩ _
 repeat' first|refine l9 ?_|simp -dsimp -implicitDefEqProofs only[go_sem]
 exact o5 ⟨rfl,rfl⟩
theorem dl9{o o':Own}(H:List AObj):o7 Tryz.prog 92 [.sl o 4 [],.sl o' 4 []] H (fun x H'=>x=.bool true/\H'=H):=by
 refine o8 [1000006] [.tmp 4] 26 Tryz.func92 ?_;repeat' first|refine l9 ?_|simp -dsimp -implicitDefEqProofs only[go_sem]
 refine aa7 ab6 mixed [1000006] [0,1,12] (fun _:Unit=>True) (fun _=>[(13,.lit (.int .i64 0))]) (fun _=>H) (fun _=>0) (by kernel_rfl) ?_ () trivial aa3 rfl
 rintro⟨⟩ _
 repeat' first|refine l9 ?_|simp -dsimp -implicitDefEqProofs only[go_sem]
 exact o5 ⟨rfl,rfl⟩
theorem dl8{o o':Own}(H:List AObj):o7 Tryz.prog 93 [.sl o 7 [],.sl o' 7 []] H (fun x H'=>x=.bool true/\H'=H):=by
 refine o8 [1000006] [.tmp 4] 26 Tryz.func93 ?_;repeat' first|refine l9 ?_|simp -dsimp -implicitDefEqProofs only[go_sem]
 refine aa7 ab6 mixed [1000006] [0,1,12] (fun _:Unit=>True) (fun _=>[(13,.lit (.int .i64 0))]) (fun _=>H) (fun _=>0) (by kernel_rfl) ?_ () trivial aa3 rfl
 rintro⟨⟩ _
 repeat' first|refine l9 ?_|simp -dsimp -implicitDefEqProofs only[go_sem]
 exact o5 ⟨rfl,rfl⟩
theorem dH1(l m:List Usr)(H:List AObj)(hl:l.length<=1100000)(hu: ∀x∈l,x.agreed.length<=1100000):
  o7 Tryz.prog 91 [.sl .sh 3 (l.map af0),.sl .sh 3 (m.map af0),.fn (.func 88) [] []] H (fun x H'=>x=.bool (decide (l=m))/\H'=H):=by
 refine o8 [] [.tmp 6] 32 Tryz.func91 ?_;repeat' first|refine l9 ?_|simp -dsimp -implicitDefEqProofs only[go_sem]|refine vcA ?_ ?_|refine aa8 fun _=>?_
 ·rename_i h
  exact o5 ⟨ad5 (decide_eq_false fun e=>h (by rw[e])).symm,rfl⟩
 ·refine aa7 ab6 mixed [] [1,2,15,16] (fun i:Nat=>i<=l.length/\ ∀j,j < i->l.getD j ah3=m.getD j ah3) (fun i=>[(17,.int .i64 i)]) (fun _=>H) (fun i=>l.length - i) (by kernel_rfl) ?_ 0 ⟨by omega,fun j hj=>by omega⟩ aa3 rfl
  rintro i ⟨hi,hq⟩
  repeat' first|refine l9 ?_|simp -dsimp -implicitDefEqProofs (disch:=first|omega|simp only[ll];omega) only[go_sem]|refine l7 (ej9 _ _ _ (hu _ (ag9 (by omega)))) ?_|refine vcA ?_ ?_|omega|refine aa8 fun _=>?_
  ·rename_i h1 h2
   exact dB7 ⟨ad5 (decide_eq_false fun e=>h2 (by rw[e])).symm,rfl⟩
  ·rename_i h1 h2
   refine aw0 (i+1) ?_ ?_ (by repeat(first|exact ae1|(refine ad3 ?_ ?_;focus exact dv9))) aa3
   ·omega
   ·exact⟨by omega,upto_succ hq h2⟩
  ·obtain rfl:i=l.length:=by omega
   exact o5 ⟨ad5 (decide_eq_true (bM1 (d:=ah3) (by omega) hq)).symm,rfl⟩
structure Calm(s:Idn):Prop where
 sess:s.sess=[]
 bonds:s.bonds=[]
 plgs:s.plgs=[]
theorem dW6(s t:Idn)(H:List AObj)(hs:Calm s)(ht:Calm t)(hl:s.users.length<=1100000)(hu: ∀x∈s.users,x.agreed.length<=1100000):o7 Tryz.prog 37 [ae0 s,ae0 t] H (fun z H'=>z=.bool (decide (s=t))/\H'=H):=by
 obtain⟨sn,sp,sq,su,sb,sg⟩:=s;obtain⟨tn,tp,tq,tu,tb,tg⟩:=t;obtain⟨rfl,rfl,rfl⟩:=hs;obtain⟨rfl,rfl,rfl⟩:=ht;have c1:=fun H=>dH1 su tu H hl hu
 have c2:=fun H=>dl7 (o:=.sh) (o':=.sh) H
 have c3:=fun H=>dl9 (o:=.sh) (o':=.sh) H
 have c4:=fun H=>dl8 (o:=.sh) (o':=.sh) H
 unfold ae0;dsimp only[List.map_nil] at*;by_cases h1:sn=tn
 ·subst h1
  by_cases h2:sp=tp
  ·subst h2
   by_cases h3:su=tu
   ·have e:decide (Idn.mk sn sp [] su [] []=Idn.mk sn sp [] tu [] [])=true:=decide_eq_true (by rw[h3])
    rw[e];rw[decide_eq_true h3] at c1;refine o8 [] [.tmp 4] 47 Tryz.func37 ?_;repeat' first|refine l9 ?_|simp -dsimp -implicitDefEqProofs (disch:=omega) only[go_sem]|refine l7 (c1 _) ?_|refine l7 (c2 _) ?_|refine l7 (c3 _) ?_|refine l7 (c4 _) ?_|fail
    exact o5 ⟨rfl,rfl⟩
   ·have e:decide (Idn.mk sn sp [] su [] []=Idn.mk sn sp [] tu [] [])=false:=decide_eq_false fun e=>h3 (by injection e)
    rw[e];rw[decide_eq_false h3] at c1;refine o8 [] [.tmp 4] 47 Tryz.func37 ?_;repeat' first|refine l9 ?_|simp -dsimp -implicitDefEqProofs (disch:=omega) only[go_sem]|refine l7 (c1 _) ?_|refine l7 (c2 _) ?_|fail
    exact o5 ⟨rfl,rfl⟩
  ·have e:decide (Idn.mk sn sp [] su [] []=Idn.mk sn tp [] tu [] [])=false:=decide_eq_false fun e=>h2 (by injection e)
   rw[e];have f2:=eq_false h2;refine o8 [] [.tmp 4] 47 Tryz.func37 ?_;repeat' first|refine l9 ?_|simp -dsimp -implicitDefEqProofs (disch:=omega) only[go_sem,f2]
   exact o5 ⟨rfl,rfl⟩
 ·have e:decide (Idn.mk sn sp [] su [] []=Idn.mk tn tp [] tu [] [])=false:=decide_eq_false fun e=>h1 (by injection e)
  rw[e];have f1:=eq_false h1;refine o8 [] [.tmp 4] 47 Tryz.func37 ?_;repeat' first|refine l9 ?_|simp -dsimp -implicitDefEqProofs (disch:=omega) only[go_sem,f1]
  exact o5 ⟨rfl,rfl⟩
end As
end
end Go.Proofs.YtdkpdjfimckdgaaGreatDoor
