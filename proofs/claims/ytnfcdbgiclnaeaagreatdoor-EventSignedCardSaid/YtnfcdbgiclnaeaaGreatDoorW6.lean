/- Redaction, the sums, the names: the program's. -/
import Derived.Test.YtnfcdbgiclnaeaaGreatDoorW5
import Derived.Test.YtnfcdbgiclnaeaaGreatDoorW4
import Derived.Test.YtnfcdbgiclnaeaaGreatDoorW3
import Derived.Laws.Externs
set_option linter.unusedVariables false
set_option linter.unusedSimpArgs false
set_option maxRecDepth 10000
set_option maxHeartbeats 4000000
namespace Go.Proofs.YtnfcdbgiclnaeaaGreatDoor
section
open Go V
def dl9:bytes:=[97,117,116,104,95,101,118,101,110,116,115,32,99,111,110,116,101,110,116,32,100,101,112,116,104,32,104,97,115,104,101,115,32,111,114,105,103,105,110,95,115,101,114,118,101,114,95,116,115,32,112,114,101,118,95,101,118,101,110,116,115,32,114,111,111,109,95,105,100,32,115,101,110,100,101,114,32,115,105,103,110,97,116,117,114,101,115,32,115,116,97,116,101,95,107,101,121,32,116,121,112,101]
def innerS(k:bytes):bytes:=
 if k=[109,46,114,111,111,109,46,99,114,101,97,116,101] then[99,114,101,97,116,111,114]
 else if k=[109,46,114,111,111,109,46,109,101,109,98,101,114] then[109,101,109,98,101,114,115,104,105,112]
 else if k=[109,46,114,111,111,109,46,106,111,105,110,95,114,117,108,101,115] then[106,111,105,110,95,114,117,108,101]
 else if k=[109,46,114,111,111,109,46,112,111,119,101,114,95,108,101,118,101,108,115] then[98,97,110,32,101,118,101,110,116,115,32,101,118,101,110,116,115,95,100,101,102,97,117,108,116,32,105,110,118,105,116,101,32,107,105,99,107,32,114,101,100,97,99,116,32,115,116,97,116,101,95,100,101,102,97,117,108,116,32,117,115,101,114,115,32,117,115,101,114,115,95,100,101,102,97,117,108,116]
 else if k=[109,46,114,111,111,109,46,104,105,115,116,111,114,121,95,118,105,115,105,98,105,108,105,116,121] then[104,105,115,116,111,114,121,95,118,105,115,105,98,105,108,105,116,121]
 else[]
theorem cC0:aV1 dl9=aJ7:=by decide+kernel
theorem cG6(k:bytes):aV1 (innerS k)=aX8 k/\(∀c∈innerS k,c.toNat < 128)/\(innerS k).length<=1000/\(aX8 k).length<=1000:=by
 unfold innerS aX8;repeat' split
 all_goals decide+kernel
theorem d23(k:bytes)(H:List AObj):o9 Tryz.prog 51 [.str k] H (fun y H'=>y=.str (innerS k)/\H'=H):=by
 unfold innerS;by_cases h0:k=[109,46,114,111,111,109,46,99,114,101,97,116,101]
 ·rw[if_pos h0]
  have t0:=eq_true h0;refine y7 [] [.tmp 2] 14 Tryz.func51 rfl rfl rfl rfl (nlb rfl) (by kernel_rfl) ?_
  repeat' first|refine o6 ?_|simp -dsimp -implicitDefEqProofs (disch:=first|assumption|omega|simp only[ll];omega) only[go_sem,t0]|refine vcJ ?_ ?_<;>intro _|refine vcA ?_ ?_;focus(repeat'(first|omega|assumption|refine vcA ?_ ?_);done)|omega|refine o7 (fun _=>?_)
  exact y5 ⟨rfl,rfl⟩
 ·rw[if_neg h0]
  have f0:=eq_false h0;by_cases h1:k=[109,46,114,111,111,109,46,109,101,109,98,101,114]
  ·rw[if_pos h1]
   have t1:=eq_true h1;refine y7 [] [.tmp 2] 14 Tryz.func51 rfl rfl rfl rfl (nlb rfl) (by kernel_rfl) ?_
   repeat' first|refine o6 ?_|simp -dsimp -implicitDefEqProofs (disch:=first|assumption|omega|simp only[ll];omega) only[go_sem,f0,t1]|refine vcJ ?_ ?_<;>intro _|refine vcA ?_ ?_;focus(repeat'(first|omega|assumption|refine vcA ?_ ?_);done)|omega|refine o7 (fun _=>?_)
   exact y5 ⟨rfl,rfl⟩
  ·rw[if_neg h1]
   have f1:=eq_false h1;by_cases h2:k=[109,46,114,111,111,109,46,106,111,105,110,95,114,117,108,101,115]
   ·rw[if_pos h2]
    have t2:=eq_true h2;refine y7 [] [.tmp 2] 14 Tryz.func51 rfl rfl rfl rfl (nlb rfl) (by kernel_rfl) ?_
    repeat' first|refine o6 ?_|simp -dsimp -implicitDefEqProofs (disch:=first|assumption|omega|simp only[ll];omega) only[go_sem,f0,f1,t2]|refine vcJ ?_ ?_<;>intro _|refine vcA ?_ ?_;focus(repeat'(first|omega|assumption|refine vcA ?_ ?_);done)|omega|refine o7 (fun _=>?_)
    exact y5 ⟨rfl,rfl⟩
   ·rw[if_neg h2]
    have f2:=eq_false h2;by_cases h3:k=[109,46,114,111,111,109,46,112,111,119,101,114,95,108,101,118,101,108,115]
    ·rw[if_pos h3]
     have t3:=eq_true h3;refine y7 [] [.tmp 2] 14 Tryz.func51 rfl rfl rfl rfl (nlb rfl) (by kernel_rfl) ?_
     repeat' first|refine o6 ?_|simp -dsimp -implicitDefEqProofs (disch:=first|assumption|omega|simp only[ll];omega) only[go_sem,f0,f1,f2,t3]|refine vcJ ?_ ?_<;>intro _|refine vcA ?_ ?_;focus(repeat'(first|omega|assumption|refine vcA ?_ ?_);done)|omega|refine o7 (fun _=>?_)
     exact y5 ⟨rfl,rfl⟩
    ·rw[if_neg h3]
     have f3:=eq_false h3;by_cases h4:k=[109,46,114,111,111,109,46,104,105,115,116,111,114,121,95,118,105,115,105,98,105,108,105,116,121]
     ·rw[if_pos h4]
      have t4:=eq_true h4;refine y7 [] [.tmp 2] 14 Tryz.func51 rfl rfl rfl rfl (nlb rfl) (by kernel_rfl) ?_
      repeat' first|refine o6 ?_|simp -dsimp -implicitDefEqProofs (disch:=first|assumption|omega|simp only[ll];omega) only[go_sem,f0,f1,f2,f3,t4]|refine vcJ ?_ ?_<;>intro _|refine vcA ?_ ?_;focus(repeat'(first|omega|assumption|refine vcA ?_ ?_);done)|omega|refine o7 (fun _=>?_)
      exact y5 ⟨rfl,rfl⟩
     ·rw[if_neg h4]
      have f4:=eq_false h4;refine y7 [] [.tmp 2] 14 Tryz.func51 rfl rfl rfl rfl (nlb rfl) (by kernel_rfl) ?_
      repeat' first|refine o6 ?_|simp -dsimp -implicitDefEqProofs (disch:=first|assumption|omega|simp only[ll];omega) only[go_sem,f0,f1,f2,f3,f4]|refine vcJ ?_ ?_<;>intro _|refine vcA ?_ ?_;focus(repeat'(first|omega|assumption|refine vcA ?_ ?_);done)|omega|refine o7 (fun _=>?_)
      exact y5 ⟨rfl,rfl⟩
theorem au9{v:JV}{n:Nat}(h:aa1 v<=n):v.names.length<=n/\v.items.length<=n:=by
 have h1:=aO6 v;have h2:=aI3 v;exact⟨by omega,by omega⟩
theorem ag0{H M:List AObj}{p:JV×Int}{x:JV}{n:Int}(h:p=(x,n)):Done H (fun y H'=>y=af4 p/\H'=H) (.tup [jAV x,.lit (.int .i64 n)]) (H++M):=by
 subst h;exact aa3 (af4 (x,n)) (Le.refl _) (ag8 (aa2 (ad4 _) (aa2 (.lit _) ab6))) ⟨rfl,rfl⟩
theorem b07(v:JV)(H:List AObj)(hv:aa1 v<=40000):o9 Tryz.prog 21 [jAV v] H (fun y H'=>y=af4 (ac5 v)/\H'=H):=by
 have co:=fun H=>aN5 v H (by omega)
 have ck:=fun H=>dq3 v dl9 H (by omega) (by decide) (by decide) (by decide+kernel)
 have hgn:=au9 (n:=100000) (v:=v) (by omega)
 have cg:=fun s H=>be1 v s H hgn.1 hgn.2
 rw[cC0] at ck;unfold aL7 at cg;by_cases ho:al4 v=true
 ·cases hg:ad3 v ag7 with
  |none=>
   have e:ac5 v=(av3 aJ7 v,0):=by unfold ac5;rw[if_pos ho,hg]
   rw[e];have cg1:=cg ag7;rw[hg] at cg1;refine y7 [1000008,1000008000004,1000008000005,1000008001004] [.cell 2 25,.tmp 3] 42 Tryz.func21 rfl rfl rfl rfl (nlb rfl) (by kernel_rfl) ?_
   repeat' first|refine o6 ?_|simp -dsimp -implicitDefEqProofs (disch:=first|assumption|omega|simp only[ll];omega) only[go_sem,ho]|refine o5 (co _) ?_|refine⟨_,_,co _,?_⟩|refine o5 (ck _) ?_|refine⟨_,_,ck _,?_⟩|refine o5 (cg1 _) ?_|refine⟨_,_,cg1 _,?_⟩|refine vcJ ?_ ?_<;>intro _|refine vcA ?_ ?_;focus(repeat'(first|omega|assumption|refine vcA ?_ ?_);done)|omega|refine o7 (fun _=>?_)
   exact ag0 rfl
  |some c=>
   have cg1:=cg ag7;have hc:=ay7 (v:=v) (s:=ag7);rw[hg] at cg1 hc;rw[Option.getD_some] at cg1 hc;by_cases h6:c.kind=6
   ·have e:ac5 v=ae8 (av3 aJ7 v) ag7 (av3 (aX8 (bd6 v)) c):=by unfold ac5;rw[if_pos ho,hg];exact if_pos h6
    rw[e];have cg2:=cg aJ1;have hk:((ad3 v aJ1).getD aa4).text=bd6 v:=rfl;generalize (ad3 v aJ1).getD aa4=ty at*;have ci:=fun H=>d23 (bd6 v) H
    have hi:=cG6 (bd6 v);have ck2:=fun H=>dq3 c (innerS (bd6 v)) H (by omega) hi.2.1 hi.2.2.1 (by rw[hi.1];exact hi.2.2.2)
    rw[hi.1] at ck2;have s1:=bI3 aJ7 v;have s2:=bI3 (aX8 (bd6 v)) c;have cw:=fun H=>bN7 (av3 aJ7 v) (av3 (aX8 (bd6 v)) c) ag7 H (by omega) (by omega) (by decide)
    have t6:=eq_true h6;unfold af4 at cw;refine y7 [1000008,1000008000004,1000008000005,1000008001004] [.cell 2 25,.tmp 3] 42 Tryz.func21 rfl rfl rfl rfl (nlb rfl) (by kernel_rfl) ?_
    repeat' first|refine o6 ?_|simp -dsimp -implicitDefEqProofs (disch:=first|assumption|omega|simp only[ll];omega) only[go_sem,ho,t6,hk]|refine o5 (co _) ?_|refine⟨_,_,co _,?_⟩|refine o5 (ck _) ?_|refine⟨_,_,ck _,?_⟩|refine o5 (cg1 _) ?_|refine⟨_,_,cg1 _,?_⟩|refine o5 (cg2 _) ?_|refine⟨_,_,cg2 _,?_⟩|refine o5 (ci _) ?_|refine⟨_,_,ci _,?_⟩|refine o5 (ck2 _) ?_|refine⟨_,_,ck2 _,?_⟩|refine o5 (cw _) ?_|refine⟨_,_,cw _,?_⟩|refine vcJ ?_ ?_<;>intro _|refine vcA ?_ ?_;focus(repeat'(first|omega|assumption|refine vcA ?_ ?_);done)|omega|refine o7 (fun _=>?_)
    exact ag0 rfl
   ·have e:ac5 v=(av3 aJ7 v,0):=by unfold ac5;rw[if_pos ho,hg];exact if_neg h6
    rw[e];have f6:=eq_false h6;refine y7 [1000008,1000008000004,1000008000005,1000008001004] [.cell 2 25,.tmp 3] 42 Tryz.func21 rfl rfl rfl rfl (nlb rfl) (by kernel_rfl) ?_
    repeat' first|refine o6 ?_|simp -dsimp -implicitDefEqProofs (disch:=first|assumption|omega|simp only[ll];omega) only[go_sem,ho,f6]|refine o5 (co _) ?_|refine⟨_,_,co _,?_⟩|refine o5 (ck _) ?_|refine⟨_,_,ck _,?_⟩|refine o5 (cg1 _) ?_|refine⟨_,_,cg1 _,?_⟩|refine vcJ ?_ ?_<;>intro _|refine vcA ?_ ?_;focus(repeat'(first|omega|assumption|refine vcA ?_ ?_);done)|omega|refine o7 (fun _=>?_)
    exact ag0 rfl
 ·unfold ac5
  rw[if_neg ho];have hf:al4 v=false:=by simpa using ho
  refine y7 [1000008,1000008000004,1000008000005,1000008001004] [.cell 2 25,.tmp 3] 42 Tryz.func21 rfl rfl rfl rfl (nlb rfl) (by kernel_rfl) ?_
  repeat' first|refine o6 ?_|simp -dsimp -implicitDefEqProofs (disch:=first|assumption|omega|simp only[ll];omega) only[go_sem,hf]|refine o5 (co _) ?_|refine⟨_,_,co _,?_⟩|refine vcJ ?_ ?_<;>intro _|refine vcA ?_ ?_;focus(repeat'(first|omega|assumption|refine vcA ?_ ?_);done)|omega|refine o7 (fun _=>?_)
  exact aB3 rfl
theorem bE6{H M:List AObj}{p:bytes×Int}{l:bytes}{n:Int}(h:p=(l,n)):Done H (fun y H'=>y=bc4 p/\H'=H) (.tup [.agg (l.map o8),.lit (.int .i64 n)]) (H++M):=by
 subst h;exact aa3 (bc4 (l,n)) (Le.refl _) bK3 ⟨rfl,rfl⟩
theorem cd2{H M:List AObj}{p:bytes×Int}{l:bytes}{n:Int}(h:p=(l,n)):Done H (fun y H'=>y=aA3 p/\H'=H) (.tup [.str l,.lit (.int .i64 n)]) (H++M):=by
 subst h;exact aa3 (aA3 (l,n)) (Le.refl _) (ag8 (aa2 (.str _) (aa2 (.lit _) ab6))) ⟨rfl,rfl⟩
theorem cQ1{H:List AObj}{p:bytes×Int}{l:bytes}{n:Int}(h:p=(l,n)):Done H (fun y H'=>y=aA3 p/\H'=H) (.tup [.str l,.lit (.int .i64 n)]) H:=by
 subst h;exact y5 ⟨rfl,rfl⟩
theorem dy6(v:JV)(H:List AObj)(hv:aa1 v<=40000):o9 Tryz.prog 79 [jAV v] H (fun y H'=>y=bc4 (ac9 v)/\H'=H):=by
 have co:=fun H=>aN5 v H hv
 have cw:=fun H=>bs0 (o:=.full) v [ae2,ac3,bg7] H hv (by decide)
 have hs:=bA6 (hasB [ae2,ac3,bg7]) v;have cs:=fun H=>dR2 (ay8 (hasB [ae2,ac3,bg7]) v) H (by omega)
 have hl:=bA2 (ay8 (hasB [ae2,ac3,bg7]) v);unfold bc4 at cs;by_cases ho:al4 v=true
 ·have e:ac9 v=bg4 (ay8 (hasB [ae2,ac3,bg7]) v):=if_pos ho
  rw[e];generalize bg4 (ay8 (hasB [ae2,ac3,bg7]) v)=p at*;have ha:=ap9 (l:=an5) rfl hl;have hz:(an5).length=32:=rfl;refine y7 [] [.cell 2 28,.tmp 3] 14 Tryz.func79 rfl rfl rfl rfl (nlb rfl) (by kernel_rfl) ?_
  repeat' first|refine o6 ?_|simp -dsimp -implicitDefEqProofs (disch:=first|assumption|omega|simp only[ll];omega) only[go_sem,ho,aD7,ha,ab2,hz,hl]|refine o5 (co _) ?_|refine⟨_,_,co _,?_⟩|refine o5 (cw _) ?_|refine⟨_,_,cw _,?_⟩|refine o5 (cs _) ?_|refine⟨_,_,cs _,?_⟩|refine vcJ ?_ ?_<;>intro _|refine vcA ?_ ?_;focus(repeat'(first|omega|assumption|refine vcA ?_ ?_);done)|omega|refine o7 (fun _=>?_)
  exact bE6 rfl
 ·have e:ac9 v=(an5,1):=if_neg ho
  rw[e];have hf:al4 v=false:=by simpa using ho
  have ha:=ap9 (l:=an5) (m:=an5) rfl rfl;have hz:(an5).length=32:=rfl;refine y7 [] [.cell 2 28,.tmp 3] 14 Tryz.func79 rfl rfl rfl rfl (nlb rfl) (by kernel_rfl) ?_
  repeat' first|refine o6 ?_|simp -dsimp -implicitDefEqProofs (disch:=first|assumption|omega|simp only[ll];omega) only[go_sem,hf,aD7,ha,ab2,hz]|refine o5 (co _) ?_|refine⟨_,_,co _,?_⟩|refine vcJ ?_ ?_<;>intro _|refine vcA ?_ ?_;focus(repeat'(first|omega|assumption|refine vcA ?_ ?_);done)|omega|refine o7 (fun _=>?_)
  exact bE6 rfl
theorem cR2(v:JV)(H:List AObj)(hv:aa1 v<=40000)(hw:aa1 (ac5 v).1<=40000):o9 Tryz.prog 47 [jAV v] H (fun y H'=>y=bc4 (aQ0 v)/\H'=H):=by
 have co:=fun H=>b07 v H hv
 unfold af4 at co;by_cases ho:(ac5 v).2=0
 ·have e:aQ0 v=bg4 (ay8 (hasB [ac3]) (ac5 v).1):=if_pos ho
  rw[e];generalize ac5 v=r at*;have cw:=fun H=>bs0 (o:=.full) r.1 [ac3] H (by omega) (by decide)
  have hs:=bA6 (hasB [ac3]) r.1;have cs:=fun H=>dR2 (ay8 (hasB [ac3]) r.1) H (by omega)
  have hl:=bA2 (ay8 (hasB [ac3]) r.1);unfold bc4 at cs;generalize bg4 (ay8 (hasB [ac3]) r.1)=p at*;have ha:=ap9 (l:=an5) rfl hl;have hz:(an5).length=32:=rfl;refine y7 [] [.cell 2 28,.tmp 3] 21 Tryz.func47 rfl rfl rfl rfl (nlb rfl) (by kernel_rfl) ?_
  repeat' first|refine o6 ?_|simp -dsimp -implicitDefEqProofs (disch:=first|assumption|omega|simp only[ll];omega) only[go_sem,ho,aD7,ha,ab2,hz,hl]|refine o5 (co _) ?_|refine⟨_,_,co _,?_⟩|refine o5 (cw _) ?_|refine⟨_,_,cw _,?_⟩|refine o5 (cs _) ?_|refine⟨_,_,cs _,?_⟩|refine vcJ ?_ ?_<;>intro _|refine vcA ?_ ?_;focus(repeat'(first|omega|assumption|refine vcA ?_ ?_);done)|omega|refine o7 (fun _=>?_)
  exact bE6 rfl
 ·have e:aQ0 v=(an5,(ac5 v).2):=if_neg ho
  rw[e];have hf:=eq_false ho;generalize ac5 v=r at*;have ha:=ap9 (l:=an5) (m:=an5) rfl rfl;have hz:(an5).length=32:=rfl;refine y7 [] [.cell 2 28,.tmp 3] 21 Tryz.func47 rfl rfl rfl rfl (nlb rfl) (by kernel_rfl) ?_
  repeat' first|refine o6 ?_|simp -dsimp -implicitDefEqProofs (disch:=first|assumption|omega|simp only[ll];omega) only[go_sem,hf,aD7,ha,ab2,hz]|refine o5 (co _) ?_|refine⟨_,_,co _,?_⟩|refine vcJ ?_ ?_<;>intro _|refine vcA ?_ ?_;focus(repeat'(first|omega|assumption|refine vcA ?_ ?_);done)|omega|refine o7 (fun _=>?_)
  exact bE6 rfl
theorem dy3{o:Own}(b:bytes)(H:List AObj)(h:b.length=32):o9 Tryz.prog 48 [.sl o 1 (b.map o8)] H (fun y H'=>y=aA3 (36::ae7 bA9 b,0)/\H'=H):=by
 have cs: ∀(o:Own) H,o9 Tryz.prog 86 [.sl o 1 (b.map o8)] H (fun y H'=>y=.str (ae7 bA9 b)/\H'=H):=fun o H=>eo1 (o:=o) b H (by omega)
 have hl:(List.map o8 b).length=32:=by rw[List.length_map];exact h
 have he:(ae7 bA9 b).length<=1000:=by rw[aB4,h];decide
 generalize ae7 bA9 b=t at*;refine y7 [] [.tmp 2,.tmp 3] 10 Tryz.func48 rfl rfl rfl rfl (nlb rfl) (by kernel_rfl) ?_
 repeat' first|refine o6 ?_|simp -dsimp -implicitDefEqProofs (disch:=first|assumption|omega|simp only[ll];omega) only[go_sem,h,hl]|refine o5 (cs _ _) ?_|refine⟨_,_,cs _ _,?_⟩|refine vcJ ?_ ?_<;>intro _|refine vcA ?_ ?_;focus(repeat'(first|omega|assumption|refine vcA ?_ ?_);done)|omega|refine o7 (fun _=>?_)
 exact cQ1 rfl
theorem cH7{P:Program}{f:FuncId}{H:List AObj}{R:AV->List AObj->Prop}{l:bytes}{sh:Shape}(hl:l.length=32)(h:o9 P f [.sl .sh 1 (l.map o8)] (H++[.gone]) R):o9 P f [.msl H.length 0 32 32] (H++[.cells sh (l.map o8)]) R:=by
 have hk:(H++[AObj.cells sh (l.map o8)])[H.length]?=some (.cells sh (l.map o8)):=by simp
 have fz:=dt0 (cap:=32) hk;rw[hl] at fz;exact df5 hk fz (by simpa using h)
theorem ds9{P:Program}{f:FuncId}{H:List AObj}{R:AV->List AObj->Prop}{l:bytes}{sh:Shape}{a:AObj}(hl:l.length=32)(h:o9 P f [.sl .sh 1 (l.map o8)] (H++[a,.gone]) R):o9 P f [.msl (H.length+1) 0 32 32] (H++[a,.cells sh (l.map o8)]) R:=by
 have:=cH7 (P:=P) (f:=f) (H:=H++[a]) (R:=R) (sh:=sh) hl (by simpa using h)
 simpa using this
theorem cL4(v:JV)(H:List AObj)(hv:aa1 v<=40000)(hw:aa1 (ac5 v).1<=40000):o9 Tryz.prog 20 [jAV v] H (fun y H'=>y=aA3 (as5 v)/\H'=H):=by
 have co:=fun H=>cR2 v H hv hw
 have hl:=dB0 v;unfold bc4 at co;by_cases ho:(aQ0 v).2=0
 ·have e:as5 v=(36::ae7 bA9 (aQ0 v).1,0):=if_pos ho
  rw[e];generalize aQ0 v=p at*;have ha:=ap9 (l:=an5) rfl hl;have hz:(an5).length=32:=rfl;have ci:=fun(H:List AObj) (sh:Shape)=>cH7 (H:=H) (sh:=sh) hl (dy3 (o:=.sh) p.1 (H++[.gone]) hl)
  generalize ae7 bA9 p.1=t at*;unfold aA3 at ci;refine y7 [] [.tmp 2,.tmp 3] 18 Tryz.func20 rfl rfl rfl rfl (nlb rfl) (by kernel_rfl) ?_
  repeat' first|refine o6 ?_|simp -dsimp -implicitDefEqProofs (disch:=first|assumption|omega|simp only[ll];omega) only[go_sem,ho,aD7,ha,ab2,hz,hl]|refine o5 (co _) ?_|refine⟨_,_,co _,?_⟩|refine o5 (ci _ _) ?_|refine⟨_,_,ci _ _,?_⟩|refine vcJ ?_ ?_<;>intro _|refine vcA ?_ ?_;focus(repeat'(first|omega|assumption|refine vcA ?_ ?_);done)|omega|refine o7 (fun _=>?_)
  exact cd2 rfl
 ·have e:as5 v=([],(aQ0 v).2):=if_neg ho
  rw[e];have hf:=eq_false ho;generalize aQ0 v=p at*;have ha:=ap9 (l:=an5) rfl hl;have hz:(an5).length=32:=rfl;refine y7 [] [.tmp 2,.tmp 3] 18 Tryz.func20 rfl rfl rfl rfl (nlb rfl) (by kernel_rfl) ?_
  repeat' first|refine o6 ?_|simp -dsimp -implicitDefEqProofs (disch:=first|assumption|omega|simp only[ll];omega) only[go_sem,hf,aD7,ha,ab2,hz]|refine o5 (co _) ?_|refine⟨_,_,co _,?_⟩|refine vcJ ?_ ?_<;>intro _|refine vcA ?_ ?_;focus(repeat'(first|omega|assumption|refine vcA ?_ ?_);done)|omega|refine o7 (fun _=>?_)
  exact cd2 rfl
theorem co9(v:JV)(H:List AObj)(hv:aa1 v<=40000):o9 Tryz.prog 44 [jAV v] H (fun y H'=>y=af4 (ac7 (ae7 ad6 (ac9 v).1),(ac9 v).2)/\H'=H):=by
 have co:=fun H=>dy6 v H (by omega)
 have hl:=aY5 v;unfold bc4 at co;generalize ac9 v=p at*;have ha:=ap9 (l:=an5) rfl hl;have hz:(an5).length=32:=rfl;have ce: ∀H:List AObj,o9 Tryz.prog 80 [.sl .sh 1 (p.1.map o8)] H (fun y H'=>y=.str (ae7 ad6 p.1)/\H'=H):=fun H=>cL7 (o:=.sh) p.1 H (by omega)
 have ci:=fun(H:List AObj) (sh:Shape) (a:AObj)=>ds9 (H:=H) (sh:=sh) (a:=a) hl (ce (H++[a,.gone]))
 generalize ae7 ad6 p.1=t at*;refine y7 [] [.cell 2 25,.tmp 3] 15 Tryz.func44 rfl rfl rfl rfl (nlb rfl) (by kernel_rfl) ?_
 repeat' first|refine o6 ?_|simp -dsimp -implicitDefEqProofs (disch:=first|assumption|omega|simp only[ll];omega) only[go_sem,aD7,ha,ab2,hz]|refine o5 (co _) ?_|refine⟨_,_,co _,?_⟩|refine o5 (ci _ _ _) ?_|refine⟨_,_,ci _ _ _,?_⟩|refine vcJ ?_ ?_<;>intro _|refine vcA ?_ ?_;focus(repeat'(first|omega|assumption|refine vcA ?_ ?_);done)|omega|refine o7 (fun _=>?_)
 exact aj9 (au6 bR4) (ag0 rfl)
theorem dH4{s:bytes}(h:Lib.validD s=true):aJ2 [(az7,ac7 s)]=(aD0 s,0):=by
 have g:bD5 (az7,ac7 s)=true:=by
  rw[bo3,b56 h,Bool.true_and];exact(by decide+kernel:Lib.validD az7=true)
 have t:aW3 (az7,ac7 s)=false:=rfl;unfold aJ2;simp only[List.all_cons,List.all_nil,List.any_cons,List.any_nil,g,t,Bool.and_true,Bool.or_false,if_true];rfl
theorem dQ5(v:JV)(H:List AObj)(hv:aa1 v<=40000):o9 Tryz.prog 17 [jAV v] H (fun y H'=>y=af4 (ab5 v)/\H'=H):=by
 have co:=fun H=>co9 v H hv
 unfold af4 at co;have hE:(ae7 ad6 (ac9 v).1).length<=1000:=by rw[aB4,aY5];decide
 have hV:=bM0 (ac9 v).1;by_cases ho:(ac9 v).2=0
 ·have e:ab5 v=ae8 v ae2 (aD0 (ae7 ad6 (ac9 v).1)):=if_pos ho
  rw[e];generalize ae7 ad6 (ac9 v).1=t at*;have hs:aa1 (ac7 t)<=2000:=by simp[ac7,ar8,JV.text,JV.names,JV.items,aQ5];omega
  have hs2:aa1 (aD0 t)<=3000:=by simp[aD0,ac7,ar8,JV.text,JV.names,JV.items,aQ5,aj7,az7];omega
  have cm:=fun H=>dy0 [(az7,ac7 t)] H (by simp) (fun p hp=>by
   simp only[ai9,aG2,or_false] at hp;subst hp;exact⟨by dsimp only;omega,(by decide:az7.length<=10000)⟩)
  rw[dH4 hV] at cm;have cm2:=fun H=>(cm H).weak (args:=[.sl .full 6 [az3 (az7,ac7 t)]]) rfl (fun j x y h1 h2=>by
   cases j with
   |zero=>cases h1;cases h2;exact aC5
   |succ j=>simp at h1)
  have cw:=fun H=>bN7 v (aD0 t) ae2 H (by omega) (by omega) (by decide)
  unfold af4 at cm2 cw;refine y7 [] [.cell 2 25,.tmp 3] 32 Tryz.func17 rfl rfl rfl rfl (nlb rfl) (by kernel_rfl) ?_
  repeat' first|refine o6 ?_|simp -dsimp -implicitDefEqProofs (disch:=first|assumption|omega|simp only[ll];omega) only[go_sem,ho]|refine o5 (co _) ?_|refine⟨_,_,co _,?_⟩|refine o5 (cm2 _) ?_|refine⟨_,_,cm2 _,?_⟩|refine o5 (cw _) ?_|refine⟨_,_,cw _,?_⟩|refine vcJ ?_ ?_<;>intro _|refine vcA ?_ ?_;focus(repeat'(first|omega|assumption|refine vcA ?_ ?_);done)|omega|refine o7 (fun _=>?_)
  exact ag0 rfl
 ·have e:ab5 v=(aa4,(ac9 v).2):=if_neg ho
  rw[e];have hf:=eq_false ho;refine y7 [] [.cell 2 25,.tmp 3] 32 Tryz.func17 rfl rfl rfl rfl (nlb rfl) (by kernel_rfl) ?_
  repeat' first|refine o6 ?_|simp -dsimp -implicitDefEqProofs (disch:=first|assumption|omega|simp only[ll];omega) only[go_sem,hf]|refine o5 (co _) ?_|refine⟨_,_,co _,?_⟩|refine vcJ ?_ ?_<;>intro _|refine vcA ?_ ?_;focus(repeat'(first|omega|assumption|refine vcA ?_ ?_);done)|omega|refine o7 (fun _=>?_)
  exact aB3 rfl
end
section
namespace V
open Go
section
variable {P:Program}{L:Tab}{mu:List Nat}{n:Nat}{Q:Exit->Env->List AObj->Prop}{env:Env}{H:List AObj}
def bh4(P:Program)(L:Tab)(mu:List Nat)(n:Nat):Nat->Code->(Exit->Env->List AObj->Prop)->Env->List AObj->Prop
 |k+1,.seq x y,Q,env,H=>vcC P L mu n x (Ex (fun env H=>bh4 P L mu n k y Q env H) Q) env H
 |_,c,Q,env,H=>AW P n c Q env H
theorem aQ3(hL:ac6 P L)(hm:P.follows .mixedOrders=true): ∀(k:Nat) (c:Code) {Q:Exit->Env->List AObj->Prop} {env:Env} {H:List AObj},okC mu n c=true->bh4 P L mu n k c Q env H->AW P n c Q env H
 |0,c,_,_,_,_,h=>by
  cases c<;>exact h
 |k+1,.seq x y,Q,env,H,ho,h=>by
  simp only[okC,xq3] at ho;exact by5 ((ai8 hL hm x ho.1 h).mono fun e env' H' q=>by
   cases e with
   |normal=>exact aQ3 hL hm k y ho.2 q
   |_=>exact q)
 |k+1,.skip,_,_,_,_,h=>h
 |k+1,.cond _ _ _,_,_,_,_,h=>h
 |k+1,.block _ _,_,_,_,_,h=>h
 |k+1,.exit _,_,_,_,_,h=>h
 |k+1,.ret,_,_,_,_,h=>h
 |k+1,.region _ _ _,_,_,_,_,h=>h
 |k+1,.loop _,_,_,_,_,h=>h
 |k+1,.scope _,_,_,_,_,h=>h
 |k+1,.rangeFunc _ _ _ _,_,_,_,_,h=>h
 |k+1,.label _,_,_,_,_,h=>h
 |k+1,.goto _,_,_,_,_,h=>h
 |k+1,.refuse _,_,_,_,_,h=>h
theorem dM5{c:Code}:bh4 P L mu n 0 c Q env H=AW P n c Q env H:=by cases c<;>rfl
theorem dM6{k:Nat}{x y:Code}:bh4 P L mu n (k+1) (.seq x y) Q env H=vcC P L mu n x (Ex (fun env H=>bh4 P L mu n k y Q env H) Q) env H:=rfl
theorem aA0(hL:ac6 P L)(hm:P.follows .mixedOrders=true)(mu:List Nat){c:Code}(ho:okC mu n c=true)(h:vcC P L mu n c Q env H):AW P n c Q env H:=ai8 hL hm c ho h
theorem cK2(hL:ac6 P L)(hm:P.follows .mixedOrders=true)(mu:List Nat)(k:Nat){c:Code}(ho:okC mu n c=true)(h:bh4 P L mu n k c Q env H):AW P n c Q env H:=aQ3 hL hm k c ho h
theorem au3(hL:ac6 P L)(hm:P.follows .mixedOrders=true)(mu:List Nat)(k:Nat){f:FuncId}{fn:Func}{c:Code}{n:Nat}{rs:List ResultVar}{args:List AV}{H:List AObj}{R:AV->List AObj->Prop}(hf:P.funcs[f]?=some fn)(hb:fn.body=some c)(hname:(fn.name== "runtime.NumGoroutine")=false)(hn:fn.ntmps=n)
  (hrs:fn.results.toList=rs) (hargs:args.length<=n) (ho:okC mu n c=true) (h:bh4 P L mu n k c (bF8 L rs H R) (aH5 0 args) H):o9 P f args H R:=
 bN6 hL hf hb hname hn hrs hargs (aQ3 hL hm k c ho h)
theorem aB8{c:Code}(t k:Nat){sh:Shape}{cs:List AV}(ht:get env t=.mp k 0)(hk:H[k]?=some (.cells sh cs))(h:AW P n c Q ((t,.ip (.agg cs))::env) (H.set k .gone)):AW P n c Q env H:=
 em7 hk (fun u=>by
  rw[a99];split
  ·rename_i e
   subst e;rw[ht];refine .mp 0 sh cs _ hk (by simp[AV.flat]) fun j a b h1 h2=>?_
   rw[Nat.zero_add] at h1;simp only[AV.flat] at h2;rw[h1] at h2;cases h2
   exact .keep _
  ·exact .keep _) h
end
attribute [go_sem] dM5 dM6
end V
end
section
namespace V
open Go
variable {ds:List Deferred}{ro:Option Nat}{N:Nat}
theorem reorder{G:Gh}{H:List AObj}{w:World}{k:Nat}{T:TypeId}{zs:List AV}(hi:HInv G (H++List.replicate k (.cells (.one T) zs)) w)(hH: ∀(j:Nat) (sh:Shape) (cs:List AV),H[j]?=some (AObj.cells sh cs)-> ∀x∈cs,Low H.length x)(hz: ∀z∈zs,∃v,z=.lit v)
  (p:Nat->Nat) (hp: ∀i,i < k->p i < k) (hinj: ∀i j,i < k->j < k->p i=p j->i=j):
  ∃G',HInv G' (H++List.replicate k (.cells (.one T) zs)) w/\(∀G₀ w₀,Step G₀ H w₀ G (H++List.replicate k (.cells (.one T) zs)) w->Step G₀ H w₀ G' (H++List.replicate k (.cells (.one T) zs)) w)/\
   (∀i,i < k-> ∀v,Rel G (H++List.replicate k (.cells (.one T) zs)) w (.mp (H.length+p i) 0) v->Rel G' (H++List.replicate k (.cells (.one T) zs)) w (.mp (H.length+i) 0) v)/\ ∀x v,Low H.length x->Rel G (H++List.replicate k (.cells (.one T) zs)) w x v->Rel G' (H++List.replicate k (.cells (.one T) zs)) w x v:=by
 have htk:(H++List.replicate k (AObj.cells (.one T) zs)).take H.length=H:=aZ2;have hc:=hi.cut H.length fun j sh cs hj e=>hH j sh cs (by rw[<-e,xq4 hj])
 rw[htk] at hc;have hat: ∀i,i < k->(H++List.replicate k (AObj.cells (.one T) zs))[H.length+i]?=some (.cells (.one T) zs):=fun i h=>by
  rw[xq7 (by omega),aI1,b44,if_pos h]
 have hlt: ∀j o,(H++List.replicate k (AObj.cells (.one T) zs))[j]?=some o->(j < H.length/\H[j]?=some o)\/ ∃i,i < k/\j=H.length+i/\o=.cells (.one T) zs:=fun j o e=>by
  rcases am5 j H.length with h|h
  ·exact .inl ⟨h,by rw[<-e,xq4 h]⟩
  ·rw[xq7 h,b44] at e
   split at e
   ·rename_i h2
    cases e
    exact .inr ⟨j - H.length,h2,by omega,rfl⟩
   ·cases e
 let b':Nat->Nat:=fun j=>if H.length<=j/\j < H.length+k then G.blk (H.length+p (j - H.length)) else G.blk j
 have hb1: ∀j,j < H.length->b' j=G.blk j:=fun j h=>if_neg (by omega)
 have hb2: ∀i,i < k->b' (H.length+i)=G.blk (H.length+p i):=fun i h=>by
  show (if _ then _ else _)=_
  rw[if_pos (by omega),aI1]
 have st: ∀G₀ w₀,Step G₀ H w₀ G (H++List.replicate k (.cells (.one T) zs)) w->Step G₀ H w₀ {G with blk:=b'} (H++List.replicate k (.cells (.one T) zs)) w:=fun G₀ w₀ s=>⟨s.os,s.tape,s.output,s.size,s.imm,s.cell,s.whole,fun j=>by
  have:=s.obj j;cases e:H[j]? with
  |none=>rw[e] at this;exact this
  |some o=>
   rw[e] at this;have hj:=hb1 j (y9 e);cases o with
   |cells t cs=>exact⟨this.1,hj.trans this.2.1,this.2.2⟩
   |gone=>exact⟨this.1,hj.trans this.2.1,this.2.2⟩
   |loop r E=>exact⟨this.1,hj.trans this.2.1,this.2.2⟩
   |grow s n t=>exact this⟩
 have st0:Step G H w {G with blk:=b'} (H++List.replicate k (.cells (.one T) zs)) w:=st G w ⟨rfl,rfl,rfl,xq0 _,fun _ _ h=>h,fun _ _ _=>rfl,fun _ _=>rfl,fun j=>by
  cases e:H[j]? with
  |none=>
   intro r E e';rcases hlt j _ e' with⟨_,h⟩|⟨_,_,_,h⟩
   ·rw[e] at h;cases h
   ·cases h
  |some o=>
   have hj:(H++List.replicate k (AObj.cells (.one T) zs))[j]?=some o:=by rw[xq4 (y9 e)];exact e
   cases o with
   |cells t cs=>exact⟨⟨_,hj,rfl⟩,rfl,rfl⟩
   |gone=>exact⟨hj,rfl,rfl⟩
   |loop r E=>exact⟨hj,rfl,rfl⟩
   |grow s n t=>exact⟨n,hj,xq0 _,fun _=>rfl⟩⟩
 have hlow: ∀x v,Low H.length x->Rel G (H++List.replicate k (.cells (.one T) zs)) w x v->Rel {G with blk:=b'} (H++List.replicate k (.cells (.one T) zs)) w x v:=fun x v hx r=>by
  have:=r.cut H.length hx;rw[htk] at this;exact this.mono st0
 refine⟨{G with blk:=b'},⟨hi.lt,fun j sh cs e=>?_,fun j s n t e=>?_,fun i j b e1 e2=>?_,hc.tabs.step st0⟩,st,fun i h v r=>?_,hlow⟩
 ·rcases hlt j _ e with⟨hj,e'⟩|⟨i,hik,rfl,e'⟩
  ·obtain⟨arr,T',fr,h1,h2,h3,h4,h5,h6⟩:=hc.cells j sh cs e'
   refine⟨arr,T',fr,by show w.heap[b' j]?=_;rw[hb1 j hj];exact h1,h2,fun i x v ex ev=>(h3 i x v ex ev).mono st0,fun off=>by show¬G.imm (b' j) off;rw[hb1 j hj];exact h4 off,fun off=>by show _->w.frozen? ⟨b' j,off,none⟩=false;rw[hb1 j hj];exact h5 off,h6⟩
  ·cases e'
   obtain⟨arr,T',fr,h1,h2,h3,h4,h5,h6⟩:=hi.cells (H.length+p i) _ _ (hat (p i) (hp i hik));refine⟨arr,T',fr,by show w.heap[b' _]?=_;rw[hb2 i hik];exact h1,h2,fun i x v ex ev=>?_,fun off=>by show¬G.imm (b' _) off;rw[hb2 i hik];exact h4 off,fun off=>by show _->w.frozen? ⟨b' _,off,none⟩=false;rw[hb2 i hik];exact h5 off,h6⟩
   have:=h3 i x v ex ev;obtain⟨u,rfl⟩:=hz x (bs2 ex);cases this
   exact .lit _
 ·rcases hlt j _ e with⟨_,e'⟩|⟨_,_,_,e'⟩
  ·exact hc.grow j s n t e'
  ·cases e'
 ·have hs: ∀j b,site {G with blk:=b'} (H++List.replicate k (.cells (.one T) zs)) j=some b-> ∃j',(j'=j/\j < H.length\/ ∃i,i < k/\j=H.length+i/\j'=H.length+p i)/\site G (H++List.replicate k (.cells (.one T) zs)) j'=some b:=fun j b e=>by
   cases eo:(H++List.replicate k (AObj.cells (.one T) zs))[j]? with
   |none=>unfold site at e;rw[eo] at e;cases e
   |some o=>
    rcases hlt j _ eo with⟨hj,e'⟩|⟨i,hik,rfl,rfl⟩
    ·refine⟨j,.inl ⟨rfl,hj⟩,?_⟩
     unfold site at e⊢;rw[eo] at e⊢;cases o with
     |cells t cs=>show some (G.blk j)=_;rw[<-hb1 j hj];exact e
     |_=>exact e
    ·refine⟨H.length+p i,.inr ⟨i,hik,rfl,rfl⟩,?_⟩
     unfold site at e⊢;rw[eo] at e;rw[hat (p i) (hp i hik)];show some (G.blk _)=_
     rw[<-hb2 i hik];exact e
  obtain⟨i',h1,s1⟩:=hs i b e1;obtain⟨j',h2,s2⟩:=hs j b e2;have:=hi.apart i' j' b s1 s2;rcases h1 with⟨rfl,h1⟩|⟨x,hx,rfl,rfl⟩<;>rcases h2 with⟨rfl,h2⟩|⟨y,hy,rfl,rfl⟩
  ·exact this
  ·omega
  ·omega
  ·rw[hinj x y hx hy (by omega)]
 ·cases r with
  |mp _ _ o h1 h2=>
   have:=Rel.mp (G:={G with blk:=b'}) (H:=H++List.replicate k (.cells (.one T) zs)) (w:=w) (H.length+i) 0 _ (hat i h) rfl;rw[show ({G with blk:=b'}:Gh).blk (H.length+i)=G.blk (H.length+p i) from hb2 i h] at this
   exact this
theorem c79{P:Program}(hm:P.follows .mixedOrders=true){rid:Nat}{ops:List Oper}(hdr:aJ8 ops=true){Q:Exit->Act->World->Prop}{a:Act}{w:World}(I:(Nat->Bool)->Act->World->Prop)
  (h0:I (fun _=>false) a {w with drawn:=w.drawn+1})
  (hstep: ∀(l:Nat->Bool) (i:Nat) (o:Oper) (a':Act) (w':World) (K:Act->World->Prop),ops[i]?=some o->l i=false->(∀j,j∈(ak0 ops []).getD i []->l j=true)->(∀(j:Nat) q,ops[j]?=some q->i∈(ak0 ops []).getD j []->l j=false)->I l a' w'->
   (∀a'' w'',I (fun j=>if j=i then true else l j) a'' w''->K a'' w'')->wpOpIn (fw ro) N P ops.toArray Q i K a' w')
  (hend: ∀(l:Nat->Bool) a' w',(∀i,i < ops.length->l i=true)->I l a' w'->Q .normal a' w'):(Code.region rid ops.toArray true).wpIn (fw ro) N P Q a w:=by
 refine wpIn_region_draw fun t=>?_
 simp only[Region.schedule,hm,Bool.true_or,if_true];have hord: ∀(i:Nat) o,ops[i]?=some o->ordered (ak0 ops []) ops i o 0 ops=true/\ ∀e∈o.after.toList,Region.binds .any e=true->e.on < i:=fun i o e=>by
  have:=ay4 ops 0 hdr i o e;rwa [Nat.zero_add] at this
 have key: ∀(fuel:Nat) (listed:Array Bool) (a:Act) (w':World),listed.size=ops.length->Past ops (fun j=>listed.getD j false)->I (fun j=>listed.getD j false) a w'->
   (∀i,i < ops.length->listed.getD i false=false->0 < fuel)->(fuel+(listed.toList.filter id).length=ops.length)->wpAnyIn (fw ro) N P .any ops.toArray Q fuel listed a w':=by
  intro fuel;induction fuel with
  |zero=>
   intro listed a w' hsz hpast hI hf _;have hall: ∀i,i < ops.length->listed.getD i false=true:=fun i hi=>by
    cases hl:listed.getD i false with
    |true=>rfl
    |false=>exact absurd (hf i hi hl) (bl7 _)
   refine⟨?_,hend _ a w' hall hI⟩;unfold Region.ready;rw[c02];intro i hi;have hi':i < ops.length:=by simpa using hi
   have:=hall i hi';have h2:listed.getD i true=true:=by
    rw[ap6,xq2 (by omega)] at this⊢
    exact this
   simp[h2]
  |succ fuel ih=>
   intro listed a w' hsz hpast hI hf hcount;refine⟨fun hnil=>?_,fun i hi=>?_⟩
   ·
    have hall: ∀i,i < ops.length->listed.getD i false=true:=by
     intro i;induction i using Nat.strongRecOn with
     |_ i ihi=>
      intro hi;cases hl:listed.getD i false with
      |true=>rfl
      |false=>
       exfalso
       have hmem:i∈Region.ready .any ops.toArray listed:=by
        unfold Region.ready;rw[bg3];refine⟨by simpa using hi,?_⟩
        have h2:listed.getD i true=false:=by
         rw[ap6,xq2 (by omega)] at hl⊢
         exact hl
        have ho:ops.toArray[i]?=some ops[i]:=by simp[hi]
        rw[h2,ho];simp only[Bool.not_false,Bool.true_and,Option.map_some,Option.getD_some];rw[cg0];intro e he;have:=(hord i ops[i] (xq1 hi)).2 e (aV7.2 he);cases hb:Region.binds .any e with
        |false=>rfl
        |true=>
         have h3:=this hb;rw[ihi e.on h3 (by omega)]
         rfl
       rw[hnil] at hmem;cases hmem
    exact hend _ a w' hall hI
   ·unfold Region.ready at hi
    rw[bg3] at hi;obtain⟨hi1,hi2⟩:=hi;have hi':i < ops.length:=by simpa using hi1
    have ho:ops.toArray[i]?=some ops[i]:=by simp[hi']
    rw[ho] at hi2;simp only[Option.map_some,Option.getD_some,xq3,Bool.not_eq_true'] at hi2;obtain⟨hl0,hready⟩:=hi2;have hl:listed.getD i false=false:=by
     rw[ap6,xq2 (by omega)] at hl0⊢
     exact hl0
    have hpre: ∀e∈(ops[i]).after.toList,Region.binds .any e=true->listed.getD e.on false=true:=fun e he hb=>by
     rw[cg0] at hready;have:=hready e (aV7.1 he);rw[hb] at this;simpa using this
    have hoi:ops[i]?=some ops[i]:=xq1 hi';obtain⟨hor,hback⟩:=hord i ops[i] hoi;have hbi: ∀j,j∈(ak0 ops []).getD i []->listed.getD j false=true:=fun j hj=>
     ax6 hpast ops [] [] rfl rfl (fun i j o hi=>by simp at hi) i j ops[i] hj hoi hpre
    have hlater: ∀(j:Nat) q,ops[j]?=some q->i∈(ak0 ops []).getD j []->listed.getD j false=false:=fun j q hq hij=>by
     cases hlj:listed.getD j false with
     |false=>rfl
     |true=>
      have:=ax6 hpast ops [] [] rfl rfl (fun i j o hi=>by simp at hi) j i q hij hq (hpast j q hq hlj)
      rw[hl] at this;cases this
    have hgd: ∀j,(listed.setIfInBounds i true).getD j false=if j=i then true else listed.getD j false:=fun j=>by
     simp only[ap6,cg6];by_cases hji:j=i
     ·subst hji
      simp[show j < listed.size by omega]
     ·simp[hji,show¬(i=j) from fun h=>hji h.symm]
    have hcnt:fuel+((listed.setIfInBounds i true).toList.filter id).length=ops.length:=by
     have:((listed.setIfInBounds i true).toList.filter id).length=(listed.toList.filter id).length+1:=by
      rw[cv1];have hli:i < listed.toList.length:=by simp;omega
      have hlf:listed.toList[i]=false:=by
       rw[ap6,xq2 (by omega)] at hl
       simpa using hl
      have key2: ∀(l:List Bool) (i:Nat) (hi:i < l.length),l[i]=false->((l.set i true).filter id).length=(l.filter id).length+1:=by
       intro l;induction l with
       |nil=>intro i hi;simp at hi
       |cons b r ih=>
        intro i hi he;cases i with
        |zero=>simp at he;subst he;simp
        |succ i=>
         simp only[List.set_cons_succ,bG8];have:=ih i (by simpa using hi) (by simpa using he)
         cases b<;>simp[this]
      exact key2 _ i hli hlf
     omega
    refine hstep _ i ops[i] a w' _ hoi hl hbi hlater hI fun a'' w'' hI'=>?_
    have hfe:(fun j=>(listed.setIfInBounds i true).getD j false)=fun j=>if j=i then true else listed.getD j false:=funext hgd
    refine ih _ a'' w'' (by simp[hsz]) (fun j q hq hlj e he hb=>?_) (hfe▸hI') (fun j hj hlj=>?_) hcnt
    ·simp only[hgd] at hlj⊢
     by_cases hji:j=i
     ·subst hji
      have hqe:q=ops[j]:=by rw[hoi] at hq;exact(Option.some.inj hq).symm
      subst hqe;split
      ·rfl
      ·exact hpre e he hb
     ·rw[if_neg hji] at hlj
      split
      ·rfl
      ·exact hpast j q hq hlj e he hb
    ·
     rcases bl5 fuel with h0|h0
     ·exfalso
      rw[h0,Nat.zero_add] at hcnt;have hfull: ∀(l:List Bool),(l.filter id).length=l.length-> ∀b∈l,b=true:=fun l hl b hb=>by
       have:=cZ9.1 (List.Sublist.eq_of_length (cv0 (l:=l) (p:=id)) hl) b hb;simpa using this
      have hlen:((listed.setIfInBounds i true).toList.filter id).length=(listed.setIfInBounds i true).toList.length:=by rw[hcnt];simp[hsz]
      have hjs:j < (listed.setIfInBounds i true).size:=by simp;omega
      have:=hfull _ hlen ((listed.setIfInBounds i true)[j]) (by rw[aV7];exact Array.getElem_mem hjs)
      rw[ap6,xq2 hjs] at hlj;simp only[Option.getD_some] at hlj;rw[this] at hlj;cases hlj
     ·exact h0
 refine wpAnyIn_sound ops.toArray.size t _ a _ (key ops.toArray.size _ a _ (by simp) (fun i o ho hl=>?_) ?_ (fun i hi _=>by simp;omega) (by simp))
 ·simp only[ap6,bW1] at hl
  split at hl<;>cases hl
 ·have:(fun j=>(Array.replicate ops.toArray.size false).getD j false)=fun _=>false:=funext fun j=>by
   rw[ap6,bW1];split<;>rfl
  rw[this];exact h0
theorem aV2{R:AV->AV->Prop}{z z':Nat->AV}{l l':Nat->Bool}{t:Nat}: ∀(ops:List Oper) (i:Nat) (env env':Env),R (get env t) (get env' t)->(∀(j:Nat) o,ops[j]?=some o->o.dst=some t->l (i+j)=l' (i+j)/\(l (i+j)=true->R (z (i+j)) (z' (i+j))))->R (get (ab4 l z i ops env) t) (get (ab4 l' z' i ops env') t)
 |[],_,_,_,h,_=>h
 |o::r,i,env,env',h,hl=>by
  simp only[ab4];refine aV2 r (i+1) _ _ ?_ fun j o' e hd=>by have:=hl (j+1) o' (by simpa using e) hd;rwa [show i+(j+1)=i+1+j by omega] at this
  by_cases hd:o.dst=some t
  ·obtain⟨h1,h2⟩:=hl 0 o rfl hd
   rw[av1] at h1 h2;rw[<-h1];cases hli:l i with
   |false=>simpa using h
   |true=>
    simp only[if_true];rw[get_put,get_put,if_pos hd,if_pos hd];exact h2 hli
  ·have e1: ∀(b:Bool) (x:AV) (e:Env),get (if b then put o.dst x e else e) t=get e t:=fun b x e=>by
    cases b
    ·rfl
    ·simp only[if_true]
     rw[get_put,if_neg hd]
   rw[e1,e1];exact h
theorem bV1{k i:Nat}(h:i < k):(List.range k).idxOf i=i:=by
 have hm:i∈List.range k:=aZ8.2 h;have h1:=b41 hm;have h2:=cu7 h1;rw[List.getElem_range] at h2;exact h2
def cw1(T:TypeId)(nr na:Nat)(ops:List Oper):Bool:=
 ((ops.drop nr).take na).all (fun o=>(match o.op with|.alloc t=>t==T|_=>false)&&o.guard.isNone)&&
 (ops.drop (nr+na)).all (fun o=>o.dst.isNone&&o.guard.isNone)&&
 (ops.take nr).all (fun o=>((ops.drop nr).take na).all fun q=>match q.dst with|some d=>!(touches ops o).contains d|none=>true)&&
 (List.range ops.length).all (fun j=>decide (j < nr+na)||(List.range j).all fun i=>((ak0 ops []).getD j []).contains i)
theorem ct4{P:Program}{L:Tab}(hL:ac6 P L)(hm:P.follows .mixedOrders=true){n rid nr na:Nat}{T:TypeId}{ops:List Oper}(hops:ax5 n ops=true)(hdr:aJ8 ops=true)(hok:cw1 T nr na ops=true)(hlen:nr+na<=ops.length){Q:Exit->Env->List AObj->Prop}{env:Env}{H:List AObj}
  (zs:Nat->AV) (hreads: ∀(i:Nat) o,i < nr->ops[i]?=some o-> ∀M,DoesE P L [] ops o (ab4 (fun j=>decide (j < i)) zs 0 ops env) (H++M) (zs i) (H++M)) (hlow: ∀i,i < nr->Low H.length (zs i)) (hk:known (L T)=true) (hzero: ∀z∈(L T).zero,∃v,z=.lit v)
  (env2:Env) (henv: ∀t,get (ab4 (fun j=>decide (j < nr+na)) (fun i=>if i < nr then zs i else .mp (H.length+(i - nr)) 0) 0 ops env) t=get env2 t) (oh:Nat->List AObj) (oh0:oh 0=H++List.replicate na (.cells (.one T) (L T).zero))
  (hst: ∀(j:Nat) o,ops[nr+na+j]?=some o-> ∃z,ab7 P L [] o env2 (oh j) fun x H'=>x=z/\H'=oh (j+1)) (hQ:Q .normal env2 (oh (ops.length - (nr+na)))):AW P n (.region rid ops.toArray true) Q env H:=fun ro N ds G a w s=>by
 simp only[cw1,xq3,xq6] at hok;obtain⟨⟨⟨ok1,ok2⟩,ok3⟩,ok4⟩:=hok;have kA: ∀(j:Nat) o,j < na->ops[nr+j]?=some o->(∃d ty pos af,o=⟨d,.alloc T,ty,pos,af,none⟩):=fun j o hj e=>by
  have:=ok1 o (ar7.2 ⟨j,by rw[aG3,if_pos hj,aP9];exact e⟩)
  obtain⟨d,op,ty,pos,af,g⟩:=o;cases op<;>simp at this
  obtain⟨rfl,h2⟩:=this;subst h2;exact⟨_,_,_,_,rfl⟩
 have kS: ∀(j:Nat) o,ops[nr+na+j]?=some o->o.dst=none/\o.guard=none:=fun j o e=>by
  have:=ok2 o (ar7.2 ⟨j,by rw[aP9];exact e⟩)
  simpa using this
 have kR: ∀(i j:Nat) o q,i < nr->j < na->ops[i]?=some o->ops[nr+j]?=some q-> ∀t,q.dst=some t->t∉touches ops o:=fun i j o q hi hj e1 e2 t ht=>by
  have:=ok3 o (ar7.2 ⟨i,by rw[aG3,if_pos hi];exact e1⟩) q (ar7.2 ⟨j,by rw[aG3,if_pos hj,aP9];exact e2⟩)
  rw[ht] at this;simpa using this
 have kB: ∀i j,nr+na<=j->j < ops.length->i < j->i∈(ak0 ops []).getD j []:=fun i j h1 h2 h3=>by
  have:=ok4 j (aZ8.2 h2);rw[bH3,decide_eq_true_eq] at this;rcases this with h|h
  ·omega
  ·have:=xq6.1 h i (aZ8.2 h3)
   simpa using this
 have hord: ∀(i:Nat) o,ops[i]?=some o->ordered (ak0 ops []) ops i o 0 ops=true:=fun i o e=>by
  have:=(ay4 ops 0 hdr i o e).1;rwa [Nat.zero_add] at this
 have hHlow: ∀(j:Nat) (sh:Shape) (cs:List AV),H[j]?=some (AObj.cells sh cs)-> ∀x∈cs,Low H.length x:=fun j sh cs e x hx=>by
  obtain⟨arr,T',fr,hb',hsz,hr',_⟩:=s.inv.cells j sh cs e;obtain⟨i,hi⟩:=ar7.1 hx;have hja:i < arr.size:=aC9 (y9 hi) hsz;exact(hr' i x _ hi (xq2 hja)).low
 have henvlow: ∀t,Low H.length (get env t):=fun t=>(s.env t).low
 let zo:AObj:=.cells (.one T) (L T).zero
 let zA:List Nat->Nat->AV:=fun al i=>if i < nr then zs i else .mp (H.length+al.idxOf (i - nr)) 0
 let Hs:List Nat->Nat->List AObj:=fun al m=>if m=0 then H++List.replicate al.length zo else oh m
 let I:(Nat->Bool)->Act->World->Prop:=fun l a' w'=> ∃(G':Gh) (al:List Nat) (m:Nat),al.Nodup/\(∀j,j∈al↔(j < na/\l (nr+j)=true))/\((∀j,j < na->l (nr+j)=true)->al=List.range na)/\(∀j,nr+na+j < ops.length->(l (nr+na+j)=true↔j < m))/\nr+na+m<=ops.length/\(0 < m-> ∀i,i < nr+na->l i=true)/\
  Step G H w G' (Hs al m) w'/\Sat n ds G' (ab4 l (zA al) 0 ops env) (Hs al m) a' w'
 have hput: ∀(l:Nat->Bool) (z:Nat->AV) (i:Nat) o,ops[i]?=some o->l i=false->(∀(j:Nat) q,ops[j]?=some q->i∈(ak0 ops []).getD j []->l j=false)-> ∀t,get (put o.dst (z i) (ab4 l z 0 ops env)) t=get (ab4 (fun j=>if j=i then true else l j) z 0 ops env) t:=fun l z i o hoi hl hlater t=>by
  have h1:=br7 (zs:=z) (l:=l) (t:=t) ops 0 env i o hoi (by rw[Nat.zero_add];exact hl) (fun j q hj hq hlj hd=>by
   intro hqd;rw[Nat.zero_add] at hlj;have hsp:=aB2 ops 0 (hord i o hoi) j q t hq hqd (by omega) (by unfold touches;rw[hd];simp)
   rw[Nat.zero_add] at hsp;rw[hlater j q hq (hsp.2 hj)] at hlj;cases hlj)
  simp only[Nat.zero_add] at h1;exact h1.symm
 have hallen: ∀(l:Nat->Bool) (al:List Nat),al.Nodup->(∀j,j∈al↔(j < na/\l (nr+j)=true))->(∀j,j < na->l (nr+j)=true)->al.length=na:=fun l al hnd hmem hall=>by
  have:=(List.perm_ext_iff_of_nodup hnd List.nodup_range).2 fun j=>by rw[hmem,aZ8];exact⟨fun h=>h.1,fun h=>⟨h,hall j h⟩⟩
  rw[this.length_eq,List.length_range]
 have hfin: ∀(l:Nat->Bool) (m:Nat),(∀i,i < nr+na->l i=true)-> ∀t,get (ab4 l (zA (List.range na)) 0 ops env) t=get env2 t:=fun l m hl t=>by
  rw[<-henv t];refine aV2 (R:=fun x y=>x=y) ops 0 env env rfl fun j o e hd=>?_
  rw[Nat.zero_add];have hj:j < nr+na:=by
   rcases am5 j (nr+na) with h|h
   ·exact h
   ·have:=(kS (j - (nr+na)) o (by rw[show nr+na+(j - (nr+na))=j by omega];exact e)).1
    rw[hd] at this;cases this
  refine⟨by rw[hl j hj,decide_eq_true hj],fun _=>?_⟩
  show (if j < nr then zs j else AV.mp (H.length+(List.range na).idxOf (j - nr)) 0)=_
  split
  ·rfl
  ·rw[bV1 (by omega)]
 refine c79 hm hdr I ?_ ?_ ?_
 ·refine⟨G,[],0,List.nodup_nil,fun j=>by simp,fun h=>?_,fun j _=>by simp,by omega,fun h=>absurd h (bl7 _),?_,?_⟩
  ·have:na=0:=by
    rcases bl5 na with h2|h2
    ·exact h2
    ·exact absurd (h 0 h2) (by simp)
   subst this;rfl
  ·show Step G H w G (H++[]) _
   rw[List.append_nil];exact aH8
  ·show Sat n ds G _ (H++[]) a _
   rw[List.append_nil];refine(s.step aH8 (bZ5 s.inv)).of_get fun t=>?_
   rw[aE7 ops 0 env fun j _=>rfl]
 ·rintro l i o a' w' K hoi hl hbi hlater ⟨G',al,m,hnd,hmem,hfull,hm1,hm2,hm3,hst',hs⟩ hK
  have hilt:i < ops.length:=y9 hoi;have ho':ops.toArray[i]?=some o:=by simpa using hoi
  rcases am5 i (nr+na) with hi|hi
  ·
   have hm0:m=0:=by
    rcases bl5 m with h|h
    ·exact h
    ·rw[hm3 h i hi] at hl
     cases hl
   subst hm0;change Step G H w G' (H++List.replicate al.length zo) w' at hst'
   change Sat n ds G' _ (H++List.replicate al.length zo) a' w' at hs
   have hstores: ∀(i0:Nat),i0 < nr+na-> ∀j,nr+na+j < ops.length->((if nr+na+j=i0 then true else l (nr+na+j))=true↔j < 0):=fun i0 h0 j hj=>by
    rw[if_neg (by omega)]
    exact hm1 j hj
   rcases am5 i nr with hir|hir
   ·
    have hsame: ∀t∈touches ops o,get (ab4 (fun j=>decide (j < i)) zs 0 ops env) t=get (ab4 l (zA al) 0 ops env) t:=fun t ht=>by
     refine aV2 (R:=fun x y=>x=y) ops 0 env env rfl fun j q hq hd=>?_
     rw[Nat.zero_add];have hjr:j < nr:=by
      rcases am5 j nr with h|h
      ·exact h
      ·rcases am5 j (nr+na) with h2|h2
       ·exact absurd ht (kR i (j - nr) o q hir (by omega) hoi (by rw[show nr+(j - nr)=j by omega];exact hq) t hd)
       ·have:=(kS (j - (nr+na)) q (by rw[show nr+na+(j - (nr+na))=j by omega];exact hq)).1
        rw[hd] at this;cases this
     refine⟨?_,fun _=>?_⟩
     ·by_cases hji:j=i
      ·subst hji
       rw[hl];simp
      ·have hsp:=aB2 ops 0 (hord i o hoi) j q t hq hd (by omega) ht
       rw[Nat.zero_add] at hsp;rcases am5 j i with h1|h1
       ·rw[hbi j (hsp.1 h1)]
        simpa using h1
       ·rw[hlater j q hq (hsp.2 (by omega))]
        simpa using h1
     ·show zs j=if j < nr then zs j else _
      rw[if_pos hjr]
    have hd:=bu0 (fun t ht=>hsame t ht) (hreads i o hir hoi (List.replicate al.length zo))
    refine bE8 hL (all:=ops.toArray) (by simpa using hops) ho' hd hs fun G'' a'' w'' hs'' hst''=>hK a'' w'' ?_
    refine⟨G'',al,0,hnd,fun j=>?_,fun h=>hfull fun j hj=>by have:=h j hj;simp only at this;rwa [if_neg (by omega)] at this,hstores i hi,hm2,fun h=>absurd h (bl7 _),hst'.trans hst'',hs''.of_get fun t=>?_⟩
    ·show _↔j < na/\(if nr+j=i then true else l (nr+j))=true
     rw[hmem,if_neg (by omega)]
    ·have:=hput l (zA al) i o hoi hl hlater t
     rw[show zA al i=zs i from if_pos hir] at this
     exact this
   ·
    obtain⟨j,rfl⟩: ∃j,i=nr+j:=⟨i - nr,by omega⟩
    have hjna:j < na:=by omega
    obtain⟨d,ty,pos,af,rfl⟩:=kA j o hjna hoi;have hjn:j∉al:=fun h=>by
     have:=((hmem j).1 h).2;rw[hl] at this;cases this
    have hrep:H++List.replicate al.length zo++[zo]=H++List.replicate (al++[j]).length zo:=by
     rw[List.length_append,List.length_cons,List.length_nil,List.replicate_succ',List.append_assoc]
    have hd:DoesE P L [] ops ⟨d,.alloc T,ty,pos,af,none⟩ (ab4 l (zA al) 0 ops env) (H++List.replicate al.length zo) (.mp (H.length+al.length) 0) (H++List.replicate (al++[j]).length zo):=by
     unfold DoesE;dsimp only;rw[cC6];refine⟨hk,?_⟩;show AV.mp (H++List.replicate al.length zo).length 0=_/\H++List.replicate al.length zo++[zo]=_
     rw[List.length_append,List.length_replicate];exact⟨rfl,hrep⟩
    refine bE8 hL (all:=ops.toArray) (by simpa using hops) ho' hd hs fun G'' a'' w'' hs'' hst''=>hK a'' w'' ?_
    have hnd':(al++[j]).Nodup:=by
     rw[List.nodup_append];refine⟨hnd,by simp,fun x hx y hy=>?_⟩
     simp only[ai9,aG2,or_false] at hy;subst hy;exact fun e=>hjn (e▸hx)
    have hmem': ∀k,k∈al++[j]↔(k < na/\(if nr+k=nr+j then true else l (nr+k))=true):=fun k=>by
     rw[aP7,hmem];by_cases hkj:k=j
     ·subst hkj
      simp[hjna]
     ·rw[if_neg (by omega)]
      simp[hkj]
    have henv': ∀t,get (put d (.mp (H.length+al.length) 0) (ab4 l (zA al) 0 ops env)) t=get (ab4 (fun k=>if k=nr+j then true else l k) (zA (al++[j])) 0 ops env) t:=fun t=>by
     have h1:=hput l (zA (al++[j])) (nr+j) _ hoi hl hlater t;rw[<-h1];have hz:zA (al++[j]) (nr+j)=.mp (H.length+al.length) 0:=by
      show (if nr+j < nr then _ else AV.mp (H.length+(al++[j]).idxOf (nr+j - nr)) 0)=_
      rw[if_neg (by omega),aI1,List.idxOf_append,if_neg hjn]
      simp
     rw[hz,get_put,get_put];split
     ·rfl
     ·refine aV2 (R:=fun x y=>x=y) ops 0 env env rfl fun k q hq hd=>⟨rfl,fun hlk=>?_⟩
      rw[Nat.zero_add] at hlk⊢;show (if k < nr then zs k else AV.mp (H.length+al.idxOf (k - nr)) 0)=if k < nr then zs k else AV.mp (H.length+(al++[j]).idxOf (k - nr)) 0
      split
      ·rfl
      ·rename_i hkn
       have hkl:k < nr+na:=by
        rcases am5 k (nr+na) with h|h
        ·exact h
        ·have:=(kS (k - (nr+na)) q (by rw[show nr+na+(k - (nr+na))=k by omega];exact hq)).1
         rw[hd] at this;cases this
       have:k - nr∈al:=(hmem _).2 ⟨by omega,by rw[show nr+(k - nr)=k by omega];exact hlk⟩
       rw[List.idxOf_append,if_pos this]
    have hs3:=hs''.of_get henv';have hst3:=hst'.trans hst'';by_cases hperm: ∀k,k < na->k∈al++[j]
    ·
     have hfl:=hallen (fun k=>if k=nr+j then true else l k) _ hnd' hmem' fun k hk=>((hmem' k).1 (hperm k hk)).2
     have hz0:Hs (al++[j]) 0=H++List.replicate na zo:=by
      show H++List.replicate (al++[j]).length zo=_
      rw[hfl]
     rw[hfl] at hs3 hst3;have hinv:=hs3.inv;obtain⟨G3,hi3,st3,hr3,hlow3⟩:=reorder (k:=na) (T:=T) (zs:=(L T).zero) hinv hHlow hzero (fun i=>(al++[j]).idxOf i) (fun i hi=>by rw[<-hfl];exact b41 (hperm i hi)) (fun i k hi hk e=>by
      have h1:=cu7 (b41 (hperm i hi));have h2:=cu7 (b41 (hperm k hk));rw[<-h1,<-h2];congr 1)
     refine⟨G3,List.range na,0,List.nodup_range,fun k=>?_,fun _=>rfl,hstores (nr+j) hi,hm2,fun h=>absurd h (bl7 _),?_,?_⟩
     ·rw[aZ8]
      constructor
      ·intro hk
       exact(hmem' k).1 (hperm k hk)
      ·exact fun h=>h.1
     ·show Step G H w G3 (H++List.replicate (List.range na).length zo) w''
      rw[List.length_range];exact st3 G w hst3
     ·show Sat n ds G3 _ (H++List.replicate (List.range na).length zo) a'' w''
      rw[List.length_range];refine⟨hs3.size,hs3.defers,fun t=>?_,hi3⟩
      have:=aV2 (R:=fun x y=> ∀v,Rel G'' (H++List.replicate na zo) w'' x v->Rel G3 (H++List.replicate na zo) w'' y v) (t:=t) (l:=fun k=>if k=nr+j then true else l k) (l':=fun k=>if k=nr+j then true else l k) (z:=zA (al++[j])) (z':=zA (List.range na)) ops 0 env env (fun v r=>hlow3 _ v (henvlow t) r) fun k q hq hd=>⟨rfl,fun hlk=>?_⟩
      ·exact this _ (hs3.env t)
      ·rw[Nat.zero_add] at hlk⊢
       show∀v,Rel _ _ _ (if k < nr then zs k else AV.mp (H.length+(al++[j]).idxOf (k - nr)) 0) v->Rel _ _ _ (if k < nr then zs k else AV.mp (H.length+(List.range na).idxOf (k - nr)) 0) v
       by_cases hkn:k < nr
       ·rw[if_pos hkn,if_pos hkn]
        exact fun v r=>hlow3 _ v (hlow k hkn) r
       ·rw[if_neg hkn,if_neg hkn]
        have hkl:k < nr+na:=by
         rcases am5 k (nr+na) with h|h
         ·exact h
         ·have:=(kS (k - (nr+na)) q (by rw[show nr+na+(k - (nr+na))=k by omega];exact hq)).1
          rw[hd] at this;cases this
        rw[bV1 (by omega)]
        exact fun v r=>hr3 (k - nr) (by omega) v r
    ·exact⟨G'',al++[j],0,hnd',hmem',fun h=>absurd (fun k hk=>(hmem' k).2 ⟨hk,h k hk⟩) hperm,hstores (nr+j) hi,hm2,fun h=>absurd h (bl7 _),hst3,hs3⟩
  ·
   obtain⟨j,rfl⟩: ∃j,i=nr+na+j:=⟨i - (nr+na),by omega⟩
   have hall: ∀k,k < nr+na->l k=true:=fun k hk=>hbi k (kB k _ (by omega) hilt (by omega))
   have hal:al=List.range na:=hfull fun k hk=>hall _ (by omega)
   subst hal;have hmj:m=j:=by
    have h1: ¬j < m:=fun h=>by rw[(hm1 j hilt).2 h] at hl;cases hl
    rcases am5 m j with h|h
    ·have:=hbi (nr+na+m) (kB _ _ (by omega) hilt (by omega))
     have:=(hm1 m (by omega)).1 this
     omega
    ·omega
   subst hmj;have hHs:Hs (List.range na) m=oh m:=by
    show (if m=0 then H++List.replicate (List.range na).length zo else oh m)=oh m
    split
    ·rename_i h
     rw[h,oh0,List.length_range]
    ·rfl
   rw[hHs] at hst' hs;obtain⟨hdn,hgn⟩:=kS m o hoi;obtain⟨z,hz⟩:=hst m o hoi;have hs2:=hs.of_get (hfin l m hall);have hd:DoesE P L [] ops o env2 (oh m) z (oh (m+1)):=by
    unfold DoesE;rw[hgn];exact hz
   refine bE8 hL (all:=ops.toArray) (by simpa using hops) ho' hd hs2 fun G'' a'' w'' hs'' hst''=>hK a'' w'' ?_
   rw[hdn] at hs'';refine⟨G'',List.range na,m+1,hnd,fun k=>?_,fun _=>rfl,fun k hk=>?_,by omega,fun _ k hk=>?_,?_,?_⟩
   ·rw[hmem]
    constructor
    ·exact fun h=>⟨h.1,by show (if nr+k=nr+na+m then true else l (nr+k))=true;rw[if_neg (by omega)];exact h.2⟩
    ·exact fun h=>⟨h.1,hall _ (by omega)⟩
   ·show (if nr+na+k=nr+na+m then true else l (nr+na+k))=true↔_
    by_cases hkm:k=m
    ·subst hkm
     simp
    ·rw[if_neg (by omega),hm1 k hk]
     omega
   ·show (if k=nr+na+m then true else l k)=true
    rw[if_neg (by omega)]
    exact hall k hk
   ·show Step G H w G'' (oh (m+1)) w''
    exact hst'.trans hst''
   ·show Sat n ds G'' _ (oh (m+1)) a'' w''
    refine hs''.of_get fun t=>?_
    exact(hfin (fun k=>if k=nr+na+m then true else l k) m (fun k hk=>by show (if k=nr+na+m then true else l k)=true;rw[if_neg (by omega)];exact hall k hk) t).symm
 ·rintro l a' w' hall ⟨G',al,m,hnd,hmem,hfull,hm1,hm2,hm3,hst',hs⟩
  have hal:al=List.range na:=hfull fun j hj=>hall _ (by omega)
  subst hal;have hmm:m=ops.length - (nr+na):=by
   rcases am5 m (ops.length - (nr+na)) with h|h
   ·have:=(hm1 m (by omega)).1 (hall _ (by omega))
    omega
   ·omega
  have hHs:Hs (List.range na) m=oh m:=by
   show (if m=0 then H++List.replicate (List.range na).length zo else oh m)=oh m
   split
   ·rename_i h
    rw[h,oh0,List.length_range]
   ·rfl
  rw[hHs] at hst' hs;rw[<-hmm] at hQ;exact⟨G',env2,oh m,hs.of_get (hfin l m fun i hi=>hall i (by omega)),hst',hQ⟩
def bO6(P:Program)(f:AV)(args:List AV)(H:List AObj)(K:AV->Prop)[Tag K]:Prop:=
 match f with
 |.fn (.func g) fs cs=> ∃z,(∀M,o9 P g (fs++args++cs) (H++M) (fun x H'=>x=z/\H'=H++M))/\K z
 |_=>False
def cv6(P:Program)(L:Tab)(o:Oper)(env:Env)(H:List AObj)(K:AV->Prop):Prop:=
 match o.op with
 |.call c=>match c.callee with
  |.value f=>bO6 P (ev env f) (c.args.toList.map (ev env)) H K
  |_=>False
 |.move _|.assign _|.slice .. |.fieldAddr .. |.field .. |.index .. |.indexAddr .. |.load .. |.sliceToArrayPointer .. |.extract .. |.build .. |.unOp .. =>aw7 P L o env [] K
 |_=>False
theorem cM5{P:Program}{L:Tab}{o:Oper}{env:Env}{H:List AObj}{K:AV->Prop}(h:cv6 P L o env H K): ∃z,(∀M,ao9 P L o env (H++M) z)/\K z:=by
 obtain⟨dst,op,ty,pos,af,g⟩:=o;cases op<;>simp only[cv6] at h<;>try exact h.elim
 case call c=>
  obtain⟨callee,args,ats⟩:=c;cases callee<;>simp only at h<;>try exact h.elim
  case value f=>
   unfold bO6 at h;split at h
   ·rename_i g' fs cs ef
    obtain⟨z,hz,hk⟩:=h;refine⟨z,fun M=>?_,hk⟩
    unfold ao9 ab7;simp only;unfold aW2;rw[ef];exact hz M
   ·exact h.elim
 case load t x=>
  obtain⟨z,hz,hk⟩:=bb9 h;refine⟨z,fun M=>?_,hk⟩
  unfold ao9 at hz⊢;simp only[ab7] at hz⊢;cases hx:ev env x with
  |ip y=>
   rw[hx] at hz;exact⟨hz.1,hz.2.1,rfl⟩
  |_=>
   rw[hx] at hz;simp[aR9,lift] at hz
 all_goals
  obtain⟨z,hz,hk⟩:=bb9 h;exact⟨z,fun M=>bX7 rfl hz,hk⟩
def bK5:AV->Bool
 |.lit _=>true
 |_=>false
def ai3(P:Program)(L:Tab)(H:List AObj)(ops:List Oper)(env:Env)(j:Nat)(M:List AObj)(K:Env->List AObj->Prop)[Tag K]:Prop:=
 match ops with
 |[]=>K env M
 |o::r=>match o.op with
  |.alloc t=>known (L t)=true/\(L t).zero.all bK5=true/\ai3 P L H r (put o.dst (.mp (H.length+j) 0) env) (j+1) (M++[.cells (.one t) (L t).zero]) K
  |.store .. =>aj0 P L [] o env M fun _ M'=>ai3 P L H r env j M' K
  |_=>cv6 P L o env H fun z=>Low H.length z/\ai3 P L H r (put o.dst z env) j M K
def cA3(o:Oper):Bool:=o.guard.isNone&&match o.op with
 |.alloc _=>false
 |.store .. =>false
 |_=>true
def stOp(o:Oper):Bool:=match o.op with
 |.store .. =>true
 |_=>false
def b99(T:TypeId)(nr na:Nat)(ops:List Oper):Bool:=cw1 T nr na ops&&(ops.take nr).all cA3&&(ops.drop (nr+na)).all stOp&&decide (nr+na<=ops.length)&&decide (0 < na)
section
variable {P:Program}{L:Tab}{H:List AObj}
theorem do1{o:Oper}{r:List Oper}{env:Env}{j:Nat}{M:List AObj}{K:Env->List AObj->Prop}(ho:cA3 o=true)(h:ai3 P L H (o::r) env j M K):cv6 P L o env H fun z=>Low H.length z/\ai3 P L H r (put o.dst z env) j M K:=by
 obtain⟨d,op,ty,pos,af,g⟩:=o;unfold ai3 at h;cases op<;>simp[cA3] at ho<;>exact h
theorem b98{K:Env->List AObj->Prop}{j:Nat}{M:List AObj}{all:List Oper}{rest:List Oper}: ∀(r:List Oper) (i:Nat) (env env₀:Env),(∀t,get env t=get env₀ t)->(∀o∈r,cA3 o=true)->ai3 P L H (r++rest) env j M K->
  ∃(zs:Nat->AV) (env':Env),(∀(k:Nat) o,r[k]?=some o->(∀M,DoesE P L [] all o (ab4 (fun j=>decide (j < i+k)) zs i (r++rest) env₀) (H++M) (zs (i+k)) (H++M))/\Low H.length (zs (i+k)))/\(∀t,get (ab4 (fun j=>decide (j < i+r.length)) zs i (r++rest) env₀) t=get env' t)/\ai3 P L H rest env' j M K
 |[],i,env,env₀,he,_,h=>⟨fun _=>.any,env,fun k o e=>by simp at e,fun t=>by
    rw[aE7 _ _ _ fun j _=>by simp]
    exact(he t).symm,h⟩
 |o::r,i,env,env₀,he,hr,h=>by
  obtain⟨z,hz,hl,hk⟩:=cM5 (do1 (hr o (ax1 ..)) h);obtain⟨zs,env',h1,h2,h3⟩:=b98 r (i+1) _ (put o.dst z env₀) (fun t=>by rw[get_put,get_put,he t]) (fun q hq=>hr q (aC8 _ hq)) hk
  refine⟨fun j=>if j=i then z else zs j,env',fun k q e=>?_,fun t=>?_,h3⟩
  ·cases k with
   |zero=>
    simp only[List.getElem?_cons_zero,Option.some.injEq] at e;subst e;refine⟨fun M=>?_,by simpa using hl⟩
    rw[aE7 _ _ _ fun j _=>by simp]
    have hg:o.guard=none:=by
     have:=hr o (ax1 ..);simp only[cA3,xq3,Option.isNone_iff_eq_none] at this;exact this.1
    unfold DoesE;rw[hg];have:=hz M;unfold ao9 at this;rw[<-aW1 (env:=env) fun x _ t _=>he t]
    simpa using this
   |succ k=>
    have:=h1 k q (by simpa using e)
    have e1:ab4 (fun j=>decide (j < i+(k+1))) (fun j=>if j=i then z else zs j) i ((o::r)++rest) env₀=ab4 (fun j=>decide (j < i+1+k)) zs (i+1) (r++rest) (put o.dst z env₀):=by
     simp only[List.cons_append,ab4,show i < i+(k+1) by omega,decide_true,if_true]
     exact aN9 (r++rest) (i+1) _ fun j _=>⟨by rw[if_neg (by omega)],by rw[show i+(k+1)=i+1+k by omega]⟩
    rw[e1];simp only[show¬(i+(k+1)=i) by omega,if_false]
    rwa [show i+(k+1)=i+1+k by omega]
  ·have e1:ab4 (fun j=>decide (j < i+(o::r).length)) (fun j=>if j=i then z else zs j) i ((o::r)++rest) env₀=ab4 (fun j=>decide (j < i+1+r.length)) zs (i+1) (r++rest) (put o.dst z env₀):=by
    simp only[List.cons_append,List.length_cons,ab4,show i < i+(r.length+1) by omega,decide_true,if_true]
    exact aN9 (r++rest) (i+1) _ fun j _=>⟨by rw[if_neg (by omega)],decide_eq_decide.2 (by omega)⟩
   rw[e1];exact h2 t
theorem bU6{K:Env->List AObj->Prop}{T:TypeId}{rest:List Oper}: ∀(r:List Oper) (j i:Nat) (env env₀:Env) (M:List AObj),(∀t,get env t=get env₀ t)->(∀o∈r,∃d ty pos af,o=⟨d,.alloc T,ty,pos,af,none⟩)->ai3 P L H (r++rest) env j M K->
  ∃env',(∀t,get (ab4 (fun k=>decide (k < i+r.length)) (fun k=>.mp (H.length+(k - i+j)) 0) i (r++rest) env₀) t=get env' t)/\(r≠[]->known (L T)=true/\ ∀z∈(L T).zero,∃v,z=.lit v)/\ai3 P L H rest env' (j+r.length) (M++List.replicate r.length (.cells (.one T) (L T).zero)) K
 |[],j,i,env,env₀,M,he,_,h=>⟨env,fun t=>by
    rw[aE7 _ _ _ fun j _=>by simp]
    exact(he t).symm,fun h=>absurd rfl h,by simpa using h⟩
 |o::r,j,i,env,env₀,M,he,hr,h=>by
  obtain⟨d,ty,pos,af,rfl⟩:=hr o (ax1 ..);obtain⟨h1,h2,h3⟩:known (L T)=true/\(L T).zero.all bK5=true/\ai3 P L H (r++rest) (put d (.mp (H.length+j) 0) env) (j+1) (M++[.cells (.one T) (L T).zero]) K:=by
   rw[List.cons_append] at h;unfold ai3 at h;exact h
  obtain⟨env',g1,_,g3⟩:=bU6 r (j+1) (i+1) _ (put d (.mp (H.length+j) 0) env₀) _ (fun t=>by rw[get_put,get_put,he t]) (fun q hq=>hr q (aC8 _ hq)) h3
  refine⟨env',fun t=>?_,fun _=>⟨h1,fun z hz=>?_⟩,?_⟩
  ·have e1:ab4 (fun k=>decide (k < i+(r.length+1))) (fun k=>.mp (H.length+(k - i+j)) 0) i (⟨d,.alloc T,ty,pos,af,none⟩::r++rest) env₀=ab4 (fun k=>decide (k < i+1+r.length)) (fun k=>.mp (H.length+(k - (i+1)+(j+1))) 0) (i+1) (r++rest) (put d (.mp (H.length+j) 0) env₀):=by
    simp only[List.cons_append,ab4,show i < i+(r.length+1) by omega,decide_true,if_true,ao8,Nat.zero_add]
    exact aN9 (r++rest) (i+1) _ fun k _=>⟨by rw[show i+1+k - i+j=i+1+k - (i+1)+(j+1) by omega],decide_eq_decide.2 (by omega)⟩
   rw[List.length_cons,e1];exact g1 t
  ·have:=xq6.1 h2 z hz
   cases z<;>simp[bK5] at this
   exact⟨_,rfl⟩
  ·rw[List.length_cons,show j+(r.length+1)=j+1+r.length by omega,cZ1]
   rw[List.append_assoc] at g3;exact g3
theorem bU5{K:Env->List AObj->Prop}{env:Env}{j:Nat}: ∀(r:List Oper) (M:List AObj),(∀o∈r,stOp o=true)->ai3 P L H r env j M K-> ∃oh:Nat->List AObj,oh 0=M/\(∀(k:Nat) o,r[k]?=some o-> ∃z,ab7 P L [] o env (oh k) fun x H'=>x=z/\H'=oh (k+1))/\K env (oh r.length)
 |[],M,_,h=>⟨fun _=>M,rfl,fun k o e=>by simp at e,h⟩
 |o::r,M,hr,h=>by
  have h':aj0 P L [] o env M fun _ M'=>ai3 P L H r env j M' K:=by
   have:=hr o (ax1 ..);obtain⟨d,op,ty,pos,af,g⟩:=o;unfold ai3 at h;cases op<;>simp[stOp] at this
   exact h
  obtain⟨z,M',hz,hk⟩:=bT5 h';obtain⟨oh,h0,h1,h2⟩:=bU5 r M' (fun q hq=>hr q (aC8 _ hq)) hk
  refine⟨fun k=>if k=0 then M else oh (k - 1),rfl,fun k q e=>?_,?_⟩
  ·cases k with
   |zero=>
    simp only[List.getElem?_cons_zero,Option.some.injEq] at e;subst e;exact⟨z,by simpa [h0] using hz⟩
   |succ k=>
    simpa using h1 k q (by simpa using e)
  ·simpa using h2
theorem by6{P:Program}{L:Tab}(hL:ac6 P L)(hm:P.follows .mixedOrders=true){n rid:Nat}(T:TypeId)(nr na:Nat){ops:List Oper}(hops:ax5 n ops=true)(hdr:aJ8 ops=true)(hok:b99 T nr na ops=true){Q:Exit->Env->List AObj->Prop}{env:Env}{H:List AObj}
  {K:Env->List AObj->Prop} (hK: ∀env H,K env H->Q .normal env H) (h:ai3 P L H ops env 0 H K):AW P n (.region rid ops.toArray true) Q env H:=by
 simp only[b99,xq3,decide_eq_true_eq] at hok;obtain⟨⟨⟨⟨ok1,ok2⟩,ok3⟩,hlen⟩,hpos⟩:=hok;have e0:ops=ops.take nr++((ops.drop nr).take na++ops.drop (nr+na)):=by
  rw[<-List.drop_drop,bG7,bG7]
 have l1:(ops.take nr).length=nr:=by rw[List.length_take];omega
 have l2:((ops.drop nr).take na).length=na:=by rw[List.length_take,List.length_drop];omega
 have hA: ∀o∈(ops.drop nr).take na,∃d ty pos af,o=⟨d,.alloc T,ty,pos,af,none⟩:=fun o ho=>by
  have ok1':=ok1;simp only[cw1,xq3,xq6] at ok1';have:=ok1'.1.1.1 o ho;obtain⟨d,op,ty,pos,af,g⟩:=o;cases op<;>simp at this
  obtain⟨rfl,h2⟩:=this;subst h2;exact⟨_,_,_,_,rfl⟩
 generalize hrs:ops.take nr=rs at*;generalize has:(ops.drop nr).take na=al at*;generalize hss:ops.drop (nr+na)=ss at*;rw[e0] at h;obtain⟨zs,env1,h1,h2,h3⟩:=b98 (all:=ops) rs 0 env env (fun _=>rfl) (fun o ho=>xq6.1 ok2 o ho) h
 obtain⟨env2,g1,g2,g3⟩:=bU6 al 0 nr env1 env1 H (fun _=>rfl) hA h3
 obtain⟨oh,k0,k1,k2⟩:=bU5 ss _ (fun o ho=>xq6.1 ok3 o ho) g3
 obtain⟨hk,hz⟩:=g2 (by intro e;rw[e] at l2;simp at l2;omega)
 have hsplit: ∀(l:Nat->Bool) (z:Nat->AV) (a b:List Oper) (i:Nat) (e:Env),ab4 l z i (a++b) e=ab4 l z (i+a.length) b (ab4 l z i a e):=fun l z a=>by
  induction a with
  |nil=>intro b i e;rfl
  |cons o a ih=>
   intro b i e;simp only[List.cons_append,ab4,List.length_cons];rw[ih,show i+1+a.length=i+(a.length+1) by omega]
 have hcong: ∀(l l':Nat->Bool) (z z':Nat->AV) (a:List Oper) (i:Nat) (e e':Env),(∀t,get e t=get e' t)->(∀k,k < a.length->l (i+k)=l' (i+k)/\z (i+k)=z' (i+k))-> ∀t,get (ab4 l z i a e) t=get (ab4 l' z' i a e') t:=fun l l' z z' a i e e' he hk t=>
  aV2 (R:=fun x y=>x=y) a i e e' (he t) fun j o ej _=>⟨(hk j (y9 ej)).1,fun _=>(hk j (y9 ej)).2⟩
 refine ct4 hL hm (T:=T) (nr:=nr) (na:=na) hops hdr ok1 hlen zs (fun i o hi e M=>?_) (fun i hi=>?_) hk hz env2 (fun t=>?_) oh (by rw[k0,l2]) (fun j o e=>?_) ?_
 ·have hi':rs[i]?=some o:=by rw[<-hrs,aG3,if_pos hi];exact e
  have:=(h1 i o hi').1 M;rw[Nat.zero_add,<-e0] at this;exact this
 ·have hi':rs[i]?=some rs[i]:=xq1 (by omega)
  have:=(h1 i _ hi').2;rwa [Nat.zero_add] at this
 ·rw[<-g1 t]
  conv=>lhs;rw[e0]
  rw[hsplit,Nat.zero_add,l1];refine hcong _ _ _ _ _ _ _ _ (fun t=>?_) (fun k hk=>?_) t
  ·rw[<-h2 t,Nat.zero_add,hsplit,Nat.zero_add,l1]
   have hn:ab4 (fun j=>decide (j < nr)) zs nr (al++ss) (ab4 (fun j=>decide (j < nr)) zs 0 rs env)=ab4 (fun j=>decide (j < nr)) zs 0 rs env:=aE7 _ _ _ fun j _=>by simp
   rw[hn];refine hcong _ _ _ _ _ _ _ _ (fun _=>rfl) (fun k hk=>⟨?_,?_⟩) t
   ·rw[Nat.zero_add,decide_eq_true (by omega),decide_eq_true (by omega)]
   ·show (if 0+k < nr then zs (0+k) else _)=_
    rw[if_pos (by omega)]
  ·refine⟨by rw[l2],?_⟩
   show (if nr+k < nr then zs (nr+k) else AV.mp (H.length+(nr+k - nr)) 0)=AV.mp (H.length+(nr+k - nr+0)) 0
   rw[if_neg (by omega),av1]
 ·exact k1 j o (by rw[<-hss,aP9];exact e)
 ·have:ops.length - (nr+na)=ss.length:=by rw[<-hss,List.length_drop]
  rw[this];exact hK _ _ k2
theorem bS8{P:Program}{L:Tab}(hL:ac6 P L)(hm:P.follows .mixedOrders=true)(mu:List Nat)(k:Nat)(T:TypeId)(nr na:Nat){n rid:Nat}{ops:List Oper}{rest:Code}{Q:Exit->Env->List AObj->Prop}{env:Env}{H:List AObj}(hok:(ax5 n ops&&aJ8 ops&&b99 T nr na ops&&okC mu n rest)=true)
  (h:ai3 P L H ops env 0 H fun env H=>bh4 P L mu n k rest Q env H):AW P n (.seq (.region rid ops.toArray true) rest) Q env H:=by
 simp only[xq3] at hok;obtain⟨⟨⟨o1,o2⟩,o3⟩,o4⟩:=hok;exact by5 (by6 hL hm T nr na o1 o2 o3 (fun env H q=>aQ3 hL hm k rest o4 q) h)
end
theorem cK1{P:Program}{L:Tab}(hL:ac6 P L)(hm:P.follows .mixedOrders=true)(mu:List Nat)(T:TypeId)(nr na:Nat){n rid:Nat}{ops:List Oper}{rest:Code}{Q:Exit->Env->List AObj->Prop}{env:Env}{H:List AObj}(hok:(ax5 n ops&&aJ8 ops&&b99 T nr na ops&&okC mu n rest)=true)
  (h:ai3 P L H ops env 0 H fun env H=>vcC P L mu n rest Q env H):AW P n (.seq (.region rid ops.toArray true) rest) Q env H:=by
 simp only[xq3] at hok;obtain⟨⟨⟨o1,o2⟩,o3⟩,o4⟩:=hok;exact by5 (by6 hL hm T nr na o1 o2 o3 (fun env H q=>ai8 hL hm rest o4 q) h)
section
variable {P:Program}{L:Tab}{H M:List AObj}{r:List Oper}{env:Env}{j m:Nat}{K:Env->List AObj->Prop}{d:Option Tmp}{ty:TypeId}{pos:String}{af:Array Edge}
theorem ee7:ai3 P L H [] env j M K=K env M:=rfl
theorem dG4{t:TypeId}:ai3 P L H (⟨d,.alloc t,ty,pos,af,none⟩::r) env j M K=(known (L t)=true/\(L t).zero.all bK5=true/\ai3 P L H r (put d (.mp (H.length+j) 0) env) (j+1) (M++[.cells (.one t) (L t).zero]) K):=rfl
theorem dG2{t:TypeId}{a x:Operand}:ai3 P L H (⟨d,.store t a x,ty,pos,af,none⟩::r) env j M K=bj6 L t (ev env a) (ev env x) M fun _ M'=>ai3 P L H r env j M' K:=rfl
theorem dG3{t:TypeId}{x:Operand}{lo hi mx:Option Operand}:ai3 P L H (⟨d,.slice t x lo hi mx,ty,pos,af,none⟩::r) env j M K=aw7 P L ⟨d,.slice t x lo hi mx,ty,pos,af,none⟩ env [] fun z=>Low H.length z/\ai3 P L H r (put d z env) j M K:=rfl
theorem cD9{t:TypeId}{x:Operand}{f:Nat}:ai3 P L H (⟨d,.fieldAddr t x f,ty,pos,af,none⟩::r) env j M K=aw7 P L ⟨d,.fieldAddr t x f,ty,pos,af,none⟩ env [] fun z=>Low H.length z/\ai3 P L H r (put d z env) j M K:=rfl
theorem dY9{t:TypeId}{x:Operand}:ai3 P L H (⟨d,.load t x,ty,pos,af,none⟩::r) env j M K=aw7 P L ⟨d,.load t x,ty,pos,af,none⟩ env [] fun z=>Low H.length z/\ai3 P L H r (put d z env) j M K:=rfl
theorem bt5{t:TypeId}{x:Operand}:ai3 P L H (⟨d,.sliceToArrayPointer t x,ty,pos,af,none⟩::r) env j M K=aw7 P L ⟨d,.sliceToArrayPointer t x,ty,pos,af,none⟩ env [] fun z=>Low H.length z/\ai3 P L H r (put d z env) j M K:=rfl
theorem dZ0{f:Operand}{az:Array Operand}{ts:Array TypeId}:ai3 P L H (⟨d,.call ⟨.value f,az,ts⟩,ty,pos,af,none⟩::r) env j M K=bO6 P (ev env f) (az.toList.map (ev env)) H fun z=>Low H.length z/\ai3 P L H r (put d z env) j M K:=rfl
theorem dv2{f:FuncId}{args:List AV}{D:AV->Prop}:bO6 P (.fn (.func f) [] []) args H D= ∃z,(∀N M,N=H++M->o9 P f args N (fun x H'=>x=z/\H'=N))/\aQ2 (D z):=by
 show (∃z,(∀M,o9 P f ([]++args++[]) (H++M) (fun x H'=>x=z/\H'=H++M))/\D z)=_
 simp only[List.nil_append,List.append_nil,a98];apply propext
 exact⟨fun⟨z,h,k⟩=>⟨z,fun N M e=>e▸h M,k⟩,fun⟨z,h,k⟩=>⟨z,fun M=>h _ M rfl,k⟩⟩
theorem dZ7{l:List UInt8}:Low m (.agg (l.map o8))=True:=eq_true (.agg _ fun x hx=>by
 obtain⟨b,_,rfl⟩:=xq9.1 hx;exact .lit _)
theorem eg7{l:List UInt8}:Low m (.ip (.agg (l.map o8)))=True:=eq_true (.ip _ fun x hx=>by
 obtain⟨b,_,rfl⟩:=xq9.1 hx;exact .lit _)
theorem eg5{l:List UInt8}{s:Nat}:Low m (.sl .sh s (l.map o8))=True:=eq_true ae4
theorem dx0{k:Nat}{x:AV}(h:bK5 x=true):(List.replicate k x).all bK5=true:=by simp[h]
end
attribute [go_sem] ee7 dG4 dG2 dZ0 dv2 dZ7 eg7 eg5 bK5 dG3 cD9 dY9 bt5
end V
end
section
namespace Fe
open Go V
abbrev W:=BitVec 64
def mW:W:=2251799813685247#64
def ai0(l:List W):Nat->List W×W
 |0=>(l,0)
 |i+1=>((ai0 l i).1.set i (((ai0 l i).1.getD i 0+(ai0 l i).2)&&&mW),((ai0 l i).1.getD i 0+(ai0 l i).2)>>>51)
def aY7(l:List W):List W:=(ai0 l 5).1.set 0 ((ai0 l 5).1.getD 0 0+19*(ai0 l 5).2)
def ae0(l:List W):List W:=aY7 (aY7 l)
def ag1:List W->Nat
 |[]=>0
 |x::l=>x.toNat+2251799813685248*ag1 l
def pF:Nat:=57896044618658097711785492504343953926634992332820282019728792003956564819949
theorem bp4(x:W):(x&&&mW).toNat=x.toNat%2251799813685248:=by
 rw[cu9];exact cu8 x.toNat 51
theorem bP1(x:W):(x>>>51).toNat=x.toNat/2251799813685248:=by
 rw[bz3,aM1]
theorem aD5{x y:W}(h:x.toNat+y.toNat < 18446744073709551616):(x+y).toNat=x.toNat+y.toNat:=by
 rw[bO3,aA7 h]
theorem bQ7{x:W}(h:x.toNat < 100000000000000000):(19*x).toNat=19*x.toNat:=by
 rw[bz2];show 19*x.toNat%_=_
 omega
theorem digit{x q:W}(hx:x.toNat < 1152921504606846976)(hq:q.toNat < 1048576):((x+q)&&&mW).toNat+2251799813685248*((x+q)>>>51).toNat=x.toNat+q.toNat/\((x+q)&&&mW).toNat < 2251799813685248/\((x+q)>>>51).toNat < 1024:=by
 rw[bp4,bP1,aD5 (by omega)]
 omega
def Lim(n:Nat)(l:List W):Prop:=l.length=5/\ ∀x∈l,x.toNat < n
theorem bK6{n:Nat}{l:List W}(h:Lim n l): ∃a b c d e,l=[a,b,c,d,e]/\a.toNat < n/\b.toNat < n/\c.toNat < n/\d.toNat < n/\e.toNat < n:=by
 obtain⟨hl,hx⟩:=h;match l,hl with
 |[a,b,c,d,e],_=>exact⟨a,b,c,d,e,rfl,hx _ (by simp),hx _ (by simp),hx _ (by simp),hx _ (by simp),hx _ (by simp)⟩
theorem bx6{n:Nat}{a b c d e:W}(h1:a.toNat < n)(h2:b.toNat < n)(h3:c.toNat < n)(h4:d.toNat < n)(h5:e.toNat < n):Lim n [a,b,c,d,e]:=⟨rfl,fun x hx=>by
 simp only[ai9,aG2,or_false] at hx;rcases hx with rfl|rfl|rfl|rfl|rfl<;>assumption⟩
theorem cB5{l:List W}(h:Lim 1152921504606846976 l): ∃a b c d e k,aY7 l=[a,b,c,d,e]/\ag1 (aY7 l)+pF*k=ag1 l/\a.toNat < 2251799813685248+19*1024/\b.toNat < 2251799813685248/\c.toNat < 2251799813685248/\d.toNat < 2251799813685248/\e.toNat < 2251799813685248/\a.toNat < 2251799813685248+19*k+1/\k < 1024:=by
 obtain⟨a,b,c,d,e,rfl,ha,hb,hc,hd,he⟩:=bK6 h;have hP: ∃q1 q2 q3 q4 q5 x1 x2 x3 x4 x5:W,aY7 [a,b,c,d,e]=[x1+19*q5,x2,x3,x4,x5]/\x1.toNat+2251799813685248*q1.toNat=a.toNat/\x1.toNat < 2251799813685248/\q1.toNat < 1024/\x2.toNat+2251799813685248*q2.toNat=b.toNat+q1.toNat/\x2.toNat < 2251799813685248/\q2.toNat < 1024/\x3.toNat+2251799813685248*q3.toNat=c.toNat+q2.toNat/\x3.toNat < 2251799813685248/\q3.toNat < 1024/\x4.toNat+2251799813685248*q4.toNat=d.toNat+q3.toNat/\x4.toNat < 2251799813685248/\q4.toNat < 1024/\x5.toNat+2251799813685248*q5.toNat=e.toNat+q4.toNat/\x5.toNat < 2251799813685248/\q5.toNat < 1024:=by
  obtain⟨a1,a2,a3⟩:=digit (x:=a) (q:=0) ha (by decide)
  have h0:(0:W).toNat=0:=rfl;rw[h0] at a1;obtain⟨b1,b2,b3⟩:=digit (x:=b) (q:=(a+0)>>>51) hb (by omega)
  obtain⟨c1,c2,c3⟩:=digit (x:=c) (q:=(b+(a+0)>>>51)>>>51) hc (by omega)
  obtain⟨d1,d2,d3⟩:=digit (x:=d) (q:=(c+(b+(a+0)>>>51)>>>51)>>>51) hd (by omega)
  obtain⟨e1,e2,e3⟩:=digit (x:=e) (q:=(d+(c+(b+(a+0)>>>51)>>>51)>>>51)>>>51) he (by omega)
  exact⟨_,_,_,_,_,_,_,_,_,_,rfl,a1,a2,a3,b1,b2,b3,c1,c2,c3,d1,d2,d3,e1,e2,e3⟩
 obtain⟨q1,q2,q3,q4,q5,x1,x2,x3,x4,x5,h0,a1,a2,a3,b1,b2,b3,c1,c2,c3,d1,d2,d3,e1,e2,e3⟩:=hP;have hm:=bQ7 (x:=q5) (by omega)
 have hs:=aD5 (x:=x1) (y:=19*q5) (by omega)
 refine⟨_,_,_,_,_,q5.toNat,h0,?_,by omega,b2,c2,d2,e2,by omega,e3⟩
 rw[h0];simp only[ag1,pF];omega
theorem aR5{l:List W}(h:Lim 1152921504606846976 l):Lim 4503599627370496 (ae0 l)/\ag1 (ae0 l)%pF=ag1 l%pF/\ag1 (ae0 l) < 2*pF:=by
 obtain⟨a,b,c,d,e,k,h1,h2,h3,h4,h5,h6,h7,h8,h9⟩:=cB5 h;have hl:Lim 1152921504606846976 (aY7 l):=by rw[h1];exact bx6 (by omega) (by omega) (by omega) (by omega) (by omega)
 obtain⟨a',b',c',d',e',k',g1,g2,g3,g4,g5,g6,g7,g8,g9⟩:=cB5 hl;have hv:ag1 (ae0 l)=ag1 [a',b',c',d',e']:=by unfold ae0;rw[g1]
 have hp:pF=57896044618658097711785492504343953926634992332820282019728792003956564819949:=rfl;refine⟨?_,?_,?_⟩
 ·unfold ae0;rw[g1];exact bx6 (by omega) (by omega) (by omega) (by omega) (by omega)
 ·have:ag1 l=ag1 (ae0 l)+pF*(k'+k):=by
   unfold ae0;rw[Nat.mul_add];omega
  rw[this,ct9]
 ·rw[hv]
  simp only[ag1,hp];omega
def aw0(f:Nat->W)(l:List W)(i:Nat):List W:=(List.range l.length).map fun j=>if j < i then f j else l.getD j 0
def aj1(l m:List W):List W:=ae0 (aw0 (fun j=>l.getD j 0+m.getD j 0) l 5)
def ae5(l m:List W):List W:=ae0 ((aw0 (fun j=>l.getD j 0+9007199254740988 - m.getD j 0) l 5).set 0 ((aw0 (fun j=>l.getD j 0+9007199254740988 - m.getD j 0) l 5).getD 0 0 - 72))
theorem cT0{x y:W}(h:y.toNat<=x.toNat):(x - y).toNat=x.toNat - y.toNat:=BitVec.toNat_sub_of_le h
theorem dB8{l m:List W}(hl:Lim 4503599627370496 l)(hm:Lim 4503599627370496 m):Lim 4503599627370496 (aj1 l m)/\ag1 (aj1 l m)%pF=(ag1 l+ag1 m)%pF:=by
 obtain⟨a,b,c,d,e,rfl,ha,hb,hc,hd,he⟩:=bK6 hl;obtain⟨f,g,h,i,j,rfl,hf,hg,hh,hi,hj⟩:=bK6 hm;have hs:aw0 (fun n=>[a,b,c,d,e].getD n 0+[f,g,h,i,j].getD n 0) [a,b,c,d,e] 5=[a+f,b+g,c+h,d+i,e+j]:=rfl
 have h1:=aD5 (x:=a) (y:=f) (by omega)
 have h2:=aD5 (x:=b) (y:=g) (by omega)
 have h3:=aD5 (x:=c) (y:=h) (by omega)
 have h4:=aD5 (x:=d) (y:=i) (by omega)
 have h5:=aD5 (x:=e) (y:=j) (by omega)
 have hv:=aR5 (bx6 (n:=1152921504606846976) (a:=a+f) (b:=b+g) (c:=c+h) (d:=d+i) (e:=e+j) (by omega) (by omega) (by omega) (by omega) (by omega))
 unfold aj1;rw[hs];refine⟨hv.1,?_⟩;rw[hv.2.1];congr 1
 simp only[ag1,h1,h2,h3,h4,h5];omega
theorem bK0{l m:List W}(hl:Lim 4503599627370496 l)(hm:Lim 4503599627370496 m):Lim 4503599627370496 (ae5 l m)/\(ag1 (ae5 l m)+ag1 m)%pF=ag1 l%pF:=by
 obtain⟨a,b,c,d,e,rfl,ha,hb,hc,hd,he⟩:=bK6 hl;obtain⟨f,g,h,i,j,rfl,hf,hg,hh,hi,hj⟩:=bK6 hm;have hs:(aw0 (fun n=>[a,b,c,d,e].getD n 0+9007199254740988 - [f,g,h,i,j].getD n 0) [a,b,c,d,e] 5).set 0 ((aw0 (fun n=>[a,b,c,d,e].getD n 0+9007199254740988 - [f,g,h,i,j].getD n 0) [a,b,c,d,e] 5).getD 0 0 - 72)=[a+9007199254740988 - f - 72,b+9007199254740988 - g,c+9007199254740988 - h,d+9007199254740988 - i,e+9007199254740988 - j]:=rfl
 have hq:(9007199254740988:W).toNat=9007199254740988:=rfl;have hq2:(72:W).toNat=72:=rfl;have hd1: ∀{x y:W},x.toNat < 4503599627370496->y.toNat < 4503599627370496->(x+9007199254740988 - y).toNat=x.toNat+9007199254740988 - y.toNat:=fun {x y} hx hy=>by
  have:=aD5 (x:=x) (y:=9007199254740988) (by omega)
  rw[cT0 (by omega),this,hq]
 have h1:=hd1 ha hf;have h2:=hd1 hb hg;have h3:=hd1 hc hh;have h4:=hd1 hd hi;have h5:=hd1 he hj;have h6:(a+9007199254740988 - f - 72).toNat=a.toNat+9007199254740988 - f.toNat - 72:=by rw[cT0 (by omega),h1,hq2]
 have hv:=aR5 (bx6 (n:=1152921504606846976) (a:=a+9007199254740988 - f - 72) (b:=b+9007199254740988 - g) (c:=c+9007199254740988 - h) (d:=d+9007199254740988 - i) (e:=e+9007199254740988 - j) (by omega) (by omega) (by omega) (by omega) (by omega))
 unfold ae5;rw[hs];refine⟨hv.1,?_⟩;rw[Nat.add_mod,hv.2.1,<-Nat.add_mod];have:ag1 [a+9007199254740988 - f - 72,b+9007199254740988 - g,c+9007199254740988 - h,d+9007199254740988 - i,e+9007199254740988 - j]+ag1 [f,g,h,i,j]=ag1 [a,b,c,d,e]+pF*4:=by
  simp only[ag1,h2,h3,h4,h5,h6,pF];omega
 rw[this,ct9]
def ah4(n:Nat)(x y:W):Nat:=(n+x.toNat*y.toNat)%340282366920938463463374607431768211456
def bF3(l m:List W)(n:Nat)(all:List Nat):List Nat:=all.set ((n/5+n%5)%5) (ah4 (all.getD ((n/5+n%5)%5) 0) (l.getD (n/5) 0) (if n/5+n%5 < 5 then m.getD (n%5) 0 else 19*m.getD (n%5) 0))
def ar0(l m:List W):Nat->List Nat
 |0=>[0,0,0,0,0]
 |n+1=>bF3 l m n (ar0 l m n)
def bn7(all:List Nat)(c:W)(i:Nat):Nat:=ah4 (all.getD i 0) c 1
def an3(all:List Nat):Nat->List W×W
 |0=>([0,0,0,0,0],0)
 |i+1=>((an3 all i).1.set i (BitVec.ofNat 64 (bn7 all (an3 all i).2 i)&&&mW),BitVec.ofNat 64 (bn7 all (an3 all i).2 i/2251799813685248))
def aa8(l m:List W):List W:=
 let s:=an3 (ar0 l m 25) 5
 ae0 ((s.1.set 0 (s.1.getD 0 0+(BitVec.ofNat 64 (s.2.toNat*19)&&&mW))).set 1 (s.1.getD 1 0+BitVec.ofNat 64 (s.2.toNat*19/2251799813685248)))
theorem et5(a b c d e f g h i j:W):ar0 [a,b,c,d,e] [f,g,h,i,j] 25=
  [(a.toNat*f.toNat+b.toNat*(19*j).toNat+c.toNat*(19*i).toNat+d.toNat*(19*h).toNat+e.toNat*(19*g).toNat)%340282366920938463463374607431768211456,
   (a.toNat*g.toNat+b.toNat*f.toNat+c.toNat*(19*j).toNat+d.toNat*(19*i).toNat+e.toNat*(19*h).toNat)%340282366920938463463374607431768211456,
   (a.toNat*h.toNat+b.toNat*g.toNat+c.toNat*f.toNat+d.toNat*(19*j).toNat+e.toNat*(19*i).toNat)%340282366920938463463374607431768211456,
   (a.toNat*i.toNat+b.toNat*h.toNat+c.toNat*g.toNat+d.toNat*f.toNat+e.toNat*(19*j).toNat)%340282366920938463463374607431768211456,
   (a.toNat*j.toNat+b.toNat*i.toNat+c.toNat*h.toNat+d.toNat*g.toNat+e.toNat*f.toNat)%340282366920938463463374607431768211456]:=by
 have:ar0 [a,b,c,d,e] [f,g,h,i,j] 25=[ah4 (ah4 (ah4 (ah4 (ah4 0 a f) b (19*j)) c (19*i)) d (19*h)) e (19*g),ah4 (ah4 (ah4 (ah4 (ah4 0 a g) b f) c (19*j)) d (19*i)) e (19*h),ah4 (ah4 (ah4 (ah4 (ah4 0 a h) b g) c f) d (19*j)) e (19*i),ah4 (ah4 (ah4 (ah4 (ah4 0 a i) b h) c g) d f) e (19*j),ah4 (ah4 (ah4 (ah4 (ah4 0 a j) b i) c h) d g) e f]:=by kernel_rfl
 rw[this];simp only[ah4,Nat.mod_add_mod,Nat.zero_add]
theorem cU1{x y a b:Nat}(hx:x < a)(hy:y < b):x*y < a*b:=Nat.mul_lt_mul'' hx hy
theorem bJ7{n:Nat}{c:W}(hn:n < 5192296858534827628530496329220096):(BitVec.ofNat 64 (ah4 n c 1)&&&mW).toNat+2251799813685248*(BitVec.ofNat 64 (ah4 n c 1/2251799813685248)).toNat=n+c.toNat/\(BitVec.ofNat 64 (ah4 n c 1)&&&mW).toNat < 2251799813685248/\(BitVec.ofNat 64 (ah4 n c 1/2251799813685248)).toNat<=(n+c.toNat)/2251799813685248:=by
 have hw:ah4 n c 1=n+c.toNat:=by
  unfold ah4;show (n+c.toNat*1)%_=_
  omega
 have hc2:=c.isLt;rw[hw,bp4,aA8,aA8];simp only[Nat.reducePow];omega
theorem eq1{s0 s1 s2 s3 s4:Nat}(h0:s0 < 5192296858534827628530496329220096)(h1:s1 < 5192296858534827628530496329220096)(h2:s2 < 5192296858534827628530496329220096)(h3:s3 < 5192296858534827628530496329220096)(h4:s4 < 5192296858534827628530496329220096):
  ∃x0 x1 x2 x3 x4 c:W,an3 [s0,s1,s2,s3,s4] 5=([x0,x1,x2,x3,x4],c)/\x0.toNat < 2251799813685248/\x1.toNat < 2251799813685248/\x2.toNat < 2251799813685248/\x3.toNat < 2251799813685248/\x4.toNat < 2251799813685248/\c.toNat < 2305843009213703952/\
   x0.toNat+2251799813685248*(x1.toNat+2251799813685248*(x2.toNat+2251799813685248*(x3.toNat+2251799813685248*(x4.toNat+2251799813685248*c.toNat))))=s0+2251799813685248*(s1+2251799813685248*(s2+2251799813685248*(s3+2251799813685248*s4))):=by
 have z:(0:W).toNat=0:=rfl;obtain⟨a1,a2,a3⟩:=bJ7 (n:=s0) (c:=0) h0;obtain⟨b1,b2,b3⟩:=bJ7 (n:=s1) (c:=BitVec.ofNat 64 (ah4 s0 0 1/2251799813685248)) h1;obtain⟨c1,c2,c3⟩:=bJ7 (n:=s2) (c:=BitVec.ofNat 64 (ah4 s1 (BitVec.ofNat 64 (ah4 s0 0 1/2251799813685248)) 1/2251799813685248)) h2;obtain⟨d1,d2,d3⟩:=bJ7 (n:=s3) (c:=BitVec.ofNat 64 (ah4 s2 (BitVec.ofNat 64 (ah4 s1 (BitVec.ofNat 64 (ah4 s0 0 1/2251799813685248)) 1/2251799813685248)) 1/2251799813685248)) h3;obtain⟨e1,e2,e3⟩:=bJ7 (n:=s4) (c:=BitVec.ofNat 64 (ah4 s3 (BitVec.ofNat 64 (ah4 s2 (BitVec.ofNat 64 (ah4 s1 (BitVec.ofNat 64 (ah4 s0 0 1/2251799813685248)) 1/2251799813685248)) 1/2251799813685248)) 1/2251799813685248)) h4;rw[z] at a1 a3;have hP: ∃x0 x1 x2 x3 x4 q0 q1 q2 q3 q4:W,an3 [s0,s1,s2,s3,s4] 5=([x0,x1,x2,x3,x4],q4)/\x0.toNat+2251799813685248*q0.toNat=s0+0/\x0.toNat < 2251799813685248/\x1.toNat+2251799813685248*q1.toNat=s1+q0.toNat/\x1.toNat < 2251799813685248/\x2.toNat+2251799813685248*q2.toNat=s2+q1.toNat/\x2.toNat < 2251799813685248/\x3.toNat+2251799813685248*q3.toNat=s3+q2.toNat/\x3.toNat < 2251799813685248/\x4.toNat+2251799813685248*q4.toNat=s4+q3.toNat/\x4.toNat < 2251799813685248:=
  ⟨_,_,_,_,_,_,_,_,_,_,rfl,a1,a2,b1,b2,c1,c2,d1,d2,e1,e2⟩
 clear a1 a2 a3 b1 b2 b3 c1 c2 c3 d1 d2 d3 e1 e2 e3;obtain⟨x0,x1,x2,x3,x4,q0,q1,q2,q3,q4,h,a1,a2,b1,b2,c1,c2,d1,d2,e1,e2⟩:=hP;have l3:=q3.isLt;refine⟨x0,x1,x2,x3,x4,q4,h,a2,b2,c2,d2,e2,by omega,by omega⟩
theorem dh3{l m:List W}(hl:Lim 4503599627370496 l)(hm:Lim 4503599627370496 m):Lim 4503599627370496 (aa8 l m)/\ag1 (aa8 l m)%pF=ag1 l*ag1 m%pF:=by
 obtain⟨a,b,c,d,e,rfl,ha,hb,hc,hd,he⟩:=bK6 hl;obtain⟨f,g,h,i,j,rfl,hf,hg,hh,hi,hj⟩:=bK6 hm;have n1:=bQ7 (x:=g) (by omega)
 have n2:=bQ7 (x:=h) (by omega)
 have n3:=bQ7 (x:=i) (by omega)
 have n4:=bQ7 (x:=j) (by omega)
 have q: ∀{x y:W},x.toNat < 4503599627370496->y.toNat < 4503599627370496->x.toNat*y.toNat < 20282409603651670423947251286016:=fun hx hy=>cU1 hx hy
 have hA:=et5 a b c d e f g h i j;rw[n1,n2,n3,n4] at hA;have w: ∀x y:Nat,x*(19*y)=19*(x*y):=fun x y=>by rw[Nat.mul_left_comm]
 simp only[w] at hA;have v:ag1 [a,b,c,d,e]*ag1 [f,g,h,i,j]=
  (a.toNat*f.toNat+19*(b.toNat*j.toNat)+19*(c.toNat*i.toNat)+19*(d.toNat*h.toNat)+19*(e.toNat*g.toNat))
  +2251799813685248*((a.toNat*g.toNat+b.toNat*f.toNat+19*(c.toNat*j.toNat)+19*(d.toNat*i.toNat)+19*(e.toNat*h.toNat))
  +2251799813685248*((a.toNat*h.toNat+b.toNat*g.toNat+c.toNat*f.toNat+19*(d.toNat*j.toNat)+19*(e.toNat*i.toNat))
  +2251799813685248*((a.toNat*i.toNat+b.toNat*h.toNat+c.toNat*g.toNat+d.toNat*f.toNat+19*(e.toNat*j.toNat))
  +2251799813685248*(a.toNat*j.toNat+b.toNat*i.toNat+c.toNat*h.toNat+d.toNat*g.toNat+e.toNat*f.toNat))))
  +pF*((b.toNat*j.toNat+c.toNat*i.toNat+d.toNat*h.toNat+e.toNat*g.toNat)+2251799813685248*((c.toNat*j.toNat+d.toNat*i.toNat+e.toNat*h.toNat)+2251799813685248*((d.toNat*j.toNat+e.toNat*i.toNat)+2251799813685248*(e.toNat*j.toNat)))):=by
  simp only[ag1,pF];grind
 have b1:=q ha hf;have b2:=q hb hj;have b3:=q hc hi;have b4:=q hd hh;have b5:=q he hg;have b6:=q ha hg;have b7:=q hb hf;have b8:=q hc hj;have b9:=q hd hi;have b10:=q he hh;have b11:=q ha hh;have b12:=q hb hg;have b13:=q hc hf;have b14:=q hd hj;have b15:=q he hi;have b16:=q ha hi;have b17:=q hb hh;have b18:=q hc hg;have b19:=q hd hf;have b20:=q he hj;have b21:=q ha hj;have b22:=q hb hi;have b23:=q hc hh;have b24:=q hd hg;have b25:=q he hf;rw[aA7 (by omega),aA7 (by omega),aA7 (by omega),aA7 (by omega),aA7 (by omega)] at hA
 rw[v,ct9];obtain⟨x0,x1,x2,x3,x4,k,ho,y0,y1,y2,y3,y4,yk,hv⟩:=eq1 (s0:=a.toNat*f.toNat+19*(b.toNat*j.toNat)+19*(c.toNat*i.toNat)+19*(d.toNat*h.toNat)+19*(e.toNat*g.toNat)) (s1:=a.toNat*g.toNat+b.toNat*f.toNat+19*(c.toNat*j.toNat)+19*(d.toNat*i.toNat)+19*(e.toNat*h.toNat)) (s2:=a.toNat*h.toNat+b.toNat*g.toNat+c.toNat*f.toNat+19*(d.toNat*j.toNat)+19*(e.toNat*i.toNat)) (s3:=a.toNat*i.toNat+b.toNat*h.toNat+c.toNat*g.toNat+d.toNat*f.toNat+19*(e.toNat*j.toNat)) (s4:=a.toNat*j.toNat+b.toNat*i.toNat+c.toNat*h.toNat+d.toNat*g.toNat+e.toNat*f.toNat) (by omega) (by omega) (by omega) (by omega) (by omega)
 rw[<-hv];rw[<-hA] at ho;have e1:aa8 [a,b,c,d,e] [f,g,h,i,j]=ae0 [x0+(BitVec.ofNat 64 (k.toNat*19)&&&mW),x1+BitVec.ofNat 64 (k.toNat*19/2251799813685248),x2,x3,x4]:=by
  unfold aa8;rw[ho];rfl
 have p1:(BitVec.ofNat 64 (k.toNat*19)&&&mW).toNat+2251799813685248*(BitVec.ofNat 64 (k.toNat*19/2251799813685248)).toNat=19*k.toNat/\(BitVec.ofNat 64 (k.toNat*19)&&&mW).toNat < 2251799813685248/\(BitVec.ofNat 64 (k.toNat*19/2251799813685248)).toNat < 20000:=by
  rw[bp4,aA8,aA8];simp only[Nat.reducePow];rw[Nat.mod_mod_of_dvd _ (by decide:2251799813685248∣18446744073709551616),aA7 (a:=k.toNat*19/2251799813685248) (aC9 ((cu5 (by decide)).2 (show k.toNat*19 < 20000*2251799813685248 by clear hv hA;omega)) (by decide))]
  refine⟨?_,cg3 _ (by decide),(cu5 (by decide)).2 (by clear hv hA;omega)⟩
  have:=Nat.mod_add_div (k.toNat*19) 2251799813685248;rw[this,bW0]
 generalize (BitVec.ofNat 64 (k.toNat*19)&&&mW)=u1 at*;generalize BitVec.ofNat 64 (k.toNat*19/2251799813685248)=u2 at*;have t1:=aD5 (x:=x0) (y:=u1) (by omega)
 have t2:=aD5 (x:=x1) (y:=u2) (by omega)
 have hc:=aR5 (bx6 (n:=1152921504606846976) (a:=x0+u1) (b:=x1+u2) (c:=x2) (d:=x3) (e:=x4) (by omega) (by omega) (by omega) (by omega) (by omega))
 rw[e1];refine⟨hc.1,?_⟩;rw[hc.2.1];have:x0.toNat+2251799813685248*(x1.toNat+2251799813685248*(x2.toNat+2251799813685248*(x3.toNat+2251799813685248*(x4.toNat+2251799813685248*k.toNat))))=ag1 [x0+u1,x1+u2,x2,x3,x4]+pF*k.toNat:=by
  simp only[ag1,pF,t1,t2];omega
 rw[this,ct9]
end Fe
end
section
namespace Fe
open Go V
theorem bM6(l:List W)(i:Nat):(ai0 l i).1.length=l.length:=by
 induction i with
 |zero=>rfl
 |succ i ih=>rw[ai0,List.length_set,ih]
theorem bf8(l:List W):(aY7 l).length=l.length:=by rw[aY7,List.length_set,bM6]
def bi4(l:List W):Nat->List W
 |0=>l
 |i+1=>aY7 (bi4 l i)
theorem dl6(l:List W)(i:Nat):(bi4 l i).length=l.length:=by
 induction i with
 |zero=>rfl
 |succ i ih=>rw[bi4,bf8,ih]
theorem ce8(x:W):IntKind.u64.wrap (((BitVec.ofInt IntKind.u64.bits (x.toNat:Int)&&&BitVec.ofInt IntKind.u64.bits 2251799813685247).toNat:Nat):Int)=((x&&&mW).toNat:Int):=by
 show IntKind.u64.wrap (((BitVec.ofInt 64 (x.toNat:Int)&&&mW).toNat:Nat):Int)=_
 rw[aq0,W64.bh6]
theorem ae3{m:List W}(h:m.length=5):af0 [.lit (.int .u64 0),.lit (.int .u64 0),.lit (.int .u64 0),.lit (.int .u64 0),.lit (.int .u64 0)] 0 (m.map (wAV .u64))=m.map (wAV .u64):=by
 rw[aA6 _ _ _ (by simp[h])]
 simp[h]
theorem aP3{n:Nat}{m:List W}:Low n (.agg (m.map (wAV .u64))):=.agg _ fun x hx=>by
 obtain⟨c,_,rfl⟩:=xq9.1 hx;exact .lit _
theorem dZ6{n:Nat}{m:List W}:Low n (.agg (m.map (wAV .u64)))=True:=eq_true aP3
theorem eg6{n:Nat}{m:List W}:Low n (.ip (.agg (m.map (wAV .u64))))=True:=eq_true (.ip _ fun x hx=>by
 obtain⟨c,_,rfl⟩:=xq9.1 hx;exact .lit _)
attribute [go_sem] dZ6 eg6
theorem bf7(l:List W)(H:List AObj)(hl:l.length=5):o9 Tryz.prog 161 [.agg (l.map (wAV .u64))] H (fun y H'=>y=.agg ((ae0 l).map (wAV .u64))/\H'=H):=by
 refine y7 [1] [.cell 2 94] 34 Tryz.func161 rfl rfl rfl rfl (nlb rfl) (by kernel_rfl) ?_
 repeat' first|refine o6 ?_|simp -dsimp -implicitDefEqProofs (disch:=first|assumption|omega|simp only[ll];omega) only[go_sem,ac4,hl]|refine vcJ ?_ ?_<;>intro _|refine vcA ?_ ?_;focus(repeat'(first|omega|assumption|refine vcA ?_ ?_);done)|omega|refine o7 (fun _=>?_)
 refine aa5 aa7 mixed [1] [1,2] (fun i:Nat=>i<=2) (fun i=>[(5,.lit (.int .i64 i))]) (fun i=>H++[.cells (.one 94) ((bi4 l i).map (wAV .u64)),.cells (.one 94) [.lit (.int .u64 0),.lit (.int .u64 0),.lit (.int .u64 0),.lit (.int .u64 0),.lit (.int .u64 0)]]) (fun i=>2 - i) (by kernel_rfl) ?_ 0 (by omega) y8 rfl
 intro i hi;have hpl:=dl6 l i;rw[hl] at hpl;have hnx:bi4 l (i+1)=aY7 (bi4 l i):=rfl;by_cases h:i < 2
 ·have hic:((i:Int) < 2)=True:=eq_true (by omega)
  generalize bi4 l i=m at*;repeat' first|refine o6 ?_|simp -dsimp -implicitDefEqProofs (disch:=first|assumption|omega|simp only[ll];omega) only[go_sem,hic]|refine vcJ ?_ ?_<;>intro _|refine vcA ?_ ?_;focus(repeat'(first|omega|assumption|refine vcA ?_ ?_);done)|omega|refine o7 (fun _=>?_)
  refine aa5 aa7 mixed [1] [1,2,5,6] (fun j:Nat=>j<=5) (fun j=>[(3,wAV .u64 (ai0 m j).2),(7,.lit (.int .i64 j))]) (fun j=>H++[.cells (.one 94) ((ai0 m j).1.map (wAV .u64)),.cells (.one 94) [.lit (.int .u64 0),.lit (.int .u64 0),.lit (.int .u64 0),.lit (.int .u64 0),.lit (.int .u64 0)]]) (fun j=>5 - j) (by kernel_rfl) ?_ 0 (by omega) y8 rfl
  intro j hj;have hcl:=bM6 m j;rw[hpl] at hcl;by_cases h5:j < 5
  ·have hjc:((j:Int) < 5)=True:=eq_true (by omega)
   have hg:=ac1 (K:=.u64) (m:=(ai0 m j).1) (i:=j) (by omega)
   have hn:ai0 m (j+1)=((ai0 m j).1.set j (((ai0 m j).1.getD j 0+(ai0 m j).2)&&&mW),((ai0 m j).1.getD j 0+(ai0 m j).2)>>>51):=rfl;have hgs: ∀x:AV,(((ai0 m j).1.map (wAV .u64)).set j x).getD j .any=x:=fun x=>by
    rw[List.getD,ay5 (by rw[List.length_map];omega)]
    rfl
   have hms: ∀x:W,((ai0 m j).1.map (wAV .u64)).set j (wAV .u64 x)=((ai0 m j).1.set j x).map (wAV .u64):=fun x=>by rw[ao7]
   have h51:=fun x:W=>(bP1 x).symm
   repeat' first|refine o6 ?_|simp -dsimp -implicitDefEqProofs (disch:=first|assumption|omega|simp only[ll];omega) only[go_sem,hjc,hcl,hg,hgs,ce8,h51]|refine vcJ ?_ ?_<;>intro _|refine vcA ?_ ?_;focus(repeat'(first|omega|assumption|refine vcA ?_ ?_);done)|omega|refine o7 (fun _=>?_)
   refine again (j+1) ?_ ?_ ?_ y8
   ·omega
   ·omega
   ·rw[hn,ao7]
  ·obtain rfl:j=5:=by omega
   have hgs: ∀x:AV,(((ai0 m 5).1.map (wAV .u64)).set 0 x).getD 0 .any=x:=fun x=>by
    rw[List.getD,ay5 (by rw[List.length_map];omega)]
    rfl
   have hg:=ac1 (K:=.u64) (m:=(ai0 m 5).1) (i:=0) (by omega)
   have h19: ∀x:W,IntKind.u64.wrap (19*(x.toNat:Int))=((19*x).toNat:Int):=fun x=>by
    rw[bz2];show IntKind.u64.wrap (19*(x.toNat:Int))=((19*x.toNat%2^64:Nat):Int)
    simp[IntKind.wrap,IntKind.signed,IntKind.bits]
   have hq:aY7 m=(ai0 m 5).1.set 0 ((ai0 m 5).1.getD 0 0+19*(ai0 m 5).2):=rfl;repeat' first|refine o6 ?_|simp -dsimp -implicitDefEqProofs (disch:=first|assumption|omega|simp only[ll];omega) only[go_sem,hcl,hg,hgs,h19]|refine vcJ ?_ ?_<;>intro _|refine vcA ?_ ?_;focus(repeat'(first|omega|assumption|refine vcA ?_ ?_);done)|omega|refine o7 (fun _=>?_)
   refine again (i+1) ?_ ?_ ?_ y8
   ·omega
   ·omega
   ·rw[hnx,hq,ao7]
 ·obtain rfl:i=2:=by omega
  have hT:ae0 l=bi4 l 2:=rfl;rw[hT];generalize bi4 l 2=m at*;have has:=ae3 hpl;have htk:(m.map (wAV .u64)).take 5=m.map (wAV .u64):=ak5 (by rw[List.length_map];omega)
  repeat' first|refine o6 ?_|simp -dsimp -implicitDefEqProofs (disch:=first|assumption|omega|simp only[ll];omega) only[go_sem,ac4,hpl,has,htk]|refine vcJ ?_ ?_<;>intro _|refine vcA ?_ ?_;focus(repeat'(first|omega|assumption|refine vcA ?_ ?_);done)|omega|refine o7 (fun _=>?_)
  exact aa3 (.agg (m.map (wAV .u64))) (Le.refl _) aP3 ⟨rfl,rfl⟩
theorem bm4(f:Nat->W)(l:List W)(i:Nat):(aw0 f l i).length=l.length:=by simp[aw0]
theorem bA1{f:Nat->W}{l:List W}{i:Nat}(j:Nat):(aw0 f l i)[j]?=if j < l.length then some (if j < i then f j else l.getD j 0) else none:=by
 unfold aw0;rw[ak6];by_cases h:j < l.length
 ·rw[aM3 h,if_pos h]
  rfl
 ·rw[av9 (by simp;omega),if_neg h]
  rfl
theorem cm4(f:Nat->W)(l:List W):aw0 f l 0=l:=by
 apply aV9
 intro j;rw[bA1];by_cases h:j < l.length
 ·rw[if_pos h,if_neg (by omega),List.getD,xq1 h]
  rfl
 ·rw[if_neg h,av9 (by omega)]
theorem cS4{f:Nat->W}{l:List W}{i:Nat}(h:i < l.length):(aw0 f l i).getD i 0=l.getD i 0:=by
 rw[List.getD,bA1,if_pos h,if_neg (by omega)]
 rfl
theorem cx8{f:Nat->W}{l:List W}{i:Nat}(h:i < l.length):(aw0 f l i).set i (f i)=aw0 f l (i+1):=by
 apply aV9
 intro j;rw[aZ4,bA1,bA1,bm4];by_cases h1:j < l.length
 ·rw[if_pos h1,if_pos h1]
  split
  ·rename_i e
   subst e;rw[if_pos (by omega)]
  ·rename_i e
   by_cases h3:j < i
   ·rw[if_pos h3,if_pos (by omega)]
   ·rw[if_neg h3,if_neg (by omega)]
 ·rw[if_neg h1,if_neg h1]
  split
  ·omega
  ·rfl
theorem aO5(l m:List W)(H:List AObj)(hl:l.length=5)(hm:m.length=5):o9 Tryz.prog 154 [.agg (l.map (wAV .u64)),.agg (m.map (wAV .u64))] H (fun y H'=>y=.agg ((aj1 l m).map (wAV .u64))/\H'=H):=by
 refine y7 [2,1000004] [.cell 4 94] 20 Tryz.func154 rfl rfl rfl rfl (nlb rfl) (by kernel_rfl) ?_
 repeat' first|refine o6 ?_|simp -dsimp -implicitDefEqProofs (disch:=first|assumption|omega|simp only[ll];omega) only[go_sem,ac4,hl,hm]|refine vcJ ?_ ?_<;>intro _|refine vcA ?_ ?_;focus(repeat'(first|omega|assumption|refine vcA ?_ ?_);done)|omega|refine o7 (fun _=>?_)
 refine aa5 aa7 mixed [2,1000004] [2,3,4] (fun i:Nat=>i<=5) (fun i=>[(6,.lit (.int .i64 i))]) (fun i=>H++[.cells (.one 94) ((aw0 (fun j=>l.getD j 0+m.getD j 0) l i).map (wAV .u64)),.cells (.one 94) [.lit (.int .u64 0),.lit (.int .u64 0),.lit (.int .u64 0),.lit (.int .u64 0),.lit (.int .u64 0)]]) (fun i=>5 - i) (by kernel_rfl) ?_ 0 (by omega) y8 (by rw[cm4])
 intro i hi;have hcl:=bm4 (fun j=>l.getD j 0+m.getD j 0) l i
 rw[hl] at hcl;by_cases h5:i < 5
 ·have hic:((i:Int) < 5)=True:=eq_true (by omega)
  have hu:=cS4 (f:=fun j=>l.getD j 0+m.getD j 0) (l:=l) (i:=i) (by omega)
  have hn:=cx8 (f:=fun j=>l.getD j 0+m.getD j 0) (l:=l) (i:=i) (by omega)
  generalize aw0 (fun j=>l.getD j 0+m.getD j 0) l i=u at*
  have hg:=ac1 (K:=.u64) (m:=u) (i:=i) (by omega)
  have hg2:=ac1 (K:=.u64) (m:=m) (i:=i) (by omega)
  rw[hu] at hg;repeat' first|refine o6 ?_|simp -dsimp -implicitDefEqProofs (disch:=first|assumption|omega|simp only[ll];omega) only[go_sem,hic,hcl,hg,hg2,hm]|refine vcJ ?_ ?_<;>intro _|refine vcA ?_ ?_;focus(repeat'(first|omega|assumption|refine vcA ?_ ?_);done)|omega|refine o7 (fun _=>?_)
  refine again (i+1) ?_ ?_ ?_ y8
  ·omega
  ·omega
  ·rw[<-hn,ao7]
 ·obtain rfl:i=5:=by omega
  have hc:=fun H=>bf7 (aw0 (fun j=>l.getD j 0+m.getD j 0) l 5) H hcl
  have hpl:(aj1 l m).length=5:=by unfold aj1 ae0;rw[bf8,bf8,hcl]
  have hq:ae0 (aw0 (fun j=>l.getD j 0+m.getD j 0) l 5)=aj1 l m:=rfl
  rw[hq] at hc;generalize aw0 (fun j=>l.getD j 0+m.getD j 0) l 5=u at*
  generalize aj1 l m=r at*;have has:=ae3 hpl;have htk:(r.map (wAV .u64)).take 5=r.map (wAV .u64):=ak5 (by rw[List.length_map];omega)
  have htu:(u.map (wAV .u64)).take 5=u.map (wAV .u64):=ak5 (by rw[List.length_map];omega)
  repeat' first|refine o6 ?_|simp -dsimp -implicitDefEqProofs (disch:=first|assumption|omega|simp only[ll];omega) only[go_sem,ac4,hpl,hcl,has,htk,htu]|refine o5 (hc _) ?_|refine vcJ ?_ ?_<;>intro _|refine vcA ?_ ?_;focus(repeat'(first|omega|assumption|refine vcA ?_ ?_);done)|omega|refine o7 (fun _=>?_)
  exact aa3 (.agg (r.map (wAV .u64))) (Le.refl _) aP3 ⟨rfl,rfl⟩
end Fe
end
section
namespace Fe
open Go V
theorem dU3(x y:W):IntKind.u64.wrap ((x.toNat:Int)*(y.toNat:Int))=((x*y).toNat:Int):=by
 rw[bz2];simp[IntKind.wrap,IntKind.signed,IntKind.bits]
theorem dR3(x:W):x.toNat/4294967296=(x>>>32).toNat:=by simp[aM1]
theorem en3(x:W):IntKind.u64.wrap (((BitVec.ofInt IntKind.u64.bits (x.toNat:Int)&&&BitVec.ofInt IntKind.u64.bits 4294967295).toNat:Nat):Int)=((x&&&4294967295#64).toNat:Int):=by
 show IntKind.u64.wrap (((BitVec.ofInt 64 (x.toNat:Int)&&&4294967295#64).toNat:Nat):Int)=_
 rw[aq0,W64.bh6]
def hiW(x y:W):W:=
 let t:=(x>>>32)*(y&&&4294967295#64)+((x&&&4294967295#64)*(y&&&4294967295#64))>>>32
 (x>>>32)*(y>>>32)+t>>>32+((t&&&4294967295#64)+(x&&&4294967295#64)*(y>>>32))>>>32
theorem bT0(x y:W)(H:List AObj):o9 Tryz.prog 160 [wAV .u64 x,wAV .u64 y] H (fun z H'=>z=.tup [wAV .u64 (hiW x y),wAV .u64 (x*y)]/\H'=H):=by
 refine y7 [] [.tmp 4,.tmp 5] 51 Tryz.func160 rfl rfl rfl rfl (nlb rfl) (by kernel_rfl) ?_
 repeat' first|refine o6 ?_|simp -dsimp -implicitDefEqProofs (disch:=first|assumption|omega|simp only[ll];omega) only[go_sem,dU3,dR3,en3]|refine vcJ ?_ ?_<;>intro _|refine vcA ?_ ?_;focus(repeat'(first|omega|assumption|refine vcA ?_ ?_);done)|omega|refine o7 (fun _=>?_)
 exact y5 ⟨rfl,rfl⟩
theorem cW0(x y:W):(hiW x y).toNat=x.toNat*y.toNat/18446744073709551616:=by
 have hx:=x.isLt;have hy:=y.isLt;have m32: ∀z:W,(z&&&4294967295#64).toNat=z.toNat%4294967296:=fun z=>by
  rw[cu9];exact cu8 z.toNat 32
 have s32: ∀z:W,(z>>>32).toNat=z.toNat/4294967296:=fun z=>(dR3 z).symm
 have e:x.toNat*y.toNat=18446744073709551616*((x.toNat/4294967296)*(y.toNat/4294967296))+4294967296*((x.toNat/4294967296)*(y.toNat%4294967296))+4294967296*((x.toNat%4294967296)*(y.toNat/4294967296))+(x.toNat%4294967296)*(y.toNat%4294967296):=by
  have h1:=Nat.mod_add_div x.toNat 4294967296;have h2:=Nat.mod_add_div y.toNat 4294967296;generalize x.toNat/4294967296=x1 at*;generalize y.toNat/4294967296=y1 at*;generalize x.toNat%4294967296=x0 at*;generalize y.toNat%4294967296=y0 at*;rw[<-h1,<-h2];grind
 have q: ∀{a b:Nat},a < 4294967296->b < 4294967296->a*b<=18446744065119617025:=fun {a b} ha hb=>ay6 (Nat.mul_le_mul (show a<=4294967295 by omega) (show b<=4294967295 by omega)) (by decide)
 have b1:=q (a:=x.toNat/4294967296) (b:=y.toNat/4294967296) (by omega) (by omega)
 have b2:=q (a:=x.toNat/4294967296) (b:=y.toNat%4294967296) (by omega) (by omega)
 have b3:=q (a:=x.toNat%4294967296) (b:=y.toNat/4294967296) (by omega) (by omega)
 have b4:=q (a:=x.toNat%4294967296) (b:=y.toNat%4294967296) (by omega) (by omega)
 unfold hiW;simp only[bO3,bz2,s32,m32,Nat.reducePow];rw[e];generalize (x.toNat/4294967296)*(y.toNat/4294967296)=A at*;generalize (x.toNat/4294967296)*(y.toNat%4294967296)=B at*;generalize (x.toNat%4294967296)*(y.toNat/4294967296)=C at*;generalize (x.toNat%4294967296)*(y.toNat%4294967296)=D at*;clear hx hy e m32 s32 q;rw[aA7 (a:=A) (by omega),aA7 (a:=B) (by omega),aA7 (a:=C) (by omega),aA7 (a:=D) (by omega),aA7 (a:=B+D/4294967296) (by omega)]
 omega
theorem cA0{G:Gh}{H:List AObj}{w:World}{x y z:AV}{vs:Array Value}(h:av8 G H w [x,y,z] vs): ∃v u t,vs= #[v,u,t]/\Rel G H w x v/\Rel G H w y u/\Rel G H w z t:=by
 obtain⟨hs,hr⟩:=h;obtain⟨l⟩:=vs;match l,hs with
 |[v,u,t],_=>exact⟨v,u,t,rfl,hr 0 x v rfl rfl,hr 1 y u rfl rfl,hr 2 z t rfl rfl⟩
theorem cY9(x y:W)(c:Nat)(H:List AObj)(hc:c<=1):o9 Tryz.prog 200 [wAV .u64 x,wAV .u64 y,.lit (.int .u64 (c:Int))] H (fun z H'=>z=.tup [wAV .u64 (BitVec.ofNat 64 (x.toNat+y.toNat+c)),.lit (.int .u64 (((x.toNat+y.toNat+c)/18446744073709551616:Nat):Int))]/\H'=H):=
 ay9 (e:=add64Entry) Tryz.func200 (by kernel_rfl) (by kernel_rfl) (by kernel_rfl) (by kernel_rfl) fun G w vs hi ha=>by
  obtain⟨v,u,t,rfl,hv,hu,ht⟩:=cA0 ha;rw[ab1 hv,ab1 hu,ab1 ht];refine⟨_,w,_,G,H,run_add64 _ _ _ (by omega) (by omega) (by omega) (by omega) w,hi,.refl _ _ _,?_,rfl,rfl⟩
  have e1:((x.toNat:Int)+(y.toNat:Int)+(c:Int))%18446744073709551616=((BitVec.ofNat 64 (x.toNat+y.toNat+c)).toNat:Int):=by
   rw[aA8];simp only[Nat.reducePow];omega
  have e2:((x.toNat:Int)+(y.toNat:Int)+(c:Int))/18446744073709551616=(((x.toNat+y.toNat+c)/18446744073709551616:Nat):Int):=by omega
  rw[e1,e2];refine .tup _ _ rfl fun j z v h1 h2=>?_
  match j,h1,h2 with
  |0,h1,h2=>cases h1;cases h2;exact .lit _
  |1,h1,h2=>cases h1;cases h2;exact .lit _
  |j+2,h1,_=>simp at h1
end Fe
end
section
namespace Fe
open Go V
def aB0(all:List Nat):List AV:=all.flatMap fun n=>[wAV .u64 (BitVec.ofNat 64 (n/18446744073709551616)),wAV .u64 (BitVec.ofNat 64 n)]
theorem et3{k off:Nat}{sh:Shape}{cs:List AV}{hi lo:W}{H:List AObj}(x y:W)(hk:H[k]?=some (.cells sh cs))(ho:off+1 < cs.length)(h1:cs.getD off .any=wAV .u64 hi)(h2:cs.getD (off+1) .any=wAV .u64 lo):
  o9 Tryz.prog 159 [.mp k off,wAV .u64 x,wAV .u64 y] H (fun z H'=>z=.tup []/\H'=H.set k (.cells sh ((cs.set (off+1) (wAV .u64 (BitVec.ofNat 64 (lo.toNat+(x*y).toNat)))).set off (wAV .u64 (hi+(hiW x y+BitVec.ofNat 64 ((lo.toNat+(x*y).toNat)/18446744073709551616))))))):=by
 have hkl:=y9 hk;have hM:=fun H=>bT0 x y H
 have hA:=fun H=>cY9 lo (x*y) 0 H (by omega)
 have hcw:(((lo.toNat+(x*y).toNat+0)/18446744073709551616:Nat):Int)=((BitVec.ofNat 64 ((lo.toNat+(x*y).toNat)/18446744073709551616)).toNat:Int):=by
  rw[aA8];have:=lo.isLt;have:=(x*y).isLt;simp only[Nat.reducePow];omega
 rw[hcw] at hA;have hgs: ∀z:AV,(cs.set (off+1) z).getD off .any=wAV .u64 hi:=fun z=>by
  rw[<-h1,List.getD,List.getD,ar5 (by omega)]
 refine y7 [] [] 37 Tryz.func159 rfl rfl rfl rfl (nlb rfl) (by kernel_rfl) ?_
 repeat' first|refine o6 ?_|simp -dsimp -implicitDefEqProofs (disch:=first|assumption|omega|simp only[ll];omega) only[go_sem,hk,h1,h2,hgs,av1]|refine o5 (hM _) ?_|refine o5 (hA _) ?_|refine vcJ ?_ ?_<;>intro _|refine vcA ?_ ?_;focus(repeat'(first|omega|assumption|refine vcA ?_ ?_);done)|omega|refine o7 (fun _=>?_)
 exact ad7 _ (Le.refl _) (by rw[List.length_set];exact xq0 _) ⟨rfl,rfl⟩
theorem dg5(all:List Nat):(aB0 all).length=2*all.length:=by
 unfold aB0;induction all with
 |nil=>rfl
 |cons n r ih=>rw[bO1,List.length_append,ih,List.length_cons];simp only[List.length_cons,List.length_nil];omega
theorem dR0{all:List Nat}{j:Nat}(h:j < all.length):(aB0 all).getD (2*j) .any=wAV .u64 (BitVec.ofNat 64 (all.getD j 0/18446744073709551616)):=by
 induction all generalizing j with
 |nil=>cases h
 |cons n r ih=>
  cases j with
  |zero=>rfl
  |succ j=>exact ih (by simpa using h)
theorem dQ9{all:List Nat}{j:Nat}(h:j < all.length):(aB0 all).getD (2*j+1) .any=wAV .u64 (BitVec.ofNat 64 (all.getD j 0)):=by
 induction all generalizing j with
 |nil=>cases h
 |cons n r ih=>
  cases j with
  |zero=>rfl
  |succ j=>exact ih (by simpa using h)
theorem d98{all:List Nat}{j n:Nat}(h:j < all.length):((aB0 all).set (2*j+1) (wAV .u64 (BitVec.ofNat 64 n))).set (2*j) (wAV .u64 (BitVec.ofNat 64 (n/18446744073709551616)))=aB0 (all.set j n):=by
 induction all generalizing j with
 |nil=>cases h
 |cons m r ih=>
  cases j with
  |zero=>rfl
  |succ j=>exact congrArg (fun t=>wAV .u64 (BitVec.ofNat 64 (m/18446744073709551616))::wAV .u64 (BitVec.ofNat 64 m)::t) (ih (j:=j) (by simpa using h))
theorem eo8{n:Nat}(x y:W)(hn:n < 340282366920938463463374607431768211456):BitVec.ofNat 64 ((BitVec.ofNat 64 n).toNat+(x*y).toNat)=BitVec.ofNat 64 (ah4 n x y)/\BitVec.ofNat 64 (n/18446744073709551616)+(hiW x y+BitVec.ofNat 64 (((BitVec.ofNat 64 n).toNat+(x*y).toNat)/18446744073709551616))=BitVec.ofNat 64 (ah4 n x y/18446744073709551616):=by
 have h1:=cW0 x y;have hp:x.toNat*y.toNat < 340282366920938463463374607431768211456:=cU1 (a:=18446744073709551616) (b:=18446744073709551616) x.isLt y.isLt;unfold ah4;constructor
 ·apply bs1
  simp only[aA8,bz2,Nat.reducePow];generalize x.toNat*y.toNat=P at*;omega
 ·apply bs1
  simp only[aA8,bz2,bO3,h1,Nat.reducePow];generalize x.toNat*y.toNat=P at*;omega
theorem df4{k:Nat}{sh:Shape}{all:List Nat}{H:List AObj}(x y:W)(j:Nat)(hk:H[k]?=some (.cells sh (aB0 all)))(hj:j < all.length)(ha:all.getD j 0 < 340282366920938463463374607431768211456):
  o9 Tryz.prog 159 [.mp k (2*j),wAV .u64 x,wAV .u64 y] H (fun z H'=>z=.tup []/\H'=H.set k (.cells sh (aB0 (all.set j (ah4 (all.getD j 0) x y))))):=by
 have h:=et3 (off:=2*j) x y hk (by rw[dg5];omega) (dR0 hj) (dQ9 hj)
 obtain⟨e1,e2⟩:=eo8 x y ha;rw[e1,e2,d98 hj] at h;exact h
end Fe
end
section
namespace Fe
open Go V
theorem bQ2{x y:Nat}(t:Nat)(h:x < 2^t):x|||2^t*y=x+2^t*y:=by
 rw[Nat.or_comm,<-b39 h,cg5]
theorem bR0{x y:W}(s t:Nat)(hs:s < 64)(ht:0 < t)(h:s+t=64):(x>>>s|||y<<<t).toNat=x.toNat/2^s+2^t*(y.toNat%2^s):=by
 have hx:x.toNat/2^s < 2^t:=by
  rw[cu5 (Nat.two_pow_pos s),<-Nat.pow_add,cg5,h];exact x.isLt
 have hy:(y<<<t).toNat=2^t*(y.toNat%2^s):=by
  have hp:(2:Nat)^64=2^t*2^s:=by rw[<-Nat.pow_add,cg5,h]
  rw[bs4,bs3,bW0,hp,Nat.mul_mod_mul_left]
 rw[BitVec.toNat_or,bz3,aM1,hy,bQ2 t hx]
end Fe
end
section
namespace Fe
open Go V
theorem t5{l:List W}(h:l.length=5):(l.map (wAV .u64)).take 5=l.map (wAV .u64):=ak5 (by rw[List.length_map];omega)
theorem ax7{l m:List W}(h:m.length=l.length):af0 (l.map (wAV .u64)) 0 (m.map (wAV .u64))=m.map (wAV .u64):=by
 rw[aA6 _ _ _ (by simp[h])]
 simp[h]
theorem ax0(l:List W):(ae0 l).length=l.length:=by unfold ae0;rw[bf8,bf8]
theorem cS5(x y:W):IntKind.u64.wrap ((x.toNat:Int) - (y.toNat:Int))=((x - y).toNat:Int):=by
 rw[BitVec.toNat_sub];have:=x.isLt;have:=y.isLt;simp only[IntKind.wrap,IntKind.signed,IntKind.bits,Nat.reducePow] at*;simp
 omega
theorem ea0(x:W):IntKind.u64.wrap ((x.toNat:Int)+9007199254740988)=((x+9007199254740988).toNat:Int):=W64.cS6 x 9007199254740988
theorem d99(x:W):IntKind.u64.wrap ((x.toNat:Int) - 72)=((x - 72).toNat:Int):=cS5 x 72
theorem aV5(l m:List W)(H:List AObj)(hl:l.length=5)(hm:m.length=5):o9 Tryz.prog 155 [.agg (l.map (wAV .u64)),.agg (m.map (wAV .u64))] H (fun y H'=>y=.agg ((ae5 l m).map (wAV .u64))/\H'=H):=by
 refine y7 [2,1000005] [.cell 4 94] 29 Tryz.func155 rfl rfl rfl rfl (nlb rfl) (by kernel_rfl) ?_
 repeat' first|refine o6 ?_|simp -dsimp -implicitDefEqProofs (disch:=first|assumption|omega|simp only[ll];omega) only[go_sem,ac4,hl,hm]|refine vcJ ?_ ?_<;>intro _|refine vcA ?_ ?_;focus(repeat'(first|omega|assumption|refine vcA ?_ ?_);done)|omega|refine o7 (fun _=>?_)
 refine aa5 aa7 mixed [2,1000005] [2,3,4] (fun i:Nat=>i<=5) (fun i=>[(6,.lit (.int .i64 i))]) (fun i=>H++[.cells (.one 94) ((aw0 (fun j=>l.getD j 0+9007199254740988 - m.getD j 0) l i).map (wAV .u64)),.cells (.one 94) [.lit (.int .u64 0),.lit (.int .u64 0),.lit (.int .u64 0),.lit (.int .u64 0),.lit (.int .u64 0)]]) (fun i=>5 - i) (by kernel_rfl) ?_ 0 (by omega) y8 (by rw[cm4])
 intro i hi;have hcl:=bm4 (fun j=>l.getD j 0+9007199254740988 - m.getD j 0) l i
 rw[hl] at hcl;by_cases h5:i < 5
 ·have hic:((i:Int) < 5)=True:=eq_true (by omega)
  have hu:=cS4 (f:=fun j=>l.getD j 0+9007199254740988 - m.getD j 0) (l:=l) (i:=i) (by omega)
  have hn:=cx8 (f:=fun j=>l.getD j 0+9007199254740988 - m.getD j 0) (l:=l) (i:=i) (by omega)
  generalize aw0 (fun j=>l.getD j 0+9007199254740988 - m.getD j 0) l i=u at*
  have hg:=ac1 (K:=.u64) (m:=u) (i:=i) (by omega)
  have hg2:=ac1 (K:=.u64) (m:=m) (i:=i) (by omega)
  rw[hu] at hg;have hgs: ∀x:AV,((u.map (wAV .u64)).set i x).getD i .any=x:=fun x=>by
   rw[List.getD,ay5 (by rw[List.length_map];omega)]
   rfl
  have hss: ∀x y:AV,((u.map (wAV .u64)).set i x).set i y=(u.map (wAV .u64)).set i y:=fun x y=>by rw[List.set_set]
  repeat' first|refine o6 ?_|simp -dsimp -implicitDefEqProofs (disch:=first|assumption|omega|simp only[ll];omega) only[go_sem,hic,hcl,hg,hg2,hm,hgs,hss,ea0,cS5]|refine vcJ ?_ ?_<;>intro _|refine vcA ?_ ?_;focus(repeat'(first|omega|assumption|refine vcA ?_ ?_);done)|omega|refine o7 (fun _=>?_)
  refine again (i+1) ?_ ?_ ?_ y8
  ·omega
  ·omega
  ·rw[<-hn,ao7]
 ·obtain rfl:i=5:=by omega
  have hg:=ac1 (K:=.u64) (m:=aw0 (fun j=>l.getD j 0+9007199254740988 - m.getD j 0) l 5) (i:=0) (by omega)
  have hc:=fun H=>bf7 ((aw0 (fun j=>l.getD j 0+9007199254740988 - m.getD j 0) l 5).set 0 ((aw0 (fun j=>l.getD j 0+9007199254740988 - m.getD j 0) l 5).getD 0 0 - 72)) H (by rw[List.length_set];exact hcl)
  have hpl:(ae5 l m).length=5:=by unfold ae5;rw[ax0,List.length_set,hcl]
  have hq:ae0 ((aw0 (fun j=>l.getD j 0+9007199254740988 - m.getD j 0) l 5).set 0 ((aw0 (fun j=>l.getD j 0+9007199254740988 - m.getD j 0) l 5).getD 0 0 - 72))=ae5 l m:=rfl
  rw[hq] at hc;generalize aw0 (fun j=>l.getD j 0+9007199254740988 - m.getD j 0) l 5=u at*
  generalize ae5 l m=r at*;have has:=ae3 hpl;have hsm: ∀x:W,(u.map (wAV .u64)).set 0 (wAV .u64 x)=(u.set 0 x).map (wAV .u64):=fun x=>by rw[ao7]
  have htu: ∀x,((u.set 0 x).map (wAV .u64)).take 5=(u.set 0 x).map (wAV .u64):=fun x=>t5 (by rw[List.length_set];exact hcl)
  repeat' first|refine o6 ?_|simp -dsimp -implicitDefEqProofs (disch:=first|assumption|omega|simp only[ll];omega) only[go_sem,ac4,hpl,hcl,hg,hsm,has,t5 hpl,htu,d99]|refine o5 (hc _) ?_|refine vcJ ?_ ?_<;>intro _|refine vcA ?_ ?_;focus(repeat'(first|omega|assumption|refine vcA ?_ ?_);done)|omega|refine o7 (fun _=>?_)
  exact aa3 (.agg (r.map (wAV .u64))) (Le.refl _) aP3 ⟨rfl,rfl⟩
theorem dS6(l m:List W)(n:Nat):(ar0 l m n).length=5:=by
 induction n with
 |zero=>rfl
 |succ n ih=>rw[ar0,bF3,List.length_set,ih]
theorem cS3(n:Nat)(x y:W):ah4 n x y < 340282366920938463463374607431768211456:=cg3 _ (by decide)
theorem cP6{l:List Nat}{b:Nat}(h: ∀j,l.getD j 0 < b){i x:Nat}(hx:x < b)(j:Nat):(l.set i x).getD j 0 < b:=by
 have:=h j;rw[List.getD] at this⊢;rw[aZ4];split
 ·split
  ·exact hx
  ·rename_i h1 h2
   subst h1;rw[av9 (by omega)] at this
   exact this
 ·exact this
theorem en9(l m:List W)(n:Nat): ∀j,(ar0 l m n).getD j 0 < 340282366920938463463374607431768211456:=by
 induction n with
 |zero=>
  intro j;have z:(0:Nat) < 340282366920938463463374607431768211456:=by decide
  match j with
  |0=>exact z
  |1=>exact z
  |2=>exact z
  |3=>exact z
  |4=>exact z
  |j+5=>exact z
 |succ n ih=>
  intro j;rw[ar0,bF3];exact cP6 ih (cS3 _ _ _) j
theorem d78(l m:List W){i k:Nat}(hk:k < 5)(h:i+k < 5):ar0 l m (5*i+(k+1))=(ar0 l m (5*i+k)).set (i+k) (ah4 ((ar0 l m (5*i+k)).getD (i+k) 0) (l.getD i 0) (m.getD k 0)):=by
 show bF3 l m (5*i+k) (ar0 l m (5*i+k))=_
 unfold bF3;rw[show (5*i+k)/5=i by omega,show (5*i+k)%5=k by omega,if_pos h,show (i+k)%5=i+k by omega]
theorem d77(l m:List W){i k:Nat}(hi:i < 5)(hk:k < 5)(h: ¬i+k < 5):ar0 l m (5*i+(k+1))=(ar0 l m (5*i+k)).set (i+k - 5) (ah4 ((ar0 l m (5*i+k)).getD (i+k - 5) 0) (l.getD i 0) (19*m.getD k 0)):=by
 show bF3 l m (5*i+k) (ar0 l m (5*i+k))=_
 unfold bF3;rw[show (5*i+k)/5=i by omega,show (5*i+k)%5=k by omega,if_neg h,show (i+k)%5=i+k - 5 by omega]
def aI2(A:List Nat):Nat->List Nat
 |0=>A
 |i+1=>(aI2 A i).set i (bn7 A (an3 A i).2 i)
theorem b57(A:List Nat)(i:Nat):(aI2 A i).length=A.length:=by
 induction i with
 |zero=>rfl
 |succ i ih=>rw[aI2,List.length_set,ih]
theorem ep0(A:List Nat)(i:Nat): ∀j,i<=j->(aI2 A i).getD j 0=A.getD j 0:=by
 induction i with
 |zero=>intro j _;rfl
 |succ i ih=>
  intro j hj;rw[aI2,List.getD,ar5 (by omega)]
  exact ih j (by omega)
theorem dn5(A:List Nat)(i:Nat):(an3 A i).1.length=5:=by
 induction i with
 |zero=>rfl
 |succ i ih=>rw[an3,List.length_set,ih]
theorem ei2{n:Nat}(h:n < 340282366920938463463374607431768211456):BitVec.ofNat 64 (n/18446744073709551616)<<<13|||BitVec.ofNat 64 n>>>51=(BitVec.ofNat 64 (n/2251799813685248):W):=by
 apply bs1
 rw[BitVec.or_comm,bR0 51 13 (by decide) (by decide) rfl]
 simp only[aA8,Nat.reducePow];omega
theorem c66(x:W):IntKind.u64.wrap ((x.toNat:Int)*8192)=((x<<<13).toNat:Int):=by
 rw[bs4,bs3];simp[IntKind.wrap,IntKind.signed,IntKind.bits]
theorem as3(l m:List W)(H:List AObj)(hl:l.length=5)(hm:m.length=5):o9 Tryz.prog 103 [.agg (l.map (wAV .u64)),.agg (m.map (wAV .u64))] H (fun y H'=>y=.agg ((aa8 l m).map (wAV .u64))/\H'=H):=by
 have h19: ∀x:W,IntKind.u64.wrap (19*(x.toNat:Int))=((19*x).toNat:Int):=fun x=>by
  rw[bz2];show IntKind.u64.wrap (19*(x.toNat:Int))=((19*x.toNat%2^64:Nat):Int)
  simp[IntKind.wrap,IntKind.signed,IntKind.bits]
 have h51:=fun x:W=>(bP1 x).symm
 have hat: ∀(o1 o2:AObj),(H++[o1,o2])[H.length+1]?=some o2:=fun o1 o2=>by rw[az9];rfl
 have hst: ∀(o1 o2 x:AObj),(H++[o1,o2]).set (H.length+1) x=H++[o1,x]:=fun o1 o2 x=>by rw[aY0];rfl
 have hat3: ∀(o1 o2 o3:AObj),(H++[o1,o2,o3])[H.length+1]?=some o2:=fun o1 o2 o3=>by rw[az9];rfl
 have hst3: ∀(o1 o2 o3 x:AObj),(H++[o1,o2,o3]).set (H.length+1) x=H++[o1,x,o3]:=fun o1 o2 o3 x=>by rw[aY0];rfl
 refine y7 [1000020] [.cell 4 94] 95 Tryz.func103 rfl rfl rfl rfl (nlb rfl) (by kernel_rfl) ?_
 repeat' first|refine o6 ?_|simp -dsimp -implicitDefEqProofs (disch:=first|assumption|omega|simp only[ll];omega) only[go_sem,ac4,hl,hm]|refine vcJ ?_ ?_<;>intro _|refine vcA ?_ ?_;focus(repeat'(first|omega|assumption|refine vcA ?_ ?_);done)|omega|refine o7 (fun _=>?_)
 refine aa5 aa7 mixed [1000020] [3,4,5,15] (fun i:Nat=>i<=5) (fun i=>[(16,.lit (.int .i64 i))]) (fun i=>H++[.cells (.one 94) [.lit (.int .u64 0),.lit (.int .u64 0),.lit (.int .u64 0),.lit (.int .u64 0),.lit (.int .u64 0)],.cells (.one 184) (aB0 (ar0 l m (5*i)))]) (fun i=>5 - i) (by kernel_rfl) ?_ 0 (by omega) y8 rfl
 intro i hi;by_cases h5:i < 5
 ·have hic:((i:Int) < 5)=True:=eq_true (by omega)
  have hg:=ac1 (K:=.u64) (m:=l) (i:=i) (by omega)
  repeat' first|refine o6 ?_|simp -dsimp -implicitDefEqProofs (disch:=first|assumption|omega|simp only[ll];omega) only[go_sem,hic,hg,hl,hm,ac4]|refine vcJ ?_ ?_<;>intro _|refine vcA ?_ ?_;focus(repeat'(first|omega|assumption|refine vcA ?_ ?_);done)|omega|refine o7 (fun _=>?_)
  refine aa5 aa7 mixed [1000020] [3,4,5,6,7,15,16,17,18,19,20] (fun k:Nat=>k<=5) (fun k=>[(21,.lit (.int .i64 k))]) (fun k=>H++[.cells (.one 94) [.lit (.int .u64 0),.lit (.int .u64 0),.lit (.int .u64 0),.lit (.int .u64 0),.lit (.int .u64 0)],.cells (.one 184) (aB0 (ar0 l m (5*i+k)))]) (fun k=>5 - k) (by kernel_rfl) ?_ 0 (by omega) y8 rfl
  intro k hk;have hal:=dS6 l m (5*i+k);have hlt:=en9 l m (5*i+k);by_cases hk5:k < 5
  ·have hkc:((k:Int) < 5)=True:=eq_true (by omega)
   have hg2:=ac1 (K:=.u64) (m:=m) (i:=k) (by omega)
   by_cases hs:i+k < 5
   ·have hsc:((i:Int)+(k:Int) < 5)=True:=eq_true (by omega)
    have hik:((i:Int)+(k:Int)).toNat*2=2*(i+k):=by omega
    have hn:=d78 l m hk5 hs;generalize ar0 l m (5*i+k)=A at*;have hA:=fun o1=>df4 (sh:=.one 184) (l.getD i 0) (m.getD k 0) (i+k) (hat o1 (.cells (.one 184) (aB0 A))) (by omega) (hlt _)
    rw[<-hn] at hA;repeat' first|refine o6 ?_|simp -dsimp -implicitDefEqProofs (disch:=first|assumption|omega|simp only[ll];omega) only[go_sem,hkc,hsc,hg2,hm,hik,hst]|refine o5 (hA _) ?_|refine vcJ ?_ ?_<;>intro _|refine vcA ?_ ?_;focus(repeat'(first|omega|assumption|refine vcA ?_ ?_);done)|omega|refine o7 (fun _=>?_)
    refine again (k+1) ?_ ?_ rfl y8
    ·omega
    ·omega
   ·have hsc:((i:Int)+(k:Int) < 5)=False:=eq_false (by omega)
    have hik:((i:Int)+(k:Int) - 5).toNat*2=2*(i+k - 5):=by omega
    have hn:=d77 l m h5 hk5 hs;generalize ar0 l m (5*i+k)=A at*;have hA:=fun o1=>df4 (sh:=.one 184) (l.getD i 0) (19*m.getD k 0) (i+k - 5) (hat o1 (.cells (.one 184) (aB0 A))) (by omega) (hlt _)
    rw[<-hn] at hA;repeat' first|refine o6 ?_|simp -dsimp -implicitDefEqProofs (disch:=first|assumption|omega|simp only[ll];omega) only[go_sem,hkc,hsc,hg2,hm,hik,h19,hst]|refine o5 (hA _) ?_|refine vcJ ?_ ?_<;>intro _|refine vcA ?_ ?_;focus(repeat'(first|omega|assumption|refine vcA ?_ ?_);done)|omega|refine o7 (fun _=>?_)
    refine again (k+1) ?_ ?_ rfl y8
    ·omega
    ·omega
  ·obtain rfl:k=5:=by omega
   repeat' first|refine o6 ?_|simp -dsimp -implicitDefEqProofs (disch:=first|assumption|omega|simp only[ll];omega) only[go_sem]|refine vcJ ?_ ?_<;>intro _|refine vcA ?_ ?_;focus(repeat'(first|omega|assumption|refine vcA ?_ ?_);done)|omega|refine o7 (fun _=>?_)
   refine again (i+1) ?_ ?_ rfl y8
   ·omega
   ·omega
 ·obtain rfl:i=5:=by omega
  have hal:=dS6 l m 25;have hlt:=en9 l m 25;have ht:aa8 l m=ae0 (((an3 (ar0 l m 25) 5).1.set 0 ((an3 (ar0 l m 25) 5).1.getD 0 0+(BitVec.ofNat 64 ((an3 (ar0 l m 25) 5).2.toNat*19)&&&mW))).set 1 ((an3 (ar0 l m 25) 5).1.getD 1 0+BitVec.ofNat 64 ((an3 (ar0 l m 25) 5).2.toNat*19/2251799813685248))):=rfl;rw[ht];rw[show 5*5=25 from rfl]
  generalize ar0 l m 25=A at*;repeat' first|refine o6 ?_|simp -dsimp -implicitDefEqProofs (disch:=first|assumption|omega|simp only[ll];omega) only[go_sem]|refine vcJ ?_ ?_<;>intro _|refine vcA ?_ ?_;focus(repeat'(first|omega|assumption|refine vcA ?_ ?_);done)|omega|refine o7 (fun _=>?_)
  refine aa5 aa7 mixed [1000020] [4,5,10] (fun i:Nat=>i<=5) (fun i=>[(47,.lit (.int .i64 i)),(11,wAV .u64 (an3 A i).2)]) (fun i=>H++[.cells (.one 94) [.lit (.int .u64 0),.lit (.int .u64 0),.lit (.int .u64 0),.lit (.int .u64 0),.lit (.int .u64 0)],.cells (.one 184) (aB0 (aI2 A i)),.cells (.one 94) ((an3 A i).1.map (wAV .u64))]) (fun i=>5 - i) (by kernel_rfl) ?_ 0 (by omega) y8 rfl
  intro i hi;have htl:=b57 A i;have hol:=dn5 A i;rw[hal] at htl;by_cases hi5:i < 5
  ·have hic:((i:Int) < 5)=True:=eq_true (by omega)
   have hi2:(i:Int).toNat*2=2*i:=by omega
   have hi3:i*2=2*i:=by omega
   have hta:=ep0 A i i (xq0 _);have hn:aI2 A (i+1)=(aI2 A i).set i (bn7 A (an3 A i).2 i):=rfl;have hn2:an3 A (i+1)=((an3 A i).1.set i (BitVec.ofNat 64 (bn7 A (an3 A i).2 i)&&&mW),BitVec.ofNat 64 (bn7 A (an3 A i).2 i/2251799813685248)):=rfl;have hol2:bn7 A (an3 A i).2 i=ah4 (A.getD i 0) (an3 A i).2 1:=rfl;have hol3:bn7 A (an3 A i).2 i < 340282366920938463463374607431768211456:=cS3 _ _ _;have hA:=fun o1 o3=>df4 (sh:=.one 184) (an3 A i).2 1 i (hat3 o1 (.cells (.one 184) (aB0 (aI2 A i))) o3) (by omega) (by rw[hta];exact hlt _)
   rw[hta,<-hol2,<-hn] at hA;have w1:(aB0 (aI2 A (i+1))).getD (2*i+0) .any=_:=dR0 (all:=aI2 A (i+1)) (j:=i) (by rw[b57];omega)
   have w2:=dQ9 (all:=aI2 A (i+1)) (j:=i) (by rw[b57];omega)
   have hgt:(aI2 A (i+1)).getD i 0=bn7 A (an3 A i).2 i:=by rw[hn,List.getD,ay5 (by omega)];rfl
   rw[hgt] at w1 w2;have hhl:=(ei2 hol3).trans (show BitVec.ofNat 64 (bn7 A (an3 A i).2 i/2251799813685248)=(an3 A (i+1)).2 by rw[hn2])
   have hcl:=dg5 (aI2 A (i+1));rw[b57,hal] at hcl;generalize hT:aI2 A (i+1)=T at*;generalize bn7 A (an3 A i).2 i=t at*;generalize an3 A i=o at*;repeat' first|refine o6 ?_|simp -dsimp -implicitDefEqProofs (disch:=first|assumption|omega|simp only[ll];omega) only[go_sem,hic,hi2,hi3,hst3,hcl,w1,w2,hol,c66,h51,ce8]|refine o5 (hA _ _) ?_|refine vcJ ?_ ?_<;>intro _|refine vcA ?_ ?_;focus(repeat'(first|omega|assumption|refine vcA ?_ ?_);done)|omega|refine o7 (fun _=>?_)
   rw[hhl];refine again (i+1) ?_ ?_ ?_ y8
   ·omega
   ·omega
   ·rw[hn2,hT,ao7]
  ·obtain rfl:i=5:=by omega
   generalize an3 A 5=o at*;have hM: ∀H,o9 Tryz.prog 160 [wAV .u64 o.2,.lit (.int .u64 19)] H (fun z H'=>z=.tup [wAV .u64 (hiW o.2 19),wAV .u64 (o.2*19)]/\H'=H):=fun H=>bT0 o.2 19 H
   have g0:=ac1 (K:=.u64) (m:=o.1) (i:=0) (by omega)
   have hsm: ∀(j:Nat) (q:List W) (x:W),(q.map (wAV .u64)).set j (wAV .u64 x)=(q.set j x).map (wAV .u64):=fun j q x=>by rw[ao7]
   have g1: ∀x,((o.1.set 0 x).map (wAV .u64)).getD 1 .any=wAV .u64 (o.1.getD 1 0):=fun x=>by
    rw[ac1 (by rw[List.length_set];omega),List.getD,ar5 (by omega)]
    rfl
   have hv0:o.2*19=BitVec.ofNat 64 (o.2.toNat*19):=by
    apply bs1
    rw[bz2,aA8];rfl
   have hv1:(o.2*19&&&mW)=(BitVec.ofNat 64 (o.2.toNat*19)&&&mW):=by rw[hv0]
   have hv2:hiW o.2 19<<<13|||(o.2*19)>>>51=BitVec.ofNat 64 (o.2.toNat*19/2251799813685248):=by
    have hh:hiW o.2 19=BitVec.ofNat 64 (o.2.toNat*19/18446744073709551616):=by
     apply bs1
     rw[cW0,aA8];have:=o.2.isLt;show o.2.toNat*19/_=_
     omega
    rw[hh,hv0];refine ei2 ?_;have:=o.2.isLt;omega
   have hcl:(ae0 ((o.1.set 0 (o.1.getD 0 0+(BitVec.ofNat 64 (o.2.toNat*19)&&&mW))).set 1 (o.1.getD 1 0+BitVec.ofNat 64 (o.2.toNat*19/2251799813685248)))).length=5:=by rw[ax0,List.length_set,List.length_set,hol]
   have hc:=fun H=>bf7 ((o.1.set 0 (o.1.getD 0 0+(BitVec.ofNat 64 (o.2.toNat*19)&&&mW))).set 1 (o.1.getD 1 0+BitVec.ofNat 64 (o.2.toNat*19/2251799813685248))) H (by rw[List.length_set,List.length_set,hol])
   have hll:((o.1.set 0 (o.1.getD 0 0+(BitVec.ofNat 64 (o.2.toNat*19)&&&mW))).set 1 (o.1.getD 1 0+BitVec.ofNat 64 (o.2.toNat*19/2251799813685248))).length=5:=by rw[List.length_set,List.length_set,hol]
   have has:=ae3 hcl;have ht1:=t5 hcl;have ht2:=t5 hll;generalize ae0 ((o.1.set 0 (o.1.getD 0 0+(BitVec.ofNat 64 (o.2.toNat*19)&&&mW))).set 1 (o.1.getD 1 0+BitVec.ofNat 64 (o.2.toNat*19/2251799813685248)))=r at*;repeat' first|refine o6 ?_|simp -dsimp -implicitDefEqProofs (disch:=first|assumption|omega|simp only[ll];omega) only[go_sem,hol,ce8,c66,h51,g0,g1,hsm,hv1,hv2,ac4,hcl,has,ht1,ht2]|refine o5 (hM _) ?_|refine o5 (hc _) ?_|refine vcJ ?_ ?_<;>intro _|refine vcA ?_ ?_;focus(repeat'(first|omega|assumption|refine vcA ?_ ?_);done)|omega|refine o7 (fun _=>?_)
   exact aa3 (.agg (r.map (wAV .u64))) (Le.refl _) aP3 ⟨rfl,rfl⟩
end Fe
end
section
namespace Fe
open Go V
def leN(n v:Nat):List UInt8:=(List.range n).map fun i=>UInt8.ofNat (v/256^i)
def leV:List UInt8->Nat
 |[]=>0
 |b::l=>b.toNat+256*leV l
def bF1(l:List W):Nat->W
 |0=>19
 |i+1=>(l.getD i 0+bF1 l i)>>>51
def dB1(l:List W):List W:=(ai0 ((ae0 l).set 0 ((ae0 l).getD 0 0+19*bF1 (ae0 l) 5)) 5).1
def piece(x:W)(i k:Nat):UInt8:=UInt8.ofNat (if 8*k < 51*i%8 then(x<<<(51*i%8 - 8*k)).toNat else(x>>>(8*k - 51*i%8)).toNat)
def bw9(r:List W)(n:Nat)(o:List UInt8):List UInt8:=if 31 < 51*(n/8)/8+n%8 then o else o.set (51*(n/8)/8+n%8) (o.getD (51*(n/8)/8+n%8) 0|||piece (r.getD (n/8) 0) (n/8) (n%8))
def am7(r:List W):Nat->List UInt8
 |0=>List.replicate 32 0
 |n+1=>bw9 r n (am7 r n)
def ak2(l:List W):List UInt8:=am7 (dB1 l) 40
theorem bm5{x q:W}(hx:x.toNat < 1152921504606846976)(hq:q.toNat < 1048576):((x+q)>>>51).toNat=(x.toNat+q.toNat)/2251799813685248:=by
 rw[bP1,aD5 (by omega)]
theorem dV5{l:List W}(h:Lim 1152921504606846976 l): ∃a b c d e,dB1 l=[a,b,c,d,e]/\a.toNat < 2251799813685248/\b.toNat < 2251799813685248/\c.toNat < 2251799813685248/\d.toNat < 2251799813685248/\e.toNat < 2251799813685248/\ag1 [a,b,c,d,e]=ag1 l%pF:=by
 obtain⟨hl,hv,hp⟩:=aR5 h;unfold dB1;rw[<-hv];clear hv;generalize ae0 l=m at*;obtain⟨a,b,c,d,e,rfl,ha,hb,hc,hd,he⟩:=bK6 hl;have h19:(19:W).toNat=19:=rfl;have t1:=bm5 (x:=a) (q:=19) (by omega) (by omega)
 have t2:=bm5 (x:=b) (q:=(a+19)>>>51) (by omega) (by omega)
 have t3:=bm5 (x:=c) (q:=(b+(a+19)>>>51)>>>51) (by omega) (by omega)
 have t4:=bm5 (x:=d) (q:=(c+(b+(a+19)>>>51)>>>51)>>>51) (by omega) (by omega)
 have t5:=bm5 (x:=e) (q:=(d+(c+(b+(a+19)>>>51)>>>51)>>>51)>>>51) (by omega) (by omega)
 have hT:bF1 [a,b,c,d,e] 5=(e+(d+(c+(b+(a+19)>>>51)>>>51)>>>51)>>>51)>>>51:=rfl;rw[hT];have hq:((e+(d+(c+(b+(a+19)>>>51)>>>51)>>>51)>>>51)>>>51).toNat=(ag1 [a,b,c,d,e]+19)/57896044618658097711785492504343953926634992332820282019728792003956564819968:=by
  simp only[ag1];omega
 clear t1 t2 t3 t4 t5 hT;generalize (e+(d+(c+(b+(a+19)>>>51)>>>51)>>>51)>>>51)>>>51=q at*;have hp2:pF=57896044618658097711785492504343953926634992332820282019728792003956564819949:=rfl;have hq1:q.toNat<=1:=by omega
 have hm:=bQ7 (x:=q) (by omega)
 have hs:=aD5 (x:=a) (y:=19*q) (by omega)
 have hS:([a,b,c,d,e].set 0 ([a,b,c,d,e].getD 0 0+19*q))=[a+19*q,b,c,d,e]:=rfl;rw[hS];have hP: ∃q1 q2 q3 q4 q5 x1 x2 x3 x4 x5:W,(ai0 [a+19*q,b,c,d,e] 5).1=[x1,x2,x3,x4,x5]/\x1.toNat+2251799813685248*q1.toNat=(a+19*q).toNat/\x1.toNat < 2251799813685248/\x2.toNat+2251799813685248*q2.toNat=b.toNat+q1.toNat/\x2.toNat < 2251799813685248/\x3.toNat+2251799813685248*q3.toNat=c.toNat+q2.toNat/\x3.toNat < 2251799813685248/\x4.toNat+2251799813685248*q4.toNat=d.toNat+q3.toNat/\x4.toNat < 2251799813685248/\x5.toNat+2251799813685248*q5.toNat=e.toNat+q4.toNat/\x5.toNat < 2251799813685248:=by
  have h0:(0:W).toNat=0:=rfl;obtain⟨a1,a2,a3⟩:=digit (x:=a+19*q) (q:=0) (by omega) (by decide)
  rw[h0] at a1;obtain⟨b1,b2,b3⟩:=digit (x:=b) (q:=(a+19*q+0)>>>51) (by omega) (by omega)
  obtain⟨c1,c2,c3⟩:=digit (x:=c) (q:=(b+(a+19*q+0)>>>51)>>>51) (by omega) (by omega)
  obtain⟨d1,d2,d3⟩:=digit (x:=d) (q:=(c+(b+(a+19*q+0)>>>51)>>>51)>>>51) (by omega) (by omega)
  obtain⟨e1,e2,e3⟩:=digit (x:=e) (q:=(d+(c+(b+(a+19*q+0)>>>51)>>>51)>>>51)>>>51) (by omega) (by omega)
  exact⟨_,_,_,_,_,_,_,_,_,_,rfl,a1,a2,b1,b2,c1,c2,d1,d2,e1,e2⟩
 obtain⟨q1,q2,q3,q4,q5,x1,x2,x3,x4,x5,h0,a1,a2,b1,b2,c1,c2,d1,d2,e1,e2⟩:=hP;refine⟨_,_,_,_,_,h0,a2,b2,c2,d2,e2,?_⟩;rw[hs,hm] at a1;have hV:ag1 [x1,x2,x3,x4,x5]+57896044618658097711785492504343953926634992332820282019728792003956564819968*q5.toNat=ag1 [a,b,c,d,e]+19*q.toNat:=by
  simp only[ag1];omega
 have hB:ag1 [x1,x2,x3,x4,x5] < 57896044618658097711785492504343953926634992332820282019728792003956564819968:=by
  simp only[ag1];omega
 generalize ag1 [x1,x2,x3,x4,x5]=V at*;generalize ag1 [a,b,c,d,e]=U at*;rw[hp2] at hp⊢;clear ha hb hc hd he hm hs a1 a2 b1 b2 c1 c2 d1 d2 e1 e2 h0 hS h19 hp2 hl;have hq5:q5.toNat=q.toNat:=by omega
 have hq2:q.toNat=0\/q.toNat=1:=by omega
 rcases hq2 with h|h<;>rw[h] at hq hV hq5<;>rw[hq5] at hV<;>omega
theorem af2{x:W}{i k:Nat}(h:51*i%8<=8*k):(piece x i k).toNat=x.toNat/2^(8*k - 51*i%8)%256:=by
 unfold piece;rw[if_neg (by omega),bz3,aM1]
 simp
theorem bP8{x:W}{i:Nat}(h:0 < 51*i%8):(piece x i 0).toNat=x.toNat*2^(51*i%8)%256:=by
 unfold piece;rw[if_pos (by omega),bs4,bs3]
 simp only[UInt8.toNat_ofNat',Nat.mul_zero,aV8];rw[Nat.mod_mod_of_dvd _ (by decide)]
theorem bi6(a b:UInt8):(a|||b).toNat=a.toNat|||b.toNat:=UInt8.toNat_or a b
theorem zero_or(a:UInt8):0|||a=a:=by simp
theorem dW4(a b c d e:W):am7 [a,b,c,d,e] 40=[(0|||piece a 0 0),(0|||piece a 0 1),(0|||piece a 0 2),(0|||piece a 0 3),(0|||piece a 0 4),(0|||piece a 0 5),((0|||piece a 0 6)|||piece b 1 0),((0|||piece a 0 7)|||piece b 1 1),(0|||piece b 1 2),(0|||piece b 1 3),(0|||piece b 1 4),(0|||piece b 1 5),((0|||piece b 1 6)|||piece c 2 0),((0|||piece b 1 7)|||piece c 2 1),(0|||piece c 2 2),(0|||piece c 2 3),(0|||piece c 2 4),(0|||piece c 2 5),(0|||piece c 2 6),((0|||piece c 2 7)|||piece d 3 0),(0|||piece d 3 1),(0|||piece d 3 2),(0|||piece d 3 3),(0|||piece d 3 4),(0|||piece d 3 5),((0|||piece d 3 6)|||piece e 4 0),((0|||piece d 3 7)|||piece e 4 1),(0|||piece e 4 2),(0|||piece e 4 3),(0|||piece e 4 4),(0|||piece e 4 5),(0|||piece e 4 6)]:=by kernel_rfl
theorem d09(v:Nat):leN 32 v=[UInt8.ofNat (v/256^0),UInt8.ofNat (v/256^1),UInt8.ofNat (v/256^2),UInt8.ofNat (v/256^3),UInt8.ofNat (v/256^4),UInt8.ofNat (v/256^5),UInt8.ofNat (v/256^6),UInt8.ofNat (v/256^7),UInt8.ofNat (v/256^8),UInt8.ofNat (v/256^9),UInt8.ofNat (v/256^10),UInt8.ofNat (v/256^11),UInt8.ofNat (v/256^12),UInt8.ofNat (v/256^13),UInt8.ofNat (v/256^14),UInt8.ofNat (v/256^15),UInt8.ofNat (v/256^16),UInt8.ofNat (v/256^17),UInt8.ofNat (v/256^18),UInt8.ofNat (v/256^19),UInt8.ofNat (v/256^20),UInt8.ofNat (v/256^21),UInt8.ofNat (v/256^22),UInt8.ofNat (v/256^23),UInt8.ofNat (v/256^24),UInt8.ofNat (v/256^25),UInt8.ofNat (v/256^26),UInt8.ofNat (v/256^27),UInt8.ofNat (v/256^28),UInt8.ofNat (v/256^29),UInt8.ofNat (v/256^30),UInt8.ofNat (v/256^31)]:=by kernel_rfl
theorem al6{a:UInt8}{n:Nat}(h:a.toNat=n%256):a=UInt8.ofNat n:=by
 apply cf5.1
 rw[h];simp
theorem af5{a R m:Nat}(ha:a < 2251799813685248):(a+2251799813685248*R)/(2251799813685248*m)=R/m:=by
 rw[<-cZ2,Nat.add_mul_div_left _ _ (by decide),b42 ha,Nat.zero_add]
theorem dW3{a b c d e:W}(ha:a.toNat < 2251799813685248)(hb:b.toNat < 2251799813685248)(hc:c.toNat < 2251799813685248)(hd:d.toNat < 2251799813685248)(he:e.toNat < 2251799813685248):am7 [a,b,c,d,e] 40=leN 32 (ag1 [a,b,c,d,e]):=by
 rw[dW4,d09];have hV:ag1 [a,b,c,d,e]=a.toNat+2251799813685248*(b.toNat+2251799813685248*(c.toNat+2251799813685248*(d.toNat+2251799813685248*e.toNat))):=by simp only[ag1];omega
 rw[hV];have g0:(0|||piece a 0 0)=UInt8.ofNat ((a.toNat+2251799813685248*(b.toNat+2251799813685248*(c.toNat+2251799813685248*(d.toNat+2251799813685248*e.toNat))))/256^0):=by
  apply al6
  have p0:=af2 (x:=a) (i:=0) (k:=0) (by decide)
  simp only[Nat.reduceMul,Nat.reduceMod,Nat.reduceSub,Nat.reducePow] at p0;rw[zero_or];rw[p0];clear p0;rw[show (256:Nat)^0=1 from rfl]
  generalize c.toNat+2251799813685248*(d.toNat+2251799813685248*e.toNat)=R;all_goals omega
 have g1:(0|||piece a 0 1)=UInt8.ofNat ((a.toNat+2251799813685248*(b.toNat+2251799813685248*(c.toNat+2251799813685248*(d.toNat+2251799813685248*e.toNat))))/256^1):=by
  apply al6
  have p0:=af2 (x:=a) (i:=0) (k:=1) (by decide)
  simp only[Nat.reduceMul,Nat.reduceMod,Nat.reduceSub,Nat.reducePow] at p0;rw[zero_or];rw[p0];clear p0;rw[show (256:Nat)^1=256 from rfl]
  generalize c.toNat+2251799813685248*(d.toNat+2251799813685248*e.toNat)=R;all_goals omega
 have g2:(0|||piece a 0 2)=UInt8.ofNat ((a.toNat+2251799813685248*(b.toNat+2251799813685248*(c.toNat+2251799813685248*(d.toNat+2251799813685248*e.toNat))))/256^2):=by
  apply al6
  have p0:=af2 (x:=a) (i:=0) (k:=2) (by decide)
  simp only[Nat.reduceMul,Nat.reduceMod,Nat.reduceSub,Nat.reducePow] at p0;rw[zero_or];rw[p0];clear p0;rw[show (256:Nat)^2=65536 from rfl]
  generalize c.toNat+2251799813685248*(d.toNat+2251799813685248*e.toNat)=R;all_goals omega
 have g3:(0|||piece a 0 3)=UInt8.ofNat ((a.toNat+2251799813685248*(b.toNat+2251799813685248*(c.toNat+2251799813685248*(d.toNat+2251799813685248*e.toNat))))/256^3):=by
  apply al6
  have p0:=af2 (x:=a) (i:=0) (k:=3) (by decide)
  simp only[Nat.reduceMul,Nat.reduceMod,Nat.reduceSub,Nat.reducePow] at p0;rw[zero_or];rw[p0];clear p0;rw[show (256:Nat)^3=16777216 from rfl]
  generalize c.toNat+2251799813685248*(d.toNat+2251799813685248*e.toNat)=R;all_goals omega
 have g4:(0|||piece a 0 4)=UInt8.ofNat ((a.toNat+2251799813685248*(b.toNat+2251799813685248*(c.toNat+2251799813685248*(d.toNat+2251799813685248*e.toNat))))/256^4):=by
  apply al6
  have p0:=af2 (x:=a) (i:=0) (k:=4) (by decide)
  simp only[Nat.reduceMul,Nat.reduceMod,Nat.reduceSub,Nat.reducePow] at p0;rw[zero_or];rw[p0];clear p0;rw[show (256:Nat)^4=4294967296 from rfl]
  generalize c.toNat+2251799813685248*(d.toNat+2251799813685248*e.toNat)=R;all_goals omega
 have g5:(0|||piece a 0 5)=UInt8.ofNat ((a.toNat+2251799813685248*(b.toNat+2251799813685248*(c.toNat+2251799813685248*(d.toNat+2251799813685248*e.toNat))))/256^5):=by
  apply al6
  have p0:=af2 (x:=a) (i:=0) (k:=5) (by decide)
  simp only[Nat.reduceMul,Nat.reduceMod,Nat.reduceSub,Nat.reducePow] at p0;rw[zero_or];rw[p0];clear p0;rw[show (256:Nat)^5=1099511627776 from rfl]
  generalize c.toNat+2251799813685248*(d.toNat+2251799813685248*e.toNat)=R;all_goals omega
 have g6:((0|||piece a 0 6)|||piece b 1 0)=UInt8.ofNat ((a.toNat+2251799813685248*(b.toNat+2251799813685248*(c.toNat+2251799813685248*(d.toNat+2251799813685248*e.toNat))))/256^6):=by
  apply al6
  have p0:=af2 (x:=a) (i:=0) (k:=6) (by decide)
  have p1:=bP8 (x:=b) (i:=1) (by decide)
  simp only[Nat.reduceMul,Nat.reduceMod,Nat.reduceSub,Nat.reducePow] at p0 p1;rw[zero_or,bi6];rw[p0];rw[p1];have z:b.toNat*8%256=2^3*(b.toNat%32):=by omega
  rw[z,bQ2 3 (by omega)]
  clear p0 p1;rw[show (256:Nat)^6=281474976710656 from rfl]
  generalize c.toNat+2251799813685248*(d.toNat+2251799813685248*e.toNat)=R;all_goals omega
 have g7:((0|||piece a 0 7)|||piece b 1 1)=UInt8.ofNat ((a.toNat+2251799813685248*(b.toNat+2251799813685248*(c.toNat+2251799813685248*(d.toNat+2251799813685248*e.toNat))))/256^7):=by
  apply al6
  have p0:=af2 (x:=a) (i:=0) (k:=7) (by decide)
  have p1:=af2 (x:=b) (i:=1) (k:=1) (by decide)
  simp only[Nat.reduceMul,Nat.reduceMod,Nat.reduceSub,Nat.reducePow] at p0 p1;rw[zero_or,bi6];rw[p0];rw[p1];have z:a.toNat/72057594037927936%256=0:=by omega
  rw[z,Nat.zero_or];clear p0 p1;rw[show (256:Nat)^7=2251799813685248*32 from rfl,af5 ha]
  generalize d.toNat+2251799813685248*e.toNat=R;all_goals omega
 have g8:(0|||piece b 1 2)=UInt8.ofNat ((a.toNat+2251799813685248*(b.toNat+2251799813685248*(c.toNat+2251799813685248*(d.toNat+2251799813685248*e.toNat))))/256^8):=by
  apply al6
  have p0:=af2 (x:=b) (i:=1) (k:=2) (by decide)
  simp only[Nat.reduceMul,Nat.reduceMod,Nat.reduceSub,Nat.reducePow] at p0;rw[zero_or];rw[p0];clear p0;rw[show (256:Nat)^8=2251799813685248*8192 from rfl,af5 ha]
  generalize d.toNat+2251799813685248*e.toNat=R;all_goals omega
 have g9:(0|||piece b 1 3)=UInt8.ofNat ((a.toNat+2251799813685248*(b.toNat+2251799813685248*(c.toNat+2251799813685248*(d.toNat+2251799813685248*e.toNat))))/256^9):=by
  apply al6
  have p0:=af2 (x:=b) (i:=1) (k:=3) (by decide)
  simp only[Nat.reduceMul,Nat.reduceMod,Nat.reduceSub,Nat.reducePow] at p0;rw[zero_or];rw[p0];clear p0;rw[show (256:Nat)^9=2251799813685248*2097152 from rfl,af5 ha]
  generalize d.toNat+2251799813685248*e.toNat=R;all_goals omega
 have g10:(0|||piece b 1 4)=UInt8.ofNat ((a.toNat+2251799813685248*(b.toNat+2251799813685248*(c.toNat+2251799813685248*(d.toNat+2251799813685248*e.toNat))))/256^10):=by
  apply al6
  have p0:=af2 (x:=b) (i:=1) (k:=4) (by decide)
  simp only[Nat.reduceMul,Nat.reduceMod,Nat.reduceSub,Nat.reducePow] at p0;rw[zero_or];rw[p0];clear p0;rw[show (256:Nat)^10=2251799813685248*536870912 from rfl,af5 ha]
  generalize d.toNat+2251799813685248*e.toNat=R;all_goals omega
 have g11:(0|||piece b 1 5)=UInt8.ofNat ((a.toNat+2251799813685248*(b.toNat+2251799813685248*(c.toNat+2251799813685248*(d.toNat+2251799813685248*e.toNat))))/256^11):=by
  apply al6
  have p0:=af2 (x:=b) (i:=1) (k:=5) (by decide)
  simp only[Nat.reduceMul,Nat.reduceMod,Nat.reduceSub,Nat.reducePow] at p0;rw[zero_or];rw[p0];clear p0;rw[show (256:Nat)^11=2251799813685248*137438953472 from rfl,af5 ha]
  generalize d.toNat+2251799813685248*e.toNat=R;all_goals omega
 have g12:((0|||piece b 1 6)|||piece c 2 0)=UInt8.ofNat ((a.toNat+2251799813685248*(b.toNat+2251799813685248*(c.toNat+2251799813685248*(d.toNat+2251799813685248*e.toNat))))/256^12):=by
  apply al6
  have p0:=af2 (x:=b) (i:=1) (k:=6) (by decide)
  have p1:=bP8 (x:=c) (i:=2) (by decide)
  simp only[Nat.reduceMul,Nat.reduceMod,Nat.reduceSub,Nat.reducePow] at p0 p1;rw[zero_or,bi6];rw[p0];rw[p1];have z:c.toNat*64%256=2^6*(c.toNat%4):=by omega
  rw[z,bQ2 6 (by omega)]
  clear p0 p1;rw[show (256:Nat)^12=2251799813685248*35184372088832 from rfl,af5 ha]
  generalize d.toNat+2251799813685248*e.toNat=R;all_goals omega
 have g13:((0|||piece b 1 7)|||piece c 2 1)=UInt8.ofNat ((a.toNat+2251799813685248*(b.toNat+2251799813685248*(c.toNat+2251799813685248*(d.toNat+2251799813685248*e.toNat))))/256^13):=by
  apply al6
  have p0:=af2 (x:=b) (i:=1) (k:=7) (by decide)
  have p1:=af2 (x:=c) (i:=2) (k:=1) (by decide)
  simp only[Nat.reduceMul,Nat.reduceMod,Nat.reduceSub,Nat.reducePow] at p0 p1;rw[zero_or,bi6];rw[p0];rw[p1];have z:b.toNat/9007199254740992%256=0:=by omega
  rw[z,Nat.zero_or];clear p0 p1;rw[show (256:Nat)^13=2251799813685248*(2251799813685248*4) from rfl,af5 ha,af5 hb]
  all_goals omega
 have g14:(0|||piece c 2 2)=UInt8.ofNat ((a.toNat+2251799813685248*(b.toNat+2251799813685248*(c.toNat+2251799813685248*(d.toNat+2251799813685248*e.toNat))))/256^14):=by
  apply al6
  have p0:=af2 (x:=c) (i:=2) (k:=2) (by decide)
  simp only[Nat.reduceMul,Nat.reduceMod,Nat.reduceSub,Nat.reducePow] at p0;rw[zero_or];rw[p0];clear p0;rw[show (256:Nat)^14=2251799813685248*(2251799813685248*1024) from rfl,af5 ha,af5 hb]
  all_goals omega
 have g15:(0|||piece c 2 3)=UInt8.ofNat ((a.toNat+2251799813685248*(b.toNat+2251799813685248*(c.toNat+2251799813685248*(d.toNat+2251799813685248*e.toNat))))/256^15):=by
  apply al6
  have p0:=af2 (x:=c) (i:=2) (k:=3) (by decide)
  simp only[Nat.reduceMul,Nat.reduceMod,Nat.reduceSub,Nat.reducePow] at p0;rw[zero_or];rw[p0];clear p0;rw[show (256:Nat)^15=2251799813685248*(2251799813685248*262144) from rfl,af5 ha,af5 hb]
  all_goals omega
 have g16:(0|||piece c 2 4)=UInt8.ofNat ((a.toNat+2251799813685248*(b.toNat+2251799813685248*(c.toNat+2251799813685248*(d.toNat+2251799813685248*e.toNat))))/256^16):=by
  apply al6
  have p0:=af2 (x:=c) (i:=2) (k:=4) (by decide)
  simp only[Nat.reduceMul,Nat.reduceMod,Nat.reduceSub,Nat.reducePow] at p0;rw[zero_or];rw[p0];clear p0;rw[show (256:Nat)^16=2251799813685248*(2251799813685248*67108864) from rfl,af5 ha,af5 hb]
  all_goals omega
 have g17:(0|||piece c 2 5)=UInt8.ofNat ((a.toNat+2251799813685248*(b.toNat+2251799813685248*(c.toNat+2251799813685248*(d.toNat+2251799813685248*e.toNat))))/256^17):=by
  apply al6
  have p0:=af2 (x:=c) (i:=2) (k:=5) (by decide)
  simp only[Nat.reduceMul,Nat.reduceMod,Nat.reduceSub,Nat.reducePow] at p0;rw[zero_or];rw[p0];clear p0;rw[show (256:Nat)^17=2251799813685248*(2251799813685248*17179869184) from rfl,af5 ha,af5 hb]
  all_goals omega
 have g18:(0|||piece c 2 6)=UInt8.ofNat ((a.toNat+2251799813685248*(b.toNat+2251799813685248*(c.toNat+2251799813685248*(d.toNat+2251799813685248*e.toNat))))/256^18):=by
  apply al6
  have p0:=af2 (x:=c) (i:=2) (k:=6) (by decide)
  simp only[Nat.reduceMul,Nat.reduceMod,Nat.reduceSub,Nat.reducePow] at p0;rw[zero_or];rw[p0];clear p0;rw[show (256:Nat)^18=2251799813685248*(2251799813685248*4398046511104) from rfl,af5 ha,af5 hb]
  all_goals omega
 have g19:((0|||piece c 2 7)|||piece d 3 0)=UInt8.ofNat ((a.toNat+2251799813685248*(b.toNat+2251799813685248*(c.toNat+2251799813685248*(d.toNat+2251799813685248*e.toNat))))/256^19):=by
  apply al6
  have p0:=af2 (x:=c) (i:=2) (k:=7) (by decide)
  have p1:=bP8 (x:=d) (i:=3) (by decide)
  simp only[Nat.reduceMul,Nat.reduceMod,Nat.reduceSub,Nat.reducePow] at p0 p1;rw[zero_or,bi6];rw[p0];rw[p1];have z:d.toNat*2%256=2^1*(d.toNat%128):=by omega
  rw[z,bQ2 1 (by omega)]
  clear p0 p1;rw[show (256:Nat)^19=2251799813685248*(2251799813685248*1125899906842624) from rfl,af5 ha,af5 hb]
  all_goals omega
 have g20:(0|||piece d 3 1)=UInt8.ofNat ((a.toNat+2251799813685248*(b.toNat+2251799813685248*(c.toNat+2251799813685248*(d.toNat+2251799813685248*e.toNat))))/256^20):=by
  apply al6
  have p0:=af2 (x:=d) (i:=3) (k:=1) (by decide)
  simp only[Nat.reduceMul,Nat.reduceMod,Nat.reduceSub,Nat.reducePow] at p0;rw[zero_or];rw[p0];clear p0;rw[show (256:Nat)^20=2251799813685248*(2251799813685248*(2251799813685248*128)) from rfl,af5 ha,af5 hb,af5 hc]
  all_goals omega
 have g21:(0|||piece d 3 2)=UInt8.ofNat ((a.toNat+2251799813685248*(b.toNat+2251799813685248*(c.toNat+2251799813685248*(d.toNat+2251799813685248*e.toNat))))/256^21):=by
  apply al6
  have p0:=af2 (x:=d) (i:=3) (k:=2) (by decide)
  simp only[Nat.reduceMul,Nat.reduceMod,Nat.reduceSub,Nat.reducePow] at p0;rw[zero_or];rw[p0];clear p0;rw[show (256:Nat)^21=2251799813685248*(2251799813685248*(2251799813685248*32768)) from rfl,af5 ha,af5 hb,af5 hc]
  all_goals omega
 have g22:(0|||piece d 3 3)=UInt8.ofNat ((a.toNat+2251799813685248*(b.toNat+2251799813685248*(c.toNat+2251799813685248*(d.toNat+2251799813685248*e.toNat))))/256^22):=by
  apply al6
  have p0:=af2 (x:=d) (i:=3) (k:=3) (by decide)
  simp only[Nat.reduceMul,Nat.reduceMod,Nat.reduceSub,Nat.reducePow] at p0;rw[zero_or];rw[p0];clear p0;rw[show (256:Nat)^22=2251799813685248*(2251799813685248*(2251799813685248*8388608)) from rfl,af5 ha,af5 hb,af5 hc]
  all_goals omega
 have g23:(0|||piece d 3 4)=UInt8.ofNat ((a.toNat+2251799813685248*(b.toNat+2251799813685248*(c.toNat+2251799813685248*(d.toNat+2251799813685248*e.toNat))))/256^23):=by
  apply al6
  have p0:=af2 (x:=d) (i:=3) (k:=4) (by decide)
  simp only[Nat.reduceMul,Nat.reduceMod,Nat.reduceSub,Nat.reducePow] at p0;rw[zero_or];rw[p0];clear p0;rw[show (256:Nat)^23=2251799813685248*(2251799813685248*(2251799813685248*2147483648)) from rfl,af5 ha,af5 hb,af5 hc]
  all_goals omega
 have g24:(0|||piece d 3 5)=UInt8.ofNat ((a.toNat+2251799813685248*(b.toNat+2251799813685248*(c.toNat+2251799813685248*(d.toNat+2251799813685248*e.toNat))))/256^24):=by
  apply al6
  have p0:=af2 (x:=d) (i:=3) (k:=5) (by decide)
  simp only[Nat.reduceMul,Nat.reduceMod,Nat.reduceSub,Nat.reducePow] at p0;rw[zero_or];rw[p0];clear p0;rw[show (256:Nat)^24=2251799813685248*(2251799813685248*(2251799813685248*549755813888)) from rfl,af5 ha,af5 hb,af5 hc]
  all_goals omega
 have g25:((0|||piece d 3 6)|||piece e 4 0)=UInt8.ofNat ((a.toNat+2251799813685248*(b.toNat+2251799813685248*(c.toNat+2251799813685248*(d.toNat+2251799813685248*e.toNat))))/256^25):=by
  apply al6
  have p0:=af2 (x:=d) (i:=3) (k:=6) (by decide)
  have p1:=bP8 (x:=e) (i:=4) (by decide)
  simp only[Nat.reduceMul,Nat.reduceMod,Nat.reduceSub,Nat.reducePow] at p0 p1;rw[zero_or,bi6];rw[p0];rw[p1];have z:e.toNat*16%256=2^4*(e.toNat%16):=by omega
  rw[z,bQ2 4 (by omega)]
  clear p0 p1;rw[show (256:Nat)^25=2251799813685248*(2251799813685248*(2251799813685248*140737488355328)) from rfl,af5 ha,af5 hb,af5 hc]
  all_goals omega
 have g26:((0|||piece d 3 7)|||piece e 4 1)=UInt8.ofNat ((a.toNat+2251799813685248*(b.toNat+2251799813685248*(c.toNat+2251799813685248*(d.toNat+2251799813685248*e.toNat))))/256^26):=by
  apply al6
  have p0:=af2 (x:=d) (i:=3) (k:=7) (by decide)
  have p1:=af2 (x:=e) (i:=4) (k:=1) (by decide)
  simp only[Nat.reduceMul,Nat.reduceMod,Nat.reduceSub,Nat.reducePow] at p0 p1;rw[zero_or,bi6];rw[p0];rw[p1];have z:d.toNat/36028797018963968%256=0:=by omega
  rw[z,Nat.zero_or];clear p0 p1;rw[show (256:Nat)^26=2251799813685248*(2251799813685248*(2251799813685248*(2251799813685248*16))) from rfl,af5 ha,af5 hb,af5 hc,af5 hd]
  all_goals omega
 have g27:(0|||piece e 4 2)=UInt8.ofNat ((a.toNat+2251799813685248*(b.toNat+2251799813685248*(c.toNat+2251799813685248*(d.toNat+2251799813685248*e.toNat))))/256^27):=by
  apply al6
  have p0:=af2 (x:=e) (i:=4) (k:=2) (by decide)
  simp only[Nat.reduceMul,Nat.reduceMod,Nat.reduceSub,Nat.reducePow] at p0;rw[zero_or];rw[p0];clear p0;rw[show (256:Nat)^27=2251799813685248*(2251799813685248*(2251799813685248*(2251799813685248*4096))) from rfl,af5 ha,af5 hb,af5 hc,af5 hd]
  all_goals omega
 have g28:(0|||piece e 4 3)=UInt8.ofNat ((a.toNat+2251799813685248*(b.toNat+2251799813685248*(c.toNat+2251799813685248*(d.toNat+2251799813685248*e.toNat))))/256^28):=by
  apply al6
  have p0:=af2 (x:=e) (i:=4) (k:=3) (by decide)
  simp only[Nat.reduceMul,Nat.reduceMod,Nat.reduceSub,Nat.reducePow] at p0;rw[zero_or];rw[p0];clear p0;rw[show (256:Nat)^28=2251799813685248*(2251799813685248*(2251799813685248*(2251799813685248*1048576))) from rfl,af5 ha,af5 hb,af5 hc,af5 hd]
  all_goals omega
 have g29:(0|||piece e 4 4)=UInt8.ofNat ((a.toNat+2251799813685248*(b.toNat+2251799813685248*(c.toNat+2251799813685248*(d.toNat+2251799813685248*e.toNat))))/256^29):=by
  apply al6
  have p0:=af2 (x:=e) (i:=4) (k:=4) (by decide)
  simp only[Nat.reduceMul,Nat.reduceMod,Nat.reduceSub,Nat.reducePow] at p0;rw[zero_or];rw[p0];clear p0;rw[show (256:Nat)^29=2251799813685248*(2251799813685248*(2251799813685248*(2251799813685248*268435456))) from rfl,af5 ha,af5 hb,af5 hc,af5 hd]
  all_goals omega
 have g30:(0|||piece e 4 5)=UInt8.ofNat ((a.toNat+2251799813685248*(b.toNat+2251799813685248*(c.toNat+2251799813685248*(d.toNat+2251799813685248*e.toNat))))/256^30):=by
  apply al6
  have p0:=af2 (x:=e) (i:=4) (k:=5) (by decide)
  simp only[Nat.reduceMul,Nat.reduceMod,Nat.reduceSub,Nat.reducePow] at p0;rw[zero_or];rw[p0];clear p0;rw[show (256:Nat)^30=2251799813685248*(2251799813685248*(2251799813685248*(2251799813685248*68719476736))) from rfl,af5 ha,af5 hb,af5 hc,af5 hd]
  all_goals omega
 have g31:(0|||piece e 4 6)=UInt8.ofNat ((a.toNat+2251799813685248*(b.toNat+2251799813685248*(c.toNat+2251799813685248*(d.toNat+2251799813685248*e.toNat))))/256^31):=by
  apply al6
  have p0:=af2 (x:=e) (i:=4) (k:=6) (by decide)
  simp only[Nat.reduceMul,Nat.reduceMod,Nat.reduceSub,Nat.reducePow] at p0;rw[zero_or];rw[p0];clear p0;rw[show (256:Nat)^31=2251799813685248*(2251799813685248*(2251799813685248*(2251799813685248*17592186044416))) from rfl,af5 ha,af5 hb,af5 hc,af5 hd]
  all_goals omega
 rw[g0,g1,g2,g3,g4,g5,g6,g7,g8,g9,g10,g11,g12,g13,g14,g15,g16,g17,g18,g19,g20,g21,g22,g23,g24,g25,g26,g27,g28,g29,g30,g31]
theorem dv6{l:List W}(h:Lim 1152921504606846976 l):ak2 l=leN 32 (ag1 l%pF):=by
 obtain⟨a,b,c,d,e,h0,ha,hb,hc,hd,he,hv⟩:=dV5 h;unfold ak2;rw[h0,dW3 ha hb hc hd he,hv]
end Fe
end
section
namespace Fe
open Go V
def as4(b:List UInt8):Nat->List W
 |0=>[0,0,0,0]
 |i+1=>(as4 b i).set (i/8) ((as4 b i).getD (i/8) 0|||(BitVec.ofNat 64 (b.getD i 0).toNat<<<(8*(i%8))))
def limbs(w:List W):List W:=[w.getD 0 0&&&mW,(w.getD 0 0>>>51|||w.getD 1 0<<<13)&&&mW,(w.getD 1 0>>>38|||w.getD 2 0<<<26)&&&mW,(w.getD 2 0>>>25|||w.getD 3 0<<<39)&&&mW,w.getD 3 0>>>12]
def au1(b:List UInt8):List W:=ae0 (limbs (as4 b 32))
def b48(b0 b1 b2 b3 b4 b5 b6 b7:UInt8):W:=(((((((0|||BitVec.ofNat 64 b0.toNat<<<0)|||BitVec.ofNat 64 b1.toNat<<<8)|||BitVec.ofNat 64 b2.toNat<<<16)|||BitVec.ofNat 64 b3.toNat<<<24)|||BitVec.ofNat 64 b4.toNat<<<32)|||BitVec.ofNat 64 b5.toNat<<<40)|||BitVec.ofNat 64 b6.toNat<<<48)|||BitVec.ofNat 64 b7.toNat<<<56
theorem ep6{x:W}{b:UInt8}(t:Nat)(ht:t<=56)(h:x.toNat < 2^t):(x|||BitVec.ofNat 64 b.toNat<<<t).toNat=x.toNat+2^t*b.toNat/\x.toNat+2^t*b.toNat < 2^(t+8):=by
 have hb:b.toNat < 256:=b.toNat_lt;have hp:2^t*256=2^(t+8):=(Nat.pow_add 2 t 8).symm;have hq:2^(t+8)<=2^64:=cf9 (by decide) (by omega)
 have hlt:2^t*b.toNat+2^t<=2^t*256:=by
  have:=Nat.mul_le_mul_left (2^t) (show b.toNat+1<=256 by omega)
  rw[Nat.mul_add,Nat.mul_one] at this;exact this
 have hs:(BitVec.ofNat 64 b.toNat<<<t).toNat=2^t*b.toNat:=by
  rw[bs4,aA8,aA7 (aC9 hb (by decide)),bs3,bW0,aA7 (by omega)]
 rw[BitVec.toNat_or,hs,bQ2 t h];exact⟨rfl,by omega⟩
def chain(x:W)(t:Nat):List UInt8->W
 |[]=>x
 |b::l=>chain (x|||BitVec.ofNat 64 b.toNat<<<t) (t+8) l
theorem dv1(l:List UInt8): ∀(x:W) (t:Nat),t+8*l.length<=64->x.toNat < 2^t->(chain x t l).toNat=x.toNat+2^t*leV l:=by
 induction l with
 |nil=>intro x t _ _;simp[chain,leV]
 |cons b l ih=>
  intro x t ht hx;rw[List.length_cons] at ht;obtain⟨e1,e2⟩:=ep6 (b:=b) t (by omega) hx
  rw[chain,ih _ _ (by omega) (by rw[e1];exact e2),e1,leV,Nat.pow_add,Nat.mul_add]
  have:2^t*2^8*leV l=2^t*(256*leV l):=by rw[Nat.mul_assoc]
  omega
theorem bp7(b0 b1 b2 b3 b4 b5 b6 b7:UInt8):(b48 b0 b1 b2 b3 b4 b5 b6 b7).toNat=leV [b0,b1,b2,b3,b4,b5,b6,b7]:=by
 have h:=dv1 [b0,b1,b2,b3,b4,b5,b6,b7] 0 0 (by simp) (by decide)
 have z:(0:W).toNat=0:=rfl;rw[z,Nat.zero_add,Nat.pow_zero,bz4] at h;exact h
theorem w_all(b0 b1 b2 b3 b4 b5 b6 b7 b8 b9 b10 b11 b12 b13 b14 b15 b16 b17 b18 b19 b20 b21 b22 b23 b24 b25 b26 b27 b28 b29 b30 b31:UInt8):as4 [b0,b1,b2,b3,b4,b5,b6,b7,b8,b9,b10,b11,b12,b13,b14,b15,b16,b17,b18,b19,b20,b21,b22,b23,b24,b25,b26,b27,b28,b29,b30,b31] 32=[b48 b0 b1 b2 b3 b4 b5 b6 b7,b48 b8 b9 b10 b11 b12 b13 b14 b15,b48 b16 b17 b18 b19 b20 b21 b22 b23,b48 b24 b25 b26 b27 b28 b29 b30 b31]:=by kernel_rfl
theorem eh0{α:Type}{b:List α}(h:b.length=32): ∃b0 b1 b2 b3 b4 b5 b6 b7 b8 b9 b10 b11 b12 b13 b14 b15 b16 b17 b18 b19 b20 b21 b22 b23 b24 b25 b26 b27 b28 b29 b30 b31,b=[b0,b1,b2,b3,b4,b5,b6,b7,b8,b9,b10,b11,b12,b13,b14,b15,b16,b17,b18,b19,b20,b21,b22,b23,b24,b25,b26,b27,b28,b29,b30,b31]:=by
 match b,h with
 |[b0,b1,b2,b3,b4,b5,b6,b7,b8,b9,b10,b11,b12,b13,b14,b15,b16,b17,b18,b19,b20,b21,b22,b23,b24,b25,b26,b27,b28,b29,b30,b31],_=>exact⟨_,_,_,_,_,_,_,_,_,_,_,_,_,_,_,_,_,_,_,_,_,_,_,_,_,_,_,_,_,_,_,_,rfl⟩
theorem ck4(l m:List UInt8):leV (l++m)=leV l+256^l.length*leV m:=by
 induction l with
 |nil=>simp[leV]
 |cons b l ih=>
  rw[List.cons_append,leV,leV,ih,List.length_cons,Nat.pow_succ,Nat.mul_add,<-Nat.mul_assoc,bW0 256 (256^l.length)];omega
theorem dg1{b:List UInt8}(h:b.length=32): ∃w0 w1 w2 w3:W,as4 b 32=[w0,w1,w2,w3]/\leV b=w0.toNat+18446744073709551616*(w1.toNat+18446744073709551616*(w2.toNat+18446744073709551616*w3.toNat)):=by
 obtain⟨b0,b1,b2,b3,b4,b5,b6,b7,b8,b9,b10,b11,b12,b13,b14,b15,b16,b17,b18,b19,b20,b21,b22,b23,b24,b25,b26,b27,b28,b29,b30,b31,rfl⟩:=eh0 h;refine⟨_,_,_,_,w_all _ _ _ _ _ _ _ _ _ _ _ _ _ _ _ _ _ _ _ _ _ _ _ _ _ _ _ _ _ _ _ _,?_⟩;rw[bp7,bp7,bp7,bp7];have a3:=ck4 [b16,b17,b18,b19,b20,b21,b22,b23] [b24,b25,b26,b27,b28,b29,b30,b31];have a2:=ck4 [b8,b9,b10,b11,b12,b13,b14,b15] [b16,b17,b18,b19,b20,b21,b22,b23,b24,b25,b26,b27,b28,b29,b30,b31];have a1:=ck4 [b0,b1,b2,b3,b4,b5,b6,b7] [b8,b9,b10,b11,b12,b13,b14,b15,b16,b17,b18,b19,b20,b21,b22,b23,b24,b25,b26,b27,b28,b29,b30,b31];simp only[List.cons_append,List.nil_append,List.length_cons,List.length_nil,Nat.reduceAdd,Nat.reducePow] at a1 a2 a3;rw[a1,a2,a3]
theorem dK5{b:List UInt8}(h:b.length=32):Lim 4503599627370496 (au1 b)/\ag1 (au1 b)%pF=leV b%pF:=by
 obtain⟨w0,w1,w2,w3,hw,hv⟩:=dg1 h;have l0:=w0.isLt;have l1:=w1.isLt;have l2:=w2.isLt;have l3:=w3.isLt;unfold au1;rw[hw];have hl:limbs [w0,w1,w2,w3]=[w0&&&mW,(w0>>>51|||w1<<<13)&&&mW,(w1>>>38|||w2<<<26)&&&mW,(w2>>>25|||w3<<<39)&&&mW,w3>>>12]:=rfl
 rw[hl];have x0:=bp4 w0;have x1:=bp4 (w0>>>51|||w1<<<13)
 have x2:=bp4 (w1>>>38|||w2<<<26)
 have x3:=bp4 (w2>>>25|||w3<<<39)
 have x4:(w3>>>12).toNat=w3.toNat/4096:=by rw[bz3,aM1]
 rw[bR0 51 13 (by decide) (by decide) rfl] at x1
 rw[bR0 38 26 (by decide) (by decide) rfl] at x2
 rw[bR0 25 39 (by decide) (by decide) rfl] at x3
 simp only[Nat.reducePow] at x1 x2 x3 l0 l1 l2 l3;generalize w0&&&mW=y0 at*;generalize (w0>>>51|||w1<<<13)&&&mW=y1 at*
 generalize (w1>>>38|||w2<<<26)&&&mW=y2 at*
 generalize (w2>>>25|||w3<<<39)&&&mW=y3 at*
 generalize w3>>>12=y4 at*;have hc:=aR5 (bx6 (n:=1152921504606846976) (a:=y0) (b:=y1) (c:=y2) (d:=y3) (e:=y4) (by omega) (by omega) (by omega) (by omega) (by omega))
 refine⟨hc.1,?_⟩;rw[hc.2.1,hv];refine congrArg (fun n=>n%pF) ?_
 simp only[ag1];omega
end Fe
end
section
namespace Fe
open Go V
theorem ac8(l m:List W):(aa8 l m).length=5:=by unfold aa8;rw[ax0,List.length_set,List.length_set,dn5]
theorem aq7(l m:List W):(ae5 l m).length=l.length:=by unfold ae5;rw[ax0,List.length_set,bm4]
theorem aB1(l m:List W):(aj1 l m).length=l.length:=by unfold aj1;rw[ax0,bm4]
def zeroE:List W:=[0,0,0,0,0]
def aH1:List W:=[1,0,0,0,0]
theorem aY3{H M:List AObj}{l m:List W}(h:l=m):Done H (fun y H'=>y=AV.agg (m.map (wAV .u64))/\H'=H) (.agg (l.map (wAV .u64))) (H++M):=by
 subst h;exact aa3 _ (Le.refl _) aP3 ⟨rfl,rfl⟩
theorem aO4(l:List W)(H:List AObj)(hl:l.length=5):o9 Tryz.prog 153 [.agg (l.map (wAV .u64))] H (fun y H'=>y=.agg ((aa8 l l).map (wAV .u64))/\H'=H):=by
 have hc:=fun H=>as3 l l H hl hl
 have hr:=ac8 l l;generalize aa8 l l=r at*;refine y7 [] [.cell 2 94] 6 Tryz.func153 rfl rfl rfl rfl (nlb rfl) (by kernel_rfl) ?_
 repeat' first|refine o6 ?_|simp -dsimp -implicitDefEqProofs (disch:=first|assumption|omega|simp only[ll];omega) only[go_sem,ac4,hl,hr,ae3 hr,t5 hr]|refine o5 (hc _) ?_|refine vcJ ?_ ?_<;>intro _|refine vcA ?_ ?_;focus(repeat'(first|omega|assumption|refine vcA ?_ ?_);done)|omega|refine o7 (fun _=>?_)
 exact aY3 rfl
theorem bN8(l:List W)(H:List AObj)(hl:l.length=5):o9 Tryz.prog 150 [.agg (l.map (wAV .u64))] H (fun y H'=>y=.agg ((ae5 zeroE l).map (wAV .u64))/\H'=H):=by
 have hc: ∀H,o9 Tryz.prog 155 [.agg [.lit (.int .u64 0),.lit (.int .u64 0),.lit (.int .u64 0),.lit (.int .u64 0),.lit (.int .u64 0)],.agg (l.map (wAV .u64))] H _:=fun H=>aV5 zeroE l H rfl hl
 have hr:(ae5 zeroE l).length=5:=aq7 zeroE l;generalize ae5 zeroE l=r at*;refine y7 [] [.cell 2 94] 6 Tryz.func150 rfl rfl rfl rfl (nlb rfl) (by kernel_rfl) ?_
 repeat' first|refine o6 ?_|simp -dsimp -implicitDefEqProofs (disch:=first|assumption|omega|simp only[ll];omega) only[go_sem,ac4,hl,hr,ae3 hr,t5 hr]|refine o5 (hc _) ?_|refine vcJ ?_ ?_<;>intro _|refine vcA ?_ ?_;focus(repeat'(first|omega|assumption|refine vcA ?_ ?_);done)|omega|refine o7 (fun _=>?_)
 exact aY3 rfl
theorem cx6(b:List UInt8)(i:Nat):(as4 b i).length=4:=by
 induction i with
 |zero=>rfl
 |succ i ih=>rw[as4,List.length_set,ih]
theorem eb2(b:UInt8)(n:Nat):IntKind.u64.wrap ((b.toNat:Int)*2^n)=((BitVec.ofNat 64 b.toNat<<<n).toNat:Int):=by
 have hb:b.toNat < 256:=b.toNat_lt;rw[bs4,aA8,aA7 (aC9 hb (by decide)),bs3]
 have:(b.toNat:Int)*2^n=((b.toNat*2^n:Nat):Int):=by simp
 rw[this];simp[IntKind.wrap,IntKind.signed,IntKind.bits]
theorem c65(x:W)(n:Nat):IntKind.u64.wrap ((x.toNat:Int)*((2^n:Nat):Int))=((x<<<n).toNat:Int):=by
 rw[bs4,bs3];have:(x.toNat:Int)*((2^n:Nat):Int)=((x.toNat*2^n:Nat):Int):=by simp
 rw[this];simp[IntKind.wrap,IntKind.signed,IntKind.bits]
theorem dy4(b:List UInt8)(H:List AObj)(hb:b.length=32):o9 Tryz.prog 225 [.agg (b.map o8)] H (fun y H'=>y=.agg ((au1 b).map (wAV .u64))/\H'=H):=by
 refine y7 [1000005] [.cell 2 94] 56 Tryz.func225 rfl rfl rfl rfl (nlb rfl) (by kernel_rfl) ?_
 repeat' first|refine o6 ?_|simp -dsimp -implicitDefEqProofs (disch:=first|assumption|omega|simp only[ll];omega) only[go_sem,ab2,hb]|refine vcJ ?_ ?_<;>intro _|refine vcA ?_ ?_;focus(repeat'(first|omega|assumption|refine vcA ?_ ?_);done)|omega|refine o7 (fun _=>?_)
 refine aa5 aa7 mixed [1000005] [2,3,6] (fun i:Nat=>i<=32) (fun i=>[(7,.lit (.int .i64 i))]) (fun i=>H++[.cells (.one 94) [.lit (.int .u64 0),.lit (.int .u64 0),.lit (.int .u64 0),.lit (.int .u64 0),.lit (.int .u64 0)],.cells (.one 171) ((as4 b i).map (wAV .u64))]) (fun i=>32 - i) (by kernel_rfl) ?_ 0 (by omega) y8 rfl
 intro i hi;have hwl:=cx6 b i;by_cases h:i < 32
 ·have hic:((i:Int) < 32)=True:=eq_true (by omega)
  have hn:as4 b (i+1)=(as4 b i).set (i/8) ((as4 b i).getD (i/8) 0|||(BitVec.ofNat 64 (b.getD i 0).toNat<<<(8*(i%8)))):=rfl
  have hg:=ac1 (K:=.u64) (m:=as4 b i) (i:=i/8) (by omega)
  generalize as4 b i=w at*;have e8:((i:Int)/8).toNat=i/8:=by omega
  have e9:(8*((i:Int)%8)).toNat=8*(i%8):=by omega
  repeat' first|refine o6 ?_|simp -dsimp -implicitDefEqProofs (disch:=first|assumption|omega|simp only[ll];omega) only[go_sem,hic,hwl,hb,hg,e8,e9,eb2]|refine vcJ ?_ ?_<;>intro _|refine vcA ?_ ?_;focus(repeat'(first|omega|assumption|refine vcA ?_ ?_);done)|omega|refine o7 (fun _=>?_)
  refine again (i+1) ?_ ?_ ?_ y8
  ·omega
  ·omega
  ·rw[hn,ao7]
 ·obtain rfl:i=32:=by omega
  have hf:au1 b=ae0 (limbs (as4 b 32)):=rfl;rw[hf];generalize as4 b 32=w at*;have g0:=ac1 (K:=.u64) (m:=w) (i:=0) (by omega)
  have g1:=ac1 (K:=.u64) (m:=w) (i:=1) (by omega)
  have g2:=ac1 (K:=.u64) (m:=w) (i:=2) (by omega)
  have g3:=ac1 (K:=.u64) (m:=w) (i:=3) (by omega)
  have r51:=fun x:W=>(bP1 x).symm
  have r38: ∀x:W,x.toNat/274877906944=(x>>>38).toNat:=fun x=>by rw[bz3,aM1]
  have r25: ∀x:W,x.toNat/33554432=(x>>>25).toNat:=fun x=>by rw[bz3,aM1]
  have r12: ∀x:W,x.toNat/4096=(x>>>12).toNat:=fun x=>by rw[bz3,aM1]
  have s26: ∀x:W,IntKind.u64.wrap ((x.toNat:Int)*67108864)=((x<<<26).toNat:Int):=fun x=>c65 x 26
  have s39: ∀x:W,IntKind.u64.wrap ((x.toNat:Int)*549755813888)=((x<<<39).toNat:Int):=fun x=>c65 x 39
  have hw:[wAV .u64 (w.getD 0 0&&&mW),wAV .u64 ((w.getD 0 0>>>51|||w.getD 1 0<<<13)&&&mW),wAV .u64 ((w.getD 1 0>>>38|||w.getD 2 0<<<26)&&&mW),wAV .u64 ((w.getD 2 0>>>25|||w.getD 3 0<<<39)&&&mW),wAV .u64 (w.getD 3 0>>>12)]=(limbs w).map (wAV .u64):=rfl
  have hc:=fun H=>bf7 (limbs w) H rfl
  have hr:(ae0 (limbs w)).length=5:=ax0 (limbs w);generalize ae0 (limbs w)=r at*;rw[<-hw] at hc;repeat' first|refine o6 ?_|simp -dsimp -implicitDefEqProofs (disch:=first|assumption|omega|simp only[ll];omega) only[go_sem,hwl,g0,g1,g2,g3,r51,r38,r25,r12,c66,s26,s39,ce8,ac4,hr,ae3 hr,t5 hr]|refine o5 (hc _) ?_|refine vcJ ?_ ?_<;>intro _|refine vcA ?_ ?_;focus(repeat'(first|omega|assumption|refine vcA ?_ ?_);done)|omega|refine o7 (fun _=>?_)
  exact aY3 rfl
end Fe
end
section
namespace Fe
open Go V
theorem dC6(r:List W)(n:Nat)(o:List UInt8):(bw9 r n o).length=o.length:=by
 unfold bw9;split
 ·rfl
 ·rw[List.length_set]
theorem bY1(r:List W)(n:Nat):(am7 r n).length=32:=by
 induction n with
 |zero=>rfl
 |succ n ih=>rw[am7,dC6,ih]
theorem aO1(l:List W):(ak2 l).length=32:=bY1 _ _
theorem b52(a b:UInt8):IntKind.u8.wrap (((BitVec.ofInt IntKind.u8.bits (a.toNat:Int)|||BitVec.ofInt IntKind.u8.bits (b.toNat:Int)).toNat:Nat):Int)=((a|||b).toNat:Int):=by
 show IntKind.u8.wrap (((BitVec.ofInt 8 (a.toNat:Int)|||BitVec.ofInt 8 (b.toNat:Int)).toNat:Nat):Int)=_
 have ha:BitVec.ofInt 8 (a.toNat:Int)=a.toBitVec:=by
  apply bs1
  simp
 have hb:BitVec.ofInt 8 (b.toNat:Int)=b.toBitVec:=by
  apply bs1
  simp
 rw[ha,hb];have:(a.toBitVec|||b.toBitVec).toNat=(a|||b).toNat:=rfl
 rw[this];have:=(a|||b).toNat_lt
 exact bb7 this
theorem cx9(x:W):IntKind.u8.wrap (x.toNat:Int)=((UInt8.ofNat x.toNat).toNat:Int):=by
 simp[IntKind.wrap,IntKind.signed,IntKind.bits]
theorem eu1(x:W)(n:Nat):IntKind.u64.wrap ((x.toNat:Int)*2^n)=((x<<<n).toNat:Int):=by
 have:=c65 x n;simpa using this
theorem c63(x:W)(n:Nat):(x.toNat:Int).fdiv (2^n)=((x>>>n).toNat:Int):=by
 rw[bz3,aM1,an0 (b37 (Int.pow_pos (by decide)))]
 have:((2:Int)^n)=((2^n:Nat):Int):=by simp
 rw[this,Int.toNat_natCast]
theorem bz0(l:List W)(H:List AObj)(hl:l.length=5):o9 Tryz.prog 104 [.agg (l.map (wAV .u64))] H (fun y H'=>y=.agg ((ak2 l).map o8)/\H'=H):=by
 have hc:=fun H=>bf7 l H hl
 have hml:(ae0 l).length=5:=by rw[ax0,hl]
 have hb:ak2 l=am7 (ai0 ((ae0 l).set 0 ((ae0 l).getD 0 0+19*bF1 (ae0 l) 5)) 5).1 40:=rfl;rw[hb];generalize ae0 l=m at*;have h51:=fun x:W=>(bP1 x).symm
 have h19: ∀x:W,IntKind.u64.wrap (19*(x.toNat:Int))=((19*x).toNat:Int):=fun x=>by
  rw[bz2];show IntKind.u64.wrap (19*(x.toNat:Int))=((19*x.toNat%2^64:Nat):Int)
  simp[IntKind.wrap,IntKind.signed,IntKind.bits]
 have hsm: ∀(j:Nat) (q:List W) (x:W),(q.map (wAV .u64)).set j (wAV .u64 x)=(q.set j x).map (wAV .u64):=fun j q x=>by rw[ao7]
 have hz:(List.replicate 32 (AV.lit (.int .u8 0)))=(List.replicate 32 (0:UInt8)).map o8:=by rw[aS6];rfl
 refine y7 [1,1000029,1000030] [.cell 2 28] 95 Tryz.func104 rfl rfl rfl rfl (nlb rfl) (by kernel_rfl) ?_
 repeat' first|refine o6 ?_|simp -dsimp -implicitDefEqProofs (disch:=first|assumption|omega|simp only[ll];omega) only[go_sem,ac4,hl,hml,ax7 (hml.trans hl.symm),t5 hl]|refine o5 (hc _) ?_|refine vcJ ?_ ?_<;>intro _|refine vcA ?_ ?_;focus(repeat'(first|omega|assumption|refine vcA ?_ ?_);done)|omega|refine o7 (fun _=>?_)
 refine aa5 aa7 mixed [1,1000029,1000030] [1,2] (fun i:Nat=>i<=5) (fun i=>[(15,.lit (.int .i64 i)),(3,wAV .u64 (bF1 m i))]) (fun _=>H++[.cells (.one 94) (m.map (wAV .u64)),.cells (.one 28) (List.replicate 32 (.lit (.int .u8 0)))]) (fun i=>5 - i) (by kernel_rfl) ?_ 0 (by omega) y8 rfl
 intro i hi;by_cases h:i < 5
 ·have hic:((i:Int) < 5)=True:=eq_true (by omega)
  have hg:=ac1 (K:=.u64) (m:=m) (i:=i) (by omega)
  have hn:bF1 m (i+1)=(m.getD i 0+bF1 m i)>>>51:=rfl;repeat' first|refine o6 ?_|simp -dsimp -implicitDefEqProofs (disch:=first|assumption|omega|simp only[ll];omega) only[go_sem,hic,hml,hg,h51]|refine vcJ ?_ ?_<;>intro _|refine vcA ?_ ?_;focus(repeat'(first|omega|assumption|refine vcA ?_ ?_);done)|omega|refine o7 (fun _=>?_)
  rw[<-hn];refine again (i+1) ?_ ?_ rfl y8
  ·omega
  ·omega
 obtain rfl:i=5:=by omega
 have hg:=ac1 (K:=.u64) (m:=m) (i:=0) (by omega)
 have hcl:(m.set 0 (m.getD 0 0+19*bF1 m 5)).length=5:=by rw[List.length_set,hml]
 generalize bF1 m 5=q at*;repeat' first|refine o6 ?_|simp -dsimp -implicitDefEqProofs (disch:=first|assumption|omega|simp only[ll];omega) only[go_sem,hml,hg,h19,hsm]|refine vcJ ?_ ?_<;>intro _|refine vcA ?_ ?_;focus(repeat'(first|omega|assumption|refine vcA ?_ ?_);done)|omega|refine o7 (fun _=>?_)
 generalize m.set 0 (m.getD 0 0+19*q)=c at*;refine aa5 aa7 mixed [1,1000029,1000030] [1,2] (fun j:Nat=>j<=5) (fun j=>[(3,wAV .u64 (ai0 c j).2),(31,.lit (.int .i64 j))]) (fun j=>H++[.cells (.one 94) ((ai0 c j).1.map (wAV .u64)),.cells (.one 28) (List.replicate 32 (.lit (.int .u8 0)))]) (fun j=>5 - j) (by kernel_rfl) ?_ 0 (by omega) y8 rfl
 intro j hj;have hjl:=bM6 c j;rw[hcl] at hjl;by_cases h5:j < 5
 ·have hjc:((j:Int) < 5)=True:=eq_true (by omega)
  have hg:=ac1 (K:=.u64) (m:=(ai0 c j).1) (i:=j) (by omega)
  have hn:ai0 c (j+1)=((ai0 c j).1.set j (((ai0 c j).1.getD j 0+(ai0 c j).2)&&&mW),((ai0 c j).1.getD j 0+(ai0 c j).2)>>>51):=rfl;have hgs: ∀x:AV,(((ai0 c j).1.map (wAV .u64)).set j x).getD j .any=x:=fun x=>by
   rw[List.getD,ay5 (by rw[List.length_map];omega)]
   rfl
  repeat' first|refine o6 ?_|simp -dsimp -implicitDefEqProofs (disch:=first|assumption|omega|simp only[ll];omega) only[go_sem,hjc,hjl,hg,hgs,ce8,h51]|refine vcJ ?_ ?_<;>intro _|refine vcA ?_ ?_;focus(repeat'(first|omega|assumption|refine vcA ?_ ?_);done)|omega|refine o7 (fun _=>?_)
  refine again (j+1) ?_ ?_ ?_ y8
  ·omega
  ·omega
  ·rw[hn,ao7]
 obtain rfl:j=5:=by omega
 generalize (ai0 c 5).1=r at*;repeat' first|refine o6 ?_|simp -dsimp -implicitDefEqProofs (disch:=first|assumption|omega|simp only[ll];omega) only[go_sem,hjl,ac4,t5 hjl]|refine vcJ ?_ ?_<;>intro _|refine vcA ?_ ?_;focus(repeat'(first|omega|assumption|refine vcA ?_ ?_);done)|omega|refine o7 (fun _=>?_)
 refine aa5 aa7 mixed [1,1000029,1000030] [2,6,50] (fun i:Nat=>i<=5) (fun i=>[(51,.lit (.int .i64 i))]) (fun i=>H++[.cells (.one 94) (r.map (wAV .u64)),.cells (.one 28) (List.replicate 32 (.lit (.int .u8 0))),.cells (.one 28) ((am7 r (8*i)).map o8)]) (fun i=>5 - i) (by kernel_rfl) ?_ 0 (by omega) y8 (by rw[show am7 r (8*0)=List.replicate 32 0 from rfl,aS6];rfl)
 intro i hi;by_cases h5:i < 5
 ·have hic:((i:Int) < 5)=True:=eq_true (by omega)
  have hg:=ac1 (K:=.u64) (m:=r) (i:=i) (by omega)
  repeat' first|refine o6 ?_|simp -dsimp -implicitDefEqProofs (disch:=first|assumption|omega|simp only[ll];omega) only[go_sem,hic,hjl,hg]|refine vcJ ?_ ?_<;>intro _|refine vcA ?_ ?_;focus(repeat'(first|omega|assumption|refine vcA ?_ ?_);done)|omega|refine o7 (fun _=>?_)
  refine aa5 aa7 mixed [1,1000029,1000030] [2,6,7,8,9,50,51,52,53,54,55,56] (fun k:Nat=>k<=8/\51*i/8+k<=32) (fun k=>[(57,.lit (.int .i64 k))]) (fun k=>H++[.cells (.one 94) (r.map (wAV .u64)),.cells (.one 28) (List.replicate 32 (.lit (.int .u8 0))),.cells (.one 28) ((am7 r (8*i+k)).map o8)]) (fun k=>8 - k) (by kernel_rfl) ?_ 0 (by omega) y8 rfl
  rintro k ⟨hk,hk2⟩
  have hol:=bY1 r (8*i+k);have hq:51*(i:Int)/8=((51*i/8:Nat):Int):=by omega
  have hr:51*(i:Int)%8=((51*i%8:Nat):Int):=by omega
  have hn:51*i/8+k<=31->k < 8->am7 r (8*i+(k+1))=(am7 r (8*i+k)).set (51*i/8+k) ((am7 r (8*i+k)).getD (51*i/8+k) 0|||piece (r.getD i 0) i k):=fun h1 h2=>by
   show bw9 r (8*i+k) (am7 r (8*i+k))=_
   unfold bw9;rw[show (8*i+k)/8=i by omega,show (8*i+k)%8=k by omega,if_neg (by omega)]
  have hend: ¬51*i/8+k<=31->k < 8->am7 r (8*i+k)=am7 r (8*(i+1)):=fun h1 h2=>by
   obtain rfl:i=4:=by omega
   obtain rfl:k=7:=by omega
   rfl
  have hpl:8*k < 51*i%8->piece (r.getD i 0) i k=UInt8.ofNat (r.getD i 0<<<(51*i%8 - 8*k)).toNat:=fun h=>by unfold piece;rw[if_pos h]
  have hpr: ¬8*k < 51*i%8->piece (r.getD i 0) i k=UInt8.ofNat (r.getD i 0>>>(8*k - 51*i%8)).toNat:=fun h=>by unfold piece;rw[if_neg h]
  have hsl:=eu1 (r.getD i 0) (51*i%8 - 8*k);have hsr:=c63 (r.getD i 0) (8*k - 51*i%8);have hq2:51*i/8<=25:=by omega
  have hr2:51*i%8<=7:=by omega
  generalize 51*i/8=q at*;generalize 51*i%8=t at*;have hpt:((q:Int)+(k:Int)).toNat=q+k:=by omega
  by_cases hk8:k < 8
  ·have hkc:((k:Int) < 8)=True:=eq_true (by omega)
   by_cases hp:q+k<=31
   ·have hpc:((31:Int) < (q:Int)+(k:Int))=False:=eq_false (by omega)
    have hn:=hn hp hk8;have hsb: ∀(o:List UInt8) (x:UInt8),(o.map o8).set (q+k) (.lit (.int .u8 (x.toNat:Int)))=(o.set (q+k) x).map o8:=fun o x=>by rw[ao7];rfl
    by_cases hs:8*k < t
    ·have hsc:(8*(k:Int) - (t:Int) < 0)=True:=eq_true (by omega)
     have hst:(0 - (8*(k:Int) - (t:Int))).toNat=t - 8*k:=by omega
     rw[hpl hs] at hn;generalize am7 r (8*i+k)=o at*;repeat' first|refine o6 ?_|simp -dsimp -implicitDefEqProofs (disch:=first|assumption|omega|simp only[ll];omega) only[go_sem,hkc,hpc,hsc,hol,hq,hr,hpt,hst,hsl,b52,cx9,hsb]|refine vcJ ?_ ?_<;>intro _|refine vcA ?_ ?_;focus(repeat'(first|omega|assumption|refine vcA ?_ ?_);done)|omega|refine o7 (fun _=>?_)
     rw[<-hn];refine again (k+1) ?_ ?_ rfl y8
     ·omega
     ·exact⟨by omega,by omega⟩
    ·have hsc:(8*(k:Int) - (t:Int) < 0)=False:=eq_false (by omega)
     have hst:(8*(k:Int) - (t:Int)).toNat=8*k - t:=by omega
     have hs0:(0<=8*(k:Int) - (t:Int))=True:=eq_true (by omega)
     rw[hpr hs] at hn;generalize am7 r (8*i+k)=o at*;repeat' first|refine o6 ?_|simp -dsimp -implicitDefEqProofs (disch:=first|assumption|omega|simp only[ll];omega) only[go_sem,hkc,hpc,hsc,hol,hq,hr,hpt,hst,hs0,hsr,b52,cx9,hsb]|refine vcJ ?_ ?_<;>intro _|refine vcA ?_ ?_;focus(repeat'(first|omega|assumption|refine vcA ?_ ?_);done)|omega|refine o7 (fun _=>?_)
     rw[<-hn];refine again (k+1) ?_ ?_ rfl y8
     ·omega
     ·exact⟨by omega,by omega⟩
   ·have hpc:((31:Int) < (q:Int)+(k:Int))=True:=eq_true (by omega)
    have he:=hend hp hk8;generalize am7 r (8*i+k)=o at*;subst he;repeat' first|refine o6 ?_|simp -dsimp -implicitDefEqProofs (disch:=first|assumption|omega|simp only[ll];omega) only[go_sem,hkc,hpc,hq]|refine vcJ ?_ ?_<;>intro _|refine vcA ?_ ?_;focus(repeat'(first|omega|assumption|refine vcA ?_ ?_);done)|omega|refine o7 (fun _=>?_)
    refine again (i+1) ?_ ?_ rfl y8
    ·omega
    ·omega
  ·obtain rfl:k=8:=by omega
   have he:am7 r (8*i+8)=am7 r (8*(i+1)):=by rw[Nat.mul_add]
   rw[he];repeat' first|refine o6 ?_|simp -dsimp -implicitDefEqProofs (disch:=first|assumption|omega|simp only[ll];omega) only[go_sem]|refine vcJ ?_ ?_<;>intro _|refine vcA ?_ ?_;focus(repeat'(first|omega|assumption|refine vcA ?_ ?_);done)|omega|refine o7 (fun _=>?_)
   refine again (i+1) ?_ ?_ rfl y8
   ·omega
   ·omega
 ·obtain rfl:i=5:=by omega
  have hol:(am7 r 40).length=32:=bY1 r 40;rw[show 8*5=40 from rfl]
  generalize am7 r 40=o at*;have ha:af0 (List.replicate 32 (AV.lit (.int .u8 0))) 0 (o.map o8)=o.map o8:=by
   rw[hz];exact ap9 (by simp) hol
  repeat' first|refine o6 ?_|simp -dsimp -implicitDefEqProofs (disch:=first|assumption|omega|simp only[ll];omega) only[go_sem,hol,ab2,ha]|refine vcJ ?_ ?_<;>intro _|refine vcA ?_ ?_;focus(repeat'(first|omega|assumption|refine vcA ?_ ?_);done)|omega|refine o7 (fun _=>?_)
  exact aa3 _ (Le.refl _) aq5 ⟨rfl,rfl⟩
end Fe
end
section
namespace Fe
open Go V
def da8(l:List Nat):List W:=l.map (BitVec.ofNat 64)
theorem bQ5:aP1 cC7=aH1.map (wAV .u64):=rfl
def bF0(n:List W)(i:Nat):Bool:=decide (((n.getD (i/64) 0>>>(i%64))&&&1#64)=1#64)
def aj6(e n:List W):Nat->List W
 |0=>aH1
 |j+1=>if bF0 n (255 - j)=true then aa8 (aa8 (aj6 e n j) (aj6 e n j)) e else aa8 (aj6 e n j) (aj6 e n j)
def aw2(e n:List W):List W:=aj6 e n 256
theorem dk9(e n:List W)(j:Nat):(aj6 e n j).length=5:=by
 cases j with
 |zero=>rfl
 |succ j=>
  rw[aj6];split<;>exact ac8 _ _
theorem dS5(x:W):IntKind.u64.wrap (((BitVec.ofInt IntKind.u64.bits (x.toNat:Int)&&&BitVec.ofInt IntKind.u64.bits 1).toNat:Nat):Int)=((x&&&1#64).toNat:Int):=by
 show IntKind.u64.wrap (((BitVec.ofInt 64 (x.toNat:Int)&&&1#64).toNat:Nat):Int)=_
 rw[aq0,W64.bh6]
theorem d66{n:List W}{i:Nat}:((((n.getD (i/64) 0>>>(i%64))&&&1#64).toNat:Int)=1)=(bF0 n i=true):=by
 unfold bF0;rw[decide_eq_true_eq];apply propext
 constructor
 ·intro h
  apply bs1
  show _=1
  omega
 ·intro h
  rw[h];rfl
theorem cL2(e n:List W)(H:List AObj)(he:e.length=5)(hn:n.length=4):o9 Tryz.prog 158 [.agg (e.map (wAV .u64)),.agg (n.map (wAV .u64))] H (fun y H'=>y=.agg ((aw2 e n).map (wAV .u64))/\H'=H):=by
 have h1:aH1.length=5:=rfl;refine y7 [] [.cell 4 94] 27 Tryz.func158 rfl rfl rfl rfl (nlb rfl) (by kernel_rfl) ?_
 repeat' first|refine o6 ?_|simp -dsimp -implicitDefEqProofs (disch:=first|assumption|omega|simp only[ll];omega) only[go_sem,ac4,he,hn,bQ5,h1,ae3 h1]|refine vcJ ?_ ?_<;>intro _|refine vcA ?_ ?_;focus(repeat'(first|omega|assumption|refine vcA ?_ ?_);done)|omega|refine o7 (fun _=>?_)
 refine aa5 aa7 mixed [] [2,3,4,5] (fun j:Nat=>j<=256) (fun j=>[(6,.lit (.int .i64 (255 - (j:Int))))]) (fun j=>H++[.cells (.one 94) [.lit (.int .u64 0),.lit (.int .u64 0),.lit (.int .u64 0),.lit (.int .u64 0),.lit (.int .u64 0)],.cells (.one 94) ((aj6 e n j).map (wAV .u64))]) (fun j=>256 - j) (by kernel_rfl) ?_ 0 (by omega) y8 rfl
 intro j hj;have hrl:=dk9 e n j;have hend:aw2 e n=aj6 e n 256:=rfl;have hnx:aj6 e n (j+1)=if bF0 n (255 - j)=true then aa8 (aa8 (aj6 e n j) (aj6 e n j)) e else aa8 (aj6 e n j) (aj6 e n j):=rfl
 by_cases h:j < 256
 ·have hjc:(0<=255 - (j:Int))=True:=eq_true (by omega)
  have hq:((255 - (j:Int))/64).toNat=(255 - j)/64:=by omega
  have hr:((255 - (j:Int))%64).toNat=(255 - j)%64:=by omega
  have hg:=ac1 (K:=.u64) (m:=n) (i:=(255 - j)/64) (by omega)
  have hb:=d66 (n:=n) (i:=255 - j);have hm1:(0<=(255 - (j:Int))%64)=True:=eq_true (by omega)
  have hs:255 - (j:Int) - 1=255 - ((j+1:Nat):Int):=by omega
  have ht:=ac8 (aj6 e n j) (aj6 e n j);have hc1:=fun H=>aO4 (aj6 e n j) H hrl
  have hc2:=fun H=>as3 (aa8 (aj6 e n j) (aj6 e n j)) e H ht he
  have ht2:=ac8 (aa8 (aj6 e n j) (aj6 e n j)) e;have ha:=ax7 (l:=aj6 e n j) (m:=aa8 (aj6 e n j) (aj6 e n j)) (by omega)
  have ha2:=ax7 (l:=aa8 (aj6 e n j) (aj6 e n j)) (m:=aa8 (aa8 (aj6 e n j) (aj6 e n j)) e) (by omega)
  generalize aj6 e n j=r at*;generalize aa8 (aa8 r r) e=r2 at*;generalize aa8 r r=r1 at*;by_cases hbt:bF0 n (255 - j)=true
  ·rw[if_pos hbt] at hnx
   have hbc:=eq_true hbt;rw[hbc] at hb;repeat' first|refine o6 ?_|simp -dsimp -implicitDefEqProofs (disch:=first|assumption|omega|simp only[ll];omega) only[go_sem,hjc,hq,hr,hg,hn,hm1,c63,dS5,hb,he,hrl,ht,ht2,ac4,t5 hrl,t5 ht,t5 ht2,ha,ha2]|refine o5 (hc1 _) ?_|refine⟨_,_,hc1 _,?_⟩|refine o5 (hc2 _) ?_|refine⟨_,_,hc2 _,?_⟩|refine vcJ ?_ ?_<;>intro _|refine vcA ?_ ?_;focus(repeat'(first|omega|assumption|refine vcA ?_ ?_);done)|omega|refine o7 (fun _=>?_)
   rw[hs,<-hnx];refine again (j+1) ?_ ?_ rfl y8
   ·omega
   ·omega
  ·rw[if_neg hbt] at hnx
   have hbc:=eq_false hbt;rw[hbc] at hb;repeat' first|refine o6 ?_|simp -dsimp -implicitDefEqProofs (disch:=first|assumption|omega|simp only[ll];omega) only[go_sem,hjc,hq,hr,hg,hn,hm1,c63,dS5,hb,he,hrl,ht,ht2,ac4,t5 hrl,t5 ht,t5 ht2,ha,ha2]|refine o5 (hc1 _) ?_|refine⟨_,_,hc1 _,?_⟩|refine o5 (hc2 _) ?_|refine⟨_,_,hc2 _,?_⟩|refine vcJ ?_ ?_<;>intro _|refine vcA ?_ ?_;focus(repeat'(first|omega|assumption|refine vcA ?_ ?_);done)|omega|refine o7 (fun _=>?_)
   rw[hs,<-hnx];refine again (j+1) ?_ ?_ rfl y8
   ·omega
   ·omega
 ·obtain rfl:j=256:=by omega
  rw[hend];generalize aj6 e n 256=r at*;repeat' first|refine o6 ?_|simp -dsimp -implicitDefEqProofs (disch:=first|assumption|omega|simp only[ll];omega) only[go_sem,ac4,hrl,t5 hrl,ae3 hrl]|refine vcJ ?_ ?_<;>intro _|refine vcA ?_ ?_;focus(repeat'(first|omega|assumption|refine vcA ?_ ?_);done)|omega|refine o7 (fun _=>?_)
  exact aY3 rfl
def aT3:List W:=[18446744073709551595,18446744073709551615,18446744073709551615,9223372036854775807]
def bB0:List W:=[18446744073709551614,18446744073709551615,18446744073709551615,1152921504606846975]
def bp9:List W:=[1718705420411056,234908883556509,2233514472574048,2117202627021982,765476049583133]
theorem aX0(e n:List W):(aw2 e n).length=5:=dk9 e n 256
theorem cf4(e:List W)(H:List AObj)(he:e.length=5):o9 Tryz.prog 102 [.agg (e.map (wAV .u64))] H (fun y H'=>y=.agg ((aw2 e aT3).map (wAV .u64))/\H'=H):=by
 have hc: ∀H,o9 Tryz.prog 158 [.agg (e.map (wAV .u64)),.agg [.lit (.int .u64 18446744073709551595),.lit (.int .u64 18446744073709551615),.lit (.int .u64 18446744073709551615),.lit (.int .u64 9223372036854775807)]] H _:=fun H=>cL2 e aT3 H he rfl
 have hr:=aX0 e aT3;generalize aw2 e aT3=r at*;refine y7 [] [.cell 2 94] 6 Tryz.func102 rfl rfl rfl rfl (nlb rfl) (by kernel_rfl) ?_
 repeat' first|refine o6 ?_|simp -dsimp -implicitDefEqProofs (disch:=first|assumption|omega|simp only[ll];omega) only[go_sem,ac4,he,hr,ae3 hr,t5 hr]|refine o5 (hc _) ?_|refine⟨_,_,hc _,?_⟩|refine vcJ ?_ ?_<;>intro _|refine vcA ?_ ?_;focus(repeat'(first|omega|assumption|refine vcA ?_ ?_);done)|omega|refine o7 (fun _=>?_)
 exact aY3 rfl
def bJ5(l:List W):Bool:=decide (((ak2 l).getD 0 0&&&1)=1)
theorem bv0(a b:UInt8):IntKind.u8.wrap (((BitVec.ofInt IntKind.u8.bits (a.toNat:Int)&&&BitVec.ofInt IntKind.u8.bits (b.toNat:Int)).toNat:Nat):Int)=((a&&&b).toNat:Int):=by
 show IntKind.u8.wrap (((BitVec.ofInt 8 (a.toNat:Int)&&&BitVec.ofInt 8 (b.toNat:Int)).toNat:Nat):Int)=_
 have ha:BitVec.ofInt 8 (a.toNat:Int)=a.toBitVec:=by
  apply bs1
  simp
 have hb:BitVec.ofInt 8 (b.toNat:Int)=b.toBitVec:=by
  apply bs1
  simp
 rw[ha,hb];have:(a.toBitVec&&&b.toBitVec).toNat=(a&&&b).toNat:=rfl;rw[this];exact bb7 (a&&&b).toNat_lt
theorem cg9(a:UInt8):IntKind.u8.wrap (((BitVec.ofInt IntKind.u8.bits (a.toNat:Int)&&&BitVec.ofInt IntKind.u8.bits 1).toNat:Nat):Int)=((a&&&1).toNat:Int):=bv0 a 1
theorem cg8{a:UInt8}:((a.toNat:Int)=1)=(a=1):=by
 apply propext
 constructor
 ·intro h
  apply cf5.1
  show _=1
  omega
 ·intro h
  rw[h];rfl
theorem dS7(l:List W)(H:List AObj)(hl:l.length=5):o9 Tryz.prog 105 [.agg (l.map (wAV .u64))] H (fun y H'=>y=.bool (bJ5 l)/\H'=H):=by
 have hc:=fun H=>bz0 l H hl
 have hb:=aO1 l;unfold bJ5;generalize ak2 l=b at*;refine y7 [] [.tmp 2] 8 Tryz.func105 rfl rfl rfl rfl (nlb rfl) (by kernel_rfl) ?_
 repeat' first|refine o6 ?_|simp -dsimp -implicitDefEqProofs (disch:=first|assumption|omega|simp only[ll];omega) only[go_sem,ac4,hl,hb,cg9,cg8]|refine o5 (hc _) ?_|refine⟨_,_,hc _,?_⟩|refine vcJ ?_ ?_<;>intro _|refine vcA ?_ ?_;focus(repeat'(first|omega|assumption|refine vcA ?_ ?_);done)|omega|refine o7 (fun _=>?_)
 exact y5 ⟨rfl,rfl⟩
theorem cf2(l m:List W)(H:List AObj)(hl:l.length=5)(hm:m.length=5):o9 Tryz.prog 227 [.agg (l.map (wAV .u64)),.agg (m.map (wAV .u64))] H (fun y H'=>y=.bool (decide (ak2 l=ak2 m))/\H'=H):=by
 have hc:=fun H=>bz0 l H hl
 have hc2:=fun H=>bz0 m H hm
 have hb:=aO1 l;have hb2:=aO1 m;generalize ak2 l=b at*;generalize ak2 m=b2 at*;refine y7 [1000001,1000001002001] [.tmp 4] 10 Tryz.func227 rfl rfl rfl rfl (nlb rfl) (by kernel_rfl) ?_
 repeat' first|refine o6 ?_|simp -dsimp -implicitDefEqProofs (disch:=first|assumption|omega|simp only[ll];omega) only[go_sem,ac4,hl,hm,hb,hb2]|refine o5 (hc _) ?_|refine⟨_,_,hc _,?_⟩|refine o5 (hc2 _) ?_|refine⟨_,_,hc2 _,?_⟩|refine vcJ ?_ ?_<;>intro _|refine vcA ?_ ?_;focus(repeat'(first|omega|assumption|refine vcA ?_ ?_);done)|omega|refine o7 (fun _=>?_)
 exact y5 ⟨rfl,rfl⟩
def cc8(c:List W):List W:=if bJ5 c=true then ae5 zeroE c else c
theorem dL5{c:List W}(h:c.length=5):(cc8 c).length=5:=by
 unfold cc8;split
 ·exact aq7 _ _
 ·exact h
def aN0(tn e:List W):Nat->List W->List W×Bool
 |0,_=>(zeroE,false)
 |n+1,c=>if ak2 (aa8 c c)=ak2 e then(cc8 c,true) else aN0 tn e n (aa8 c tn)
def a08(e:List W):List W×Bool:=aN0 bp9 e 2 (aw2 e bB0)
theorem b72(tn e:List W): ∀(n:Nat) (c:List W),c.length=5->(aN0 tn e n c).1.length=5
 |0,_,_=>rfl
 |n+1,c,h=>by
  rw[aN0];split
  ·exact dL5 h
  ·exact b72 tn e n _ (ac8 _ _)
theorem b71(e:List W):(a08 e).1.length=5:=b72 bp9 e 2 _ (aX0 _ _)
def bv6(p:List W×Bool):AV:=.tup [.agg (p.1.map (wAV .u64)),.bool p.2]
theorem bD0{m:Nat}{p:List W×Bool}:Low m (bv6 p):=ag8 (aa2 aP3 (aa2 (.lit _) ab6))
theorem dP9(e:List W)(H:List AObj)(he:e.length=5):o9 Tryz.prog 226 [.agg (e.map (wAV .u64))] H (fun y H'=>y=bv6 (a08 e)/\H'=H):=by
 have hc: ∀H,o9 Tryz.prog 158 [.agg (e.map (wAV .u64)),.agg [.lit (.int .u64 18446744073709551614),.lit (.int .u64 18446744073709551615),.lit (.int .u64 18446744073709551615),.lit (.int .u64 1152921504606846975)]] H _:=fun H=>cL2 e bB0 H he rfl
 have hr:=aX0 e bB0;have hd:a08 e=aN0 bp9 e 2 (aw2 e bB0):=rfl;rw[hd];clear hd;have htl:bp9.length=5:=rfl;have htn:[AV.lit (.int .u64 1718705420411056),.lit (.int .u64 234908883556509),.lit (.int .u64 2233514472574048),.lit (.int .u64 2117202627021982),.lit (.int .u64 765476049583133)]=bp9.map (wAV .u64):=rfl;generalize bp9=tn at*;generalize aw2 e bB0=r at*;generalize hR:aN0 tn e 2 r=R;refine y7 [1000005,1000005002001] [.cell 2 94,.tmp 3] 26 Tryz.func226 rfl rfl rfl rfl (nlb rfl) (by kernel_rfl) ?_
 repeat' first|refine o6 ?_|simp -dsimp -implicitDefEqProofs (disch:=first|assumption|omega|simp only[ll];omega) only[go_sem,ac4,he,hr,ae3 hr,t5 hr,htn,htl,ae3 htl]|refine o5 (hc _) ?_|refine⟨_,_,hc _,?_⟩|refine vcJ ?_ ?_<;>intro _|refine vcA ?_ ?_;focus(repeat'(first|omega|assumption|refine vcA ?_ ?_);done)|omega|refine o7 (fun _=>?_)
 refine aa5 aa7 mixed [1000005,1000005002001] [] (fun x:Nat×List W=>x.1<=2/\x.2.length=5/\aN0 tn e (2 - x.1) x.2=R) (fun x=>[(10,.lit (.int .i64 x.1)),(1,.ip (.agg (e.map (wAV .u64)))),(2,.mp H.length 0),(4,.mp (H.length+1) 0),(5,.mp (H.length+2) 0)]) (fun x=>H++[.cells (.one 94) [AV.lit (.int .u64 0),AV.lit (.int .u64 0),AV.lit (.int .u64 0),AV.lit (.int .u64 0),AV.lit (.int .u64 0)],.cells (.one 94) (tn.map (wAV .u64)),.cells (.one 94) (x.2.map (wAV .u64))]) (fun x=>2 - x.1) (by kernel_rfl) ?_ (0,r) ⟨aL0 2,hr,hR⟩ y8 rfl
 rintro⟨i,c⟩ ⟨hi,hcl,hI⟩
 dsimp only at*;have hc1:=fun H=>aO4 c H hcl
 have hl1:=ac8 c c;have hc2:=fun H=>cf2 (aa8 c c) e H hl1 he
 have hc3:=fun H=>dS7 c H hcl
 have hc4:=fun H=>bN8 c H hcl
 have hl4:(ae5 zeroE c).length=5:=aq7 _ _;have hc5:=fun H=>as3 c tn H hcl htl
 have hl5:=ac8 c tn;have ha4:=ax7 (l:=c) (m:=ae5 zeroE c) (by omega)
 have ha5:=ax7 (l:=c) (m:=aa8 c tn) (by omega)
 by_cases h:i < 2
 ·have hic:((i:Int) < 2)=True:=eq_true (by omega)
  obtain⟨k,hk⟩: ∃k,2 - i=k+1:=⟨1 - i,by omega⟩
  have hk2:k=2 - (i+1):=by omega
  rw[hk,aN0] at hI;unfold cc8 at hI;generalize aa8 c tn=c2 at*;generalize aa8 c c=cc at*;generalize ae5 zeroE c=mc at*;by_cases hs:ak2 cc=ak2 e
  ·rw[if_pos hs] at hI
   have hst:=decide_eq_true hs;rw[hst] at hc2;cases ho:bJ5 c with
   |true=>
    rw[ho,if_pos rfl] at hI;rw[ho] at hc3;repeat' first|refine o6 ?_|simp -dsimp -implicitDefEqProofs (disch:=first|assumption|omega|simp only[ll];omega) only[go_sem,hic,hcl,hl1,hl4,he,ac4,t5 hcl,t5 hl1,t5 hl4,t5 htl,ha4,ae3 hl4]|refine o5 (hc1 _) ?_|refine⟨_,_,hc1 _,?_⟩|refine o5 (hc2 _) ?_|refine⟨_,_,hc2 _,?_⟩|refine o5 (hc3 _) ?_|refine⟨_,_,hc3 _,?_⟩|refine o5 (hc4 _) ?_|refine⟨_,_,hc4 _,?_⟩|refine vcJ ?_ ?_<;>intro _|refine vcA ?_ ?_;focus(repeat'(first|omega|assumption|refine vcA ?_ ?_);done)|omega|refine o7 (fun _=>?_)
    subst hI;exact aa3 (bv6 (mc,true)) (Le.refl _) bD0 ⟨rfl,rfl⟩
   |false=>
    rw[ho,if_neg (by decide)] at hI
    rw[ho] at hc3;repeat' first|refine o6 ?_|simp -dsimp -implicitDefEqProofs (disch:=first|assumption|omega|simp only[ll];omega) only[go_sem,hic,hcl,hl1,he,ac4,t5 hcl,t5 hl1,t5 htl,ae3 hcl]|refine o5 (hc1 _) ?_|refine⟨_,_,hc1 _,?_⟩|refine o5 (hc2 _) ?_|refine⟨_,_,hc2 _,?_⟩|refine o5 (hc3 _) ?_|refine⟨_,_,hc3 _,?_⟩|refine vcJ ?_ ?_<;>intro _|refine vcA ?_ ?_;focus(repeat'(first|omega|assumption|refine vcA ?_ ?_);done)|omega|refine o7 (fun _=>?_)
    subst hI;exact aa3 (bv6 (c,true)) (Le.refl _) bD0 ⟨rfl,rfl⟩
  ·rw[if_neg hs] at hI
   have hsf:=decide_eq_false hs;rw[hsf] at hc2;repeat' first|refine o6 ?_|simp -dsimp -implicitDefEqProofs (disch:=first|assumption|omega|simp only[ll];omega) only[go_sem,hic,hcl,hl1,hl5,he,htl,ac4,t5 hcl,t5 hl1,t5 hl5,t5 htl,ha5]|refine o5 (hc1 _) ?_|refine⟨_,_,hc1 _,?_⟩|refine o5 (hc2 _) ?_|refine⟨_,_,hc2 _,?_⟩|refine o5 (hc5 _) ?_|refine⟨_,_,hc5 _,?_⟩|refine vcJ ?_ ?_<;>intro _|refine vcA ?_ ?_;focus(repeat'(first|omega|assumption|refine vcA ?_ ?_);done)|omega|refine o7 (fun _=>?_)
   refine again ((i+1,c2)) ?_ ?_ rfl y8
   ·dsimp only;omega
   ·exact⟨by dsimp only;omega,hl5,by dsimp only;rw[<-hk2];exact hI⟩
 ·obtain rfl:i=2:=by omega
  have hz:zeroE.length=5:=rfl;have hzz:[AV.lit (.int .u64 0),AV.lit (.int .u64 0),AV.lit (.int .u64 0),AV.lit (.int .u64 0),AV.lit (.int .u64 0)]=zeroE.map (wAV .u64):=rfl;repeat' first|refine o6 ?_|simp -dsimp -implicitDefEqProofs (disch:=first|assumption|omega|simp only[ll];omega) only[go_sem,hcl,ac4,hz]|refine vcJ ?_ ?_<;>intro _|refine vcA ?_ ?_;focus(repeat'(first|omega|assumption|refine vcA ?_ ?_);done)|omega|refine o7 (fun _=>?_)
  subst hI;exact aa3 (bv6 (zeroE,false)) (Le.refl _) bD0 ⟨rfl,rfl⟩
theorem dQ0(b:List UInt8)(H:List AObj)(hb:b.length=32):o9 Tryz.prog 238 [.agg (b.map o8)] H (fun y H'=>y=.agg ((ak2 (au1 b)).map o8)/\H'=H):=by
 have hc:=fun H=>dy4 b H hb
 have hfl:(au1 b).length=5:=by unfold au1;rw[ax0];rfl
 have hc2:=fun H=>bz0 (au1 b) H hfl
 have hbl:=aO1 (au1 b);generalize ak2 (au1 b)=r at*;generalize au1 b=f at*;have hz:(List.replicate 32 (AV.lit (.int .u8 0)))=(List.replicate 32 (0:UInt8)).map o8:=by rw[aS6];rfl
 have ha:af0 (List.replicate 32 (AV.lit (.int .u8 0))) 0 (r.map o8)=r.map o8:=by
  rw[hz];exact ap9 (by simp) hbl
 refine y7 [] [.cell 2 28] 6 Tryz.func238 rfl rfl rfl rfl (nlb rfl) (by kernel_rfl) ?_
 repeat' first|refine o6 ?_|simp -dsimp -implicitDefEqProofs (disch:=first|assumption|omega|simp only[ll];omega) only[go_sem,hb,hbl,ab2,ha]|refine o5 (hc _) ?_|refine⟨_,_,hc _,?_⟩|refine o5 (hc2 _) ?_|refine⟨_,_,hc2 _,?_⟩|refine vcJ ?_ ?_<;>intro _|refine vcA ?_ ?_;focus(repeat'(first|omega|assumption|refine vcA ?_ ?_);done)|omega|refine o7 (fun _=>?_)
 exact aa3 _ (Le.refl _) aq5 ⟨rfl,rfl⟩
theorem dQ7(b:List UInt8)(H:List AObj)(hb:b.length=32):o9 Tryz.prog 224 [.agg (b.map o8)] H (fun y H'=>y=.bool (decide (ak2 (au1 b)=b))/\H'=H):=by
 have hc:=fun H=>dQ0 b H hb
 have hbl:=aO1 (au1 b);generalize ak2 (au1 b)=r at*;refine y7 [1000001,1000001002001] [.tmp 2] 7 Tryz.func224 rfl rfl rfl rfl (nlb rfl) (by kernel_rfl) ?_
 repeat' first|refine o6 ?_|simp -dsimp -implicitDefEqProofs (disch:=first|assumption|omega|simp only[ll];omega) only[go_sem,hb,hbl,ab2]|refine o5 (hc _) ?_|refine⟨_,_,hc _,?_⟩|refine vcJ ?_ ?_<;>intro _|refine vcA ?_ ?_;focus(repeat'(first|omega|assumption|refine vcA ?_ ?_);done)|omega|refine o7 (fun _=>?_)
 exact y5 ⟨rfl,rfl⟩
end Fe
end
section
namespace Sc
open Go V Fe
def ba8(x y:W)(c:Nat):W×Nat:=(BitVec.ofNat 64 (x.toNat+y.toNat+c),(x.toNat+y.toNat+c)/18446744073709551616)
def an1(x y:W)(c:Nat):W×Nat:=(BitVec.ofNat 64 (x.toNat+18446744073709551616 - y.toNat - c),if x.toNat < y.toNat+c then 1 else 0)
def ca5(x:List W)(i:Nat)(s:List W×Nat):List W×Nat:=(s.1.set i (an1 (s.1.getD i 0) (x.getD i 0) s.2).1,(an1 (s.1.getD i 0) (x.getD i 0) s.2).2)
def aL6(w x:List W):Nat->List W×Nat
 |0=>(w,0)
 |i+1=>ca5 x i (aL6 w x i)
def ao3(w x:List W):List W×Nat:=aL6 w x 4
def b91(x:List W)(i:Nat)(s:List W×Nat):List W×Nat:=(s.1.set i (ba8 (s.1.getD i 0) (x.getD i 0) s.2).1,(ba8 (s.1.getD i 0) (x.getD i 0) s.2).2)
def aL4(w x:List W):Nat->List W×Nat
 |0=>(w,0)
 |i+1=>b91 x i (aL4 w x i)
def az6(w x:List W):List W×Nat:=aL4 w x 4
def ak7:List W:=da8 bn6
def tailW:List W:=da8 bO9
def bP5(x y:W)(j:Nat)(s:List W×W):List W×W:=
 let lo:=ba8 (s.1.getD j 0) (x*y) 0
 let up:=ba8 lo.1 s.2 0
 (s.1.set j up.1,hiW x y+BitVec.ofNat 64 lo.2+BitVec.ofNat 64 up.2)
def ap8(x:W)(b:List W)(i:Nat)(out:List W):Nat->List W×W
 |0=>(out,0)
 |k+1=>bP5 x (b.getD k 0) (i+k) (ap8 x b i out k)
def cj4:List W:=[0,0,0,0,0,0,0,0]
def aS0(a b:List W):Nat->List W
 |0=>cj4
 |i+1=>(ap8 (a.getD i 0) b i (aS0 a b i) 4).1.set (i+4) (ap8 (a.getD i 0) b i (aS0 a b i) 4).2
def a15(a b:List W):List W:=aS0 a b 4
def bY8(l:List W):List W:=[l.getD 0 0,l.getD 1 0,l.getD 2 0,l.getD 3 0&&&1152921504606846975#64]
def dc1(l:List W)(i:Nat):W:=if i+4 < 8 then l.getD (i+3) 0>>>60|||l.getD (i+4) 0<<<4 else l.getD (i+3) 0>>>60
def bd7(l:List W):Nat->List W
 |0=>[0,0,0,0,0]
 |i+1=>(bd7 l i).set i (dc1 l i)
def aL8(h:List W):Nat->List W
 |0=>cj4
 |i+1=>(ap8 (tailW.getD i 0) h i (aL8 h i) 5).1.set (i+5) ((ap8 (tailW.getD i 0) h i (aL8 h i) 5).1.getD (i+5) 0+(ap8 (tailW.getD i 0) h i (aL8 h i) 5).2)
def bR3(l:List W):List W:=aL8 (bd7 l 5) 2
def b54(i:Nat)(sum low:List W):List W:=if i%2=0 then(az6 sum low).1 else(ao3 (az6 sum ak7).1 low).1
def ax4(l:List W):Nat->List W×List W
 |0=>([0,0,0,0],l)
 |i+1=>(b54 i (ax4 l i).1 (bY8 (ax4 l i).2),bR3 (ax4 l i).2)
def br1:Nat->List W->List W
 |0,s=>s
 |n+1,s=>if(ao3 s ak7).2=1 then s else br1 n (ao3 s ak7).1
def as9(l:List W):List W:=br1 16 (ax4 l 4).1
def bd4(w:List W):List W:=as9 [w.getD 0 0,w.getD 1 0,w.getD 2 0,w.getD 3 0,0,0,0,0]
def de5(w:List W)(i:Nat):UInt8:=UInt8.ofNat (w.getD (i/8) 0>>>(8*(i%8))).toNat
def aO2(w:List W):Nat->List UInt8
 |0=>List.replicate 32 0
 |i+1=>(aO2 w i).set i (de5 w i)
def aY8(w:List W):List UInt8:=aO2 w 32
def at6(b:List UInt8):List W:=as4 b 32
def bv8(a:List UInt8):List UInt8:=aY8 (as9 (at6 (a.take 32)++at6 (a.drop 32)))
def b74(a:List UInt8):Bool:=decide ((ao3 (at6 a) ak7).2=1)
def bk3(a b c:List UInt8):List UInt8:=aY8 (bd4 (az6 (as9 (a15 (at6 a) (at6 b))) (bd4 (at6 c))).1)
def aR4(a:List UInt8):List UInt8:=(a.set 0 (a.getD 0 0&&&248)).set 31 (a.getD 31 0&&&63|||64)
theorem bx3(w x:List W)(i:Nat):(aL6 w x i).1.length=w.length:=by
 induction i with
 |zero=>rfl
 |succ i ih=>rw[aL6,ca5,List.length_set,ih]
theorem bw8(w x:List W)(i:Nat):(aL4 w x i).1.length=w.length:=by
 induction i with
 |zero=>rfl
 |succ i ih=>rw[aL4,b91,List.length_set,ih]
theorem eg4(w x:List W)(i:Nat):(aL6 w x i).2<=1:=by
 cases i with
 |zero=>exact aL0 1
 |succ i=>
  rw[aL6,ca5,an1];dsimp only;split<;>omega
theorem en7(x y:W){c:Nat}(h:c<=1):(ba8 x y c).2<=1:=by
 have:=x.isLt;have:=y.isLt;unfold ba8;dsimp only;omega
theorem ev2(w x:List W)(i:Nat):(aL4 w x i).2<=1:=by
 induction i with
 |zero=>exact aL0 1
 |succ i ih=>
  rw[aL4,b91];exact en7 _ _ ih
theorem q_len(x:W)(b:List W)(i:Nat)(out:List W)(k:Nat):(ap8 x b i out k).1.length=out.length:=by
 induction k with
 |zero=>rfl
 |succ k ih=>
  rw[ap8,bP5];dsimp only;rw[List.length_set,ih]
theorem cn9(a b:List W)(i:Nat):(aS0 a b i).length=8:=by
 induction i with
 |zero=>rfl
 |succ i ih=>rw[aS0,List.length_set,q_len,ih]
theorem dr3(l:List W)(i:Nat):(bd7 l i).length=5:=by
 induction i with
 |zero=>rfl
 |succ i ih=>rw[bd7,List.length_set,ih]
theorem bL6(h:List W)(i:Nat):(aL8 h i).length=8:=by
 induction i with
 |zero=>rfl
 |succ i ih=>rw[aL8,List.length_set,q_len,ih]
theorem cq3{l:List W}(hl:l.length=8)(i:Nat):(ax4 l i).1.length=4/\(ax4 l i).2.length=8:=by
 induction i with
 |zero=>exact⟨rfl,hl⟩
 |succ i ih=>
  rw[ax4];refine⟨?_,bL6 _ _⟩;show (b54 i _ _).length=4
  unfold b54 az6 ao3;split
  ·rw[bw8,ih.1]
  ·rw[bx3,bw8,ih.1]
theorem dI5(n:Nat): ∀s:List W,s.length=4->(br1 n s).length=4:=by
 induction n with
 |zero=>exact fun s h=>h
 |succ n ih=>
  intro s h;rw[br1];split
  ·exact h
  ·exact ih _ (by unfold ao3;rw[bx3,h])
theorem bt2{l:List W}(hl:l.length=8):(as9 l).length=4:=dI5 _ _ (cq3 hl 4).1
theorem bZ0(w:List W):(bd4 w).length=4:=bt2 rfl
theorem cd9(w:List W)(i:Nat):(aO2 w i).length=32:=by
 induction i with
 |zero=>rfl
 |succ i ih=>rw[aO2,List.length_set,ih]
theorem bj4(w:List W):(aY8 w).length=32:=cd9 w 32
theorem aU8(b:List UInt8):(at6 b).length=4:=cx6 b 32
def bm3:List W->Nat
 |[]=>0
 |x::l=>x.toNat+18446744073709551616*bm3 l
theorem bA4(x y:W){c:Nat}(h:c<=1):(an1 x y c).1.toNat+y.toNat+c=x.toNat+18446744073709551616*(an1 x y c).2:=by
 have:=x.isLt;have:=y.isLt;unfold an1;dsimp only;rw[aA8];simp only[Nat.reducePow] at*;split<;>omega
theorem cy4(x y:W)(c:Nat):(an1 x y c).2<=1:=by
 unfold an1;dsimp only;split<;>omega
theorem bK0{w x:List W}(hw:w.length=4)(hx:x.length=4):bm3 (ao3 w x).1+bm3 x=bm3 w+115792089237316195423570985008687907853269984665640564039457584007913129639936*(ao3 w x).2:=by
 match w,hw,x,hx with
 |[a,b,c,d],_,[e,f,g,h],_=>
  have s1:=bA4 a e (c:=0) (by omega)
  have l1:=cy4 a e 0;have s2:=bA4 b f l1;have l2:=cy4 b f (an1 a e 0).2;have s3:=bA4 c g l2;have l3:=cy4 c g (an1 b f (an1 a e 0).2).2;have s4:=bA4 d h l3;have hm:ao3 [a,b,c,d] [e,f,g,h]=([(an1 a e 0).1,(an1 b f (an1 a e 0).2).1,(an1 c g (an1 b f (an1 a e 0).2).2).1,(an1 d h (an1 c g (an1 b f (an1 a e 0).2).2).2).1],(an1 d h (an1 c g (an1 b f (an1 a e 0).2).2).2).2):=rfl;rw[hm];dsimp only;simp only[bm3];generalize an1 d h (an1 c g (an1 b f (an1 a e 0).2).2).2=p4 at*;generalize an1 c g (an1 b f (an1 a e 0).2).2=p3 at*;generalize an1 b f (an1 a e 0).2=p2 at*;generalize an1 a e 0=p1 at*;omega
theorem dT9{w:List W}(hw:w.length=4):bm3 w < 115792089237316195423570985008687907853269984665640564039457584007913129639936:=by
 match w,hw with
 |[a,b,c,d],_=>
  have:=a.isLt;have:=b.isLt;have:=c.isLt;have:=d.isLt;simp only[bm3];omega
theorem dm0:bm3 ak7=7237005577332262213973186563042994240857116359379907606001950938285454250989:=by kernel_rfl
theorem d67(w x:List W):(ao3 w x).2<=1:=eg4 w x 4
theorem dp9{s:List W}{n:Nat}(hs:s.length=4)(h:bm3 s < (n+1)*7237005577332262213973186563042994240857116359379907606001950938285454250989)(hc: ¬(ao3 s ak7).2=1):bm3 (ao3 s ak7).1 < n*7237005577332262213973186563042994240857116359379907606001950938285454250989:=by
 have h1:=bK0 hs (x:=ak7) rfl;have h2:=d67 s ak7;rw[dm0] at h1;have h3:(ao3 s ak7).2=0:=by omega
 rw[h3] at h1;rw[aC7] at h;omega
end Sc
end
end Go.Proofs.YtnfcdbgiclnaeaaGreatDoor
