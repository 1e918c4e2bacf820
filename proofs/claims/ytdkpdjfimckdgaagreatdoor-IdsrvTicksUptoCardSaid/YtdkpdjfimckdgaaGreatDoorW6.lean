/- strings: Index, Cut, Contains at one byte, CutPrefix; Printable; base's Decode, Unsafe, Size. -/
import Derived.Test.YtdkpdjfimckdgaaGreatDoorW5
import Derived.Shelf.Strings.Search3
import Derived.Test.YtdkpdjfimckdgaaGreatDoorW4
import Derived.Lib.Bytealg
set_option linter.unusedVariables false
set_option linter.unusedSimpArgs false
set_option maxRecDepth 10000
set_option maxHeartbeats 4000000
namespace Go.Proofs.YtdkpdjfimckdgaaGreatDoor
section
open Go V
def av2(s:bytes)(c:UInt8):bytes×bytes×Bool:=if s.idxOf c < s.length then(s.take (s.idxOf c),s.drop (s.idxOf c+1),true) else(s,[],false)
def bI6(p:bytes×bytes×Bool):AV:=.tup [.str p.1,.str p.2.1,.bool p.2.2]
def bH2(s w:bytes):bytes×Bool:=if w.isPrefixOf s then(s.drop w.length,true) else(s,false)
theorem dy3(c:UInt8):aw2 [c] c=0:=by simp[aw2]
theorem cZ3(s:bytes)(c:UInt8)(H:List AObj):o7 Tryz.prog 326 [.str s,.str [c]] H (fun y H'=>y=.lit (.int .i64 (aw2 s c))/\H'=H):=by
 by_cases h:s=[c]
 ·have hc:([c]=s)=True:=eq_true h.symm
  rw[h,dy3];refine o8 [] [.tmp 4] 143 Tryz.func326 ?_;repeat' first|refine l9 ?_|simp -dsimp -implicitDefEqProofs only[go_sem]
  exact o5 ⟨rfl,rfl⟩
 ·have hc:([c]=s)=False:=eq_false fun e=>h e.symm
  refine o8 [] [.tmp 4] 143 Tryz.func326 ?_;repeat' first|refine l9 ?_|simp -dsimp -implicitDefEqProofs only[go_sem,hc]|refine l7 (bK9 _ _ _) ?_|fail
  exact o5 ⟨rfl,rfl⟩
theorem em4(s:bytes)(c:UInt8)(H:List AObj)(hs:s.length<=100000000):o7 Tryz.prog 245 [.str s,.str [c]] H (fun y H'=>y=bI6 (av2 s c)/\H'=H):=by
 have cI:=fun H=>cZ3 s c H
 unfold av2;unfold aw2 at cI;by_cases h:s.idxOf c < s.length
 ·rw[if_pos h] at cI⊢
  have e:((s.idxOf c:Int)+1).toNat=s.idxOf c+1:=by omega
  refine o8 [1000003] [.tmp 4,.tmp 5,.tmp 6] 23 Tryz.func245 ?_;repeat' first|refine l9 ?_|simp -dsimp -implicitDefEqProofs (disch:=first|omega|simp only[ll];omega) only[go_sem,e]|refine l7 (cI _) ?_|refine vcA ?_ ?_|omega
  exact o5 ⟨rfl,rfl⟩
 ·rw[if_neg h] at cI⊢
  refine o8 [1000003] [.tmp 4,.tmp 5,.tmp 6] 23 Tryz.func245 ?_;repeat' first|refine l9 ?_|simp -dsimp -implicitDefEqProofs only[go_sem]|refine l7 (cI _) ?_|fail
  exact o5 ⟨rfl,rfl⟩
theorem cZ5(s:bytes)(c:UInt8)(H:List AObj)(hs:s.length<=100000000):o7 Tryz.prog 159 [.str s,.str [c]] H (fun y H'=>y=bI6 (av2 s c)/\H'=H):=by
 have cI:=fun H=>em4 s c H hs
 unfold bI6 at cI;refine o8 [] [.tmp 4,.tmp 5,.tmp 6] 13 Tryz.func159 ?_;repeat' first|simp -dsimp -implicitDefEqProofs only[go_sem]|refine l7 (cI _) ?_|fail
 exact o5 ⟨rfl,rfl⟩
theorem cy2(l w:List UInt8)(H:List AObj)(hw:w.length<=1000):o7 Tryz.prog 334 [.str l,.str w] H (fun x H'=>x=.bool (w.isPrefixOf l)/\H'=H):=by
 refine o8 [] [.tmp 4] 18 Tryz.func334 ?_;repeat' first|refine l9 ?_|simp -dsimp -implicitDefEqProofs only[go_sem]|refine vcA ?_ ?_|omega|refine aa8 fun _=>?_
 ·rename_i h
  refine o5 ⟨ad5 ?_,rfl⟩;rw[aN3,decide_eq_decide];constructor
  ·intro h2;exact⟨by omega,h2⟩
  ·intro h2;exact h2.2
 ·rename_i h
  refine o5 ⟨ad5 ?_,rfl⟩;rw[aN3,decide_eq_false];omega
theorem cG1(s w:bytes)(H:List AObj)(hw:w.length<=100):o7 Tryz.prog 248 [.str s,.str w] H (fun y H'=>y=.tup [.str (bH2 s w).1,.bool (bH2 s w).2]/\H'=H):=by
 have cI:=fun H=>cy2 s w H (by omega)
 unfold bH2;cases h:w.isPrefixOf s with
 |true=>
  rw[h] at cI;have hl:w.length<=s.length:=by
   rw[aN3,decide_eq_true_eq] at h;exact h.1
  refine o8 [] [.tmp 4,.tmp 5] 15 Tryz.func248 ?_;repeat' first|refine l9 ?_|simp -dsimp -implicitDefEqProofs (disch:=(simp only[ll];omega)) only[go_sem]|refine l7 (cI _) ?_|refine vcA ?_ ?_|omega
  exact o5 ⟨rfl,rfl⟩
 |false=>
  rw[h] at cI;refine o8 [] [.tmp 4,.tmp 5] 15 Tryz.func248 ?_;repeat' first|refine l9 ?_|simp -dsimp -implicitDefEqProofs only[go_sem]|refine l7 (cI _) ?_|fail
  exact o5 ⟨rfl,rfl⟩
theorem cG2(s w:bytes)(H:List AObj)(hw:w.length<=100):o7 Tryz.prog 163 [.str s,.str w] H (fun y H'=>y=.tup [.str (bH2 s w).1,.bool (bH2 s w).2]/\H'=H):=by
 refine o8 [] [.tmp 4,.tmp 5] 11 Tryz.func163 ?_;repeat' first|simp -dsimp -implicitDefEqProofs only[go_sem]|refine l7 (cG1 _ _ _ hw) ?_|fail
 exact o5 ⟨rfl,rfl⟩
end
section
open Go V
def rhoC:Go.Shelf.Ren where
 f n:=if n=143 then 244 else if n=144 then 158 else if n=217 then 249 else if n=219 then 326 else if n=224 then 401 else if n=225 then 400 else if n=266 then 335 else if n=267 then 402 else 434
 t n:=if n=46 then 292 else if n=51 then 362 else if n=146 then 513 else n
 g _:=4
theorem laysC:Lays.n144 Tryz.prog rhoC where
 mixed:=mixed
 f143:=by kernel_rfl
 f144:=by kernel_rfl
 f217:=by kernel_rfl
 f219:=by kernel_rfl
 f224:=by kernel_rfl
 f225:=by kernel_rfl
 f266:=by kernel_rfl
 f267:=by kernel_rfl
 f314:=by kernel_rfl
 t3:=by kernel_rfl
 a3:=fun _=>rfl
 z3:=fun _=>rfl
 v3:=fun _=>rfl
 t4:=by kernel_rfl
 a4:=fun _=>rfl
 z4:=fun _=>rfl
 v4:=fun _=>rfl
 t5:=by kernel_rfl
 a5:=fun _=>rfl
 z5:=fun _=>rfl
 v5:=fun _=>rfl
 t9:=by kernel_rfl
 a9:=fun _=>rfl
 z9:=fun _=>rfl
 v9:=fun _=>rfl
 t46:=by kernel_rfl
 a46:=fun _=>rfl
 z46:=fun _=>rfl
 v46:=fun _=>rfl
 t51:=by kernel_rfl
 a51:=fun _=>rfl
 z51:=fun _=>rfl
 v51:=fun _=>rfl
 t146:=by kernel_rfl
 a146:=fun _=>rfl
 z146:=fun _=>rfl
 v146:=fun _=>rfl
 g1:=by kernel_rfl
theorem aC4(s u:bytes)(H:List AObj)(hs:s.length<=1000000):o7 Tryz.prog 158 [.str s,.str u] H (fun y H'=>y=.bool (Lib.contains s u)/\H'=H):=by
 refine b68 Tryz.func158 rfl rfl fun G w vs hi ha=>?_
 obtain⟨m,hm⟩:=(hi.tabs.1.1.2.2 4 rfl).2;have e:vs= #[.string ⟨s.toArray⟩,.string ⟨u.toArray⟩]:=by
  obtain⟨vl⟩:=vs;match vl,ha with
  |[v1,v2],h=>
   have h1:=ak9 (h.2 0 _ v1 rfl rfl);have h2:=ak9 (h.2 1 _ v2 rfl rfl);rw[h1,h2]
  |[],h=>exact absurd h.1 (by simp)
  |[_],h=>exact absurd h.1 (by simp)
  |_::_::_::_,h=>exact absurd h.1 (by simp)
 subst e;refine(Any.strings_Contains laysC ⟨s.toArray⟩ ⟨u.toArray⟩ m w (by simp only[ByteArray.size,aK9];omega) hm).mono ?_
 rintro e w' ⟨rfl,rfl⟩
 exact⟨_,.bool (Lib.contains s u),rfl,.refl _,fun _ _ _=>.lit _,rfl,rfl⟩
end
section
open Go V
namespace Id
def aN4(k:UInt8):bytes×Nat:=if k.toNat=64 then([97,98,99,100,101,102,103,104,105,106,107,108,109,110,111,112,113,114,115,116,117,118,119,120,121,122,48,49,50,51,52,53,54,55,56,57,46,95,61,47,43,45],200) else if k.toNat=33 then([97,98,99,100,101,102,103,104,105,106,107,108,109,110,111,112,113,114,115,116,117,118,119,120,121,122,65,66,67,68,69,70,71,72,73,74,75,76,77,78,79,80,81,82,83,84,85,86,87,88,89,90,48,49,50,51,52,53,54,55,56,57],64) else if k.toNat=58 then([48,49,50,51,52,53,54,55,56,57],5) else([97,98,99,100,101,102,103,104,105,106,107,108,109,110,111,112,113,114,115,116,117,118,119,120,121,122,65,66,67,68,69,70,71,72,73,74,75,76,77,78,79,80,81,82,83,84,85,86,87,88,89,90,48,49,50,51,52,53,54,55,56,57,46,45],230)
def bi9(g:bytes×Nat):AV:=.agg [.str g.1,.lit (.int .i64 g.2)]
def bm5(g:bytes×Nat)(s:bytes):Bool:=decide (s≠[])&&(decide (s.length<=g.2)&&s.all g.1.contains)
def cu3(g:bytes×Nat):Bool:=decide (1 < g.1.length)&&decide (g.1.length<=1000)&&g.1.all fun c=>decide (c.toNat < 128)
theorem b47(k:UInt8):cu3 (aN4 k)=true:=by
 unfold aN4;split
 ·decide
 ·split
  ·decide
  ·split<;>decide
def cg5(s:bytes):Bool:=bm5 (aN4 0) s&&(decide (aw3 ([46,45]:bytes).contains (ap5 ([46,45]:bytes).contains s)=s)&&!Lib.contains s [46,46])
def aS2(s:bytes):Bool:=cg5 (av2 s 58).1&&(!(av2 s 58).2.2||bm5 (aN4 58) (av2 s 58).2.1)
def ar9(k:UInt8)(s:bytes):Bool:=decide (s.length<=255)&&(decide (s.head?=some k)&&((av2 (s.drop 1) 58).2.2&&(bm5 (aN4 k) (av2 (s.drop 1) 58).1&&aS2 (av2 (s.drop 1) 58).2.1)))
theorem co0(g s:bytes)(H:List AObj)(hs:s.length<=1000000):o7 Tryz.prog 247 [.str s,.str g] H (fun y H'=>y=.bool (s.all g.contains)/\H'=H):=by
 generalize hR:s.all g.contains=R;refine o8 [] [.tmp 4] 18 Tryz.func247 ?_;repeat' simp -dsimp -implicitDefEqProofs only[go_sem]
 refine aa7 ab6 mixed [] [0,1,7] (fun i:Nat=>i<=s.length/\(s.drop i).all g.contains=R) (fun i=>[(8,.lit (.int .i64 i))]) (fun _=>H) (fun i=>s.length - i) (by kernel_rfl) ?_ 0 ⟨by omega,hR⟩ aa3 rfl
 rintro i ⟨hi,hI⟩
 by_cases h:i < s.length
 ·have hc:((i:Int) < (s.length:Int))=True:=eq_true (by omega)
  rw[aL3 h,List.all_cons] at hI;have hg:s.getD i 0=s[i]:=by simp[List.getD,h]
  rw[<-hg] at hI;have cI:=fun H=>al7 g (s.getD i 0) H
  unfold aw2 at cI;by_cases h1:g.idxOf (s.getD i 0) < g.length
  ·rw[if_pos h1] at cI
   have hk:g.contains (s.getD i 0)=true:=by
    rw[aW8];exact bn8.1 h1
   rw[hk,Bool.true_and] at hI;repeat' first|refine l9 ?_|simp -dsimp -implicitDefEqProofs (disch:=omega) only[go_sem,hc]|refine l7 (cI _) ?_|refine vcA ?_ ?_|omega
   refine again (i+1) ?_ ?_ rfl aa3
   ·omega
   ·exact⟨by omega,hI⟩
  ·rw[if_neg h1] at cI
   have hk:g.contains (s.getD i 0)=false:=by
    rw[<-bQ6,aW8];exact fun m=>h1 (bn8.2 m)
   rw[hk,az9] at hI;subst hI;repeat' first|refine l9 ?_|simp -dsimp -implicitDefEqProofs only[go_sem,hc]|refine l7 (cI _) ?_|fail
   exact o5 ⟨rfl,rfl⟩
 ·have hc:((i:Int) < (s.length:Int))=False:=eq_false (by omega)
  rw[bc5 (by omega)] at hI
  subst hI;repeat' first|refine l9 ?_|simp -dsimp -implicitDefEqProofs only[go_sem,hc]
  exact o5 ⟨rfl,rfl⟩
theorem cv5(g:bytes×Nat)(s:bytes)(H:List AObj)(hg:cu3 g=true)(hs:s.length<=10000):o7 Tryz.prog 162 [bi9 g,.str s] H (fun y H'=>y=.bool (bm5 g s)/\H'=H):=by
 obtain⟨b,n⟩:=g;unfold cu3 at hg;simp only[xq3,decide_eq_true_eq,xq6] at hg;obtain⟨⟨h1,h2⟩,h3⟩:=hg;have cT:=fun H=>b07 s b H (by omega) h1 h2 (fun i hi=>by
  have:b.getD i 0=b[i]:=by simp[List.getD,hi]
  rw[this];exact h3 _ (aT3 hi))
 have cO:=fun H=>co0 b s H (by omega)
 unfold bi9 bm5;dsimp only;have ht:aw3 b.contains (ap5 b.contains s)=[]↔s.all b.contains=true:=bA4;generalize aw3 b.contains (ap5 b.contains s)=T at*;generalize s.all b.contains=A at*;by_cases h0:s=[]
 ·subst h0
  refine o8 [] [.tmp 4] 27 Tryz.func162 ?_;repeat' first|refine l9 ?_|simp -dsimp -implicitDefEqProofs only[go_sem]
  exact o5 ⟨rfl,rfl⟩
 ·have h0c:=eq_false h0
  rw[decide_eq_true h0,Bool.true_and];by_cases hl:s.length<=n
  ·rw[decide_eq_true hl,Bool.true_and]
   have hlc:((s.length:Int)<=(n:Int))=True:=eq_true (by omega)
   cases A with
   |true=>
    have hT:=eq_true (ht.2 rfl);refine o8 [] [.tmp 4] 27 Tryz.func162 ?_;repeat' first|refine l9 ?_|simp -dsimp -implicitDefEqProofs (disch:=omega) only[go_sem,h0c,hlc,hT]|refine l7 (cT _) ?_|refine l7 (cO _) ?_|fail
    exact o5 ⟨rfl,rfl⟩
   |false=>
    have hT:(T=[])=False:=eq_false fun e=>by cases ht.1 e
    refine o8 [] [.tmp 4] 27 Tryz.func162 ?_;repeat' first|refine l9 ?_|simp -dsimp -implicitDefEqProofs (disch:=omega) only[go_sem,h0c,hlc,hT]|refine l7 (cT _) ?_|fail
    exact o5 ⟨rfl,rfl⟩
  ·rw[decide_eq_false hl,az9]
   have hlc:((s.length:Int)<=(n:Int))=False:=eq_false (by omega)
   refine o8 [] [.tmp 4] 27 Tryz.func162 ?_;repeat' first|refine l9 ?_|simp -dsimp -implicitDefEqProofs only[go_sem,h0c,hlc]
   exact o5 ⟨rfl,rfl⟩
theorem br9(k:UInt8)(H:List AObj):o7 Tryz.prog 161 [.lit (.int .u8 k.toNat)] H (fun y H'=>y=bi9 (aN4 k)/\H'=H):=by
 unfold aN4 bi9;refine o8 [] [.cell 2 243] 14 Tryz.func161 ?_;repeat' first|refine l9 ?_|simp -dsimp -implicitDefEqProofs (disch:=(simp only[ll];omega)) only[go_sem]|refine vcA ?_ ?_|refine aa8 fun _=>?_
 ·refine aa1 _ (Le.refl _) (am9 (o9 (.str _) (o9 (.lit _) aa4))) ⟨?_,rfl⟩
  rw[if_pos (by omega)]
  rfl
 ·refine aa1 _ (Le.refl _) (am9 (o9 (.str _) (o9 (.lit _) aa4))) ⟨?_,rfl⟩
  rw[if_neg (by omega),if_pos (by omega)]
  rfl
 ·refine aa1 _ (Le.refl _) (am9 (o9 (.str _) (o9 (.lit _) aa4))) ⟨?_,rfl⟩
  rw[if_neg (by omega),if_neg (by omega),if_pos (by omega)]
  rfl
 ·refine aa1 _ (Le.refl _) (am9 (o9 (.str _) (o9 (.lit _) aa4))) ⟨?_,rfl⟩
  rw[if_neg (by omega),if_neg (by omega),if_neg (by omega)]
  rfl
theorem ea0(s:bytes)(H:List AObj)(hs:s.length<=10000):o7 Tryz.prog 160 [.str s] H (fun y H'=>y=.bool (cg5 s)/\H'=H):=by
 have c1:=fun H=>br9 0 H
 have c2:=fun H=>cv5 (aN4 0) s H (b47 0) hs
 have c3:=fun H=>b07 s ([46,45]:bytes) H (by omega) (by decide) (by decide) (by decide)
 have c4:=fun H=>aC4 s [46,46] H (by omega)
 unfold cg5;unfold bi9 at c1 c2;simp only[UInt8.reduceToNat] at c1;generalize aN4 0=g at*;generalize bm5 g s=F at*;generalize aw3 ([46,45]:bytes).contains (ap5 ([46,45]:bytes).contains s)=T at*;generalize Lib.contains s [46,46]=C at*;cases F with
 |false=>
  refine o8 [] [.tmp 2] 17 Tryz.func160 ?_;repeat' first|refine l9 ?_|simp -dsimp -implicitDefEqProofs only[go_sem]|refine l7 (c1 _) ?_|refine l7 (c2 _) ?_|fail
  exact o5 ⟨rfl,rfl⟩
 |true=>
  by_cases h:T=s
  ·have hc:=eq_true h
   rw[decide_eq_true h];refine o8 [] [.tmp 2] 17 Tryz.func160 ?_;repeat' first|refine l9 ?_|simp -dsimp -implicitDefEqProofs only[go_sem,hc]|refine l7 (c1 _) ?_|refine l7 (c2 _) ?_|refine l7 (c3 _) ?_|refine l7 (c4 _) ?_|fail
   exact o5 ⟨by simp,rfl⟩
  ·have hc:=eq_false h
   rw[decide_eq_false h];refine o8 [] [.tmp 2] 17 Tryz.func160 ?_;repeat' first|refine l9 ?_|simp -dsimp -implicitDefEqProofs only[go_sem,hc]|refine l7 (c1 _) ?_|refine l7 (c2 _) ?_|refine l7 (c3 _) ?_|fail
   exact o5 ⟨rfl,rfl⟩
theorem b61{s:bytes}{c:UInt8}:(av2 s c).1.length<=s.length/\(av2 s c).2.1.length<=s.length:=by
 unfold av2;split
 ·simp only[List.length_take,List.length_drop]
  omega
 ·simp
theorem bQ1(s:bytes)(H:List AObj)(hs:s.length<=10000):o7 Tryz.prog 73 [.str s] H (fun y H'=>y=.bool (aS2 s)/\H'=H):=by
 have hl:=b61 (s:=s) (c:=58);have c0:=fun H=>cZ5 s 58 H (by omega)
 have c1:=fun H=>br9 58 H
 have c2:=fun H=>cv5 (aN4 58) (av2 s 58).2.1 H (b47 58) (by omega)
 have c3:=fun H=>ea0 (av2 s 58).1 H (by omega)
 unfold aS2;unfold bi9 at c1 c2;unfold bI6 at c0;simp only[UInt8.reduceToNat] at c1;generalize aN4 58=g at*;generalize av2 s 58=p at*;obtain⟨h,port,b⟩:=p;dsimp only at*;generalize bm5 g port=F at*;generalize cg5 h=G at*;cases G with
 |false=>
  refine o8 [] [.tmp 2] 23 Tryz.func73 ?_;repeat' first|refine l9 ?_|simp -dsimp -implicitDefEqProofs only[go_sem]|refine l7 (c0 _) ?_|refine l7 (c3 _) ?_|fail
  exact o5 ⟨rfl,rfl⟩
 |true=>
  cases b with
  |false=>
   refine o8 [] [.tmp 2] 23 Tryz.func73 ?_;repeat' first|refine l9 ?_|simp -dsimp -implicitDefEqProofs only[go_sem]|refine l7 (c0 _) ?_|refine l7 (c3 _) ?_|fail
   exact o5 ⟨rfl,rfl⟩
  |true=>
   refine o8 [] [.tmp 2] 23 Tryz.func73 ?_;repeat' first|refine l9 ?_|simp -dsimp -implicitDefEqProofs only[go_sem]|refine l7 (c0 _) ?_|refine l7 (c1 _) ?_|refine l7 (c2 _) ?_|refine l7 (c3 _) ?_|fail
   exact o5 ⟨by simp,rfl⟩
end Id
end
section
open Go V
namespace Id
theorem dN8{s:bytes}{k:UInt8}:([k]:bytes).isPrefixOf s=decide (s.head?=some k):=by
 cases s with
 |nil=>rfl
 |cons a r=>
  simp only[List.isPrefixOf,List.head?_cons,Bool.and_true,Option.some.injEq];rw[bf7,decide_eq_true_eq,beq_iff_eq];exact eq_comm
theorem b50(k:UInt8)(hk:k=64\/k=33)(s:bytes)(H:List AObj)(hs:s.length<=10000):o7 Tryz.prog 191 [.str s,.lit (.int .u8 k.toNat)] H (fun y H'=>y=.bool (ar9 k s)/\H'=H):=by
 have hl:=b61 (s:=s.drop 1) (c:=58);rw[List.length_drop] at hl;have c0:=fun H=>bL0 s [k] H (by omega)
 rw[dN8] at c0;have c1:=fun H=>cZ5 (s.drop 1) 58 H (by rw[List.length_drop];omega)
 have c2:=fun H=>br9 k H
 have c3:=fun H=>cv5 (aN4 k) (av2 (s.drop 1) 58).1 H (b47 k) (by omega)
 have c4:=fun H=>bQ1 (av2 (s.drop 1) 58).2.1 H (by omega)
 unfold ar9;unfold bi9 at c2 c3;unfold bI6 at c1;generalize aN4 k=g at*;generalize av2 (s.drop 1) 58=p at*;obtain⟨h,port,b⟩:=p;dsimp only at*;generalize bm5 g h=F at*;generalize aS2 port=G at*;by_cases hn:s.length<=255
 ·rw[decide_eq_true hn,Bool.true_and]
  by_cases hp:s.head?=some k
  ·rw[decide_eq_true hp] at c0⊢
   have h1:1<=s.length:=by
    cases s with
    |nil=>cases hp
    |cons a r=>simp
   have hnc:((255:Int) < (s.length:Int))=False:=eq_false (by omega)
   rw[Bool.true_and];rcases hk with rfl|rfl<;>simp only[UInt8.reduceToNat] at* <;>cases b<;>cases F
   ·refine o8 [] [.tmp 4] 37 Tryz.func191 ?_
    repeat' first|refine l9 ?_|simp -dsimp -implicitDefEqProofs (disch:=first|omega|simp only[ll];omega) only[go_sem,hnc]|refine l7 (c0 _) ?_|refine l7 (c1 _) ?_|refine vcA ?_ ?_|omega
    exact o5 ⟨rfl,rfl⟩
   ·refine o8 [] [.tmp 4] 37 Tryz.func191 ?_
    repeat' first|refine l9 ?_|simp -dsimp -implicitDefEqProofs (disch:=first|omega|simp only[ll];omega) only[go_sem,hnc]|refine l7 (c0 _) ?_|refine l7 (c1 _) ?_|refine vcA ?_ ?_|omega
    exact o5 ⟨rfl,rfl⟩
   ·refine o8 [] [.tmp 4] 37 Tryz.func191 ?_
    repeat' first|refine l9 ?_|simp -dsimp -implicitDefEqProofs (disch:=first|omega|simp only[ll];omega) only[go_sem,hnc]|refine l7 (c0 _) ?_|refine l7 (c1 _) ?_|refine l7 (c2 _) ?_|refine l7 (c3 _) ?_|refine vcA ?_ ?_|omega
    exact o5 ⟨rfl,rfl⟩
   ·refine o8 [] [.tmp 4] 37 Tryz.func191 ?_
    repeat' first|refine l9 ?_|simp -dsimp -implicitDefEqProofs (disch:=first|omega|simp only[ll];omega) only[go_sem,hnc]|refine l7 (c0 _) ?_|refine l7 (c1 _) ?_|refine l7 (c2 _) ?_|refine l7 (c3 _) ?_|refine l7 (c4 _) ?_|refine vcA ?_ ?_|omega
    exact o5 ⟨rfl,rfl⟩
   ·refine o8 [] [.tmp 4] 37 Tryz.func191 ?_
    repeat' first|refine l9 ?_|simp -dsimp -implicitDefEqProofs (disch:=first|omega|simp only[ll];omega) only[go_sem,hnc]|refine l7 (c0 _) ?_|refine l7 (c1 _) ?_|refine vcA ?_ ?_|omega
    exact o5 ⟨rfl,rfl⟩
   ·refine o8 [] [.tmp 4] 37 Tryz.func191 ?_
    repeat' first|refine l9 ?_|simp -dsimp -implicitDefEqProofs (disch:=first|omega|simp only[ll];omega) only[go_sem,hnc]|refine l7 (c0 _) ?_|refine l7 (c1 _) ?_|refine vcA ?_ ?_|omega
    exact o5 ⟨rfl,rfl⟩
   ·refine o8 [] [.tmp 4] 37 Tryz.func191 ?_
    repeat' first|refine l9 ?_|simp -dsimp -implicitDefEqProofs (disch:=first|omega|simp only[ll];omega) only[go_sem,hnc]|refine l7 (c0 _) ?_|refine l7 (c1 _) ?_|refine l7 (c2 _) ?_|refine l7 (c3 _) ?_|refine vcA ?_ ?_|omega
    exact o5 ⟨rfl,rfl⟩
   ·refine o8 [] [.tmp 4] 37 Tryz.func191 ?_
    repeat' first|refine l9 ?_|simp -dsimp -implicitDefEqProofs (disch:=first|omega|simp only[ll];omega) only[go_sem,hnc]|refine l7 (c0 _) ?_|refine l7 (c1 _) ?_|refine l7 (c2 _) ?_|refine l7 (c3 _) ?_|refine l7 (c4 _) ?_|refine vcA ?_ ?_|omega
    exact o5 ⟨rfl,rfl⟩
  ·rw[decide_eq_false hp] at c0⊢
   rcases hk with rfl|rfl<;>simp only[UInt8.reduceToNat] at*
   ·refine o8 [] [.tmp 4] 37 Tryz.func191 ?_
    repeat' first|refine l9 ?_|simp -dsimp -implicitDefEqProofs (disch:=omega) only[go_sem]|refine l7 (c0 _) ?_|refine vcA ?_ ?_|omega|refine aa8 fun _=>?_
    exact o5 ⟨rfl,rfl⟩
   ·refine o8 [] [.tmp 4] 37 Tryz.func191 ?_
    repeat' first|refine l9 ?_|simp -dsimp -implicitDefEqProofs (disch:=omega) only[go_sem]|refine l7 (c0 _) ?_|refine vcA ?_ ?_|omega|refine aa8 fun _=>?_
    exact o5 ⟨rfl,rfl⟩
 ·rw[decide_eq_false hn]
  have hnc:((255:Int) < (s.length:Int))=True:=eq_true (by omega)
  refine o8 [] [.tmp 4] 37 Tryz.func191 ?_;repeat' first|refine l9 ?_|simp -dsimp -implicitDefEqProofs only[go_sem,hnc]
  exact o5 ⟨rfl,rfl⟩
end Id
end
section
open Go V
end
section
open Go V
namespace Se
def ee9:bytes:=[101,100,50,53,53,49,57,58]
def aU0:bytes:=[97,98,99,100,101,102,103,104,105,106,107,108,109,110,111,112,113,114,115,116,117,118,119,120,121,122,65,66,67,68,69,70,71,72,73,74,75,76,77,78,79,80,81,82,83,84,85,86,87,88,89,90,48,49,50,51,52,53,54,55,56,57,95]
def cV3(s:bytes):Bool:=ee9.isPrefixOf s&&(decide (s.drop 8≠[])&&(decide ((s.drop 8).length<=32)&&(s.drop 8).all aU0.contains))
theorem em3(s:bytes)(H:List AObj)(hs:s.length<=10000):o7 Tryz.prog 74 [.str s] H (fun y H'=>y=.bool (cV3 s)/\H'=H):=by
 have c0:=fun H=>cG2 s [101,100,50,53,53,49,57,58] H (by decide)
 unfold bH2 at c0;unfold cV3;have hrl:(s.drop 8).length=s.length - 8:=List.length_drop;cases hp:ee9.isPrefixOf s with
 |false=>
  rw[if_neg (by rw[show ([101,100,50,53,53,49,57,58]:bytes).isPrefixOf s=false from hp];decide)] at c0
  refine o8 [] [.tmp 2] 33 Tryz.func74 ?_;repeat' first|refine l9 ?_|simp -dsimp -implicitDefEqProofs only[go_sem]|refine l7 (c0 _) ?_|fail
  exact o5 ⟨rfl,rfl⟩
 |true=>
  rw[if_pos (by exact hp)] at c0
  dsimp only[List.length_cons,List.length_nil,Nat.zero_add,Nat.reduceAdd] at c0;generalize s.drop 8=r at*;by_cases h0:r=[]
  ·have h0c:=eq_true h0
   subst h0;refine o8 [] [.tmp 2] 33 Tryz.func74 ?_;repeat' first|refine l9 ?_|simp -dsimp -implicitDefEqProofs only[go_sem]|refine l7 (c0 _) ?_|fail
   exact o5 ⟨rfl,rfl⟩
  ·have h0c:=eq_false h0
   rw[decide_eq_true h0];by_cases hl:r.length<=32
   ·rw[decide_eq_true hl,Bool.true_and,Bool.true_and,Bool.true_and]
    have hlc:((32:Int) < (r.length:Int))=False:=eq_false (by omega)
    generalize hR:r.all aU0.contains=R;refine o8 [] [.tmp 2] 33 Tryz.func74 ?_;repeat' first|refine l9 ?_|simp -dsimp -implicitDefEqProofs only[go_sem,h0c,hlc]|refine l7 (c0 _) ?_|fail
    refine aa7 ab6 mixed [] [3,23] (fun i:Nat=>i<=r.length/\(r.drop i).all aU0.contains=R) (fun i=>[(24,.lit (.int .i64 i))]) (fun _=>H) (fun i=>r.length - i) (by kernel_rfl) ?_ 0 ⟨by omega,hR⟩ aa3 rfl
    rintro i ⟨hi,hI⟩
    by_cases h:i < r.length
    ·have hc:((i:Int) < (r.length:Int))=True:=eq_true (by omega)
     rw[aL3 h,List.all_cons] at hI;have hg:r.getD i 0=r[i]:=by simp[List.getD,h]
     rw[<-hg] at hI;have cI:=fun H=>al7 aU0 (r.getD i 0) H
     unfold aw2 at cI;by_cases h1:aU0.idxOf (r.getD i 0) < aU0.length
     ·rw[if_pos h1] at cI
      have hk:aU0.contains (r.getD i 0)=true:=by
       rw[aW8];exact bn8.1 h1
      rw[hk,Bool.true_and] at hI;generalize hx:aU0.idxOf (r.getD i 0)=x at*;unfold aU0 at cI;repeat' first|refine l9 ?_|simp -dsimp -implicitDefEqProofs (disch:=omega) only[go_sem,hc]|refine l7 (cI _) ?_|refine vcA ?_ ?_|omega
      refine again (i+1) ?_ ?_ rfl aa3
      ·omega
      ·exact⟨by omega,hI⟩
     ·rw[if_neg h1] at cI
      have hk:aU0.contains (r.getD i 0)=false:=by
       rw[<-bQ6,aW8];exact fun m=>h1 (bn8.2 m)
      rw[hk,az9] at hI;subst hI;unfold aU0 at cI;repeat' first|refine l9 ?_|simp -dsimp -implicitDefEqProofs only[go_sem,hc]|refine l7 (cI _) ?_|fail
      exact o5 ⟨rfl,rfl⟩
    ·have hc:((i:Int) < (r.length:Int))=False:=eq_false (by omega)
     rw[bc5 (by omega)] at hI
     subst hI;repeat' first|refine l9 ?_|simp -dsimp -implicitDefEqProofs only[go_sem,hc]
     exact o5 ⟨rfl,rfl⟩
   ·rw[decide_eq_false hl]
    have hlc:((32:Int) < (r.length:Int))=True:=eq_true (by omega)
    refine o8 [] [.tmp 2] 33 Tryz.func74 ?_;repeat' first|refine l9 ?_|simp -dsimp -implicitDefEqProofs only[go_sem,h0c,hlc]|refine l7 (c0 _) ?_|fail
    exact o5 ⟨rfl,rfl⟩
end Se
end
section
open Go V
class Dat (x:AV):Prop where
 low: ∀m,Low m x
class DatL (l:List AV):Prop where
 low: ∀m,aM9 m l
instance dat_lit (v:Value):Dat (.lit v):=⟨fun _=>.lit _⟩
instance dat_str (l:bytes):Dat (.str l):=⟨fun _=>.str _⟩
instance dat_any:Dat .any:=⟨fun _=>.any⟩
instance dat_nil:DatL []:=⟨fun _=>aa4⟩
instance dat_cons (x:AV) (l:List AV) [h:Dat x] [k:DatL l]:DatL (x::l):=⟨fun m=>o9 (h.low m) (k.low m)⟩
instance dat_agg (l:List AV) [k:DatL l]:Dat (.agg l):=⟨fun m=>am9 (k.low m)⟩
instance dat_tup (l:List AV) [k:DatL l]:Dat (.tup l):=⟨fun m=>ae2 (k.low m)⟩
theorem cr7{m:Nat}{x z:AV}(h:Low m x)(hz:z∈x.flat):Low m z:=by
 cases x with
 |agg cs=>cases h with
  |agg _ h=>exact h z hz
 |_=>rw[aT1.1 hz];exact h
instance dat_map {α:Type} (s:Nat) (f:α->AV) (l:List α) [h: ∀x,Dat (f x)]:Dat (.sl .sh s (l.map f)):=⟨fun m=>.sl _ _ _ (fun k e=>by cases e) fun x hx=>by
 unfold aa2 at hx;obtain⟨y,hy,hx⟩:=bb8.1 hx;obtain⟨v,hv,rfl⟩:=xq9.1 hy;exact cr7 ((h v).low m) hx⟩
instance dat_mapa {α:Type} (f:α->AV) (l:List α) [h: ∀x,Dat (f x)]:Dat (.agg (l.map f)):=⟨fun m=>.agg _ fun x hx=>by
 obtain⟨v,hv,rfl⟩:=xq9.1 hx;exact(h v).low m⟩
instance dat_byte (b:UInt8):Dat (o6 b):=⟨fun _=>.lit _⟩
instance dat_j (v:JV):Dat (jAV v):=⟨fun _=>ab1 v⟩
theorem ab2{m:Nat}{x:AV}[h:Dat x]:Low m x:=h.low m
theorem ab5{m s:Nat}{α:Type}{f:α->AV}{l:List α}[h: ∀x,Dat (f x)]:Low m (.sl .sh s (l.map f)):=ab2
theorem be5{m:Nat}{α:Type}{f:α->AV}{l:List α}[h: ∀x,Dat (f x)]: ∀y∈aa2 (l.map f),Low m y:=fun y hy=>by
 unfold aa2 at hy;obtain⟨y,hy,hx⟩:=bb8.1 hy;obtain⟨v,hv,rfl⟩:=xq9.1 hy;exact cr7 ((h v).low m) hx
theorem getD_map{α:Type}(f:α->AV)(d:α){l:List α}{i:Nat}(h:i < l.length):(l.map f).getD i .any=f (l.getD i d):=by
 rw[List.getD,xq7,xq1 h,List.getD,xq1 h];rfl
namespace As
structure Addr where
 medium:bytes
 wh:bytes
 deriving DecidableEq
def bt5:Addr:=⟨[],[]⟩
def aP1(x:Addr):AV:=.agg [.str x.medium,.str x.wh]
theorem dh1{x:Addr}:(aP1 x).flat=[.str x.medium,.str x.wh]:=rfl
theorem dg4{x:Addr}:AV.agg [.str x.medium,.str x.wh]=aP1 x:=rfl
theorem ds4{x:Addr}:(aP1 x).okv=true:=rfl
instance dat_addr (x:Addr):Dat (aP1 x):=inferInstanceAs (Dat (.agg [.str x.medium,.str x.wh]))
attribute [go_sem] dh1 ds4 dg4
structure Sess where
 id:Int
 secret:bytes
 who:Addr
 token:bytes
 attempt:Int
 since:Int
 wrong:Int
 shown:Bool
 shownAt:Int
 deriving DecidableEq
def aT0:Sess:=⟨0,[],⟨[],[]⟩,[],0,0,0,false,0⟩
def aj2(x:Sess):AV:=.agg [.lit (.int .i64 x.id),.str x.secret,.str x.who.medium,.str x.who.wh,.str x.token,.lit (.int .i64 x.attempt),.lit (.int .i64 x.since),.lit (.int .i64 x.wrong),.lit (.bool x.shown),.lit (.int .i64 x.shownAt)]
theorem bD8{x:Sess}:(aj2 x).flat=[.lit (.int .i64 x.id),.str x.secret,.str x.who.medium,.str x.who.wh,.str x.token,.lit (.int .i64 x.attempt),.lit (.int .i64 x.since),.lit (.int .i64 x.wrong),.lit (.bool x.shown),.lit (.int .i64 x.shownAt)]:=rfl
theorem dg3{x:Sess}:AV.agg [.lit (.int .i64 x.id),.str x.secret,.str x.who.medium,.str x.who.wh,.str x.token,.lit (.int .i64 x.attempt),.lit (.int .i64 x.since),.lit (.int .i64 x.wrong),.lit (.bool x.shown),.lit (.int .i64 x.shownAt)]=aj2 x:=rfl
theorem dr8{x:Sess}:(aj2 x).okv=true:=rfl
theorem dg0{l:List Sess}{i:Nat}(h:i < l.length):(l.map aj2).getD i .any=aj2 (l.getD i aT0):=getD_map _ _ h
instance dat_sess (x:Sess):Dat (aj2 x):=inferInstanceAs (Dat (.agg [.lit (.int .i64 x.id),.str x.secret,.str x.who.medium,.str x.who.wh,.str x.token,.lit (.int .i64 x.attempt),.lit (.int .i64 x.since),.lit (.int .i64 x.wrong),.lit (.bool x.shown),.lit (.int .i64 x.shownAt)]))
attribute [go_sem] bD8 dr8 dg0 dg3
structure Usr where
 token:bytes
 mxid:bytes
 agreed:List bytes
 deriving DecidableEq
def ah3:Usr:=⟨[],[],[]⟩
def af0(x:Usr):AV:=.agg [.str x.token,.str x.mxid,.sl .sh 1 (x.agreed.map .str)]
theorem dz9{x:Usr}:(af0 x).flat=[.str x.token,.str x.mxid,.sl .sh 1 (x.agreed.map .str)]:=rfl
theorem dz4{x:Usr}:AV.agg [.str x.token,.str x.mxid,.sl .sh 1 (x.agreed.map .str)]=af0 x:=rfl
theorem dP0{x:Usr}:(af0 x).okv=true:=rfl
theorem dy7{l:List Usr}{i:Nat}(h:i < l.length):(l.map af0).getD i .any=af0 (l.getD i ah3):=getD_map _ _ h
theorem be8{l:List Usr}: ∀y∈l.map af0,y.flat.length=3/\y.okv=true:=fun y hy=>by
 obtain⟨x,_,rfl⟩:=xq9.1 hy;exact⟨rfl,rfl⟩
instance dat_usr (x:Usr):Dat (af0 x):=inferInstanceAs (Dat (.agg [.str x.token,.str x.mxid,.sl .sh 1 (x.agreed.map .str)]))
attribute [go_sem] dz9 dP0 dy7 dz4
structure Bnd where
 who:Addr
 mxid:bytes
 since:Int
 deriving DecidableEq
def bt3:Bnd:=⟨⟨[],[]⟩,[],0⟩
def av3(x:Bnd):AV:=.agg [.str x.who.medium,.str x.who.wh,.str x.mxid,.lit (.int .i64 x.since)]
theorem dA5{x:Bnd}:(av3 x).flat=[.str x.who.medium,.str x.who.wh,.str x.mxid,.lit (.int .i64 x.since)]:=rfl
theorem dz7{x:Bnd}:AV.agg [.str x.who.medium,.str x.who.wh,.str x.mxid,.lit (.int .i64 x.since)]=av3 x:=rfl
theorem dP7{x:Bnd}:(av3 x).okv=true:=rfl
theorem dz0{l:List Bnd}{i:Nat}(h:i < l.length):(l.map av3).getD i .any=av3 (l.getD i bt3):=getD_map _ _ h
instance dat_bnd (x:Bnd):Dat (av3 x):=inferInstanceAs (Dat (.agg [.str x.who.medium,.str x.who.wh,.str x.mxid,.lit (.int .i64 x.since)]))
attribute [go_sem] dA5 dP7 dz0 dz7
structure Plg where
 token:bytes
 who:Addr
 room:bytes
 sender:bytes
 seed:bytes
 bound:bytes
 deriving DecidableEq
def bL1:Plg:=⟨[],⟨[],[]⟩,[],[],[],[]⟩
def aw4(x:Plg):AV:=.agg [.str x.token,.str x.who.medium,.str x.who.wh,.str x.room,.str x.sender,.str x.seed,.str x.bound]
theorem dA1{x:Plg}:(aw4 x).flat=[.str x.token,.str x.who.medium,.str x.who.wh,.str x.room,.str x.sender,.str x.seed,.str x.bound]:=rfl
theorem dz5{x:Plg}:AV.agg [.str x.token,.str x.who.medium,.str x.who.wh,.str x.room,.str x.sender,.str x.seed,.str x.bound]=aw4 x:=rfl
theorem dP2{x:Plg}:(aw4 x).okv=true:=rfl
theorem dy9{l:List Plg}{i:Nat}(h:i < l.length):(l.map aw4).getD i .any=aw4 (l.getD i bL1):=getD_map _ _ h
instance dat_plg (x:Plg):Dat (aw4 x):=inferInstanceAs (Dat (.agg [.str x.token,.str x.who.medium,.str x.who.wh,.str x.room,.str x.sender,.str x.seed,.str x.bound]))
attribute [go_sem] dA1 dP2 dy9 dz5
structure Idn where
 now:Int
 pepper:bytes
 sess:List Sess
 users:List Usr
 bonds:List Bnd
 plgs:List Plg
 deriving DecidableEq
def dm5:Idn:=⟨0,[],[],[],[],[]⟩
def ae0(x:Idn):AV:=.agg [.lit (.int .i64 x.now),.str x.pepper,.sl .sh 10 (x.sess.map aj2),.sl .sh 3 (x.users.map af0),.sl .sh 4 (x.bonds.map av3),.sl .sh 7 (x.plgs.map aw4)]
theorem dA3{x:Idn}:(ae0 x).flat=[.lit (.int .i64 x.now),.str x.pepper,.sl .sh 10 (x.sess.map aj2),.sl .sh 3 (x.users.map af0),.sl .sh 4 (x.bonds.map av3),.sl .sh 7 (x.plgs.map aw4)]:=rfl
theorem dz6{x:Idn}:AV.agg [.lit (.int .i64 x.now),.str x.pepper,.sl .sh 10 (x.sess.map aj2),.sl .sh 3 (x.users.map af0),.sl .sh 4 (x.bonds.map av3),.sl .sh 7 (x.plgs.map aw4)]=ae0 x:=rfl
theorem dP5{x:Idn}:(ae0 x).okv=true:=rfl
instance dat_idn (x:Idn):Dat (ae0 x):=inferInstanceAs (Dat (.agg [.lit (.int .i64 x.now),.str x.pepper,.sl .sh 10 (x.sess.map aj2),.sl .sh 3 (x.users.map af0),.sl .sh 4 (x.bonds.map av3),.sl .sh 7 (x.plgs.map aw4)]))
attribute [go_sem] dA3 dP5 dz6
structure Ask where
 kind:Int
 token:bytes
 secret:bytes
 medium:bytes
 wh:bytes
 mxid:bytes
 room:bytes
 sender:bytes
 id:Int
 attempt:Int
 code:bytes
 n:Int
 docs:List bytes
 draws:List bytes
 alg:bytes
 pepper:bytes
 addrs:List bytes
 deriving DecidableEq
def bt4:Ask:=⟨0,[],[],[],[],[],[],[],0,0,[],0,[],[],[],[],[]⟩
def ai1(x:Ask):AV:=.agg [.lit (.int .i64 x.kind),.str x.token,.str x.secret,.str x.medium,.str x.wh,.str x.mxid,.str x.room,.str x.sender,.lit (.int .i64 x.id),.lit (.int .i64 x.attempt),.str x.code,.lit (.int .i64 x.n),.sl .sh 1 (x.docs.map .str),.sl .sh 1 (x.draws.map .str),.str x.alg,.str x.pepper,.sl .sh 1 (x.addrs.map .str)]
theorem dA6{x:Ask}:(ai1 x).flat=[.lit (.int .i64 x.kind),.str x.token,.str x.secret,.str x.medium,.str x.wh,.str x.mxid,.str x.room,.str x.sender,.lit (.int .i64 x.id),.lit (.int .i64 x.attempt),.str x.code,.lit (.int .i64 x.n),.sl .sh 1 (x.docs.map .str),.sl .sh 1 (x.draws.map .str),.str x.alg,.str x.pepper,.sl .sh 1 (x.addrs.map .str)]:=rfl
theorem dz8{x:Ask}:AV.agg [.lit (.int .i64 x.kind),.str x.token,.str x.secret,.str x.medium,.str x.wh,.str x.mxid,.str x.room,.str x.sender,.lit (.int .i64 x.id),.lit (.int .i64 x.attempt),.str x.code,.lit (.int .i64 x.n),.sl .sh 1 (x.docs.map .str),.sl .sh 1 (x.draws.map .str),.str x.alg,.str x.pepper,.sl .sh 1 (x.addrs.map .str)]=ai1 x:=rfl
theorem dP8{x:Ask}:(ai1 x).okv=true:=rfl
instance dat_ask (x:Ask):Dat (ai1 x):=inferInstanceAs (Dat (.agg [.lit (.int .i64 x.kind),.str x.token,.str x.secret,.str x.medium,.str x.wh,.str x.mxid,.str x.room,.str x.sender,.lit (.int .i64 x.id),.lit (.int .i64 x.attempt),.str x.code,.lit (.int .i64 x.n),.sl .sh 1 (x.docs.map .str),.sl .sh 1 (x.draws.map .str),.str x.alg,.str x.pepper,.sl .sh 1 (x.addrs.map .str)]))
attribute [go_sem] dA6 dP8 dz8
end As
end
section
open Go V
namespace As
def aK1{α:Type}(p:α->Bool)(r:α->α->Bool):Option α->List α->Bool
 |_,[]=>true
 |none,s::t=>p s&&aK1 p r (some s) t
 |some q,s::t=>p s&&(r q s&&aK1 p r (some s) t)
def aq0(n:Int):Bool:=decide (0<=n/\n<=1099511627776)
def ah9(s:bytes):Bool:=decide (s≠[])&&(decide (s.length<=64)&&(ay8 s&&!Lib.contains s [32]))
def aS3(l:List bytes):Bool:=aK1 ah9 af8 none l
def bj3:bytes:=[101,109,97,105,108]
def cj6:bytes:=[109,115,105,115,100,110]
def bX4:bytes:=[97,98,99,100,101,102,103,104,105,106,107,108,109,110,111,112,113,114,115,116,117,118,119,120,121,122,65,66,67,68,69,70,71,72,73,74,75,76,77,78,79,80,81,82,83,84,85,86,87,88,89,90,48,49,50,51,52,53,54,55,56,57,46,33,35,36,37,38,39,42,43,47,61,63,94,95,96,123,124,125,126,45]
def aK2(c:UInt8)(s:bytes):bytes:=aw3 (fun x=>x==c) (ap5 (fun x=>x==c) s)
def bX5(s:bytes):Bool:=decide (s≠[])&&(decide (s.length<=64)&&(s.all bX4.contains&&(decide (aK2 46 s=s)&&!Lib.contains s [46,46])))
def aI1(s:bytes):bytes×Int:=
 if(av2 (aK2 32 s) 64).2.2=true/\(aK2 32 s).length<=254/\bX5 (av2 (aK2 32 s) 64).1=true then
  (if(av2 (aK2 32 s) 64).2.1.contains 58=false/\Lib.contains (av2 (aK2 32 s) 64).2.1 [46]=true/\Id.aS2 (av2 (aK2 32 s) 64).2.1=true then((aK2 32 s).map bo8,0) else([],2))
 else([],2)
def aO1:bytes->Bool->bytes->Option (bytes×Bool)
 |b,p,[]=>some (b,p)
 |b,p,c::r=>
  if 48<=c.toNat/\c.toNat<=57 then aO1 (b++[c]) p r
  else if c=43/\b=[]/\p=false then aO1 b true r
  else if([32,45,46,40,41]:bytes).contains c then aO1 b p r
  else none
def ar8(s:bytes):bytes×Int:=
 match aO1 [] false s with
 |none=>([],2)
 |some (n,_)=>if n.length < 6\/15 < n.length\/n.getD 0 0=48 then([],2) else(n,0)
def aH1(m w:bytes):Addr×Int:=
 if m=bj3 then(if(aI1 w).2=0 then(⟨m,(aI1 w).1⟩,0) else(bt5,(aI1 w).2))
 else if m=cj6 then(if(ar8 w).2=0 then(⟨m,(ar8 w).1⟩,0) else(bt5,(ar8 w).2))
 else(bt5,1)
def bn6(a:Addr):Bool:=decide ((aH1 a.medium a.wh).2=0)&&decide (a=(aH1 a.medium a.wh).1)
def bX6(a b:Addr):Bool:=if a.medium=b.medium then af8 a.wh b.wh else af8 a.medium b.medium
def be9(s:bytes):Bool:=decide (s≠[])&&(decide (s.length<=64)&&(ay8 s&&!s.contains 32))
def ce9(s:Sess):Bool:=
 decide (1<=s.id/\s.id<=1099511627776)&&(aq0 s.since&&(aq0 s.shownAt&&(decide (1<=s.attempt/\s.attempt<=1000/\0<=s.wrong/\s.wrong<=3)&&
 ((s.shown||decide (s.shownAt=0))&&(be9 s.secret&&(be9 s.token&&bn6 s.who))))))
def b06(a b:Sess):Bool:=decide (a.secret=b.secret)&&decide (a.who=b.who)
def bE2(s x:Sess):Bool:=b06 x s||(decide (x.token=s.token)||decide (s.id<=x.id))
def bG9:List Sess->List Sess->Bool
 |_,[]=>true
 |pre,s::r=>ce9 s&&(!pre.any (bE2 s)&&bG9 (pre++[s]) r)
def bU9(l:List Sess):Bool:=decide (l.length<=16)&&bG9 [] l
def ci6(u:Usr):Bool:=Id.ar9 64 u.mxid&&(decide (u.agreed.length<=4)&&aS3 u.agreed)
def aw9(l:List Usr):Bool:=decide (l.length<=16)&&(l.all ci6&&aS3 (l.map (·.token)))
def b63(b:Bnd):Bool:=aq0 b.since&&(bn6 b.who&&Id.ar9 64 b.mxid)
def a94(b:Bnd)(w:Addr):Int:=if b.who=w then 0 else if bX6 b.who w=true then -1 else 1
def bV1(l:List Bnd):Bool:=decide (l.length<=64)&&aK1 b63 (fun a b=>decide (a94 a b.who < 0)) none l
def b45(p:Plg):Bool:=ah9 p.token&&(ah9 p.seed&&(bn6 p.who&&((decide (p.bound=[])||Id.ar9 64 p.bound)&&(Id.ar9 33 p.room&&Id.ar9 64 p.sender))))
def bV0(l:List Plg):Bool:=decide (l.length<=32)&&aK1 b45 (fun a b=>af8 a.token b.token) none l
def aj8(s:Idn):Bool:=aq0 s.now&&(ah9 s.pepper&&(bU9 s.sess&&(aw9 s.users&&(bV1 s.bonds&&bV0 s.plgs))))
def c79(server key:bytes)(terms:List bytes):Bool:=Id.aS2 server&&(Se.cV3 key&&(decide (terms.length<=4)&&terms.all ah9))
def ay1(l:List Usr)(t:bytes):Nat:=pos (l.map (·.token)) t
def aL7(l:List Usr)(t:bytes):Bool:=decide ((l.map (·.token))[ay1 l t]?=some t)
def ad9(l:List Usr)(t:bytes):Nat×Int:=if aw9 l=true then(if aL7 l t=true then(ay1 l t,0) else(0,14)) else(0,1)
def al4(l:List Usr)(t m:bytes):List Usr×Int:=
 if aw9 l=true/\ah9 t=true/\Id.ar9 64 m=true then
  (if aL7 l t=true then(l,6) else if l.length=16 then(l,10) else(l.insertIdx (ay1 l t) ⟨t,m,[]⟩,0))
 else(l,1)
def al3(l:List Usr)(t:bytes):bytes×Int:=if(ad9 l t).2=0 then((l.getD (ad9 l t).1 ah3).mxid,0) else([],(ad9 l t).2)
def d98(s:bytes):List bytes->List bytes
 |[]=>[s]
 |a::r=>if af8 s a then s::a::r else a::d98 s r
def sortB(l:List bytes):List bytes:=l.foldl (fun a s=>d98 s a) []
def cf7:List bytes->List bytes
 |[]=>[]
 |a::r=>match r with
  |[]=>[a]
  |b::_=>if a=b then cf7 r else a::cf7 r
def bb7(l:List Usr)(t:bytes)(docs:List bytes):List Usr×Int:=
 if(ad9 l t).2=0 then
  (if docs.all ah9=true then
   (if(cf7 (sortB ((l.getD (ad9 l t).1 ah3).agreed++docs))).length<=4 then
    (l.set (ad9 l t).1 {l.getD (ad9 l t).1 ah3 with agreed:=cf7 (sortB ((l.getD (ad9 l t).1 ah3).agreed++docs))},0)
    else(l,10))
   else(l,1))
 else(l,(ad9 l t).2)
def ar5(l:List Usr)(t:bytes)(terms:List bytes):Int:=
 if(ad9 l t).2=0 then(if terms.all (l.getD (ad9 l t).1 ah3).agreed.contains then 0 else 13) else(ad9 l t).2
structure Ans where
 code:Int
 text:bytes
 value:JV
 mwho:Addr
 mid:Int
 mtok:bytes
 blocks:List JV
def an0:Ans:=⟨0,[],aa9,bt5,0,[],[]⟩
def ap8(x:Ans):AV:=.agg [.lit (.int .i64 x.code),.str x.text,.lit (.int .i64 x.value.kind),.lit (.int .i64 x.value.num),.str x.value.text,.sl .sh 1 (x.value.names.map .str),.sl .sh 5 (x.value.items.map jAV),.str x.mwho.medium,.str x.mwho.wh,.lit (.int .i64 x.mid),.str x.mtok,.sl .sh 5 (x.blocks.map jAV)]
def al5(e:Int):Ans:={an0 with code:=e}
def cq6:bytes:=[97,108,103,111,114,105,116,104,109,115]
def b51:bytes:=[108,111,111,107,117,112,95,112,101,112,112,101,114]
def av1(p:bytes):JV×Int:=if ah9 p=true then bH6 [(cq6,.mk 5 0 [] [] [ac5 [110,111,110,101],ac5 [115,104,97,50,53,54]]),(b51,ac5 p)] else(aa9,1)
def aE8(a:Ask)(i:Nat):bytes:=a.draws.getD i []
def bh8(s:Idn)(a:Ask):Idn×Ans:=if(al4 s.users (aE8 a 0) a.mxid).2=0 then({s with users:=(al4 s.users (aE8 a 0) a.mxid).1},{an0 with text:=aE8 a 0}) else(s,al5 (al4 s.users (aE8 a 0) a.mxid).2)
def aM7(s:Idn)(a:Ask):Idn×Ans:=if(bb7 s.users a.token a.docs).2=0 then({s with users:=(bb7 s.users a.token a.docs).1},an0) else(s,al5 (bb7 s.users a.token a.docs).2)
def as8(terms:List bytes)(s:Idn)(a:Ask):Idn×Ans:=
 if(al3 s.users a.token).2=0 then
  (if ar5 s.users a.token terms=0 then(if(av1 s.pepper).2=0 then(s,{an0 with value:=(av1 s.pepper).1}) else(s,al5 (av1 s.pepper).2)) else(s,al5 (ar5 s.users a.token terms)))
 else(s,al5 (al3 s.users a.token).2)
def aK4(s:Idn)(a:Ask):Idn×Ans:=if aq0 a.n=true then({s with now:=min (s.now+a.n) 1099511627776},an0) else(s,al5 1)
def bm9(terms:List bytes)(s:Idn)(a:Ask):Idn×Ans:=
 if a.kind=1 then bh8 s a else if a.kind=3 then aM7 s a else if a.kind=9 then as8 terms s a else aK4 s a
def aj6(server key:bytes)(terms:List bytes)(s:Idn)(a:Ask):Idn×Ans:=if c79 server key terms=true/\aj8 s=true then bm9 terms s a else(s,al5 1)
def aC2(n:Int):JV:=.mk 3 n [] [] []
def bq9(l:List bytes):JV:=.mk 5 0 [] [] (l.map ac5)
def rowP(l:List JV):bytes×Int:=
 if(aU9 (.mk 5 0 [] [] l)).2=0 then(if(aU9 (.mk 5 0 [] [] l)).1.length<=4096 then((aU9 (.mk 5 0 [] [] l)).1,0) else([],3)) else([],(aU9 (.mk 5 0 [] [] l)).2)
def bP6(a:Ask):List JV:=[ac5 [97],aC2 a.kind,ac5 a.token,ac5 a.secret,ac5 a.medium,ac5 a.wh,ac5 a.mxid,ac5 a.room,ac5 a.sender,aC2 a.id,aC2 a.attempt,ac5 a.code,aC2 a.n,bq9 a.docs,bq9 a.draws,ac5 a.alg,ac5 a.pepper,bq9 a.addrs]
def am8(a:Ask):bytes×Int:=rowP (bP6 a)
def atJ(l:List JV)(i:Nat):JV:=l.getD i aa9
def aQ3(v:JV):List bytes:=v.items.map JV.text
def bn5(l:List JV):Ask:=⟨(atJ l 1).num,(atJ l 2).text,(atJ l 3).text,(atJ l 4).text,(atJ l 5).text,(atJ l 6).text,(atJ l 7).text,(atJ l 8).text,(atJ l 9).num,(atJ l 10).num,(atJ l 11).text,(atJ l 12).num,aQ3 (atJ l 13),aQ3 (atJ l 14),(atJ l 15).text,(atJ l 16).text,aQ3 (atJ l 17)⟩
def ai8(b:bytes):List JV:=if(bB9 b).2=0 then(bB9 b).1.items else[]
def aG6(b:bytes):Ask×Int:=if(am8 (bn5 (ai8 b))).2=0/\(am8 (bn5 (ai8 b))).1=b then(bn5 (ai8 b),0) else(bt4,2)
def ei0(x:Sess):List JV:=[ac5 [115],aC2 x.id,ac5 x.secret,ac5 x.who.medium,ac5 x.who.wh,ac5 x.token,aC2 x.attempt,aC2 x.since,aC2 x.wrong,aC2 (if x.shown then 1 else 0),aC2 x.shownAt]
def em7(x:Usr):List JV:=[ac5 [117],ac5 x.token,ac5 x.mxid,bq9 x.agreed]
def eo6(x:Bnd):List JV:=[ac5 [98],ac5 x.who.medium,ac5 x.who.wh,ac5 x.mxid,aC2 x.since]
def en5(x:Plg):List JV:=[ac5 [112],ac5 x.token,ac5 x.who.medium,ac5 x.who.wh,ac5 x.room,ac5 x.sender,ac5 x.seed,ac5 x.bound]
def cf2(s:Idn):List (List JV):=[ac5 [109],aC2 s.now,ac5 s.pepper]::(s.sess.map ei0++(s.users.map em7++(s.bonds.map eo6++s.plgs.map en5)))
def aP9(s:Idn):List bytes×Int:=
 if aj8 s=true then(match(cf2 s).find? (fun l=>decide ((rowP l).2≠0)) with|some l=>([],(rowP l).2)|none=>((cf2 s).map fun l=>(rowP l).1,0)) else([],1)
def aI7(server key:bytes)(terms:List bytes):Idn->List bytes->Idn×Int
 |s,[]=>(s,0)
 |s,b::r=>if(aG6 b).2=0 then aI7 server key terms (aj6 server key terms s (aG6 b).1).1 r else(dm5,20)
structure Dk where
 secs:List bytes
 loose:List (Int×bytes)
 fuse:Int
 down:Bool
def au4:bytes:=List.replicate 128 0
def av5(d:Dk)(i:Int):Bool:=decide (0<=i/\i < d.secs.length)
def aB4(d:Dk):Bool:=decide (1<=d.secs.length/\d.secs.length<=2048/\d.loose.length<=4096)&&d.loose.all fun w=>av5 d w.1
def aJ7(n:Int):Dk×Int:=if 1<=n/\n<=2048 then(⟨List.replicate n.toNat au4,[],-1,false⟩,0) else(⟨[],[],0,false⟩,1)
def as3(d:Dk)(i:Int):bytes×Int:=
 if av5 d i=true/\aB4 d=true then(if d.down=true then(au4,9) else match d.loose.reverse.find? (fun w=>decide (w.1=i)) with|some w=>(w.2,0)|none=>(d.secs.getD i.toNat au4,0)) else(au4,1)
def al0(d:Dk):Dk×Int:=if d.down=true\/d.fuse=0 then({d with down:=true},9) else(if 0 < d.fuse then {d with fuse:=d.fuse - 1} else d,0)
def aH6(d:Dk)(i:Int)(b:bytes):Dk×Int:=
 if av5 d i=true/\aB4 d=true then
  (if d.down=false/\d.loose.length=4096 then(d,10)
   else if(al0 d).2=0 then({(al0 d).1 with loose:=(al0 d).1.loose++[(i,b)]},0) else((al0 d).1,(al0 d).2))
 else(d,1)
def bv0(d:Dk):Dk×Int:=
 if aB4 d=true then
  (if(al0 d).2=0 then({(al0 d).1 with secs:=(al0 d).1.loose.foldl (fun s w=>s.set w.1.toNat w.2) (al0 d).1.secs,loose:=[]},0) else((al0 d).1,(al0 d).2))
 else(d,1)
def aA4(d:Dk)(fuse:Int):Dk×Int:=if aB4 d=true then({d with loose:=[],down:=false,fuse:=max fuse (-1)},0) else(d,1)
structure Part where
 gen:Nat
 index:Nat
 marks:Nat
 data:bytes
def as1:Part:=⟨0,0,0,[]⟩
def ag3(k n:Nat):bytes:=(List.range k).map fun i=>UInt8.ofNat (n/256^i)
def ax8(l:bytes):Nat:=l.foldr (fun b n=>b.toNat+256*n) 0
def headB(p:Part):bytes:=ag3 8 p.gen++(ag3 4 p.index++(UInt8.ofNat p.data.length::UInt8.ofNat p.marks::(p.data++List.replicate (106 - p.data.length) 0)))
def aA2(p:Part):bytes:=headB p++(sum256 (headB p)).take 8
def partOf(s:bytes):Part:=⟨ax8 (s.take 6),ax8 ((s.drop 8).take 4),(s.getD 13 0).toNat,(s.drop 14).take (s.getD 12 0).toNat⟩
def aj3(s:bytes):Part×Bool:=
 if(s.getD 12 0).toNat<=100/\(s.getD 13 0).toNat<=3/\(s.getD 6 0=0/\s.getD 7 0=0) then(partOf s,decide (1<=(partOf s).gen)&&(decide ((partOf s).gen<=1099511627776)&&decide (aA2 (partOf s)=s))) else(as1,false)
def aP8(n:Nat):Nat:=if n<=4096 then max 1 ((n+99)/100) else 0
def ac4(d:Dk):Nat:=d.secs.length/2
def au5(d:Dk)(half index:Nat):Part×Bool:=
 if index < ac4 d then(if(as3 d (half*ac4 d+index:Nat)).2=0 then((aj3 (as3 d (half*ac4 d+index:Nat)).1).1,(aj3 (as3 d (half*ac4 d+index:Nat)).1).2&&decide ((aj3 (as3 d (half*ac4 d+index:Nat)).1).1.index=index)) else(as1,false)) else(as1,false)
def bl7(d:Dk)(half gen start:Nat):Nat->Nat->bytes->Option (bytes×Nat)
 |0,_,_=>none
 |f+1,i,rec=>
  let q:=au5 d half i
  if q.2=false\/q.1.gen≠gen\/decide (q.1.marks%2=1)≠decide (i=start) then none
  else if(q.1.marks/2%2=0/\q.1.data.length < 100)\/(q.1.marks%2=0/\q.1.data=[]) then none
  else if 4096 < rec.length+q.1.data.length then none
  else if q.1.marks/2%2=1 then some (rec++q.1.data,i+1)
  else bl7 d half gen start f (i+1) (rec++q.1.data)
def bv9(d:Dk)(half gen i:Nat):Option (bytes×Nat):=bl7 d half gen i (ac4 d+1) i []
def bV7(d:Dk)(half gen n:Nat):Nat->Nat->List bytes->Option (List bytes)
 |0,_,_=>none
 |f+1,i,out=>
  match bv9 d half gen i with
  |none=>if i<=n then none else some out
  |some (x,j)=>if i<=n/\n+1 < j then none else bV7 d half gen n f j (out++[x])
def magicS:bytes:=[108,111,103]
structure Held where
 recs:List bytes
 gen:Nat
def aU6(d:Dk)(half:Nat):Held×Bool:=
 let h:=au5 d half 0
 if h.2=true/\magicS.isPrefixOf h.1.data=true/\h.1.data.length=7/\h.1.marks=3 then
  (let n:=ax8 (h.1.data.drop 3)
   if n < ac4 d then(match bV7 d half h.1.gen n (ac4 d+1) 1 [] with|some l=>(⟨l,h.1.gen⟩,true)|none=>(⟨[],0⟩,false)) else(⟨[],0⟩,false))
 else(⟨[],0⟩,false)
def aD6(d:Dk):Int:=if 8<=d.secs.length/\aB4 d=true then(if d.down=true then 9 else 0) else 1
def a88(d:Dk):Nat->Nat->Nat×Int
 |0,n=>(n,0)
 |k+1,n=>
  let i:=d.secs.length - (k+1)
  if(as3 d (i:Nat)).2=0 then a88 d k (if(aj3 (as3 d (i:Nat)).1).2=true then max n (aj3 (as3 d (i:Nat)).1).1.gen else n) else(0,(as3 d (i:Nat)).2)
def bj0(d:Dk):Nat×Int:=if(a88 d d.secs.length 0).2=0 then(if 1099511627776<=(a88 d d.secs.length 0).1 then(0,5) else((a88 d d.secs.length 0).1+1,0)) else(0,(a88 d d.secs.length 0).2)
def cuts(n:Nat)(b:bytes):List bytes:=(List.range ((b.length+n - 1)/n)).map fun i=>(b.drop (i*n)).take n
def aH9(rec:bytes)(gen index:Nat):List Part:=
 let l:=if rec=[] then[[]] else cuts 100 rec
 l.mapIdx fun i x=>⟨gen,index+i,(if i=0 then 1 else 0)+(if i+1=l.length then 2 else 0),x⟩
def af9(half:Nat):Dk->List Part->Dk×Int
 |d,[]=>(d,0)
 |d,p::r=>if(aH6 d (half*ac4 d+p.index:Nat) (aA2 p)).2=0 then af9 half (aH6 d (half*ac4 d+p.index:Nat) (aA2 p)).1 r else aH6 d (half*ac4 d+p.index:Nat) (aA2 p)
def aM1(half:Nat)(d:Dk)(l:List Part):Dk×Int:=if(af9 half d l).2=0 then bv0 (af9 half d l).1 else af9 half d l
def ax6(gen:Nat)(recs:List bytes):List Part:=recs.foldl (fun l r=>l++aH9 r gen (1+l.length)) []
structure Lg where
 half:Int
 gen:Int
 used:Int
def zLg:Lg:=⟨0,0,0⟩
def aV7(d:Dk)(half:Nat)(recs:List bytes):Dk×Lg×Int:=
 if(bj0 d).2=0 then
  (let g:=(bj0 d).1
   let l:=ax6 g recs
   let p:=aM1 half d l
   if p.2=0 then
    (let q:=aM1 half p.1 [⟨g,0,3,magicS++ag3 4 l.length⟩]
     if q.2=0 then(q.1,⟨half,g,1+l.length⟩,0) else(q.1,zLg,q.2))
   else(p.1,zLg,p.2))
 else(d,zLg,(bj0 d).2)
def aF7(d:Dk):Dk×Lg×Int:=if aD6 d=0 then aV7 d 0 [] else(d,zLg,aD6 d)
def bd7(d:Dk):Dk×Lg×List bytes×Int:=
 if aD6 d=0 then
  (let a:=aU6 d 0
   let b:=aU6 d 1
   let x:Held×Int:=if a.2=true/\0 < a.1.gen then(a.1,0) else(⟨[],0⟩,-1)
   let y:Held×Int:=if b.2=true/\x.1.gen < b.1.gen then(b.1,1) else x
   if y.2 < 0 then(d,zLg,[],20)
   else(let z:=aV7 d (1 - y.2).toNat y.1.recs
        if z.2.2=0 then(z.1,z.2.1,y.1.recs,0) else(z.1,z.2.1,[],z.2.2)))
 else(d,zLg,[],aD6 d)
def aA7(d:Dk)(l:Lg):Bool:=decide (0<=l.half/\l.half<=1/\1<=l.gen/\l.gen<=1099511627776/\1<=l.used/\l.used<=(ac4 d:Int))
def aO8(d:Dk)(l:Lg):Int:=if aD6 d=0 then(if aA7 d l=true then 0 else 1) else aD6 d
def aS9(d:Dk)(l:Lg)(rec:bytes):Dk×Lg×Int:=
 if aO8 d l=0 then
  (if rec.length<=4096 then
   (if(aP8 rec.length:Int)<=(ac4 d:Int) - l.used then
    (let p:=aM1 l.half.toNat d (aH9 rec l.gen.toNat l.used.toNat)
     if p.2=0 then(p.1,{l with used:=l.used+aP8 rec.length},0) else(p.1,l,p.2))
    else(d,l,10))
   else(d,l,3))
 else(d,l,aO8 d l)
def by0(d:Dk)(l:Lg)(recs:List bytes):Dk×Lg×Int:=
 if aO8 d l=0 then
  (if recs.any (fun r=>decide (4096 < r.length))=true then(d,l,3)
   else if(ac4 d:Int) < 1+((recs.map fun r=>aP8 r.length).sum:Nat) then(d,l,10)
   else(let p:=aV7 d (1 - l.half).toNat recs
        if p.2.2=0 then(p.1,p.2.1,0) else(p.1,l,p.2.2)))
 else(d,l,aO8 d l)
structure Srv where
 st:Idn
 disk:Dk
 log:Lg
 down:Bool
def aB7(s:Srv):Srv×Int:=
 if(aP9 s.st).2=0 then(let c:=by0 s.disk s.log (aP9 s.st).1;({s with disk:=c.1,log:=c.2.1},c.2.2)) else(s,(aP9 s.st).2)
def aV8(s:Srv)(rec:bytes):Srv×Int:=
 let a:=aS9 s.disk s.log rec
 if a.2.2=10 then
  (let c:=aB7 {s with disk:=a.1,log:=a.2.1}
   if c.2=0 then(let b:=aS9 c.1.disk c.1.log rec;({c.1 with disk:=b.1,log:=b.2.1},b.2.2)) else c)
 else({s with disk:=a.1,log:=a.2.1},a.2.2)
def doS(server key:bytes)(terms:List bytes)(s:Srv)(a:Ask):Srv×Ans:=
 if s.down=true then(s,al5 9)
 else if(am8 a).2=0 then
  (let p:=aj6 server key terms s.st a
   if p.1=s.st then(s,p.2)
   else(let k:=aV8 s (am8 a).1
        if k.2=0 then({k.1 with st:=p.1},p.2) else({k.1 with down:=decide (k.2=9)},al5 k.2)))
 else(s,al5 (am8 a).2)
end As
end
section
open Go V
namespace Id
theorem cU4{k:UInt8}{s:bytes}(h: ¬s.length<=255):ar9 k s=false:=by
 unfold ar9;rw[decide_eq_false h,az9]
theorem cI5(k:UInt8)(hk:k=64\/k=33)(s:bytes)(H:List AObj):o7 Tryz.prog 191 [.str s,.lit (.int .u8 k.toNat)] H (fun y H'=>y=.bool (ar9 k s)/\H'=H):=by
 by_cases h:s.length<=255
 ·exact b50 k hk s H (by omega)
 ·rw[cU4 h]
  have hc:((255:Int) < (s.length:Int))=True:=eq_true (by omega)
  refine o8 [] [.tmp 4] 37 Tryz.func191 ?_;repeat' first|refine l9 ?_|simp -dsimp -implicitDefEqProofs only[go_sem,hc]
  exact o5 ⟨rfl,rfl⟩
theorem bF4(s:bytes)(H:List AObj):o7 Tryz.prog 105 [.str s] H (fun y H'=>y=.bool (ar9 64 s)/\H'=H):=by
 have c:=fun H=>cI5 64 (.inl rfl) s H
 generalize ar9 64 s=r at*;refine o8 [] [.tmp 2] 5 Tryz.func105 ?_;repeat' first|simp -dsimp -implicitDefEqProofs only[go_sem]|refine l7 (c _) ?_|fail
 exact o5 ⟨rfl,rfl⟩
theorem ef4(s:bytes)(H:List AObj):o7 Tryz.prog 220 [.str s] H (fun y H'=>y=.bool (ar9 33 s)/\H'=H):=by
 have c:=fun H=>cI5 33 (.inr rfl) s H
 generalize ar9 33 s=r at*;refine o8 [] [.tmp 2] 5 Tryz.func220 ?_;repeat' first|simp -dsimp -implicitDefEqProofs only[go_sem]|refine l7 (c _) ?_|fail
 exact o5 ⟨rfl,rfl⟩
end Id
namespace As
theorem bd2{a b:UInt8}:((a.toNat:Int)=(b.toNat:Int))=(a=b):=propext ⟨fun h=>bo1.1 (by omega),fun h=>by rw[h]⟩
abbrev big:Nat:=140737488355328
theorem dn2(c:UInt8)(l:bytes)(H:List AObj)(hl:l.length<=big):o7 Tryz.prog 328 [.str l,.lit (.int .u8 c.toNat)] H (fun x H'=>x=.str (ap5 (fun x=>x==c) l)/\H'=H):=by
 refine o8 [] [.tmp 4] 23 Tryz.func328 ?_;repeat' simp -dsimp -implicitDefEqProofs only[go_sem]
 refine aa7 ab6 mixed [] [1,4] (fun r:List UInt8=>ap5 (fun x=>x==c) r=ap5 (fun x=>x==c) l/\r.length<=l.length) (fun r=>[(0,.str r)]) (fun _=>H) (fun r=>r.length) (by kernel_rfl) ?_ l ⟨rfl,xq0 _⟩ aa3 rfl
 rintro r ⟨hr,hrl⟩
 have hb:r.length<=140737488355328:=aE0 hrl hl;by_cases h0:0 < r.length
 ·have h0c:((0:Int) < (r.length:Int))=True:=eq_true (by omega)
  have hi:((r.length:Int) - 1).toNat=r.length - 1:=by omega
  by_cases hc:r.getD (r.length - 1) 0=c
  ·have hcc:=eq_true hc
   repeat' first|refine l9 ?_|simp -dsimp -implicitDefEqProofs (disch:=omega) only[go_sem,h0c,hi,bd2,hcc]|refine vcA ?_ ?_|omega
   refine again (r.take (r.length - 1)) ?_ ?_ rfl aa3
   ·rw[List.length_take];omega
   ·rw[List.length_take]
    exact⟨by rw[<-hr,bS7 (l:=r) h0 (by rw[hc];simp)],by omega⟩
  ·have hcc:=eq_false hc
   repeat' first|refine l9 ?_|simp -dsimp -implicitDefEqProofs (disch:=omega) only[go_sem,h0c,hi,bd2,hcc]|refine vcA ?_ ?_|omega
   exact o5 ⟨by rw[<-hr,bS6 h0 (by simpa using hc)],rfl⟩
 ·have h0c:((0:Int) < (r.length:Int))=False:=eq_false (by omega)
  obtain rfl:r=[]:=aB0 (by omega)
  repeat' first|refine l9 ?_|simp -dsimp -implicitDefEqProofs only[go_sem]
  exact o5 ⟨by rw[<-hr];rfl,rfl⟩
theorem dn3(c:UInt8)(l:bytes)(H:List AObj)(hl:l.length<=big):o7 Tryz.prog 327 [.str l,.lit (.int .u8 c.toNat)] H (fun x H'=>x=.str (aw3 (fun x=>x==c) l)/\H'=H):=by
 refine o8 [] [.tmp 4] 17 Tryz.func327 ?_;repeat' simp -dsimp -implicitDefEqProofs only[go_sem]
 refine aa7 ab6 mixed [] [1,4] (fun r:List UInt8=>aw3 (fun x=>x==c) r=aw3 (fun x=>x==c) l/\r.length<=l.length) (fun r=>[(0,.str r)]) (fun _=>H) (fun r=>r.length) (by kernel_rfl) ?_ l ⟨rfl,xq0 _⟩ aa3 rfl
 rintro r ⟨hr,hrl⟩
 have hb:r.length<=140737488355328:=aE0 hrl hl;by_cases h0:0 < r.length
 ·have h0c:((0:Int) < (r.length:Int))=True:=eq_true (by omega)
  by_cases hc:r.getD 0 0=c
  ·have hcc:=eq_true hc
   repeat' first|refine l9 ?_|simp -dsimp -implicitDefEqProofs (disch:=(simp only[ll];omega)) only[go_sem,h0c,bd2,hcc]|refine vcA ?_ ?_|omega
   refine again (r.drop 1) ?_ ?_ rfl aa3
   ·rw[List.length_drop];omega
   ·rw[List.length_drop]
    exact⟨by rw[<-hr,bS9 (l:=r) h0 (by rw[hc];simp)],by omega⟩
  ·have hcc:=eq_false hc
   repeat' first|refine l9 ?_|simp -dsimp -implicitDefEqProofs only[go_sem,h0c,bd2,hcc]
   exact o5 ⟨by rw[<-hr,bS8 h0 (by simpa using hc)],rfl⟩
 ·obtain rfl:r=[]:=aB0 (by omega)
  repeat' first|refine l9 ?_|simp -dsimp -implicitDefEqProofs only[go_sem]
  exact o5 ⟨by rw[<-hr];rfl,rfl⟩
theorem b73{p:UInt8->Bool}{l:bytes}:(ap5 p l).length<=l.length:=by
 unfold ap5;rw[cN0];have:=(cd8 p (l:=l.reverse)).length_le;rwa [cN0] at this
theorem c33{p:UInt8->Bool}{l:bytes}:(aw3 p l).length<=l.length:=(cd8 p).length_le
theorem c35{c:UInt8}{s:bytes}:(aK2 c s).length<=s.length:=aE0 c33 b73
theorem cL2(c:UInt8)(l:bytes)(H:List AObj)(hc:c.toNat < 128)(hl:l.length<=big):o7 Tryz.prog 246 [.str l,.str [c]] H (fun x H'=>x=.str (aK2 c l)/\H'=H):=by
 have c1:=fun H=>dn2 c l H hl
 have c2:=fun H=>dn3 c (ap5 (fun x=>x==c) l) H (aE0 b73 hl)
 have hcc:((c.toNat:Int) < 128)=True:=eq_true (by omega)
 by_cases h:l=[]
 ·subst h
  refine o8 [1000004] [.tmp 4] 43 Tryz.func246 ?_;repeat' first|refine l9 ?_|simp -dsimp -implicitDefEqProofs only[go_sem]
  exact o5 ⟨rfl,rfl⟩
 ·have hn:=eq_false h
  unfold aK2;generalize aw3 _ (ap5 _ l)=r2 at*;generalize ap5 _ l=r1 at*;refine o8 [1000004] [.tmp 4] 43 Tryz.func246 ?_;repeat' first|refine l9 ?_|simp -dsimp -implicitDefEqProofs only[go_sem,hn,hcc]|refine⟨_,_,c1 _,?_⟩|refine⟨_,_,c2 _,?_⟩|fail
  exact o5 ⟨rfl,rfl⟩
end As
end
section
open Go V
namespace As
theorem co0(g s:bytes)(H:List AObj)(hs:s.length<=1100000):o7 Tryz.prog 357 [.str s,.str g] H (fun y H'=>y=.bool (s.all g.contains)/\H'=H):=by
 generalize hR:s.all g.contains=R;refine o8 [] [.tmp 4] 18 Tryz.func357 ?_;repeat' simp -dsimp -implicitDefEqProofs only[go_sem]
 refine aa7 ab6 mixed [] [0,1,7] (fun i:Nat=>i<=s.length/\(s.drop i).all g.contains=R) (fun i=>[(8,.lit (.int .i64 i))]) (fun _=>H) (fun i=>s.length - i) (by kernel_rfl) ?_ 0 ⟨by omega,hR⟩ aa3 rfl
 rintro i ⟨hi,hI⟩
 by_cases h:i < s.length
 ·have hc:((i:Int) < (s.length:Int))=True:=eq_true (by omega)
  rw[aL3 h,List.all_cons] at hI;have hg:s.getD i 0=s[i]:=by simp[List.getD,h]
  rw[<-hg] at hI;have cI:=fun H=>al7 g (s.getD i 0) H
  unfold aw2 at cI;by_cases h1:g.idxOf (s.getD i 0) < g.length
  ·rw[if_pos h1] at cI
   have hk:g.contains (s.getD i 0)=true:=by
    rw[aW8];exact bn8.1 h1
   rw[hk,Bool.true_and] at hI;repeat' first|refine l9 ?_|simp -dsimp -implicitDefEqProofs (disch:=omega) only[go_sem,hc]|refine l7 (cI _) ?_|refine vcA ?_ ?_|omega
   refine again (i+1) ?_ ?_ rfl aa3
   ·omega
   ·exact⟨by omega,hI⟩
  ·rw[if_neg h1] at cI
   have hk:g.contains (s.getD i 0)=false:=by
    rw[<-bQ6,aW8];exact fun m=>h1 (bn8.2 m)
   rw[hk,az9] at hI;subst hI;repeat' first|refine l9 ?_|simp -dsimp -implicitDefEqProofs only[go_sem,hc]|refine l7 (cI _) ?_|fail
   exact o5 ⟨rfl,rfl⟩
 ·have hc:((i:Int) < (s.length:Int))=False:=eq_false (by omega)
  rw[bc5 (by omega)] at hI
  subst hI;repeat' first|refine l9 ?_|simp -dsimp -implicitDefEqProofs only[go_sem,hc]
  exact o5 ⟨rfl,rfl⟩
theorem dL5{c:UInt8}{s:bytes}{n:Nat}(h:s.length<=n):(aK2 c s).length<=n:=aE0 c35 h
theorem dS8(s:bytes)(H:List AObj)(hs:s.length<=1000000):o7 Tryz.prog 280 [.str s] H (fun y H'=>y=.bool (bX5 s)/\H'=H):=by
 have c1:=fun H=>co0 bX4 s H (by omega)
 have c2:=fun H=>cL2 46 s H (by decide) (by unfold big;omega)
 have c3:=fun H=>aC4 s [46,46] H (by omega)
 unfold bX5;generalize s.all bX4.contains=A at*;generalize aK2 46 s=T at*;generalize Lib.contains s [46,46]=C at*;unfold bX4 at c1;by_cases h0:s=[]
 ·rw[decide_eq_false (fun h=>h h0)]
  have hc0:=eq_true h0;refine o8 [] [.tmp 2] 25 Tryz.func280 ?_;repeat' first|refine l9 ?_|simp -dsimp -implicitDefEqProofs only[go_sem,hc0]
  exact o5 ⟨rfl,rfl⟩
 have hc0:=eq_false h0;rw[decide_eq_true h0];by_cases h1:s.length<=64
 ·have hc1:((64:Int) < (s.length:Int))=False:=eq_false (by omega)
  rw[decide_eq_true h1];cases A with
  |false=>
   refine o8 [] [.tmp 2] 25 Tryz.func280 ?_;repeat' first|refine l9 ?_|simp -dsimp -implicitDefEqProofs only[go_sem,hc0,hc1]|refine l7 (c1 _) ?_|fail
   exact o5 ⟨rfl,rfl⟩
  |true=>
   by_cases h2:T=s
   ·have hc2:=eq_true h2
    rw[decide_eq_true h2];refine o8 [] [.tmp 2] 25 Tryz.func280 ?_;repeat' first|refine l9 ?_|simp -dsimp -implicitDefEqProofs only[go_sem,hc0,hc1,hc2]|refine l7 (c1 _) ?_|refine l7 (c2 _) ?_|refine l7 (c3 _) ?_|fail
    exact o5 ⟨by simp,rfl⟩
   ·have hc2:=eq_false h2
    rw[decide_eq_false h2];refine o8 [] [.tmp 2] 25 Tryz.func280 ?_;repeat' first|refine l9 ?_|simp -dsimp -implicitDefEqProofs only[go_sem,hc0,hc1,hc2]|refine l7 (c1 _) ?_|refine l7 (c2 _) ?_|fail
    exact o5 ⟨rfl,rfl⟩
 ·have hc1:((64:Int) < (s.length:Int))=True:=eq_true (by omega)
  rw[decide_eq_false h1];refine o8 [] [.tmp 2] 25 Tryz.func280 ?_;repeat' first|refine l9 ?_|simp -dsimp -implicitDefEqProofs only[go_sem,hc0,hc1]
  exact o5 ⟨rfl,rfl⟩
theorem cF7(l:bytes)(c:UInt8)(H:List AObj)(hc:c.toNat < 128):o7 Tryz.prog 358 [.str l,.lit (.int .i32 c.toNat)] H (fun x H'=>x=.lit (.int .i64 (aw2 l c))/\H'=H):=by
 have c1:=fun H=>al7 l c H
 generalize aw2 l c=r at*;have h1:((0:Int)<=(c.toNat:Int))=True:=eq_true (by omega)
 have h2:((c.toNat:Int) < 128)=True:=eq_true (by omega)
 have h3:IntKind.u8.wrap (c.toNat:Int)=(c.toNat:Int):=IntWalk.u8_in _ (by omega)
 refine o8 [1000006,1000007,1000014,1000031] [.tmp 4] 187 Tryz.func358 ?_;repeat' first|refine l9 ?_|simp -dsimp -implicitDefEqProofs only[go_sem,h1,h2,h3]|refine l7 (c1 _) ?_|fail
 exact o5 ⟨rfl,rfl⟩
theorem b69(l:bytes)(c:UInt8)(H:List AObj)(hc:c.toNat < 128):o7 Tryz.prog 281 [.str l,.lit (.int .i32 c.toNat)] H (fun x H'=>x=.bool (l.contains c)/\H'=H):=by
 have c1:=fun H=>cF7 l c H hc
 unfold aw2 at c1;by_cases h:l.idxOf c < l.length
 ·rw[if_pos h] at c1
  rw[show l.contains c=true from aW8.2 (bn8.1 h)]
  refine o8 [] [.tmp 4] 9 Tryz.func281 ?_;repeat' first|simp -dsimp -implicitDefEqProofs only[go_sem]|refine l7 (c1 _) ?_|fail
  exact o5 ⟨rfl,rfl⟩
 ·rw[if_neg h] at c1
  rw[show l.contains c=false by rw[<-bQ6,aW8];exact fun m=>h (bn8.2 m)]
  refine o8 [] [.tmp 4] 9 Tryz.func281 ?_;repeat' first|simp -dsimp -implicitDefEqProofs only[go_sem]|refine l7 (c1 _) ?_|fail
  exact o5 ⟨rfl,rfl⟩
theorem d18(s:bytes)(H:List AObj)(hs:s.length<=1100000):o7 Tryz.prog 202 [.str s] H (fun y H'=>y=.tup [.str (aI1 s).1,.lit (.int .i64 (aI1 s).2)]/\H'=H):=by
 have c1:=fun H=>cL2 32 s H (by decide) (by unfold big;omega)
 have hT:=dL5 (c:=32) hs;unfold aI1;generalize aK2 32 s=T at*;have c2:=fun H=>cZ5 T 64 H (by omega)
 have hl:=Id.b61 (s:=T) (c:=64);unfold bI6 at c2;by_cases h1:T.length<=254
 ·have hc1:((254:Int) < (T.length:Int))=False:=eq_false (by omega)
  have c3:=fun H=>dS8 (av2 T 64).1 H (by omega)
  have c4:=fun H=>b69 (av2 T 64).2.1 58 H (by decide)
  have c5:=fun H=>aC4 (av2 T 64).2.1 [46] H (by omega)
  have c6:=fun H=>Id.bQ1 (av2 T 64).2.1 H (by omega)
  have c7:=fun H=>d08 T H (by omega)
  generalize av2 T 64=p at*;obtain⟨a,b,ok⟩:=p;dsimp only at*;generalize bX5 a=L at*;generalize b.contains 58=C1 at*;generalize Lib.contains b [46]=C2 at*;generalize Id.aS2 b=C3 at*;simp only[UInt8.reduceToNat] at c4;cases ok with
  |false=>
   rw[if_neg (by simp)]
   refine o8 [] [.tmp 2,.tmp 3] 43 Tryz.func202 ?_;repeat' first|refine l9 ?_|simp -dsimp -implicitDefEqProofs only[go_sem,hc1]|refine l7 (c1 _) ?_|refine l7 (c2 _) ?_|fail
   exact o5 ⟨rfl,rfl⟩
  |true=>
   cases L with
   |false=>
    rw[if_neg (by simp)]
    refine o8 [] [.tmp 2,.tmp 3] 43 Tryz.func202 ?_;repeat' first|refine l9 ?_|simp -dsimp -implicitDefEqProofs only[go_sem,hc1]|refine l7 (c1 _) ?_|refine l7 (c2 _) ?_|refine l7 (c3 _) ?_|fail
    exact o5 ⟨rfl,rfl⟩
   |true=>
    rw[if_pos ⟨rfl,h1,rfl⟩];by_cases h2:C1=false/\C2=true/\C3=true
    ·obtain⟨rfl,rfl,rfl⟩:=h2
     rw[if_pos ⟨rfl,rfl,rfl⟩];refine o8 [] [.tmp 2,.tmp 3] 43 Tryz.func202 ?_;repeat' first|refine l9 ?_|simp -dsimp -implicitDefEqProofs only[go_sem,hc1]|refine l7 (c1 _) ?_|refine l7 (c2 _) ?_|refine l7 (c3 _) ?_|refine l7 (c4 _) ?_|refine l7 (c5 _) ?_|refine l7 (c6 _) ?_|refine l7 (c7 _) ?_|fail
     exact o5 ⟨rfl,rfl⟩
    ·rw[if_neg h2]
     cases C1 with
     |true=>
      refine o8 [] [.tmp 2,.tmp 3] 43 Tryz.func202 ?_;repeat' first|refine l9 ?_|simp -dsimp -implicitDefEqProofs only[go_sem,hc1]|refine l7 (c1 _) ?_|refine l7 (c2 _) ?_|refine l7 (c3 _) ?_|refine l7 (c4 _) ?_|fail
      exact o5 ⟨rfl,rfl⟩
     |false=>
      cases C2 with
      |false=>
       refine o8 [] [.tmp 2,.tmp 3] 43 Tryz.func202 ?_;repeat' first|refine l9 ?_|simp -dsimp -implicitDefEqProofs only[go_sem,hc1]|refine l7 (c1 _) ?_|refine l7 (c2 _) ?_|refine l7 (c3 _) ?_|refine l7 (c4 _) ?_|refine l7 (c5 _) ?_|fail
       exact o5 ⟨rfl,rfl⟩
      |true=>
       cases C3 with
       |true=>exact absurd ⟨rfl,rfl,rfl⟩ h2
       |false=>
        refine o8 [] [.tmp 2,.tmp 3] 43 Tryz.func202 ?_;repeat' first|refine l9 ?_|simp -dsimp -implicitDefEqProofs only[go_sem,hc1]|refine l7 (c1 _) ?_|refine l7 (c2 _) ?_|refine l7 (c3 _) ?_|refine l7 (c4 _) ?_|refine l7 (c5 _) ?_|refine l7 (c6 _) ?_|fail
        exact o5 ⟨rfl,rfl⟩
 ·have hc1:((254:Int) < (T.length:Int))=True:=eq_true (by omega)
  rw[if_neg (fun h=>h1 h.2.1)]
  generalize av2 T 64=p at*;obtain⟨a,b,ok⟩:=p;dsimp only at*;cases ok with
  |false=>
   refine o8 [] [.tmp 2,.tmp 3] 43 Tryz.func202 ?_;repeat' first|refine l9 ?_|simp -dsimp -implicitDefEqProofs only[go_sem,hc1]|refine l7 (c1 _) ?_|refine l7 (c2 _) ?_|fail
   exact o5 ⟨rfl,rfl⟩
  |true=>
   refine o8 [] [.tmp 2,.tmp 3] 43 Tryz.func202 ?_;repeat' first|refine l9 ?_|simp -dsimp -implicitDefEqProofs only[go_sem,hc1]|refine l7 (c1 _) ?_|refine l7 (c2 _) ?_|fail
   exact o5 ⟨rfl,rfl⟩
theorem bX3{m:Nat}{s:bytes}{v:Value}:Low m (.tup [.str s,.lit v]):=ae2 (o9 (.str _) (o9 (.lit _) aa4))
def adN(k:Nat)(b:bytes):AV:=if b=[] then .lit (.pointer none) else .mp k 0
theorem ef2{k:Nat}{b:bytes}:aD5 k (adN k b):=by
 unfold adN;split
 ·exact b65
 ·exact an4
theorem el9{k:Nat}{b:bytes}{c:UInt8}:adN k (b++[c])=.mp k 0:=if_neg (by simp)
structure BR where
 i:Nat
 b:bytes
 p:Bool
def cx2:Option (bytes×Bool)->AV
 |none=>.tup [.str [],.bool false,.bool false]
 |some (n,p)=>.tup [.str n,.bool p,.bool true]
theorem ed8(s:bytes)(H:List AObj)(hs:s.length<=1100000):o7 Tryz.prog 284 [.str s] H (fun y H'=>y=cx2 (aO1 [] false s)/\H'=H):=by
 generalize hR:aO1 [] false s=R;refine o8 [3000005005] [.tmp 2,.tmp 3,.tmp 4] 43 Tryz.func284 ?_;repeat' simp -dsimp -implicitDefEqProofs only[go_sem]
 refine aa7 ab6 mixed [3000005005] [0,5,9] (fun y:BR=>y.i<=s.length/\y.b.length<=y.i/\aO1 y.b y.p (s.drop y.i)=R) (fun y=>[(10,.lit (.int .i64 y.i)),(3,.bool y.p)]) (fun y=>cg6 H (adN H.length y.b) y.b) (fun y=>s.length - y.i) (by kernel_rfl) ?_ ⟨0,[],false⟩ ⟨by simp,by simp,by simpa using hR⟩ aa3 rfl
 rintro⟨i,b,p⟩ ⟨hi,hb,hI⟩
 dsimp only at*;unfold cg6;have hB: ∀x y:AObj,(H++[x,y])[H.length]?=some x:=fun x y=>by rw[xq5 (xq0 _),ao4];rfl
 have hG: ∀x y:AObj,(H++[x,y])[H.length+1]?=some y:=fun x y=>by rw[xq5 (by omega),au2];rfl
 have hst: ∀x y u v:AObj,((H++[x,y]).set H.length u).set (H.length+1) v=H++[u,v]:=fun x y u v=>by
  rw[az0 _ _ (xq0 _),ao4,az0 _ _ (by omega),au2]
  rfl
 by_cases h:i < s.length
 ·have hc:((i:Int) < (s.length:Int))=True:=eq_true (by omega)
  rw[aL3 h] at hI;have hg:s[i]=s.getD i 0:=by simp[List.getD,h]
  rw[hg] at hI;generalize hcc:s.getD i 0=c at*;rw[aO1] at hI;by_cases h1:48<=c.toNat/\c.toNat<=57
  ·rw[if_pos h1] at hI
   have f1:((48:Int)<=(c.toNat:Int))=True:=eq_true (by omega)
   have f2:((c.toNat:Int)<=57)=True:=eq_true (by omega)
   have cw:=a96 (T:=343) (k:=H.length) (m:=H.length+1) (a:=adN H.length b) (bs:=b) (c:=c) (H:=H++[ap7 343 (H.length+1) (adN H.length b) b,ax7 b.length]) bs9 (hB _ _) ef2 (hG _ _) (by omega)
   rw[hst] at cw;repeat' first|refine l9 ?_|simp -dsimp -implicitDefEqProofs (disch:=omega) only[go_sem,hc,hcc,f1,f2]|refine l7 (cw) ?_|fail
   refine again (⟨i+1,b++[c],p⟩) ?_ ?_ ?_ aa3
   ·show s.length - (i+1) < s.length - i
    omega
   ·exact⟨by show i+1<=_;omega,by show (b++[c]).length<=i+1;rw[List.length_append];simp;omega,hI⟩
   ·show _=cg6 H (adN H.length (b++[c])) (b++[c])
    rw[el9];simp[cg6]
  ·rw[if_neg h1] at hI
   have cl:=fun x=>ch8 (T:=343) (k:=H.length) (m:=H.length+1) (a:=adN H.length b) (bs:=b) (H:=H++[ap7 343 (H.length+1) (adN H.length b) b,x]) (hB _ _)
   by_cases h2:c=43/\b=[]/\p=false
   ·rw[if_pos h2] at hI
    obtain⟨h3,rfl,rfl⟩:=h2;have f3:((c.toNat:Int)=43)=True:=eq_true (by rw[h3];rfl)
    have f1:((48:Int)<=(c.toNat:Int))=False:=eq_false (by rw[h3];decide)
    repeat' first|refine l9 ?_|simp -dsimp -implicitDefEqProofs (disch:=omega) only[go_sem,hc,hcc,f1,f3]|refine l7 (cl _) ?_|fail
    refine again (⟨i+1,[],true⟩) ?_ ?_ ?_ aa3
    ·show s.length - (i+1) < s.length - i
     omega
    ·exact⟨by show i+1<=_;omega,aC0 _,hI⟩
    ·rfl
   ·rw[if_neg h2] at hI
    have cI:=fun H=>al7 [32,45,46,40,41] c H
    unfold aw2 at cI;have f3:((c.toNat:Int)=43/\(b.length:Int)=0/\p=false)->False:=fun⟨g1,g2,g3⟩=>h2 ⟨bo1.1 (by show c.toNat=43;omega),aB0 (by omega),g3⟩
    by_cases h4:([32,45,46,40,41]:bytes).contains c=true
    ·rw[if_pos h4] at hI
     rw[if_pos (bn8.2 (aW8.1 h4))] at cI;repeat' first|refine l9 ?_|simp -dsimp -implicitDefEqProofs (disch:=omega) only[go_sem,hc,hcc]|refine l7 (cl _) ?_|refine l7 (cI _) ?_|refine vcA ?_ ?_|omega|refine aa8 fun _=>?_
     all_goals first|exact(f3 ⟨by assumption,by assumption,by assumption⟩).elim|skip
     all_goals refine again (⟨i+1,b,p⟩) ?_ ?_ rfl aa3
     all_goals first
      |(show s.length - (i+1) < s.length - i;omega)
      |exact⟨by show i+1<=_;omega,by show b.length<=i+1;omega,hI⟩
    ·rw[if_neg h4] at hI
     rw[if_neg (fun h=>h4 (aW8.2 (bn8.1 h)))] at cI
     subst hI;repeat' first|refine l9 ?_|simp -dsimp -implicitDefEqProofs (disch:=omega) only[go_sem,hc,hcc]|refine l7 (cl _) ?_|refine l7 (cI _) ?_|refine vcA ?_ ?_|omega|refine aa8 fun _=>?_
     all_goals first
      |exact(f3 ⟨by assumption,by assumption,by assumption⟩).elim
      |exact aa1 _ (Le.refl _) (ae2 (o9 (.str _) (o9 (.lit _) (o9 (.lit _) aa4)))) ⟨rfl,rfl⟩
 ·have hc:((i:Int) < (s.length:Int))=False:=eq_false (by omega)
  rw[bc5 (by omega)] at hI
  rw[aO1] at hI;subst hI;have cs:=bQ0 (T:=343) (k:=H.length) (m:=H.length+1) (a:=adN H.length b) (bs:=b) (H:=H++[ap7 343 (H.length+1) (adN H.length b) b,ax7 b.length]) (hB _ _) (hG _ _) (by omega)
  repeat' first|refine l9 ?_|simp -dsimp -implicitDefEqProofs only[go_sem,hc]|refine l7 (cs) ?_|fail
  exact aa1 _ (Le.refl _) (ae2 (o9 (.str _) (o9 (.lit _) (o9 (.lit _) aa4)))) ⟨rfl,rfl⟩
theorem di8(H:List AObj):o7 Tryz.prog 283 [.str []] H (fun y H'=>y=.tup [.agg [.str [],.str []],.bool true]/\H'=H):=by
 refine o8 [] [.cell 2 368,.tmp 3] 23 Tryz.func283 ?_;repeat' simp -dsimp -implicitDefEqProofs (disch:=(simp only[ll];omega)) only[go_sem,UInt8.reduceToNat,az9,List.all_cons,List.all_nil,Bool.and_self,Option.isSome_none,Bool.false_eq_true]
 all_goals exact aa1 _ (Le.refl _) (ae2 (o9 (am9 (o9 (.str _) (o9 (.str _) aa4))) (o9 (.lit _) aa4))) ⟨rfl,rfl⟩
theorem bn1: ∀(s b:bytes) (p:Bool) (n:bytes) (q:Bool),aO1 b p s=some (n,q)->n.length<=b.length+s.length
 |[],b,p,n,q,h=>by
  rw[aO1] at h;cases h
  exact Nat.le_add_right _ _
 |c::r,b,p,n,q,h=>by
  rw[aO1] at h;split at h
  ·have:=bn1 r _ p n q h
   rw[List.length_append] at this;simp only[List.length_cons,List.length_nil] at this⊢;omega
  ·split at h
   ·have:=bn1 r b true n q h
    simp only[List.length_cons];omega
   ·split at h
    ·have:=bn1 r b p n q h
     simp only[List.length_cons];omega
    ·cases h
theorem d05(s:bytes)(H:List AObj)(hs:s.length<=1100000):o7 Tryz.prog 203 [.str [],.str s] H (fun y H'=>y=.tup [.str (ar8 s).1,.lit (.int .i64 (ar8 s).2)]/\H'=H):=by
 have c1:=fun H=>di8 H
 have c2:=fun H=>ed8 s H hs
 have hbl:=bn1 s [] false;cases hR:aO1 [] false s with
 |none=>
  have hP:ar8 s=([],2):=by unfold ar8;rw[hR]
  rw[hR] at c2;rw[hP];unfold cx2 at c2;refine o8 [1000008,1000008001005] [.tmp 4,.tmp 5] 52 Tryz.func203 ?_;repeat' first|refine l9 ?_|simp -dsimp -implicitDefEqProofs only[go_sem]|refine l7 (c1 _) ?_|refine l7 (c2 _) ?_|fail
  exact aa1 _ (Le.refl _) bX3 ⟨rfl,rfl⟩
 |some x=>
  obtain⟨n,p⟩:=x;rw[hR] at c2;have hn:=hbl n p hR;unfold cx2 at c2;simp only[List.length_nil,Nat.zero_add] at hn;by_cases h1:n.length < 6
  ·have f1:((n.length:Int) < 6)=True:=eq_true (by omega)
   have hP:ar8 s=([],2):=by unfold ar8;rw[hR];exact if_pos (.inl h1)
   rw[hP];refine o8 [1000008,1000008001005] [.tmp 4,.tmp 5] 52 Tryz.func203 ?_;repeat' first|refine l9 ?_|simp -dsimp -implicitDefEqProofs only[go_sem,f1]|refine l7 (c1 _) ?_|refine l7 (c2 _) ?_|refine vcA ?_ ?_|refine aa8 fun _=>?_
   all_goals exact aa1 _ (Le.refl _) bX3 ⟨rfl,rfl⟩
  ·have f1:((n.length:Int) < 6)=False:=eq_false (by omega)
   by_cases h2:15 < n.length
   ·have f2:((15:Int) < (n.length:Int))=True:=eq_true (by omega)
    have hP:ar8 s=([],2):=by unfold ar8;rw[hR];exact if_pos (.inr (.inl h2))
    rw[hP];refine o8 [1000008,1000008001005] [.tmp 4,.tmp 5] 52 Tryz.func203 ?_;repeat' first|refine l9 ?_|simp -dsimp -implicitDefEqProofs only[go_sem,f1,f2]|refine l7 (c1 _) ?_|refine l7 (c2 _) ?_|refine vcA ?_ ?_|refine aa8 fun _=>?_
    all_goals exact aa1 _ (Le.refl _) bX3 ⟨rfl,rfl⟩
   ·have f2:((15:Int) < (n.length:Int))=False:=eq_false (by omega)
    by_cases h3:n.getD 0 0=48
    ·have f3:(((n.getD 0 0).toNat:Int)=48)=True:=eq_true (by rw[h3];rfl)
     have hP:ar8 s=([],2):=by unfold ar8;rw[hR];exact if_pos (.inr (.inr h3))
     rw[hP];refine o8 [1000008,1000008001005] [.tmp 4,.tmp 5] 52 Tryz.func203 ?_;repeat' first|refine l9 ?_|simp -dsimp -implicitDefEqProofs only[go_sem,f1,f2,f3]|refine l7 (c1 _) ?_|refine l7 (c2 _) ?_|refine vcA ?_ ?_|omega|refine aa8 fun _=>?_
     all_goals exact aa1 _ (Le.refl _) bX3 ⟨rfl,rfl⟩
    ·have f3:(((n.getD 0 0).toNat:Int)=48)=False:=eq_false (fun h=>h3 (bo1.1 (by show _=48;omega)))
     have hP:ar8 s=(n,0):=by unfold ar8;rw[hR];exact if_neg (fun h=>by rcases h with h|h|h<;>contradiction)
     rw[hP];refine o8 [1000008,1000008001005] [.tmp 4,.tmp 5] 52 Tryz.func203 ?_;repeat' first|refine l9 ?_|simp -dsimp -implicitDefEqProofs only[go_sem,f1,f2,f3]|refine l7 (c1 _) ?_|refine l7 (c2 _) ?_|refine vcA ?_ ?_|omega|refine aa8 fun _=>?_
     all_goals exact aa1 _ (Le.refl _) bX3 ⟨rfl,rfl⟩
theorem d07(m w:bytes)(H:List AObj)(hw:w.length<=1100000):o7 Tryz.prog 116 [.str m,.str w] H (fun y H'=>y=.tup [aP1 (aH1 m w).1,.lit (.int .i64 (aH1 m w).2)]/\H'=H):=by
 have c1:=fun H=>d18 w H hw
 have c2:=fun H=>d05 w H hw
 by_cases hm:m=bj3
 ·have f1:=eq_true hm
  by_cases he:(aI1 w).2=0
  ·have hP:aH1 m w=(⟨m,(aI1 w).1⟩,0):=by unfold aH1;rw[if_pos hm,if_pos he]
   rw[hP];unfold bj3 at f1;rw[he] at c1;generalize (aI1 w).1=a at*;refine o8 [] [.cell 4 37,.tmp 5] 30 Tryz.func116 ?_;repeat' first|refine l9 ?_|simp -dsimp -implicitDefEqProofs (disch:=(simp only[ll];omega)) only[go_sem,f1]|refine l7 (c1 _) ?_|fail
   exact aa1 _ (Le.refl _) ab2 ⟨rfl,rfl⟩
  ·have hP:aH1 m w=(bt5,(aI1 w).2):=by unfold aH1;rw[if_pos hm,if_neg he]
   rw[hP];unfold bj3 at f1;have f2:=eq_false he;generalize (aI1 w).1=a at*;generalize (aI1 w).2=e at*;refine o8 [] [.cell 4 37,.tmp 5] 30 Tryz.func116 ?_;repeat' first|refine l9 ?_|simp -dsimp -implicitDefEqProofs (disch:=(simp only[ll];omega)) only[go_sem,f1,f2]|refine l7 (c1 _) ?_|fail
   exact aa1 _ (Le.refl _) ab2 ⟨rfl,rfl⟩
 ·have f1:=eq_false hm
  by_cases hm2:m=cj6
  ·have f3:=eq_true hm2
   by_cases he:(ar8 w).2=0
   ·have hP:aH1 m w=(⟨m,(ar8 w).1⟩,0):=by unfold aH1;rw[if_neg hm,if_pos hm2,if_pos he]
    rw[hP];unfold bj3 at f1;unfold cj6 at f3;rw[he] at c2;generalize (ar8 w).1=a at*;refine o8 [] [.cell 4 37,.tmp 5] 30 Tryz.func116 ?_;repeat' first|refine l9 ?_|simp -dsimp -implicitDefEqProofs (disch:=(simp only[ll];omega)) only[go_sem,f1,f3]|refine l7 (c2 _) ?_|fail
    exact aa1 _ (Le.refl _) ab2 ⟨rfl,rfl⟩
   ·have hP:aH1 m w=(bt5,(ar8 w).2):=by unfold aH1;rw[if_neg hm,if_pos hm2,if_neg he]
    rw[hP];unfold bj3 at f1;unfold cj6 at f3;have f2:=eq_false he;generalize (ar8 w).1=a at*;generalize (ar8 w).2=e at*;refine o8 [] [.cell 4 37,.tmp 5] 30 Tryz.func116 ?_;repeat' first|refine l9 ?_|simp -dsimp -implicitDefEqProofs (disch:=(simp only[ll];omega)) only[go_sem,f1,f2,f3]|refine l7 (c2 _) ?_|fail
    exact aa1 _ (Le.refl _) ab2 ⟨rfl,rfl⟩
  ·have f3:=eq_false hm2
   have hP:aH1 m w=(bt5,1):=by unfold aH1;rw[if_neg hm,if_neg hm2]
   rw[hP];unfold bj3 at f1;unfold cj6 at f3;refine o8 [] [.cell 4 37,.tmp 5] 30 Tryz.func116 ?_;repeat' first|refine l9 ?_|simp -dsimp -implicitDefEqProofs (disch:=(simp only[ll];omega)) only[go_sem,f1,f3]
   exact aa1 _ (Le.refl _) ab2 ⟨rfl,rfl⟩
theorem a00:ck Tryz.prog 4 37=some [.str,.str]:=by kernel_rfl
theorem addr_eq(a b:Addr):(decide (a.medium=b.medium)&&(decide (a.wh=b.wh)&&true))=decide (a=b):=by
 obtain⟨m,w⟩:=a;obtain⟨m',w'⟩:=b;rw[Bool.and_true,<-cd3];exact decide_eq_decide.2 ⟨fun⟨h1,h2⟩=>by cases h1;cases h2;rfl,fun h=>by cases h;exact⟨rfl,rfl⟩⟩
theorem bQ4(a:Addr)(H:List AObj)(hw:a.wh.length<=1100000):o7 Tryz.prog 206 [aP1 a] H (fun y H'=>y=.bool (bn6 a)/\H'=H):=by
 have c1:=fun H=>d07 a.medium a.wh H hw
 unfold bn6;generalize aH1 a.medium a.wh=p at*;obtain⟨b,e⟩:=p;dsimp only at*;have ha:=addr_eq a b;by_cases he:e=0
 ·subst he
  refine o8 [] [.tmp 2] 20 Tryz.func206 ?_;repeat' first|refine l9 ?_|simp -dsimp -implicitDefEqProofs (disch:=first|omega|simp only[ll];omega) only[go_sem,a00]|refine l7 (c1 _) ?_|refine vcA ?_ ?_
  exact aa1 _ (Le.refl _) (.lit _) ⟨by rw[<-ha];simp,rfl⟩
 ·have f1:=eq_false he
  rw[decide_eq_false he];refine o8 [] [.tmp 2] 20 Tryz.func206 ?_;repeat' first|refine l9 ?_|simp -dsimp -implicitDefEqProofs (disch:=omega) only[go_sem,f1]|refine l7 (c1 _) ?_|fail
  exact aa1 _ (Le.refl _) (.lit _) ⟨rfl,rfl⟩
theorem d14(a b:Addr)(H:List AObj):o7 Tryz.prog 250 [aP1 a,aP1 b] H (fun y H'=>y=.bool (bX6 a b)/\H'=H):=by
 by_cases h:a.medium=b.medium
 ·have hP:bX6 a b=af8 a.wh b.wh:=if_pos h
  have f1:=eq_true h;rw[hP];refine o8 [] [.tmp 4] 20 Tryz.func250 ?_;repeat' first|refine l9 ?_|simp -dsimp -implicitDefEqProofs (disch:=omega) only[go_sem,f1]
  exact o5 ⟨rfl,rfl⟩
 ·have hP:bX6 a b=af8 a.medium b.medium:=if_neg h
  have f1:=eq_false h;rw[hP];refine o8 [] [.tmp 4] 20 Tryz.func250 ?_;repeat' first|refine l9 ?_|simp -dsimp -implicitDefEqProofs (disch:=omega) only[go_sem,f1]
  exact o5 ⟨rfl,rfl⟩
end As
end
section
open Go V
namespace As
theorem bN1(s:bytes)(H:List AObj):o7 Tryz.prog 104 [.str s] H (fun y H'=>y=.bool (ah9 s)/\H'=H):=by
 unfold ah9;by_cases h0:s=[]
 ·have f0:=eq_true h0
  rw[decide_eq_false (fun h=>h h0)]
  refine o8 [] [.tmp 2] 19 Tryz.func104 ?_;repeat' first|refine l9 ?_|simp -dsimp -implicitDefEqProofs only[go_sem,f0]
  exact o5 ⟨rfl,rfl⟩
 have f0:=eq_false h0;rw[decide_eq_true h0];by_cases h1:s.length<=64
 ·have f1:((s.length:Int)<=64)=True:=eq_true (by omega)
  rw[decide_eq_true h1];have c1:=fun H=>a97 s H (by omega)
  have c2:=fun H=>aC4 s [32] H (by omega)
  generalize ay8 s=P at*;generalize Lib.contains s [32]=C at*;cases P with
  |false=>
   refine o8 [] [.tmp 2] 19 Tryz.func104 ?_;repeat' first|refine l9 ?_|simp -dsimp -implicitDefEqProofs only[go_sem,f0,f1]|refine l7 (c1 _) ?_|fail
   exact o5 ⟨rfl,rfl⟩
  |true=>
   refine o8 [] [.tmp 2] 19 Tryz.func104 ?_;repeat' first|refine l9 ?_|simp -dsimp -implicitDefEqProofs only[go_sem,f0,f1]|refine l7 (c1 _) ?_|refine l7 (c2 _) ?_|fail
   exact o5 ⟨by simp,rfl⟩
 ·have f1:((s.length:Int)<=64)=False:=eq_false (by omega)
  rw[decide_eq_false h1];refine o8 [] [.tmp 2] 19 Tryz.func104 ?_;repeat' first|refine l9 ?_|simp -dsimp -implicitDefEqProofs only[go_sem,f0,f1]
  exact o5 ⟨rfl,rfl⟩
theorem bQ5(s:bytes)(H:List AObj):o7 Tryz.prog 70 [.str s] H (fun y H'=>y=.bool (ah9 s)/\H'=H):=by
 unfold ah9;by_cases h0:s=[]
 ·have f0:=eq_true h0
  rw[decide_eq_false (fun h=>h h0)]
  refine o8 [] [.tmp 2] 19 Tryz.func70 ?_;repeat' first|refine l9 ?_|simp -dsimp -implicitDefEqProofs only[go_sem,f0]
  exact o5 ⟨rfl,rfl⟩
 have f0:=eq_false h0;rw[decide_eq_true h0];by_cases h1:s.length<=64
 ·have f1:((s.length:Int)<=64)=True:=eq_true (by omega)
  rw[decide_eq_true h1];have c1:=fun H=>a97 s H (by omega)
  have c2:=fun H=>aC4 s [32] H (by omega)
  generalize ay8 s=P at*;generalize Lib.contains s [32]=C at*;cases P with
  |false=>
   refine o8 [] [.tmp 2] 19 Tryz.func70 ?_;repeat' first|refine l9 ?_|simp -dsimp -implicitDefEqProofs only[go_sem,f0,f1]|refine l7 (c1 _) ?_|fail
   exact o5 ⟨rfl,rfl⟩
  |true=>
   refine o8 [] [.tmp 2] 19 Tryz.func70 ?_;repeat' first|refine l9 ?_|simp -dsimp -implicitDefEqProofs only[go_sem,f0,f1]|refine l7 (c1 _) ?_|refine l7 (c2 _) ?_|fail
   exact o5 ⟨by simp,rfl⟩
 ·have f1:((s.length:Int)<=64)=False:=eq_false (by omega)
  rw[decide_eq_false h1];refine o8 [] [.tmp 2] 19 Tryz.func70 ?_;repeat' first|refine l9 ?_|simp -dsimp -implicitDefEqProofs only[go_sem,f0,f1]
  exact o5 ⟨rfl,rfl⟩
theorem cG9(s:bytes)(H:List AObj):o7 Tryz.prog 219 [.str s] H (fun y H'=>y=.bool (ah9 s)/\H'=H):=by
 unfold ah9;by_cases h0:s=[]
 ·have f0:=eq_true h0
  rw[decide_eq_false (fun h=>h h0)]
  refine o8 [] [.tmp 2] 19 Tryz.func219 ?_;repeat' first|refine l9 ?_|simp -dsimp -implicitDefEqProofs only[go_sem,f0]
  exact o5 ⟨rfl,rfl⟩
 have f0:=eq_false h0;rw[decide_eq_true h0];by_cases h1:s.length<=64
 ·have f1:((s.length:Int)<=64)=True:=eq_true (by omega)
  rw[decide_eq_true h1];have c1:=fun H=>a97 s H (by omega)
  have c2:=fun H=>aC4 s [32] H (by omega)
  generalize ay8 s=P at*;generalize Lib.contains s [32]=C at*;cases P with
  |false=>
   refine o8 [] [.tmp 2] 19 Tryz.func219 ?_;repeat' first|refine l9 ?_|simp -dsimp -implicitDefEqProofs only[go_sem,f0,f1]|refine l7 (c1 _) ?_|fail
   exact o5 ⟨rfl,rfl⟩
  |true=>
   refine o8 [] [.tmp 2] 19 Tryz.func219 ?_;repeat' first|refine l9 ?_|simp -dsimp -implicitDefEqProofs only[go_sem,f0,f1]|refine l7 (c1 _) ?_|refine l7 (c2 _) ?_|fail
   exact o5 ⟨by simp,rfl⟩
 ·have f1:((s.length:Int)<=64)=False:=eq_false (by omega)
  rw[decide_eq_false h1];refine o8 [] [.tmp 2] 19 Tryz.func219 ?_;repeat' first|refine l9 ?_|simp -dsimp -implicitDefEqProofs only[go_sem,f0,f1]
  exact o5 ⟨rfl,rfl⟩
def a14{α:Type}(l:List α)(i:Nat):Option α:=if i=0 then none else l[i - 1]?
theorem bW0{α:Type}{l:List α}{i:Nat}(d:α)(h:i < l.length):a14 l (i+1)=some (l.getD i d):=by
 unfold a14;rw[if_neg (by omega),Nat.add_sub_cancel,xq1 h,List.getD,xq1 h]
 rfl
theorem bD9{α:Type}{l:List α}{i:Nat}(d:α)(h:i < l.length):l.drop i=l.getD i d::l.drop (i+1):=by
 rw[aL3 h,List.getD,xq1 h];rfl
theorem bF2{α:Type}{p:α->Bool}{r:α->α->Bool}{l:List α}{i:Nat}(d:α)(h:i < l.length):aK1 p r (a14 l i) (l.drop i)=(p (l.getD i d)&&((decide (i=0)||r (l.getD (i - 1) d) (l.getD i d))&&aK1 p r (a14 l (i+1)) (l.drop (i+1)))):=by
 rw[bD9 d h,bW0 d h];cases i with
 |zero=>simp[a14,aK1]
 |succ i=>rw[bW0 d (by omega),aK1,show decide (i+1=0)=false from decide_eq_false (by omega),Bool.false_or,Nat.add_sub_cancel]
theorem bP8{α:Type}{p:α->Bool}{r:α->α->Bool}{l:List α}{i:Nat}(h:l.length<=i):aK1 p r (a14 l i) (l.drop i)=true:=by
 rw[bc5 h];cases a14 l i<;>rfl
theorem cl5{o:Own}(l:List bytes)(H:List AObj)(hl:l.length<=1100000):o7 Tryz.prog 167 [.sl o 1 (l.map .str)] H (fun y H'=>y=.bool (aS3 l)/\H'=H):=by
 generalize hR:aS3 l=R;refine o8 [] [.tmp 2] 29 Tryz.func167 ?_;repeat' simp -dsimp -implicitDefEqProofs only[go_sem]
 refine aa7 ab6 mixed [] [0,5,6] (fun i:Nat=>i<=l.length/\aK1 ah9 af8 (a14 l i) (l.drop i)=R) (fun i=>[(7,.lit (.int .i64 i))]) (fun _=>H) (fun i=>l.length - i) (by kernel_rfl) ?_ 0 ⟨by omega,hR⟩ aa3 rfl
 rintro i ⟨hi,hI⟩
 by_cases h:i < l.length
 ·have hc:((i:Int) < (l.length:Int))=True:=eq_true (by omega)
  rw[bF2 [] h] at hI;have c1:=fun H=>bN1 (l.getD i []) H
  cases hp:ah9 (l.getD i []) with
  |false=>
   rw[hp] at c1 hI;subst hI;repeat' first|refine l9 ?_|simp -dsimp -implicitDefEqProofs (disch:=assumption) only[go_sem,hc]|refine l7 (c1 _) ?_|fail
   exact o5 ⟨rfl,rfl⟩
  |true=>
   rw[hp] at c1 hI;rw[Bool.true_and] at hI;by_cases h0:i=0
   ·have f0:((0:Int) < (i:Int))=False:=eq_false (by omega)
    rw[decide_eq_true h0,Bool.true_or,Bool.true_and] at hI;repeat' first|refine l9 ?_|simp -dsimp -implicitDefEqProofs (disch:=first|assumption|omega) only[go_sem,hc,f0]|refine l7 (c1 _) ?_|fail
    refine again (i+1) ?_ ?_ rfl aa3
    ·omega
    ·exact⟨by omega,hI⟩
   ·have f0:((0:Int) < (i:Int))=True:=eq_true (by omega)
    have f2:((i:Int) - 1).toNat=i - 1:=by omega
    rw[decide_eq_false h0,Bool.false_or] at hI;unfold af8 at hI;cases hb:Op.bytesLess (l.getD (i - 1) []) (l.getD i []) with
    |false=>
     rw[hb] at hI;subst hI;repeat' first|refine l9 ?_|simp -dsimp -implicitDefEqProofs (disch:=first|assumption|omega) only[go_sem,hc,f0,f2,hb]|refine l7 (c1 _) ?_|refine vcA ?_ ?_|omega
     exact o5 ⟨rfl,rfl⟩
    |true=>
     rw[hb,Bool.true_and] at hI;repeat' first|refine l9 ?_|simp -dsimp -implicitDefEqProofs (disch:=first|assumption|omega) only[go_sem,hc,f0,f2,hb]|refine l7 (c1 _) ?_|refine vcA ?_ ?_|omega
     refine again (i+1) ?_ ?_ rfl aa3
     ·omega
     ·exact⟨by omega,hI⟩
 ·have hc:((i:Int) < (l.length:Int))=False:=eq_false (by omega)
  rw[bP8 (by omega)] at hI
  subst hI;repeat' first|refine l9 ?_|simp -dsimp -implicitDefEqProofs only[go_sem,hc]
  exact o5 ⟨rfl,rfl⟩
def aR4{α:Type}(l:List α)(p:α->Bool):Int:=match l.findIdx? p with|some i=>(i:Nat)|none=> -1
theorem bI4{α:Type}(l:List α)(p:α->Bool):(0<=aR4 l p)=(l.any p=true):=by
 unfold aR4;cases h:l.findIdx? p with
 |some i=>
  obtain⟨hi,hp,_⟩:=cd7.1 h;exact propext ⟨fun _=>cd9.2 ⟨l[i],aT3 hi,hp⟩,fun _=>Int.natCast_nonneg _⟩
 |none=>
  have h2:=cd6.1 h;have:l.any p=false:=by
   rw[cO1];intro x hx;simp[h2 x hx]
  rw[this];simp
theorem dG7{o:Own}(g:FuncId)(cs:List AV)(p:bytes->Bool)(l:List bytes)(H:List AObj)(hl:l.length<=1100000)(hp: ∀x∈l,o7 Tryz.prog g (.str x::cs) H (fun y H'=>y=.bool (p x)/\H'=H)):
  o7 Tryz.prog 165 [.sl o 1 (l.map .str),.fn (.func g) [] cs] H (fun x H'=>x=.int .i64 (aR4 l p)/\H'=H):=by
 refine o8 [] [.tmp 4] 19 Tryz.func165 ?_;repeat' simp -dsimp -implicitDefEqProofs only[go_sem]
 refine aa7 ab6 mixed [] [0,1,7] (fun i:Nat=>i<=l.length/\ ∀j,j < i->p (l.getD j [])=false) (fun i=>[(8,.int .i64 i)]) (fun _=>H) (fun i=>l.length - i) (by kernel_rfl) ?_ 0 ⟨by omega,fun j hj=>by omega⟩ aa3 rfl
 rintro i ⟨hi,hq⟩
 repeat' first|refine l9 ?_|simp -dsimp -implicitDefEqProofs (disch:=omega) only[go_sem]|refine l7 (hp _ (ag9 (by omega))) ?_|refine vcA ?_ ?_|omega|refine aa8 fun _=>?_
 ·rename_i h1 h2
  refine o5 ⟨int_eq ?_,rfl⟩;rw[aR4,bf3 (d:=[]) (by omega) hq h2]
 ·rename_i h1 h2
  refine again (i+1) ?_ ?_ rfl aa3
  ·omega
  ·exact⟨by omega,upto_succ hq h2⟩
 ·obtain rfl:i=l.length:=by omega
  refine o5 ⟨int_eq ?_,rfl⟩;rw[aR4,bf2 (d:=[]) hq]
theorem b71{o:Own}(g:FuncId)(cs:List AV)(p:bytes->Bool)(l:List bytes)(H:List AObj)(hl:l.length<=1100000)(hp: ∀x∈l,o7 Tryz.prog g (.str x::cs) H (fun y H'=>y=.bool (p x)/\H'=H)):
  o7 Tryz.prog 75 [.sl o 1 (l.map .str),.fn (.func g) [] cs] H (fun x H'=>x=.bool (l.any p)/\H'=H):=by
 refine o8 [] [.tmp 4] 9 Tryz.func75 ?_;repeat' first|simp -dsimp -implicitDefEqProofs only[go_sem]|refine l7 (dG7 g cs p l H hl hp) ?_|fail
 refine o5 ⟨ad5 ?_,rfl⟩;rw[bf7,decide_eq_true_eq,bI4]
theorem dG8{o:Own}(g:FuncId)(cs:List AV)(p:Sess->Bool)(l:List Sess)(H:List AObj)(hl:l.length<=1100000)(hp: ∀x∈l,o7 Tryz.prog g (aj2 x::cs) H (fun y H'=>y=.bool (p x)/\H'=H)):
  o7 Tryz.prog 119 [.sl o 10 (l.map aj2),.fn (.func g) [] cs] H (fun x H'=>x=.int .i64 (aR4 l p)/\H'=H):=by
 refine o8 [] [.tmp 4] 19 Tryz.func119 ?_;repeat' simp -dsimp -implicitDefEqProofs only[go_sem]
 refine aa7 ab6 mixed [] [0,1,7] (fun i:Nat=>i<=l.length/\ ∀j,j < i->p (l.getD j aT0)=false) (fun i=>[(8,.int .i64 i)]) (fun _=>H) (fun i=>l.length - i) (by kernel_rfl) ?_ 0 ⟨by omega,fun j hj=>by omega⟩ aa3 rfl
 rintro i ⟨hi,hq⟩
 repeat' first|refine l9 ?_|simp -dsimp -implicitDefEqProofs (disch:=omega) only[go_sem]|refine l7 (hp _ (ag9 (by omega))) ?_|refine vcA ?_ ?_|omega|refine aa8 fun _=>?_
 ·rename_i h1 h2
  refine o5 ⟨int_eq ?_,rfl⟩;rw[aR4,bf3 (d:=aT0) (by omega) hq h2]
 ·rename_i h1 h2
  refine again (i+1) ?_ ?_ rfl aa3
  ·omega
  ·exact⟨by omega,upto_succ hq h2⟩
 ·obtain rfl:i=l.length:=by omega
  refine o5 ⟨int_eq ?_,rfl⟩;rw[aR4,bf2 (d:=aT0) hq]
theorem d21{o:Own}(g:FuncId)(cs:List AV)(p:Sess->Bool)(l:List Sess)(H:List AObj)(hl:l.length<=1100000)(hp: ∀x∈l,o7 Tryz.prog g (aj2 x::cs) H (fun y H'=>y=.bool (p x)/\H'=H)):
  o7 Tryz.prog 123 [.sl o 10 (l.map aj2),.fn (.func g) [] cs] H (fun x H'=>x=.bool (l.any p)/\H'=H):=by
 refine o8 [] [.tmp 4] 9 Tryz.func123 ?_;repeat' first|simp -dsimp -implicitDefEqProofs only[go_sem]|refine l7 (dG8 g cs p l H hl hp) ?_|fail
 refine o5 ⟨ad5 ?_,rfl⟩;rw[bf7,decide_eq_true_eq,bI4]
end As
end
section
open Go V
namespace As
theorem dG9{o:Own}(l:bytes)(c:UInt8)(H:List AObj)(hl:l.length<=1100000):o7 Tryz.prog 360 [.sl o 1 (l.map o6),.lit (.int .u8 c.toNat)] H (fun x H'=>x=.int .i64 (aR4 l (fun x=>decide (x=c)))/\H'=H):=by
 refine o8 [] [.tmp 4] 19 Tryz.func360 ?_;repeat' simp -dsimp -implicitDefEqProofs only[go_sem]
 refine aa7 ab6 mixed [] [0,1,7] (fun i:Nat=>i<=l.length/\ ∀j,j < i->(fun x=>decide (x=c)) (l.getD j 0)=false) (fun i=>[(8,.int .i64 i)]) (fun _=>H) (fun i=>l.length - i) (by kernel_rfl) ?_ 0 ⟨by omega,fun j hj=>by omega⟩ aa3 rfl
 rintro i ⟨hi,hq⟩
 by_cases h:i < l.length
 ·have hc:((i:Int) < (l.length:Int))=True:=eq_true (by omega)
  by_cases h2:l.getD i 0=c
  ·have f1:((c.toNat:Int)=((l.getD i 0).toNat:Int))=True:=eq_true (by rw[h2])
   repeat' first|refine l9 ?_|simp -dsimp -implicitDefEqProofs (disch:=assumption) only[go_sem,hc,f1]
   refine o5 ⟨int_eq ?_,rfl⟩;rw[aR4,bf3 (d:=0) h hq (decide_eq_true h2)]
  ·have f1:((c.toNat:Int)=((l.getD i 0).toNat:Int))=False:=eq_false (fun e=>h2 (bo1.1 (by omega)))
   repeat' first|refine l9 ?_|simp -dsimp -implicitDefEqProofs (disch:=first|assumption|omega) only[go_sem,hc,f1]
   refine again (i+1) ?_ ?_ rfl aa3
   ·omega
   ·exact⟨by omega,upto_succ hq (decide_eq_false h2)⟩
 ·have hc:((i:Int) < (l.length:Int))=False:=eq_false (by omega)
  obtain rfl:i=l.length:=by omega
  repeat' first|refine l9 ?_|simp -dsimp -implicitDefEqProofs only[go_sem,hc]
  refine o5 ⟨int_eq ?_,rfl⟩;rw[aR4,bf2 (d:=0) hq]
theorem cG3{o:Own}(l:bytes)(c:UInt8)(H:List AObj)(hl:l.length<=1100000):o7 Tryz.prog 286 [.sl o 1 (l.map o6),.lit (.int .u8 c.toNat)] H (fun x H'=>x=.bool (l.contains c)/\H'=H):=by
 have c1:=fun H=>dG9 (o:=o) l c H hl
 have h1:=bI4 l (fun x=>decide (x=c))
 have h2:(l.any fun x=>decide (x=c))=l.contains c:=by
  rw[bf7,cd9,aW8];exact⟨fun⟨x,hx,h⟩=>of_decide_eq_true h▸hx,fun h=>⟨c,h,decide_eq_true rfl⟩⟩
 generalize aR4 l (fun x=>decide (x=c))=r at*
 refine o8 [] [.tmp 4] 9 Tryz.func286 ?_;repeat' first|simp -dsimp -implicitDefEqProofs only[go_sem]|refine l7 (c1 _) ?_|fail
 refine o5 ⟨ad5 ?_,rfl⟩;rw[bf7,decide_eq_true_eq,h1,h2]
theorem cj3(n:Int)(H:List AObj):o7 Tryz.prog 204 [.lit (.int .i64 n)] H (fun y H'=>y=.bool (aq0 n)/\H'=H):=by
 unfold aq0;rw[cd3];by_cases h:0<=n
 ·have f1:=eq_true h
  rw[decide_eq_true h];refine o8 [] [.tmp 2] 9 Tryz.func204 ?_;repeat' first|refine l9 ?_|simp -dsimp -implicitDefEqProofs only[go_sem,f1]
  exact o5 ⟨by simp,rfl⟩
 ·have f1:=eq_false h
  rw[decide_eq_false h];refine o8 [] [.tmp 2] 9 Tryz.func204 ?_;repeat' first|refine l9 ?_|simp -dsimp -implicitDefEqProofs only[go_sem,f1]
  exact o5 ⟨rfl,rfl⟩
theorem cj4(n:Int)(H:List AObj):o7 Tryz.prog 71 [.lit (.int .i64 n)] H (fun y H'=>y=.bool (aq0 n)/\H'=H):=by
 unfold aq0;rw[cd3];by_cases h:0<=n
 ·have f1:=eq_true h
  rw[decide_eq_true h];refine o8 [] [.tmp 2] 9 Tryz.func71 ?_;repeat' first|refine l9 ?_|simp -dsimp -implicitDefEqProofs only[go_sem,f1]
  exact o5 ⟨by simp,rfl⟩
 ·have f1:=eq_false h
  rw[decide_eq_false h];refine o8 [] [.tmp 2] 9 Tryz.func71 ?_;repeat' first|refine l9 ?_|simp -dsimp -implicitDefEqProofs only[go_sem,f1]
  exact o5 ⟨rfl,rfl⟩
theorem cl1(s:bytes)(H:List AObj):o7 Tryz.prog 205 [.str s] H (fun y H'=>y=.bool (be9 s)/\H'=H):=by
 unfold be9;by_cases h0:s=[]
 ·have f0:=eq_true h0
  rw[decide_eq_false (fun h=>h h0)]
  refine o8 [] [.tmp 2] 20 Tryz.func205 ?_;repeat' first|refine l9 ?_|simp -dsimp -implicitDefEqProofs only[go_sem,f0]
  exact o5 ⟨rfl,rfl⟩
 have f0:=eq_false h0;rw[decide_eq_true h0];by_cases h1:s.length<=64
 ·have f1:((s.length:Int)<=64)=True:=eq_true (by omega)
  rw[decide_eq_true h1];have c1:=fun H=>a97 s H (by omega)
  have c2:=fun H=>cG3 (o:=.sh) s 32 H (by omega)
  generalize ay8 s=P at*;simp only[UInt8.reduceToNat] at c2;generalize s.contains 32=C at*;cases P with
  |false=>
   refine o8 [] [.tmp 2] 20 Tryz.func205 ?_;repeat' first|refine l9 ?_|simp -dsimp -implicitDefEqProofs only[go_sem,f0,f1]|refine l7 (c1 _) ?_|fail
   exact o5 ⟨rfl,rfl⟩
  |true=>
   refine o8 [] [.tmp 2] 20 Tryz.func205 ?_;repeat' first|refine l9 ?_|simp -dsimp -implicitDefEqProofs only[go_sem,f0,f1]|refine l7 (c1 _) ?_|refine l7 (c2 _) ?_|fail
   exact o5 ⟨by simp,rfl⟩
 ·have f1:((s.length:Int)<=64)=False:=eq_false (by omega)
  rw[decide_eq_false h1];refine o8 [] [.tmp 2] 20 Tryz.func205 ?_;repeat' first|refine l9 ?_|simp -dsimp -implicitDefEqProofs only[go_sem,f0,f1]
  exact o5 ⟨rfl,rfl⟩
end As
end
section
open Go V
namespace As
theorem dS1{m:Nat}{x:AV}(h:Low m x:=by(first|(first|exact .lit _|exact .str _|exact .any|exact ac8|exact ad1|exact .mp _ _ (by omega)|exact .msl _ _ _ _ (by omega)|exact ac1 (fun k e=>by cases e)|exact ab1 _|exact ae4|exact ae7|exact af2|exact af1 _|exact ab5|exact ab2)|(refine ae2 ?_;repeat(first|exact aa4|(refine o9 ?_ ?_;focus(first|exact .lit _|exact .str _|exact .any|exact ac8|exact ad1|exact .mp _ _ (by omega)|exact .msl _ _ _ _ (by omega)|exact ac1 (fun k e=>by cases e)|exact ab1 _|exact ae4|exact ae7|exact af2|exact af1 _|exact ab5|exact ab2))))|(refine am9 ?_;repeat(first|exact aa4|(refine o9 ?_ ?_;focus(first|exact .lit _|exact .str _|exact .any|exact ac8|exact ad1|exact .mp _ _ (by omega)|exact .msl _ _ _ _ (by omega)|exact ac1 (fun k e=>by cases e)|exact ab1 _|exact ae4|exact ae7|exact af2|exact af1 _|exact ab5|exact ab2)))))):Low m x:=h
theorem d47(s:Sess)(H:List AObj)(hw:s.who.wh.length<=1100000):o7 Tryz.prog 117 [aj2 s] H (fun y H'=>y=.bool (ce9 s)/\H'=H):=by
 have c1:=fun H=>cj3 s.since H
 have c2:=fun H=>cj3 s.shownAt H
 have c3:=fun H=>cl1 s.secret H
 have c4:=fun H=>cl1 s.token H
 have c5:=fun H=>bQ4 s.who H hw
 unfold ce9;generalize aq0 s.since=T1 at*;generalize aq0 s.shownAt=T2 at*;generalize be9 s.secret=S1 at*;generalize be9 s.token=S2 at*;generalize bn6 s.who=A1 at*;by_cases h1:1<=s.id/\s.id<=1099511627776
 ·have f1:(s.id < 1)=False:=eq_false (by omega)
  have f2:(1099511627776 < s.id)=False:=eq_false (by omega)
  rw[decide_eq_true h1,Bool.true_and];cases T1 with
  |false=>
   refine o8 [] [.tmp 2] 65 Tryz.func117 ?_;repeat' first|refine l9 ?_|simp -dsimp -implicitDefEqProofs (disch:=omega) only[go_sem,f1,f2]|refine l7 (c1 _) ?_|fail
   exact o5 ⟨rfl,rfl⟩
  |true=>
   cases T2 with
   |false=>
    refine o8 [] [.tmp 2] 65 Tryz.func117 ?_;repeat' first|refine l9 ?_|simp -dsimp -implicitDefEqProofs (disch:=omega) only[go_sem,f1,f2]|refine l7 (c1 _) ?_|refine l7 (c2 _) ?_|fail
    exact o5 ⟨rfl,rfl⟩
   |true=>
    rw[Bool.true_and,Bool.true_and];by_cases h2:1<=s.attempt/\s.attempt<=1000/\0<=s.wrong/\s.wrong<=3
    ·have f3:(s.attempt < 1)=False:=eq_false (by omega)
     have f4:(1000 < s.attempt)=False:=eq_false (by omega)
     have f5:(s.wrong < 0)=False:=eq_false (by omega)
     have f6:(3 < s.wrong)=False:=eq_false (by omega)
     rw[decide_eq_true h2,Bool.true_and];by_cases h3:s.shown=true\/s.shownAt=0
     ·rw[show (s.shown||decide (s.shownAt=0))=true by simpa using h3,Bool.true_and]
      have key: ∀P:Prop,(s.shown=true->P)->(s.shown=false->s.shownAt=0->P)->P:=fun P a b=>by
       cases hs:s.shown with
       |true=>exact a hs
       |false=>exact b hs (by rcases h3 with h|h;· rw[hs] at h;cases h
                              ·exact h)
      refine key _ (fun f7=>?_) (fun f7 f8=>?_)
      ·cases S1 with
       |false=>
        refine o8 [] [.tmp 2] 65 Tryz.func117 ?_;repeat' first|refine l9 ?_|simp -dsimp -implicitDefEqProofs (disch:=omega) only[go_sem,f1,f2,f3,f4,f5,f6,f7]|refine l7 (c1 _) ?_|refine l7 (c2 _) ?_|refine l7 (c3 _) ?_|fail
        exact o5 ⟨rfl,rfl⟩
       |true=>
        cases S2 with
        |false=>
         refine o8 [] [.tmp 2] 65 Tryz.func117 ?_;repeat' first|refine l9 ?_|simp -dsimp -implicitDefEqProofs (disch:=omega) only[go_sem,f1,f2,f3,f4,f5,f6,f7]|refine l7 (c1 _) ?_|refine l7 (c2 _) ?_|refine l7 (c3 _) ?_|refine l7 (c4 _) ?_|fail
         exact o5 ⟨rfl,rfl⟩
        |true=>
         refine o8 [] [.tmp 2] 65 Tryz.func117 ?_;repeat' first|refine l9 ?_|simp -dsimp -implicitDefEqProofs (disch:=omega) only[go_sem,f1,f2,f3,f4,f5,f6,f7]|refine l7 (c1 _) ?_|refine l7 (c2 _) ?_|refine l7 (c3 _) ?_|refine l7 (c4 _) ?_|refine l7 (c5 _) ?_|fail
         exact o5 ⟨by simp,rfl⟩
      ·have f9:=eq_true f8
       cases S1 with
       |false=>
        refine o8 [] [.tmp 2] 65 Tryz.func117 ?_;repeat' first|refine l9 ?_|simp -dsimp -implicitDefEqProofs (disch:=omega) only[go_sem,f1,f2,f3,f4,f5,f6,f7,f9]|refine l7 (c1 _) ?_|refine l7 (c2 _) ?_|refine l7 (c3 _) ?_|fail
        exact o5 ⟨rfl,rfl⟩
       |true=>
        cases S2 with
        |false=>
         refine o8 [] [.tmp 2] 65 Tryz.func117 ?_;repeat' first|refine l9 ?_|simp -dsimp -implicitDefEqProofs (disch:=omega) only[go_sem,f1,f2,f3,f4,f5,f6,f7,f9]|refine l7 (c1 _) ?_|refine l7 (c2 _) ?_|refine l7 (c3 _) ?_|refine l7 (c4 _) ?_|fail
         exact o5 ⟨rfl,rfl⟩
        |true=>
         refine o8 [] [.tmp 2] 65 Tryz.func117 ?_;repeat' first|refine l9 ?_|simp -dsimp -implicitDefEqProofs (disch:=omega) only[go_sem,f1,f2,f3,f4,f5,f6,f7,f9]|refine l7 (c1 _) ?_|refine l7 (c2 _) ?_|refine l7 (c3 _) ?_|refine l7 (c4 _) ?_|refine l7 (c5 _) ?_|fail
         exact o5 ⟨by simp,rfl⟩
     ·have f7:s.shown=false:=by cases h:s.shown;· rfl
                                ·exact absurd (.inl h) h3
      have f8:(s.shownAt=0)=False:=eq_false fun h=>h3 (.inr h)
      rw[show (s.shown||decide (s.shownAt=0))=false by rw[f7,decide_eq_false (fun h=>h3 (.inr h))];rfl]
      refine o8 [] [.tmp 2] 65 Tryz.func117 ?_;repeat' first|refine l9 ?_|simp -dsimp -implicitDefEqProofs (disch:=omega) only[go_sem,f1,f2,f3,f4,f5,f6,f7,f8]|refine l7 (c1 _) ?_|refine l7 (c2 _) ?_|fail
      exact o5 ⟨rfl,rfl⟩
    ·rw[decide_eq_false h2]
     refine o8 [] [.tmp 2] 65 Tryz.func117 ?_;repeat' first|refine l9 ?_|simp -dsimp -implicitDefEqProofs (disch:=omega) only[go_sem,f1,f2]|refine l7 (c1 _) ?_|refine l7 (c2 _) ?_|refine vcA ?_ ?_|omega|refine aa8 fun _=>?_
     all_goals first|(exfalso;omega)|exact o5 ⟨rfl,rfl⟩
 ·rw[decide_eq_false h1]
  refine o8 [] [.tmp 2] 65 Tryz.func117 ?_;repeat' first|refine l9 ?_|simp -dsimp -implicitDefEqProofs (disch:=omega) only[go_sem]|refine vcA ?_ ?_|omega|refine aa8 fun _=>?_
  all_goals first|(exfalso;omega)|exact o5 ⟨rfl,rfl⟩
theorem dZ6(a b:Sess)(H:List AObj):o7 Tryz.prog 121 [aj2 a,aj2 b] H (fun y H'=>y=.bool (b06 a b)/\H'=H):=by
 have ha:=addr_eq a.who b.who;unfold b06;by_cases h:a.secret=b.secret
 ·have f1:=eq_true h
  rw[decide_eq_true h];refine o8 [] [.tmp 4] 17 Tryz.func121 ?_;repeat' first|refine l9 ?_|simp -dsimp -implicitDefEqProofs (disch:=omega) only[go_sem,f1,a00]|refine vcA ?_ ?_
  exact o5 ⟨by rw[<-ha];simp,rfl⟩
 ·have f1:=eq_false h
  rw[decide_eq_false h];refine o8 [] [.tmp 4] 17 Tryz.func121 ?_;repeat' first|refine l9 ?_|simp -dsimp -implicitDefEqProofs (disch:=omega) only[go_sem,f1]
  exact o5 ⟨rfl,rfl⟩
theorem dX2{k:Nat}(s x:Sess)(H:List AObj)(hk:H[k]?=some (.cells (.one 109) (aj2 s).flat)):o7 Tryz.prog 166 [aj2 x,.mp k 0] H (fun y H'=>y=.bool (bE2 s x)/\H'=H):=by
 have c1:=fun H=>dZ6 x s H
 rw[bD8] at hk;unfold bE2;generalize b06 x s=A at*;cases A with
 |true=>
  refine o8 [] [.tmp 3] 21 Tryz.func166 ?_;repeat' first|refine l9 ?_|simp -dsimp -implicitDefEqProofs (disch:=(simp only[ll];omega)) only[go_sem,hk]|refine l7 (c1 _) ?_|fail
  exact o5 ⟨rfl,rfl⟩
 |false=>
  by_cases h:x.token=s.token
  ·have f1:=eq_true h
   rw[decide_eq_true h];refine o8 [] [.tmp 3] 21 Tryz.func166 ?_;repeat' first|refine l9 ?_|simp -dsimp -implicitDefEqProofs (disch:=first|omega|simp only[ll];omega) only[go_sem,hk,f1]|refine l7 (c1 _) ?_|fail
   exact o5 ⟨rfl,rfl⟩
  ·have f1:=eq_false h
   rw[decide_eq_false h];refine o8 [] [.tmp 3] 21 Tryz.func166 ?_;repeat' first|refine l9 ?_|simp -dsimp -implicitDefEqProofs (disch:=first|omega|simp only[ll];omega) only[go_sem,hk,f1]|refine l7 (c1 _) ?_|fail
   exact o5 ⟨by simp,rfl⟩
theorem b74{α:Type}{l:List α}{i:Nat}(d:α)(h:i < l.length):l.take i++[l.getD i d]=l.take (i+1):=by
 rw[b23,List.getD,xq1 h];rfl
theorem dF9(l:List Sess)(H:List AObj)(hw: ∀s∈l,s.who.wh.length<=1100000):o7 Tryz.prog 77 [.sl .sh 10 (l.map aj2)] H (fun y H'=>y=.bool (bU9 l)/\H'=H):=by
 unfold bU9;by_cases h16:l.length<=16
 ·have f0:((16:Int) < (l.length:Int))=False:=eq_false (by omega)
  rw[decide_eq_true h16,Bool.true_and];generalize hR:bG9 [] l=R;refine o8 [] [.tmp 2] 28 Tryz.func77 ?_;repeat' first|refine l9 ?_|simp -dsimp -implicitDefEqProofs only[go_sem,f0]
  refine aa7 ab6 mixed [] [0,9,10] (fun i:Nat=>i<=l.length/\bG9 (l.take i) (l.drop i)=R) (fun i=>[(11,.lit (.int .i64 i))]) (fun _=>H) (fun i=>l.length - i) (by kernel_rfl) ?_ 0 ⟨by omega,by simpa using hR⟩ aa3 rfl
  rintro i ⟨hi,hI⟩
  by_cases h:i < l.length
  ·have hc:((i:Int) < (l.length:Int))=True:=eq_true (by omega)
   rw[bD9 aT0 h,bG9] at hI;have htk:l.take i++[l.getD i aT0]=l.take (i+1):=b74 aT0 h;rw[htk] at hI;have hs:=hw (l.getD i aT0) (ag9 h);have hmt:(l.map aj2).take i=(l.take i).map aj2:=List.map_take.symm;generalize hg:l.getD i aT0=s at*;have cR:=fun H=>d47 s H hs
   have cC:=d21 (o:=.sh) 166 [.mp H.length 0] (bE2 s) (l.take i) (H++[.cells (.one 109) (aj2 s).flat]) (by rw[List.length_take];omega) (fun x _=>dX2 s x _ (by rw[xq5 (xq0 _),ao4];rfl))
   rw[bD8] at cC;cases hsB:ce9 s with
   |false=>
    rw[hsB] at cR hI;subst hI;repeat' first|refine l9 ?_|simp -dsimp -implicitDefEqProofs (disch:=first|assumption|omega|simp only[ll];omega) only[go_sem,hc,hg]|refine l7 (cR _) ?_|fail
    exact aa1 _ (Le.refl _) (.lit _) ⟨rfl,rfl⟩
   |true=>
    rw[hsB,Bool.true_and] at hI;rw[hsB] at cR;cases hA:(l.take i).any (bE2 s) with
    |true=>
     rw[hA] at cC hI;subst hI;repeat' first|refine l9 ?_|simp -dsimp -implicitDefEqProofs (disch:=first|assumption|omega|simp only[ll];omega) only[go_sem,hc,hg,aO5,hmt]|refine l7 (cR _) ?_|refine l7 (cC) ?_|refine vcA ?_ ?_|omega
     exact aa1 _ (Le.refl _) (.lit _) ⟨rfl,rfl⟩
    |false=>
     rw[hA] at cC hI;repeat' first|refine l9 ?_|simp -dsimp -implicitDefEqProofs (disch:=first|assumption|omega|simp only[ll];omega) only[go_sem,hc,hg,aO5,hmt]|refine l7 (cR _) ?_|refine l7 (cC) ?_|refine vcA ?_ ?_|omega
     rw[Bool.not_false,Bool.true_and] at hI;refine aw0 (i+1) ?_ ?_ (by repeat(first|exact ae1|(refine ad3 ?_ ?_;focus exact dS1))) aa3
     ·omega
     ·exact⟨by omega,hI⟩
  ·have hc:((i:Int) < (l.length:Int))=False:=eq_false (by omega)
   rw[bc5 (by omega),bG9] at hI
   subst hI;repeat' first|refine l9 ?_|simp -dsimp -implicitDefEqProofs only[go_sem,hc]
   exact o5 ⟨rfl,rfl⟩
 ·have f0:((16:Int) < (l.length:Int))=True:=eq_true (by omega)
  rw[decide_eq_false h16];refine o8 [] [.tmp 2] 28 Tryz.func77 ?_;repeat' first|refine l9 ?_|simp -dsimp -implicitDefEqProofs only[go_sem,f0]
  exact o5 ⟨rfl,rfl⟩
end As
end
section
open Go V
namespace As
theorem bs3{m:Nat}{x:AV}(h:Low m x:=by(first|(first|exact .lit _|exact .str _|exact .any|exact ac8|exact ad1|exact .mp _ _ (by omega)|exact .msl _ _ _ _ (by omega)|exact ac1 (fun k e=>by cases e)|exact ab1 _|exact ae4|exact ae7|exact af2|exact af1 _|exact ab5|exact ab2)|(refine ae2 ?_;repeat(first|exact aa4|(refine o9 ?_ ?_;focus(first|exact .lit _|exact .str _|exact .any|exact ac8|exact ad1|exact .mp _ _ (by omega)|exact .msl _ _ _ _ (by omega)|exact ac1 (fun k e=>by cases e)|exact ab1 _|exact ae4|exact ae7|exact af2|exact af1 _|exact ab5|exact ab2))))|(refine am9 ?_;repeat(first|exact aa4|(refine o9 ?_ ?_;focus(first|exact .lit _|exact .str _|exact .any|exact ac8|exact ad1|exact .mp _ _ (by omega)|exact .msl _ _ _ _ (by omega)|exact ac1 (fun k e=>by cases e)|exact ab1 _|exact ae4|exact ae7|exact af2|exact af1 _|exact ab5|exact ab2)))))):Low m x:=h
theorem ed5(b:Bnd)(H:List AObj)(hw:b.who.wh.length<=1100000):o7 Tryz.prog 130 [av3 b] H (fun y H'=>y=.bool (b63 b)/\H'=H):=by
 have c1:=fun H=>bQ4 b.who H hw
 have c2:=fun H=>Id.bF4 b.mxid H
 unfold b63 aq0;generalize bn6 b.who=A1 at*;generalize Id.ar9 64 b.mxid=A2 at*;by_cases h1:0<=b.since/\b.since<=1099511627776
 ·have f1:(0<=b.since)=True:=eq_true h1.1
  have f2:(b.since<=1099511627776)=True:=eq_true h1.2;rw[decide_eq_true h1];cases A1 with
  |false=>
   refine o8 [] [.tmp 2] 21 Tryz.func130 ?_;repeat' first|refine l9 ?_|simp -dsimp -implicitDefEqProofs (disch:=omega) only[go_sem,f1,f2]|refine l7 (c1 _) ?_|fail
   exact o5 ⟨rfl,rfl⟩
  |true=>
   refine o8 [] [.tmp 2] 21 Tryz.func130 ?_;repeat' first|refine l9 ?_|simp -dsimp -implicitDefEqProofs (disch:=omega) only[go_sem,f1,f2]|refine l7 (c1 _) ?_|refine l7 (c2 _) ?_|fail
   exact o5 ⟨by simp,rfl⟩
 ·rw[decide_eq_false h1]
  refine o8 [] [.tmp 2] 21 Tryz.func130 ?_;repeat' first|refine l9 ?_|simp -dsimp -implicitDefEqProofs only[go_sem]|refine vcA ?_ ?_|omega|refine aa8 fun _=>?_
  all_goals first|(exfalso;omega)|exact o5 ⟨rfl,rfl⟩
theorem di9(b:Bnd)(w:Addr)(H:List AObj):o7 Tryz.prog 168 [av3 b,aP1 w] H (fun y H'=>y=.lit (.int .i64 (a94 b w))/\H'=H):=by
 have c1:=fun H=>d14 b.who w H
 have ha:=addr_eq b.who w;by_cases h:b.who=w
 ·have hP:a94 b w=0:=if_pos h
  rw[decide_eq_true h,Bool.and_true,<-cd3] at ha;have f1:=eq_true (of_decide_eq_true ha).1;have f2:=eq_true (of_decide_eq_true ha).2;rw[hP];refine o8 [] [.tmp 4] 15 Tryz.func168 ?_;repeat' first|refine l9 ?_|simp -dsimp -implicitDefEqProofs (disch:=omega) only[go_sem,a00,f1,f2,Bool.and_self,decide_true]|refine vcA ?_ ?_
  exact o5 ⟨rfl,rfl⟩
 ·have key: ∀P:Prop,(¬b.who.medium=w.medium->P)->(b.who.medium=w.medium-> ¬b.who.wh=w.wh->P)->P:=fun P p q=>by
   by_cases g1:b.who.medium=w.medium
   ·refine q g1 fun g2=>?_
    rw[decide_eq_false h,decide_eq_true g1,decide_eq_true g2] at ha;cases ha
   ·exact p g1
  cases hl:bX6 b.who w with
  |true=>
   have hP:a94 b w= -1:=by unfold a94;rw[if_neg h,if_pos hl]
   rw[hP];rw[hl] at c1;refine key _ (fun g1=>?_) (fun g1 g2=>?_)
   ·have f1:=eq_false g1
    refine o8 [] [.tmp 4] 15 Tryz.func168 ?_;repeat' first|refine l9 ?_|simp -dsimp -implicitDefEqProofs (disch:=omega) only[go_sem,a00,f1,az9,decide_false]|refine l7 (c1 _) ?_|refine vcA ?_ ?_
    exact o5 ⟨rfl,rfl⟩
   ·have f1:=eq_true g1
    have f2:=eq_false g2;refine o8 [] [.tmp 4] 15 Tryz.func168 ?_;repeat' first|refine l9 ?_|simp -dsimp -implicitDefEqProofs (disch:=omega) only[go_sem,a00,f1,f2,az9,Bool.and_false,decide_false,decide_true]|refine l7 (c1 _) ?_|refine vcA ?_ ?_
    exact o5 ⟨rfl,rfl⟩
  |false=>
   have hP:a94 b w=1:=by unfold a94;rw[if_neg h,hl,if_neg (by simp)]
   rw[hP];rw[hl] at c1;refine key _ (fun g1=>?_) (fun g1 g2=>?_)
   ·have f1:=eq_false g1
    refine o8 [] [.tmp 4] 15 Tryz.func168 ?_;repeat' first|refine l9 ?_|simp -dsimp -implicitDefEqProofs (disch:=omega) only[go_sem,a00,f1,az9,decide_false]|refine l7 (c1 _) ?_|refine vcA ?_ ?_
    exact o5 ⟨rfl,rfl⟩
   ·have f1:=eq_true g1
    have f2:=eq_false g2;refine o8 [] [.tmp 4] 15 Tryz.func168 ?_;repeat' first|refine l9 ?_|simp -dsimp -implicitDefEqProofs (disch:=omega) only[go_sem,a00,f1,f2,az9,Bool.and_false,decide_false,decide_true]|refine l7 (c1 _) ?_|refine vcA ?_ ?_
    exact o5 ⟨rfl,rfl⟩
theorem dG1(l:List Bnd)(H:List AObj)(hw: ∀b∈l,b.who.wh.length<=1100000):o7 Tryz.prog 79 [.sl .sh 4 (l.map av3)] H (fun y H'=>y=.bool (bV1 l)/\H'=H):=by
 unfold bV1;by_cases h16:l.length<=64
 ·have f0:((64:Int) < (l.length:Int))=False:=eq_false (by omega)
  rw[decide_eq_true h16,Bool.true_and];generalize hR:aK1 b63 (fun a b=>decide (a94 a b.who < 0)) none l=R
  refine o8 [1000006] [.tmp 2] 34 Tryz.func79 ?_;repeat' first|refine l9 ?_|simp -dsimp -implicitDefEqProofs only[go_sem,f0]
  refine aa7 ab6 mixed [1000006] [0,8,9] (fun i:Nat=>i<=l.length/\aK1 b63 (fun a b=>decide (a94 a b.who < 0)) (a14 l i) (l.drop i)=R) (fun i=>[(10,.lit (.int .i64 i))]) (fun _=>H) (fun i=>l.length - i) (by kernel_rfl) ?_ 0 ⟨by omega,hR⟩ aa3 rfl
  rintro i ⟨hi,hI⟩
  by_cases h:i < l.length
  ·have hc:((i:Int) < (l.length:Int))=True:=eq_true (by omega)
   rw[bF2 bt3 h] at hI;have hs:=hw (l.getD i bt3) (ag9 h);have cC:=fun H=>di9 (l.getD (i - 1) bt3) (l.getD i bt3).who H
   generalize hg:l.getD i bt3=b at*;have cR:=fun H=>ed5 b H hs
   cases hsB:b63 b with
   |false=>
    rw[hsB] at cR hI;subst hI;repeat' first|refine l9 ?_|simp -dsimp -implicitDefEqProofs (disch:=first|assumption|omega|simp only[ll];omega) only[go_sem,hc,hg]|refine⟨_,_,cR _,?_⟩|fail
    exact aa1 _ (Le.refl _) (.lit _) ⟨rfl,rfl⟩
   |true=>
    rw[hsB,Bool.true_and] at hI;rw[hsB] at cR;by_cases h0:i=0
    ·have f1:((0:Int) < (i:Int))=False:=eq_false (by omega)
     rw[decide_eq_true h0,Bool.true_or,Bool.true_and] at hI;repeat' first|refine l9 ?_|simp -dsimp -implicitDefEqProofs (disch:=first|assumption|omega|simp only[ll];omega) only[go_sem,hc,f1,hg]|refine⟨_,_,cR _,?_⟩|refine vcA ?_ ?_
     refine aw0 (i+1) ?_ ?_ (by repeat(first|exact ae1|(refine ad3 ?_ ?_;focus exact bs3))) aa3
     ·omega
     ·exact⟨by omega,hI⟩
    ·have f1:((0:Int) < (i:Int))=True:=eq_true (by omega)
     have f2:((i:Int) - 1).toNat=i - 1:=by omega
     rw[decide_eq_false h0,Bool.false_or] at hI;generalize a94 (l.getD (i - 1) bt3) b.who=C at*;by_cases h3:C < 0
     ·have f3:(0<=C)=False:=eq_false (by omega)
      rw[decide_eq_true h3,Bool.true_and] at hI;repeat' first|refine l9 ?_|simp -dsimp -implicitDefEqProofs (disch:=first|assumption|omega|simp only[ll];omega) only[go_sem,hc,f1,f2,f3,hg]|refine⟨_,_,cR _,?_⟩|refine⟨_,_,cC _,?_⟩|refine vcA ?_ ?_|omega
      refine aw0 (i+1) ?_ ?_ (by repeat(first|exact ae1|(refine ad3 ?_ ?_;focus exact bs3))) aa3
      ·omega
      ·exact⟨by omega,hI⟩
     ·have f3:(0<=C)=True:=eq_true (by omega)
      rw[decide_eq_false h3,az9] at hI;subst hI;repeat' first|refine l9 ?_|simp -dsimp -implicitDefEqProofs (disch:=first|assumption|omega|simp only[ll];omega) only[go_sem,hc,f1,f2,f3,hg]|refine⟨_,_,cR _,?_⟩|refine⟨_,_,cC _,?_⟩|refine vcA ?_ ?_|omega
      exact aa1 _ (Le.refl _) (.lit _) ⟨rfl,rfl⟩
  ·have hc:((i:Int) < (l.length:Int))=False:=eq_false (by omega)
   rw[bP8 (by omega)] at hI
   subst hI;repeat' first|refine l9 ?_|simp -dsimp -implicitDefEqProofs only[go_sem,hc]
   exact o5 ⟨rfl,rfl⟩
 ·have f0:((64:Int) < (l.length:Int))=True:=eq_true (by omega)
  rw[decide_eq_false h16];refine o8 [1000006] [.tmp 2] 34 Tryz.func79 ?_;repeat' first|refine l9 ?_|simp -dsimp -implicitDefEqProofs only[go_sem,f0]
  exact o5 ⟨rfl,rfl⟩
theorem dp6(p:Plg)(H:List AObj)(hw:p.who.wh.length<=1100000):o7 Tryz.prog 135 [aw4 p] H (fun y H'=>y=.bool (b45 p)/\H'=H):=by
 have c1:=fun H=>cG9 p.token H
 have c2:=fun H=>cG9 p.seed H
 have c3:=fun H=>bQ4 p.who H hw
 have c4:=fun H=>Id.bF4 p.bound H
 have c5:=fun H=>Id.ef4 p.room H
 have c6:=fun H=>Id.bF4 p.sender H
 unfold b45;generalize ah9 p.token=A1 at*;generalize ah9 p.seed=A2 at*;generalize bn6 p.who=A3 at*;generalize Id.ar9 64 p.bound=A4 at*;generalize Id.ar9 33 p.room=A5 at*;generalize Id.ar9 64 p.sender=A6 at*;cases A1 with
 |false=>
  refine o8 [] [.tmp 2] 38 Tryz.func135 ?_;repeat' first|refine l9 ?_|simp -dsimp -implicitDefEqProofs (disch:=omega) only[go_sem]|refine l7 (c1 _) ?_|fail
  exact o5 ⟨rfl,rfl⟩
 |true=>
 cases A2 with
 |false=>
  refine o8 [] [.tmp 2] 38 Tryz.func135 ?_;repeat' first|refine l9 ?_|simp -dsimp -implicitDefEqProofs (disch:=omega) only[go_sem]|refine l7 (c1 _) ?_|refine l7 (c2 _) ?_|fail
  exact o5 ⟨rfl,rfl⟩
 |true=>
 cases A3 with
 |false=>
  refine o8 [] [.tmp 2] 38 Tryz.func135 ?_;repeat' first|refine l9 ?_|simp -dsimp -implicitDefEqProofs (disch:=omega) only[go_sem]|refine l7 (c1 _) ?_|refine l7 (c2 _) ?_|refine l7 (c3 _) ?_|fail
  exact o5 ⟨rfl,rfl⟩
 |true=>
 by_cases h:p.bound=[]
 ·have f1:=eq_true h
  rw[decide_eq_true h];cases A5 with
  |false=>
   refine o8 [] [.tmp 2] 38 Tryz.func135 ?_;repeat' first|refine l9 ?_|simp -dsimp -implicitDefEqProofs (disch:=omega) only[go_sem,f1]|refine l7 (c1 _) ?_|refine l7 (c2 _) ?_|refine l7 (c3 _) ?_|refine l7 (c5 _) ?_|fail
   exact o5 ⟨rfl,rfl⟩
  |true=>
   refine o8 [] [.tmp 2] 38 Tryz.func135 ?_;repeat' first|refine l9 ?_|simp -dsimp -implicitDefEqProofs (disch:=omega) only[go_sem,f1]|refine l7 (c1 _) ?_|refine l7 (c2 _) ?_|refine l7 (c3 _) ?_|refine l7 (c5 _) ?_|refine l7 (c6 _) ?_|fail
   exact o5 ⟨by simp,rfl⟩
 ·have f1:=eq_false h
  rw[decide_eq_false h];cases A4 with
  |false=>
   refine o8 [] [.tmp 2] 38 Tryz.func135 ?_;repeat' first|refine l9 ?_|simp -dsimp -implicitDefEqProofs (disch:=omega) only[go_sem,f1]|refine l7 (c1 _) ?_|refine l7 (c2 _) ?_|refine l7 (c3 _) ?_|refine l7 (c4 _) ?_|fail
   exact o5 ⟨rfl,rfl⟩
  |true=>
  cases A5 with
  |false=>
   refine o8 [] [.tmp 2] 38 Tryz.func135 ?_;repeat' first|refine l9 ?_|simp -dsimp -implicitDefEqProofs (disch:=omega) only[go_sem,f1]|refine l7 (c1 _) ?_|refine l7 (c2 _) ?_|refine l7 (c3 _) ?_|refine l7 (c4 _) ?_|refine l7 (c5 _) ?_|fail
   exact o5 ⟨rfl,rfl⟩
  |true=>
   refine o8 [] [.tmp 2] 38 Tryz.func135 ?_;repeat' first|refine l9 ?_|simp -dsimp -implicitDefEqProofs (disch:=omega) only[go_sem,f1]|refine l7 (c1 _) ?_|refine l7 (c2 _) ?_|refine l7 (c3 _) ?_|refine l7 (c4 _) ?_|refine l7 (c5 _) ?_|refine l7 (c6 _) ?_|fail
   exact o5 ⟨by simp,rfl⟩
theorem dG0(l:List Plg)(H:List AObj)(hw: ∀b∈l,b.who.wh.length<=1100000):o7 Tryz.prog 80 [.sl .sh 7 (l.map aw4)] H (fun y H'=>y=.bool (bV0 l)/\H'=H):=by
 unfold bV0;by_cases h16:l.length<=32
 ·have f0:((32:Int) < (l.length:Int))=False:=eq_false (by omega)
  rw[decide_eq_true h16,Bool.true_and];generalize hR:aK1 b45 (fun a b=>af8 a.token b.token) none l=R
  refine o8 [1000006] [.tmp 2] 34 Tryz.func80 ?_;repeat' first|refine l9 ?_|simp -dsimp -implicitDefEqProofs only[go_sem,f0]
  refine aa7 ab6 mixed [1000006] [0,8,9] (fun i:Nat=>i<=l.length/\aK1 b45 (fun a b=>af8 a.token b.token) (a14 l i) (l.drop i)=R) (fun i=>[(10,.lit (.int .i64 i))]) (fun _=>H) (fun i=>l.length - i) (by kernel_rfl) ?_ 0 ⟨by omega,hR⟩ aa3 rfl
  rintro i ⟨hi,hI⟩
  by_cases h:i < l.length
  ·have hc:((i:Int) < (l.length:Int))=True:=eq_true (by omega)
   rw[bF2 bL1 h] at hI;have hs:=hw (l.getD i bL1) (ag9 h);generalize hg:l.getD i bL1=b at*;have cR:=fun H=>dp6 b H hs
   cases hsB:b45 b with
   |false=>
    rw[hsB] at cR hI;subst hI;repeat' first|refine l9 ?_|simp -dsimp -implicitDefEqProofs (disch:=first|assumption|omega|simp only[ll];omega) only[go_sem,hc,hg]|refine⟨_,_,cR _,?_⟩|fail
    exact aa1 _ (Le.refl _) (.lit _) ⟨rfl,rfl⟩
   |true=>
    rw[hsB,Bool.true_and] at hI;rw[hsB] at cR;by_cases h0:i=0
    ·have f1:((0:Int) < (i:Int))=False:=eq_false (by omega)
     rw[decide_eq_true h0,Bool.true_or,Bool.true_and] at hI;repeat' first|refine l9 ?_|simp -dsimp -implicitDefEqProofs (disch:=first|assumption|omega|simp only[ll];omega) only[go_sem,hc,f1,hg]|refine⟨_,_,cR _,?_⟩|refine vcA ?_ ?_
     refine aw0 (i+1) ?_ ?_ (by repeat(first|exact ae1|(refine ad3 ?_ ?_;focus exact bs3))) aa3
     ·omega
     ·exact⟨by omega,hI⟩
    ·have f1:((0:Int) < (i:Int))=True:=eq_true (by omega)
     have f2:((i:Int) - 1).toNat=i - 1:=by omega
     rw[decide_eq_false h0,Bool.false_or] at hI;unfold af8 at hI;cases hb:Op.bytesLess (l.getD (i - 1) bL1).token b.token with
     |true=>
      rw[hb,Bool.true_and] at hI;repeat' first|refine l9 ?_|simp -dsimp -implicitDefEqProofs (disch:=first|assumption|omega|simp only[ll];omega) only[go_sem,hc,f1,f2,hb,hg]|refine⟨_,_,cR _,?_⟩|refine vcA ?_ ?_|omega
      refine aw0 (i+1) ?_ ?_ (by repeat(first|exact ae1|(refine ad3 ?_ ?_;focus exact bs3))) aa3
      ·omega
      ·exact⟨by omega,hI⟩
     |false=>
      rw[hb,az9] at hI;subst hI;repeat' first|refine l9 ?_|simp -dsimp -implicitDefEqProofs (disch:=first|assumption|omega|simp only[ll];omega) only[go_sem,hc,f1,f2,hb,hg]|refine⟨_,_,cR _,?_⟩|refine vcA ?_ ?_|omega
      exact aa1 _ (Le.refl _) (.lit _) ⟨rfl,rfl⟩
  ·have hc:((i:Int) < (l.length:Int))=False:=eq_false (by omega)
   rw[bP8 (by omega)] at hI
   subst hI;repeat' first|refine l9 ?_|simp -dsimp -implicitDefEqProofs only[go_sem,hc]
   exact o5 ⟨rfl,rfl⟩
 ·have f0:((32:Int) < (l.length:Int))=True:=eq_true (by omega)
  rw[decide_eq_false h16];refine o8 [1000006] [.tmp 2] 34 Tryz.func80 ?_;repeat' first|refine l9 ?_|simp -dsimp -implicitDefEqProofs only[go_sem,f0]
  exact o5 ⟨rfl,rfl⟩
theorem dw4{m k:Nat}{ns:List bytes}(h:k < m):Low m (.sl (.tok k) 1 (ns.map .str)):=.sl _ _ _ (fun j e=>by cases e;exact h) fun x hx=>by
 unfold aa2 at hx;obtain⟨y,hy,hx⟩:=bb8.1 hx;obtain⟨v,hv,rfl⟩:=xq9.1 hy;rw[aT1.1 hx];exact .str _
theorem bQ3(l:List Usr)(H:List AObj)(hw: ∀u∈l,u.agreed.length<=1100000):o7 Tryz.prog 78 [.sl .sh 3 (l.map af0)] H (fun y H'=>y=.bool (aw9 l)/\H'=H):=by
 unfold aw9;by_cases h16:l.length<=16
 ·have f0:((16:Int) < (l.length:Int))=False:=eq_false (by omega)
  rw[decide_eq_true h16,Bool.true_and];have cT:=fun H k=>cl5 (o:=.tok k) (l.map (·.token)) H (by rw[List.length_map];omega)
  generalize hR:l.all ci6=R;generalize hT:aS3 (l.map (·.token))=T at*;refine o8 [] [.tmp 2] 39 Tryz.func78 ?_;repeat' first|refine l9 ?_|simp -dsimp -implicitDefEqProofs only[go_sem,f0]
  refine bt1 3 1 rfl (by decide) (fun h=>absurd rfl h) ?_
  refine aa7 ab6 mixed [] [9,10] (fun i:Nat=>i<=l.length/\(l.drop i).all ci6=R) (fun i=>[(11,.lit (.int .i64 i)),(3,.sl (.tok H.length) 1 (((l.take i).map (·.token)).map .str))]) (fun i=>H++[.grow 1 i none]) (fun i=>l.length - i) (by kernel_rfl) ?_ 0 ⟨by omega,hR⟩ aa3 rfl
  rintro i ⟨hi,hI⟩
  by_cases h:i < l.length
  ·have hc:((i:Int) < (l.length:Int))=True:=eq_true (by omega)
   have hm:((l.take i).map (·.token)).map AV.str++[AV.str (l.getD i ah3).token]=((l.take (i+1)).map (·.token)).map AV.str:=by
    rw[<-b74 ah3 h];simp
   have hn:(l.take i).length=i:=by rw[List.length_take];omega
   rw[bD9 ah3 h,List.all_cons] at hI;have hs:=hw (l.getD i ah3) (ag9 h);generalize hg:l.getD i ah3=u at*;unfold ci6 at hI;have c1:=fun H=>Id.bF4 u.mxid H
   have c2:=fun H=>cl5 (o:=.sh) u.agreed H hs
   generalize Id.ar9 64 u.mxid=A1 at*;cases A1 with
   |false=>
    rw[az9,az9] at hI;subst hI;repeat' first|refine l9 ?_|simp -dsimp -implicitDefEqProofs (disch:=first|assumption|omega) only[go_sem,hc,hg]|refine l7 (c1 _) ?_|fail
    exact aa1 _ (Le.refl _) (.lit _) ⟨rfl,rfl⟩
   |true=>
    rw[Bool.true_and] at hI;by_cases h4:u.agreed.length<=4
    ·have f4:((4:Int) < (u.agreed.length:Int))=False:=eq_false (by omega)
     rw[decide_eq_true h4,Bool.true_and] at hI;cases hr:aS3 u.agreed with
     |false=>
      rw[hr] at c2 hI;rw[az9] at hI;subst hI;repeat' first|refine l9 ?_|simp -dsimp -implicitDefEqProofs (disch:=first|assumption|omega) only[go_sem,hc,hg,f4]|refine l7 (c1 _) ?_|refine l7 (c2 _) ?_|fail
      exact aa1 _ (Le.refl _) (.lit _) ⟨rfl,rfl⟩
     |true=>
      rw[hr] at c2 hI;rw[Bool.true_and] at hI;repeat' first|refine l9 ?_|simp -dsimp -implicitDefEqProofs (disch:=first|assumption|omega) only[go_sem,hc,hg,f4,hm,hn]|refine l7 (c1 _) ?_|refine l7 (c2 _) ?_|refine vcA ?_ ?_|omega
      refine ak5 (H.length+1) ([.cells (.one 70) (af0 u).flat]) (i+1) ?_ ?_ ?_ ?_ ?_ (by repeat(first|exact ae1|(refine ad3 ?_ ?_;focus(first|exact dw4 (by omega)|exact bs3)))) ?_ aa3
      ·omega
      ·exact⟨by omega,hI⟩
      ·rw[List.append_assoc]
       rfl
      ·simp
      ·simp
      ·exact aF4 (fun o ho sh cs e=>by
        rw[aT1] at ho;subst ho;cases e)
    ·have f4:((4:Int) < (u.agreed.length:Int))=True:=eq_true (by omega)
     rw[decide_eq_false h4,az9,az9] at hI;subst hI;repeat' first|refine l9 ?_|simp -dsimp -implicitDefEqProofs (disch:=first|assumption|omega) only[go_sem,hc,hg,f4]|refine l7 (c1 _) ?_|fail
     exact aa1 _ (Le.refl _) (.lit _) ⟨rfl,rfl⟩
  ·have hc:((i:Int) < (l.length:Int))=False:=eq_false (by omega)
   obtain rfl:i=l.length:=by omega
   rw[bF7] at hI;subst hI;rw[aL1];repeat' first|refine l9 ?_|simp -dsimp -implicitDefEqProofs only[go_sem,hc]|refine l7 (cT _ _) ?_|fail
   exact aa1 _ (Le.refl _) (.lit _) ⟨by simp,rfl⟩
 ·have f0:((16:Int) < (l.length:Int))=True:=eq_true (by omega)
  rw[decide_eq_false h16];refine o8 [] [.tmp 2] 39 Tryz.func78 ?_;repeat' first|refine l9 ?_|simp -dsimp -implicitDefEqProofs only[go_sem,f0]
  exact o5 ⟨rfl,rfl⟩
end As
end
section
open Go V
namespace As
structure BdI(s:Idn):Prop where
 sess: ∀x∈s.sess,x.who.wh.length<=1100000
 users: ∀u∈s.users,u.agreed.length<=1100000
 bonds: ∀b∈s.bonds,b.who.wh.length<=1100000
 plgs: ∀p∈s.plgs,p.who.wh.length<=1100000
theorem bh4(s:Idn)(H:List AObj)(hb:BdI s):o7 Tryz.prog 28 [ae0 s] H (fun y H'=>y=.bool (aj8 s)/\H'=H):=by
 have c1:=fun H=>cj4 s.now H
 have c2:=fun H=>bQ5 s.pepper H
 have c3:=fun H=>dF9 s.sess H hb.sess
 have c4:=fun H=>bQ3 s.users H hb.users
 have c5:=fun H=>dG1 s.bonds H hb.bonds
 have c6:=fun H=>dG0 s.plgs H hb.plgs
 unfold aj8;generalize aq0 s.now=A1 at*;generalize ah9 s.pepper=A2 at*;generalize bU9 s.sess=A3 at*;generalize aw9 s.users=A4 at*;generalize bV1 s.bonds=A5 at*;generalize bV0 s.plgs=A6 at*;cases A1 with
 |false=>
  refine o8 [] [.tmp 2] 31 Tryz.func28 ?_;repeat' first|refine l9 ?_|simp -dsimp -implicitDefEqProofs (disch:=omega) only[go_sem]|refine l7 (c1 _) ?_|fail
  exact o5 ⟨rfl,rfl⟩
 |true=>
 cases A2 with
 |false=>
  refine o8 [] [.tmp 2] 31 Tryz.func28 ?_;repeat' first|refine l9 ?_|simp -dsimp -implicitDefEqProofs (disch:=omega) only[go_sem]|refine l7 (c1 _) ?_|refine l7 (c2 _) ?_|fail
  exact o5 ⟨rfl,rfl⟩
 |true=>
 cases A3 with
 |false=>
  refine o8 [] [.tmp 2] 31 Tryz.func28 ?_;repeat' first|refine l9 ?_|simp -dsimp -implicitDefEqProofs (disch:=omega) only[go_sem]|refine l7 (c1 _) ?_|refine l7 (c2 _) ?_|refine l7 (c3 _) ?_|fail
  exact o5 ⟨rfl,rfl⟩
 |true=>
 cases A4 with
 |false=>
  refine o8 [] [.tmp 2] 31 Tryz.func28 ?_;repeat' first|refine l9 ?_|simp -dsimp -implicitDefEqProofs (disch:=omega) only[go_sem]|refine l7 (c1 _) ?_|refine l7 (c2 _) ?_|refine l7 (c3 _) ?_|refine l7 (c4 _) ?_|fail
  exact o5 ⟨rfl,rfl⟩
 |true=>
 cases A5 with
 |false=>
  refine o8 [] [.tmp 2] 31 Tryz.func28 ?_;repeat' first|refine l9 ?_|simp -dsimp -implicitDefEqProofs (disch:=omega) only[go_sem]|refine l7 (c1 _) ?_|refine l7 (c2 _) ?_|refine l7 (c3 _) ?_|refine l7 (c4 _) ?_|refine l7 (c5 _) ?_|fail
  exact o5 ⟨rfl,rfl⟩
 |true=>
  refine o8 [] [.tmp 2] 31 Tryz.func28 ?_;repeat' first|refine l9 ?_|simp -dsimp -implicitDefEqProofs (disch:=omega) only[go_sem]|refine l7 (c1 _) ?_|refine l7 (c2 _) ?_|refine l7 (c3 _) ?_|refine l7 (c4 _) ?_|refine l7 (c5 _) ?_|refine l7 (c6 _) ?_|fail
  exact o5 ⟨by simp,rfl⟩
def ag4:bytes:=[105,100,46,111,114,103]
def keyS:bytes:=[101,100,50,53,53,49,57,58,48]
def ab4:List bytes:=[[112,114,105,118,97,99,121]]
def ac6:AV:=.agg [.str ag4,.str keyS,o6 5,o6 0,o6 0,o6 0,o6 0,o6 0,o6 0,o6 0,o6 0,o6 0,o6 0,o6 0,o6 0,o6 0,o6 0,o6 0,o6 0,o6 0,o6 0,o6 0,o6 0,o6 0,o6 0,o6 0,o6 0,o6 0,o6 0,o6 0,o6 0,o6 0,o6 0,o6 0,.sl .sh 1 (ab4.map .str)]
theorem d39(s:bytes)(H:List AObj):o7 Tryz.prog 76 [.str s] H (fun y H'=>y=.bool (!ah9 s)/\H'=H):=by
 have c1:=fun H=>bQ5 s H
 generalize ah9 s=P at*;refine o8 [] [.tmp 2] 6 Tryz.func76 ?_;repeat' first|simp -dsimp -implicitDefEqProofs only[go_sem]|refine l7 (c1 _) ?_|fail
 exact o5 ⟨rfl,rfl⟩
theorem a05(H:List AObj):o7 Tryz.prog 27 [ac6] H (fun y H'=>y=.bool true/\H'=H):=by
 have c1:=fun H=>Id.bQ1 ag4 H (by decide)
 have c2:=fun H=>Se.em3 keyS H (by decide)
 have c3:=fun H=>b71 (o:=.sh) 76 [] (fun s=>!ah9 s) ab4 H (by decide) (fun x _=>d39 x H)
 have e1:Id.aS2 ag4=true:=by decide+kernel
 have e2:Se.cV3 keyS=true:=by decide+kernel
 have e3:(ab4.any fun s=>!ah9 s)=false:=by decide+kernel
 rw[e1] at c1;rw[e2] at c2;rw[e3] at c3;have e4:((4:Int) < (ab4.length:Int))=False:=by decide
 unfold ac6;refine o8 [] [.tmp 2] 25 Tryz.func27 ?_;repeat' first|refine l9 ?_|simp -dsimp -implicitDefEqProofs (disch:=omega) only[go_sem,an7,an6,e4]|refine l7 (c1 _) ?_|refine l7 (c2 _) ?_|refine l7 (c3 _) ?_|refine vcA ?_ ?_|assumption
 exact o5 ⟨by simp,rfl⟩
end As
end
section
open Go V
namespace As
def cntF{α:Type}(f:α->Int)(l:List α):Nat:=(l.takeWhile fun x=>decide (f x < 0)).length
theorem bp8{α:Type}{f:α->Int}{d:α}: ∀{l:List α} {i:Nat},i<=l.length->(∀j,j < i->f (l.getD j d) < 0)->(i < l.length->0<=f (l.getD i d))->cntF f l=i
 |[],i,h,_,_=>by
  obtain rfl:i=0:=by simpa using h
  rfl
 |a::l,0,_,_,h2=>by
  have: ¬f a < 0:=by have:=h2 (by simp);simpa using this
  simp[cntF,this]
 |a::l,i+1,h,h1,h2=>by
  have h0:f a < 0:=by simpa using h1 0 (by omega)
  have ih:=bp8 (f:=f) (d:=d) (l:=l) (i:=i) (by simpa using h) (fun j hj=>by simpa using h1 (j+1) (by omega)) (fun hi=>by simpa using h2 (by simpa using hi))
  unfold cntF at ih⊢;rw[ce0,if_pos (by simpa using h0),List.length_cons,ih]
theorem cS0{o:Own}{s k off n cap:Nat}{T:TypeId}{cs xs:List AV}{H:List AObj}(hx:aa2 xs≠[])(hk:H[k]?=some (.cells (.one T) cs))(hcs:cs≠[]):o7 Tryz.prog 195 [.sl o s xs,.msl k off n cap] H (fun y H'=>y=.bool false/\H'=H):=
 aC3 (e:=Extern.SlicesOverlaps.overlaps #[23,23] #[4]) Tryz.func195 (by kernel_rfl) (by kernel_rfl) (by kernel_rfl) (by kernel_rfl) fun G w vs hi ha=>by
  obtain⟨v,u,rfl,hv,hu⟩:=bh7 ha;obtain⟨arr,T1,fr,hb,hs,hr,hf,hg,hh⟩:=hi.cells k _ cs hk;obtain⟨rfl,h2,h3⟩:=hh;have hp1:0 < (aa2 xs).length:=aD7.2 hx;have hp2:0 < cs.length:=aD7.2 hcs;cases hv with
  |sl _ _ _ ad len cap' val hl hcap hs' hc hr' hf' ha' ho=>
  cases hu with
  |msl _ _ _ _ o2 g4 g5 g6=>
  obtain⟨b1,off1,rfl,himm,hcell⟩:=hc 0 _ (xq1 hp1);have hne:b1≠G.blk k:=fun e=>hf _ (e▸himm)
  obtain⟨a1,e1,f1,hb1⟩: ∃a1 e1 f1,w.heap[b1]?=some (.cells a1 e1 f1):=by
   unfold World.cell? at hcell;simp only at hcell;split at hcell
   ·rename_i h;exact⟨_,_,_,h⟩
   ·cases hcell
  have hka:a1.size≠0:=by
   rw[aq7 hb1] at hcell;intro e;rw[bo4 (by omega)] at hcell
   cases hcell
  refine⟨_,w,_,G,H,aY0 w 23 4 70 Tryz.underlying23 3 (fun w=>by simp) ⟨b1,off1,none⟩ ⟨G.blk k,off,none⟩ _ _ n cap hne e1 T1 a1.size arr.size (by simp[World.shape?,hb1]) (by simp[World.shape?,hb]) hka (by omega) ?_ ?_,hi,.refl _ _ _,.lit _,rfl,rfl⟩
  all_goals simp[World.frozen?,hb,h3]
theorem dG3{k n i:Nat}{xs:List AV}{x:AV}{H:List AObj}(hk:H[k]?=some (.cells (.prow 3) (aa2 xs)))(hn:xs.length=n)(hu: ∀y∈xs,y.flat.length=3/\y.okv=true)(hx:x.flat.length=3/\x.okv=true)(hi:i<=n)(hl:n<=100000)
  (hlow: ∀m,Low m (.sl .sh 3 (xs.insertIdx i x))):o7 Tryz.prog 107 [.mrow k n,.lit (.int .i64 i),.sl .full 3 [x]] H (fun y H'=>y=.sl .sh 3 (xs.insertIdx i x)/\H'=H.set k .gone):=by
 have hkl:=aa0 hk;have hfl:(aa2 xs).length=n*3:=by rw[af5 (s:=3) fun y hy=>(hu y hy).1,hn]
 by_cases hin:i=n
 ·subst hin
  have hins:xs.insertIdx i x=xs++[x]:=by rw[<-hn];exact cM6
  ·have hll:(H.set k AObj.gone).length=H.length:=by simp
   refine o8 [1000011,1000015] [.tmp 6] 95 Tryz.func107 ?_;repeat' first|refine l9 ?_|simp -dsimp -implicitDefEqProofs (disch:=omega) only[go_sem,hk,hfl,hx.1,hx.2]|refine vcA ?_ ?_|omega
   have hnew:(H.set k AObj.gone++[AObj.cells (.prow 3) (aa2 xs++aa2 [x])])[H.length]?=some (.cells (.prow 3) (aa2 xs++aa2 [x])):=by rw[<-hll];exact aH4
   refine ap1 (H':=[]) hnew (bs7 (xs:=xs++[x]) hnew (by simp[hn]) (by rw[<-hins];exact aN8 hu hx (by omega)) (by rw[ak4])) ?_
   rw[hs0 hll.symm,List.set_cons_zero];have:=hlow H.length;rw[hins] at this⊢;exact ae5 (o:=.gone) this rfl (fun sh cs e=>by cases e) ⟨rfl,rfl⟩
 ·refine bq2 (xs1:=[]) hk (by rw[hfl]) fun T cap hcap=>?_
  rw[List.nil_append];generalize hP:List.replicate ((cap - n)*3) AV.any=P;have hPl:P.length=(cap - n)*3:=by rw[<-hP,List.length_replicate]
  have hall:=bD7 fun y hy=>(hu y hy).2
  have hsc:(((aa2 xs++P).drop (i*3)).take ((n - i)*3)).all AV.scalar=true:=by
   have hle:=aG2 3 hi;rw[bG1 (by omega),bL4 (by rw[List.length_drop];omega),xq6]
   intro c hc;exact xq6.1 hall c (bc4 (bg0 hc))
  have hsd:((aa2 xs).drop (i*3)).all AV.scalar=true:=by
   rw[xq6];intro c hc;exact xq6.1 hall c (bc4 hc)
  try simp only[Nat.mul_one] at hsc hsd
  have hmin:min (n+1 - i) (n+1 - (i+1))=n - i:=by omega
  have hxs:=bH4 hx.2;have hfx:aa2 [x]=x.flat:=by simp[aa2]
  have hx0:x.flat≠[]:=fun e=>by have:=hx.1;rw[e] at this;cases this
  have hf0:aa2 xs++P≠[]:=fun e=>by have:=congrArg List.length e;rw[List.length_append,hfl] at this;simp only[List.length_nil] at this;omega
  have hov:=fun off m c=>cS0 (o:=.full) (s:=3) (xs:=[x]) (off:=off) (n:=m) (cap:=c) (H:=H.set k (.cells (.one T) (aa2 xs++P))) (by simp[aa2,hx0]) (hss hkl) hf0
  have hI:((i:Int)+1).toNat=i+1:=by omega
  have hN1:((n:Int)+1).toNat=n+1:=by omega
  have hNI:((n:Int)+1 - (i:Int)).toNat=n+1 - i:=by omega
  have hsum:i+(n+1 - i)=n+1:=by omega
  have hci:((cap:Int)=(i:Int))=False:=eq_false (by omega)
  have hin':((i:Int)=(n:Int))=False:=eq_false (by omega)
  by_cases hc:n+1<=cap
  ·have hcI:((cap:Int)=(i:Int)+1)=False:=eq_false (by omega)
   have hcc:(((cap:Nat):Int) < (n:Int)+1)=False:=eq_false (by omega)
   refine o8 [1000011,1000015] [.tmp 6] 95 Tryz.func107 ?_;repeat' first|refine l9 ?_|simp -dsimp -implicitDefEqProofs (disch:=first|assumption|omega) only[go_sem,hsn,hss,hPl,hfl,hsc,hxs,hx.1,hx.2,hI,hN1,hNI,hsum,hci,hin',hcI,hcc,aO5,ap2,hmin]|refine l7 (hov _ _ _) ?_|refine vcA ?_ ?_|omega
   have hres:=bO3 (s:=3) (P:=P) (fun y hy=>(hu y hy).1) hx.1 hn hi (by omega)
   try simp only[Nat.mul_one] at hres
   refine ap1 (H':=[]) (k:=k) (hss hkl) (aN9 (s:=3) (xs:=xs.insertIdx i x) (hss hkl) (by rw[bz4 (by omega)];omega) (aN8 hu hx (by omega)) (by rw[hfx];first|exact hres|(rw[Nat.mul_one];exact hres))) ?_
   rw[List.set_set];exact aa5 _ (Le.refl _) (by simp) ⟨rfl,rfl⟩
  ·have hcc:(((cap:Nat):Int) < (n:Int)+1)=True:=eq_true (by omega)
   obtain rfl:cap=n:=by omega
   have hP0:P=[]:=by rw[<-hP,ao4,bQ7];rfl
   rw[hP0,List.append_nil];clear hov hsc hf0;refine o8 [1000011,1000015] [.tmp 6] 95 Tryz.func107 ?_;repeat' first|refine l9 ?_|simp -dsimp -implicitDefEqProofs (disch:=first|assumption|omega) only[go_sem,hsn,hss,hfl,hsd,hxs,hx.1,hx.2,hI,hN1,hNI,hsum,hci,hin',hcc,aO5,ap2]|refine vcA ?_ ?_|omega
   intro z;have hz1:(((cap+1+z:Nat):Int)=(i:Int))=False:=eq_false (by omega)
   have hz2:(((cap+1+z:Nat):Int)=(i:Int)+1)=False:=eq_false (by omega)
   repeat' first|simp -dsimp -implicitDefEqProofs (disch:=first|assumption|omega|simp only[ll];omega) only[go_sem,hsn,hss,hfl,hsd,hxs,hx.1,hx.2,hI,hN1,hNI,hsum,hci,hin',hcc,aO5,ai6,ak8,hz1,hz2,ap2]|refine vcA ?_ ?_|omega
   have hres:=b58 (s:=3) (m:=(cap+1 - i+z)*3) (fun y hy=>(hu y hy).1) hx.1 hn hi (aG2 _ (by omega))
   try simp only[Nat.mul_one] at hres
   refine ap1 (H':=[]) (k:=H.length) ai6 (aN9 (s:=3) (xs:=xs.insertIdx i x) ai6 (by rw[bz4 (by omega)];omega) (aN8 hu hx (by omega)) (by rw[hfx];first|exact hres|(rw[Nat.mul_one];exact hres))) ?_
   rw[ak8,List.set_cons_zero];refine ap1 (H':=[]) (k:=k) (aa6 hkl) (.keep _) ?_;rw[ak1 hkl];rw[show (H.set k AObj.gone)=(H.set k (AObj.cells (.one T) (aa2 xs))).set k .gone from(List.set_set ..).symm]
   exact bE1 (hlow _) ⟨rfl,rfl⟩
theorem cL9{xs:List AV}{H:List AObj}(hu: ∀y∈xs,y.flat.length=3/\y.okv=true)(hne:xs≠[])(hl:xs.length<=100000):o7 Tryz.prog 108 [.sl .sh 3 xs] H (fun y H'=>y=.mrow H.length xs.length/\H'=H++[.cells (.prow 3) (aa2 xs)]):=by
 have hpos:=aD7.2 hne;refine o8 [7] [.tmp 2] 8 Tryz.func108 ?_;repeat' first|refine l9 ?_|simp -dsimp -implicitDefEqProofs (disch:=omega) only[go_sem,hne]|refine vcA ?_ ?_|omega
 exact aq9 ⟨rfl,rfl⟩
theorem dH7{H:List AObj}:o7 Tryz.prog 108 [.sl .sh 3 []] H (fun y H'=>y=.sl (.tok H.length) 3 []/\H'=H++[.grow 3 0 none]):=by
 refine o8 [] [.tmp 2] 8 Tryz.func108 ?_;repeat' simp -dsimp -implicitDefEqProofs only[go_sem]
 intro b;cases b
 all_goals
  repeat' first|refine l9 ?_|simp -dsimp -implicitDefEqProofs (disch:=omega) only[go_sem]
  first
   |exact aq9 ⟨rfl,rfl⟩
   |exact bx8 (by decide) (aq9 ⟨rfl,rfl⟩)
theorem dl4{k:Nat}{x:AV}{H:List AObj}(hk:H[k]?=some (.grow 3 0 none))(hx:x.flat.length=3/\x.okv=true):o7 Tryz.prog 107 [.sl (.tok k) 3 [],.lit (.int .i64 0),.sl .full 3 [x]] H (fun y H'=>y=.sl (.tok k) 3 [x]/\H'=H.set k (.grow 3 1 none)):=by
 refine o8 [1000011,1000015] [.tmp 6] 95 Tryz.func107 ?_;repeat' first|refine l9 ?_|simp -dsimp -implicitDefEqProofs (disch:=first|omega|simp only[ll];omega) only[go_sem,hk]
 exact aa5 _ (Le.refl _) (by simp) ⟨rfl,rfl⟩
theorem em5{o:Own}(g:FuncId)(cs:List AV)(f:Usr->Int)(l:List Usr)(t:AV)(H:List AObj)(hl:l.length<=100000)
  (hm: ∀i j,i<=j->j < l.length->f (l.getD j ah3) < 0->f (l.getD i ah3) < 0)
  (hc: ∀x∈l,∀H,o7 Tryz.prog g (af0 x::t::cs) H (fun y H'=>y=.lit (.int .i64 (f x))/\H'=H)):
  o7 Tryz.prog 192 [.sl o 3 (l.map af0),t,.fn (.func g) [] cs] H (fun x H'=>x=.tup [.int .i64 (cntF f l),.bool (decide (cntF f l < l.length/\f (l.getD (cntF f l) ah3)=0))]/\H'=H):=by
 refine o8 [] [.tmp 6,.tmp 7] 49 Tryz.func192 ?_;repeat' simp -dsimp -implicitDefEqProofs only[go_sem]
 refine aa7 ab6 mixed [] [0,1,2,6,7,8] (fun p:Nat×Nat=>p.1<=p.2/\p.2<=l.length/\(∀j,j < p.1->f (l.getD j ah3) < 0)/\(p.2 < l.length->0<=f (l.getD p.2 ah3))) (fun p=>[(9,.int .i64 p.1),(10,.int .i64 p.2)]) (fun _=>H) (fun p=>p.2 - p.1) (by kernel_rfl) ?_ (0,l.length) ⟨by simp,by simp,fun j hj=>by omega,fun h=>by omega⟩ aa3 rfl
 rintro⟨i,j⟩ ⟨h1,h2,h3,h4⟩
 dsimp only at h1 h2 h3 h4⊢;by_cases hij:i < j
 ·have hijc:((i:Int) < (j:Int))=True:=eq_true (by omega)
  have hmid:(((i:Int)+(j:Int))/2).toNat=(i+j)/2:=by omega
  have hlt:(i+j)/2 < l.length:=by omega
  have c:=hc (l.getD ((i+j)/2) ah3) (ag9 hlt);by_cases hf:f (l.getD ((i+j)/2) ah3) < 0
  ·have hfc:=eq_true hf
   repeat' first|refine l9 ?_|simp -dsimp -implicitDefEqProofs (disch:=first|assumption|omega) only[go_sem,hijc,hmid,hfc]|refine l7 (c _) ?_|refine vcA ?_ ?_|omega
   refine again (((i+j)/2+1,j)) ?_ ?_ rfl aa3
   ·dsimp only;omega
   ·dsimp only
    exact⟨by omega,h2,fun m hm'=>hm m ((i+j)/2) (by omega) hlt hf,h4⟩
  ·have hfc:=eq_false hf
   repeat' first|refine l9 ?_|simp -dsimp -implicitDefEqProofs (disch:=first|assumption|omega) only[go_sem,hijc,hmid,hfc]|refine l7 (c _) ?_|refine vcA ?_ ?_|omega
   refine again ((i,(i+j)/2)) ?_ ?_ rfl aa3
   ·dsimp only;omega
   ·dsimp only
    exact⟨by omega,by omega,h3,fun _=>by omega⟩
 ·have hijc:((i:Int) < (j:Int))=False:=eq_false (by omega)
  obtain rfl:i=j:=by omega
  have hp:cntF f l=i:=bp8 h2 h3 h4;rw[hp];by_cases hi:i < l.length
  ·have hic:((i:Int) < (l.length:Int))=True:=eq_true (by omega)
   have c:=hc (l.getD i ah3) (ag9 hi);by_cases h0:f (l.getD i ah3)=0
   ·have h0c:=eq_true h0
    rw[decide_eq_true ⟨hi,h0⟩];repeat' first|refine l9 ?_|simp -dsimp -implicitDefEqProofs (disch:=first|assumption|omega) only[go_sem,hijc,hic,h0c]|refine l7 (c _) ?_|fail
    exact o5 ⟨rfl,rfl⟩
   ·have h0c:=eq_false h0
    rw[decide_eq_false fun h=>h0 h.2]
    repeat' first|refine l9 ?_|simp -dsimp -implicitDefEqProofs (disch:=first|assumption|omega) only[go_sem,hijc,hic,h0c]|refine l7 (c _) ?_|fail
    exact o5 ⟨rfl,rfl⟩
  ·have hic:((i:Int) < (l.length:Int))=False:=eq_false (by omega)
   rw[decide_eq_false fun h=>hi h.1]
   repeat' first|refine l9 ?_|simp -dsimp -implicitDefEqProofs only[go_sem,hijc,hic]
   exact o5 ⟨rfl,rfl⟩
end As
end
section
open Go V
namespace As
theorem bP3: ∀{a b:bytes},Lib.compareBytes a b=0↔a=b
 |[],[]=>by simp[Lib.compareBytes]
 |[],_::_=>by simp[Lib.compareBytes]
 |_::_,[]=>by simp[Lib.compareBytes]
 |a::x,b::y=>by
  rw[Lib.compareBytes];by_cases h1:a < b
  ·rw[if_pos h1]
   exact⟨fun h=>by omega,fun h=>absurd (List.cons.inj h).1 (fun e=>by rw[e] at h1;exact UInt8.lt_irrefl b h1)⟩
  ·rw[if_neg h1]
   by_cases h2:b < a
   ·rw[if_pos h2]
    exact⟨fun h=>by omega,fun h=>absurd (List.cons.inj h).1 (fun e=>by rw[e] at h2;exact UInt8.lt_irrefl b h2)⟩
   ·rw[if_neg h2,bP3]
    have e:a=b:=UInt8.le_antisymm (UInt8.not_lt.1 h2) (UInt8.not_lt.1 h1);rw[e];exact⟨fun h=>by rw[h],fun h=>(List.cons.inj h).2⟩
theorem cmp_neg: ∀{a b:bytes},Lib.compareBytes a b < 0↔af8 a b=true
 |[],[]=>by simp[Lib.compareBytes,af8,Op.bytesLess]
 |[],_::_=>by simp[Lib.compareBytes,af8,Op.bytesLess]
 |_::_,[]=>by simp[Lib.compareBytes,af8,Op.bytesLess]
 |a::x,b::y=>by
  have ih:=cmp_neg (a:=x) (b:=y);unfold af8 at ih⊢;rw[Lib.compareBytes,Op.bytesLess];by_cases h1:a < b
  ·simp[h1]
  ·rw[if_neg h1]
   by_cases h2:b < a
   ·have hne:(a==b)=false:=beq_false_of_ne fun e=>by rw[e] at h2;exact UInt8.lt_irrefl b h2
    simp[h1,h2,hne]
   ·have e:a=b:=UInt8.le_antisymm (UInt8.not_lt.1 h2) (UInt8.not_lt.1 h1)
    subst e;simp[h1,ih]
theorem cE3(a b:bytes)(H:List AObj):o7 Tryz.prog 349 [.str a,.str b] H (fun y H'=>y=.lit (.int .i64 (Lib.compareBytes a b))/\H'=H):=
 aC3 (e:=Extern.BytealgCompare.compare) Tryz.func349 (by kernel_rfl) (by kernel_rfl) (by kernel_rfl) (by kernel_rfl) fun G w vs hi ha=>by
  obtain⟨v,u,rfl,hv,hu⟩:=bh7 ha;rw[ak9 hv,ak9 hu];exact⟨_,w,_,G,H,Lib.run_compareString _ _ w,hi,.refl _ _ _,.lit _,rfl,rfl⟩
theorem b09(a b:bytes)(H:List AObj):o7 Tryz.prog 267 [.str a,.str b] H (fun y H'=>y=.lit (.int .i64 (Lib.compareBytes a b))/\H'=H):=by
 have c1:=fun H=>cE3 a b H
 generalize Lib.compareBytes a b=r at*;refine o8 [] [.tmp 4] 8 Tryz.func267 ?_;repeat' first|simp -dsimp -implicitDefEqProofs only[go_sem]|refine l7 (c1 _) ?_|fail
 exact o5 ⟨rfl,rfl⟩
theorem dm2(a b:bytes)(H:List AObj):o7 Tryz.prog 194 [.str a,.str b] H (fun y H'=>y=.lit (.int .i64 (Lib.compareBytes a b))/\H'=H):=by
 have c1:=fun H=>b09 a b H
 generalize Lib.compareBytes a b=r at*;refine o8 [] [.tmp 4] 8 Tryz.func194 ?_;repeat' first|simp -dsimp -implicitDefEqProofs only[go_sem]|refine l7 (c1 _) ?_|fail
 exact o5 ⟨rfl,rfl⟩
theorem dp7(u:Usr)(t:bytes)(H:List AObj):o7 Tryz.prog 193 [af0 u,.str t] H (fun y H'=>y=.lit (.int .i64 (Lib.compareBytes u.token t))/\H'=H):=by
 have c1:=fun H=>dm2 u.token t H
 generalize Lib.compareBytes u.token t=r at*;refine o8 [] [.tmp 4] 9 Tryz.func193 ?_;repeat' first|simp -dsimp -implicitDefEqProofs (disch:=omega) only[go_sem]|refine l7 (c1 _) ?_|fail
 exact o5 ⟨rfl,rfl⟩
theorem cQ0: ∀{l:List bytes},aS3 l=true->srt l=true:=by
 have go: ∀(l:List bytes) (q:bytes),aK1 ah9 af8 (some q) l=true->srt (q::l)=true:=by
  intro l;induction l with
  |nil=>intro q _;rfl
  |cons s t ih=>
   intro q h;rw[aK1,xq3,xq3] at h;rw[srt,h.2.1,Bool.true_and];exact ih s h.2.2
 intro l h;cases l with
 |nil=>rfl
 |cons s t=>
  unfold aS3 at h;rw[aK1,xq3] at h;exact go t s h.2
theorem cQ7{l:List Usr}(h:aw9 l=true):srt (l.map (·.token))=true:=by
 unfold aw9 at h;simp only[xq3] at h;exact cQ0 h.2.2
theorem bv5{l:List Usr}(h:aw9 l=true):l.length<=16:=by
 unfold aw9 at h;simp only[xq3,decide_eq_true_eq] at h;exact h.1
theorem bq8{l:List Usr}{i:Nat}(h:i < l.length):(l.map (·.token))[i]?=some (l.getD i ah3).token:=by
 rw[xq7,List.getD,xq1 h];rfl
theorem dj0{l:List Usr}(t:bytes):cntF (fun u=>Lib.compareBytes u.token t) l=ay1 l t:=by
 refine bp8 (d:=ah3) ?_ (fun j hj=>?_) fun hi=>?_
 ·have:=bi2 (l.map (·.token)) t
  rwa [List.length_map] at this
 ·have hl:j < l.length:=aB2 hj (by have:=bi2 (l.map (·.token)) t;rwa [List.length_map] at this)
  exact cmp_neg.2 (bB7 hj (bq8 hl))
 ·have:=cm7 (l:=l.map (·.token)) (s:=t) (bq8 (i:=ay1 l t) hi)
  refine Int.not_lt.1 fun h=>?_
  rw[cmp_neg.1 h] at this;cases this
theorem cz1{l:List Usr}(t:bytes):decide (ay1 l t < l.length/\Lib.compareBytes (l.getD (ay1 l t) ah3).token t=0)=aL7 l t:=by
 unfold aL7;refine decide_eq_decide.2 ⟨fun⟨h1,h2⟩=>?_,fun h=>?_⟩
 ·rw[bq8 h1,bP3.1 h2]
 ·have hl:=aa0 h
  rw[List.length_map] at hl;rw[bq8 hl] at h;exact⟨hl,bP3.2 (Option.some.inj h)⟩
theorem cI2(l:List Usr)(t:bytes)(H:List AObj)(hr:aw9 l=true):o7 Tryz.prog 106 [.sl .sh 3 (l.map af0),.str t] H (fun y H'=>y=.tup [.lit (.int .i64 (ay1 l t)),.bool (aL7 l t)]/\H'=H):=by
 have hs:=cQ7 hr;have hl:=bv5 hr;have c1:=fun H=>em5 (o:=.sh) 193 [] (fun u=>Lib.compareBytes u.token t) l (.str t) H (by omega) (fun i j hij hj h=>by
  rcases Nat.eq_or_lt_of_le hij with rfl|hlt
  ·exact h
  ·exact cmp_neg.2 (aO9 (ck7 hs hlt (bq8 (by omega)) (bq8 hj)) (cmp_neg.1 h))) (fun x _ H=>dp7 x t H)
 rw[dj0,cz1] at c1;generalize ay1 l t=p at*;generalize aL7 l t=b at*;refine o8 [] [.tmp 4,.tmp 5] 11 Tryz.func106 ?_;repeat' first|simp -dsimp -implicitDefEqProofs only[go_sem]|refine l7 (c1 _) ?_|fail
 exact o5 ⟨rfl,rfl⟩
theorem b55(l:List Usr)(t:bytes)(H:List AObj)(hw: ∀u∈l,u.agreed.length<=1100000):o7 Tryz.prog 109 [.sl .sh 3 (l.map af0),.str t] H (fun y H'=>y=.tup [.lit (.int .i64 (ad9 l t).1),.lit (.int .i64 (ad9 l t).2)]/\H'=H):=by
 have c1:=fun H=>bQ3 l H hw
 cases hr:aw9 l with
 |false=>
  have hP:ad9 l t=(0,1):=by unfold ad9;rw[hr];rfl
  rw[hP];rw[hr] at c1;refine o8 [] [.tmp 4,.tmp 5] 20 Tryz.func109 ?_;repeat' first|refine l9 ?_|simp -dsimp -implicitDefEqProofs only[go_sem]|refine l7 (c1 _) ?_|fail
  exact o5 ⟨rfl,rfl⟩
 |true=>
  have c2:=fun H=>cI2 l t H hr
  rw[hr] at c1;cases ht:aL7 l t with
  |false=>
   have hP:ad9 l t=(0,14):=by unfold ad9;rw[hr,ht];rfl
   rw[hP];rw[ht] at c2;refine o8 [] [.tmp 4,.tmp 5] 20 Tryz.func109 ?_;repeat' first|refine l9 ?_|simp -dsimp -implicitDefEqProofs only[go_sem]|refine l7 (c1 _) ?_|refine l7 (c2 _) ?_|fail
   exact o5 ⟨rfl,rfl⟩
  |true=>
   have hP:ad9 l t=(ay1 l t,0):=by unfold ad9;rw[hr,ht];rfl
   rw[hP];rw[ht] at c2;refine o8 [] [.tmp 4,.tmp 5] 20 Tryz.func109 ?_;repeat' first|refine l9 ?_|simp -dsimp -implicitDefEqProofs only[go_sem]|refine l7 (c1 _) ?_|refine l7 (c2 _) ?_|fail
   exact o5 ⟨rfl,rfl⟩
end As
end
section
open Go V
namespace As
theorem bw3{l:List Usr}{t:bytes}(h:(ad9 l t).2=0):(ad9 l t).1 < l.length:=by
 unfold ad9 at h⊢;by_cases hr:aw9 l=true
 ·rw[if_pos hr] at h⊢
  by_cases ht:aL7 l t=true
  ·rw[if_pos ht] at h⊢
   unfold aL7 at ht;have:=aa0 (of_decide_eq_true ht);rwa [List.length_map] at this
  ·rw[if_neg ht] at h
   cases h
 ·rw[if_neg hr] at h
  cases h
theorem bD1{l:List Usr}{t:bytes}(h:(ad9 l t).2=0):l.length<=16:=by
 unfold ad9 at h;by_cases hr:aw9 l=true
 ·exact bv5 hr
 ·rw[if_neg hr] at h
  cases h
theorem cC8{l:List Usr}{t:bytes}(h:(ad9 l t).2=0):aw9 l=true:=by
 unfold ad9 at h;by_cases hr:aw9 l=true
 ·exact hr
 ·rw[if_neg hr] at h
  cases h
theorem cs8{l:List Usr}{t:bytes}(h:(ad9 l t).2=0):(l.getD (ad9 l t).1 ah3).agreed.length<=4:=by
 have hr:=cC8 h;unfold aw9 at hr;simp only[xq3] at hr;have:=xq6.1 hr.2.1 _ (ag9 (d:=ah3) (bw3 h));unfold ci6 at this;simp only[xq3,decide_eq_true_eq] at this;exact this.2.1
theorem dZ8(l:List Usr)(t:bytes)(H:List AObj)(hw: ∀u∈l,u.agreed.length<=1100000):o7 Tryz.prog 129 [.sl .sh 3 (l.map af0),.str t] H (fun y H'=>y=.tup [.str (al3 l t).1,.lit (.int .i64 (al3 l t).2)]/\H'=H):=by
 have c1:=fun H=>b55 l t H hw
 by_cases h:(ad9 l t).2=0
 ·have hP:al3 l t=((l.getD (ad9 l t).1 ah3).mxid,0):=by unfold al3;rw[if_pos h]
  have hlt:=bw3 h;have hlen:=bD1 h;rw[hP];rw[h] at c1;generalize (ad9 l t).1=i at*;refine o8 [] [.tmp 4,.tmp 5] 22 Tryz.func129 ?_;repeat' first|refine l9 ?_|simp -dsimp -implicitDefEqProofs (disch:=first|assumption|omega) only[go_sem,hlt]|refine l7 (c1 _) ?_|refine vcA ?_ ?_|omega
  exact o5 ⟨rfl,rfl⟩
 ·have hP:al3 l t=([],(ad9 l t).2):=by unfold al3;rw[if_neg h]
  rw[hP];generalize (ad9 l t).1=i at*;generalize (ad9 l t).2=e at*;have hf:=eq_false h;refine o8 [] [.tmp 4,.tmp 5] 22 Tryz.func129 ?_;repeat' first|refine l9 ?_|simp -dsimp -implicitDefEqProofs only[go_sem,hf]|refine l7 (c1 _) ?_|fail
  exact o5 ⟨rfl,rfl⟩
theorem dd9{o:Own}{s:Nat}{xs ys:List AV}(hl:xs.length=ys.length)(h:LeAll (aa2 xs) (aa2 ys))(hy: ∀y∈ys,y.flat.length=s/\y.okv=true):Le (.sl o s xs) (.sl .sh s ys):=fun _ _ _ _ r=>by
 obtain⟨_,hg⟩:=h.get;cases r with
 |sl _ _ _ a len cap val hl' hcap hs hc hr hf ha ho=>
  exact .sl .sh s ys a len cap val (hl'.trans hl) hcap hy (fun j x e=>by
   obtain⟨x',hx,_⟩:=hg j x e;exact hc j x' hx) (fun j x e=>by
   obtain⟨x',hx,hle⟩:=hg j x e;exact hle _ _ _ _ (hr j x' hx)) (fun e=>by cases e) ha (fun k e=>by cases e)
theorem bm2: ∀{xs ys zs ws:List AV},LeAll xs ys->LeAll zs ws->LeAll (xs++zs) (ys++ws)
 |_,_,_,_,.nil,h=>h
 |_,_,_,_,.cons a b,h=>.cons a (bm2 b h)
theorem aN6: ∀(xs:List AV),LeAll xs xs
 |[]=>.nil
 |x::xs=>.cons (Le.refl x) (aN6 xs)
theorem b91{x y:AV}(h:LeAll x.flat y.flat): ∀(l:List AV) (i:Nat),LeAll (aa2 (l.insertIdx i x)) (aa2 (l.insertIdx i y))
 |[],0=>by rw[bz5,bz5,ag6,ag6];exact bm2 h (aN6 _)
 |[],i+1=>aN6 _
 |a::l,0=>by rw[bz5,bz5,ag6,ag6];exact bm2 h (aN6 _)
 |a::l,i+1=>by rw[bt8,bt8,ag6,ag6];exact bm2 (aN6 _) (b91 h l i)
def cU3(t m:bytes):AV:=.agg [.str t,.str m,.sl .full 0 []]
theorem de1{t m:bytes}{o:Own}{l:List Usr}{i:Nat}:Le (.sl o 3 ((l.map af0).insertIdx i (cU3 t m))) (.sl .sh 3 ((l.insertIdx i ⟨t,m,[]⟩).map af0)):=by
 rw[<-aH0];refine dd9 (by rw[List.length_insertIdx,List.length_insertIdx]) (b91 (x:=cU3 t m) (y:=af0 ⟨t,m,[]⟩) (show LeAll [.str t,.str m,.sl .full 0 []] [.str t,.str m,.sl .sh 1 []] from .cons (Le.refl _) (.cons (Le.refl _) (.cons ab7 .nil))) _ _) ?_
 rw[aH0];exact be8
theorem bs2{α:Type}{x y:α}: ∀{l:List α} {i:Nat},y∈l.insertIdx i x->y=x\/y∈l
 |[],0,h=>.inl (by simpa using h)
 |[],i+1,h=>.inr h
 |a::l,0,h=>by rw[bz5] at h;exact an8.1 h
 |a::l,i+1,h=>by
  rw[bt8] at h;rcases an8.1 h with rfl|h
  ·exact .inr (aD9 ..)
  ·rcases bs2 h with h|h
   ·exact .inl h
   ·exact .inr (aJ4 _ h)
theorem dS4{t m:bytes}{l:List Usr}{i k:Nat}:Low k (.sl .sh 3 ((l.map af0).insertIdx i (cU3 t m))):=.sl _ _ _ (fun k e=>by cases e) fun x hx=>by
 unfold aa2 at hx;obtain⟨y,hy,hx⟩:=bb8.1 hx;rcases bs2 hy with rfl|hy
 ·have hx:x∈[AV.str t,.str m,.sl .full 0 []]:=hx
  simp only[an8,aJ2,or_false] at hx;rcases hx with rfl|rfl|rfl
  ·exact .str _
  ·exact .str _
  ·exact .sl _ _ _ (fun k e=>by cases e) fun x hx=>by simp[aa2] at hx
 ·exact be5 (f:=af0) (l:=l) x (bb8.2 ⟨y,hy,hx⟩)
theorem cZ1(l:List Usr)(t m:bytes)(H:List AObj)(hw: ∀u∈l,u.agreed.length<=1100000):o7 Tryz.prog 42 [.sl .sh 3 (l.map af0),.str t,.str m] H (fun y H'=>y=.tup [.sl .sh 3 ((al4 l t m).1.map af0),.lit (.int .i64 (al4 l t m).2)]/\H'=H):=by
 have c1:=fun H=>bQ3 l H hw
 have c2:=fun H=>bN1 t H
 have c3:=fun H=>Id.bF4 m H
 cases hr:aw9 l with
 |false=>
  have hP:al4 l t m=(l,1):=by unfold al4;rw[hr,if_neg (by simp)]
  rw[hP];rw[hr] at c1;refine o8 [] [.tmp 6,.tmp 7] 46 Tryz.func42 ?_;repeat' first|refine l9 ?_|simp -dsimp -implicitDefEqProofs only[go_sem]|refine l7 (c1 _) ?_|fail
  exact o5 ⟨rfl,rfl⟩
 |true=>
  rw[hr] at c1;cases hp:ah9 t with
  |false=>
   have hP:al4 l t m=(l,1):=by unfold al4;rw[hp,if_neg (by simp)]
   rw[hP];rw[hp] at c2;refine o8 [] [.tmp 6,.tmp 7] 46 Tryz.func42 ?_;repeat' first|refine l9 ?_|simp -dsimp -implicitDefEqProofs only[go_sem]|refine l7 (c1 _) ?_|refine l7 (c2 _) ?_|fail
   exact o5 ⟨rfl,rfl⟩
  |true=>
   rw[hp] at c2;cases hm:Id.ar9 64 m with
   |false=>
    have hP:al4 l t m=(l,1):=by unfold al4;rw[hm,if_neg (by simp)]
    rw[hP];rw[hm] at c3;refine o8 [] [.tmp 6,.tmp 7] 46 Tryz.func42 ?_;repeat' first|refine l9 ?_|simp -dsimp -implicitDefEqProofs only[go_sem]|refine l7 (c1 _) ?_|refine l7 (c2 _) ?_|refine l7 (c3 _) ?_|fail
    exact o5 ⟨rfl,rfl⟩
   |true=>
    rw[hm] at c3;have c4:=fun H=>cI2 l t H hr
    have hP0:al4 l t m=if aL7 l t=true then(l,6) else if l.length=16 then(l,10) else(l.insertIdx (ay1 l t) ⟨t,m,[]⟩,0):=by unfold al4;rw[if_pos ⟨hr,hp,hm⟩]
    have hpl:ay1 l t<=l.length:=by have:=bi2 (l.map (·.token)) t;rwa [List.length_map] at this
    have hlen:=bv5 hr;rw[hP0];clear hP0;cases ht:aL7 l t with
    |true=>
     rw[ht] at c4;rw[if_pos rfl];generalize ay1 l t=p at*;refine o8 [] [.tmp 6,.tmp 7] 46 Tryz.func42 ?_;repeat' first|refine l9 ?_|simp -dsimp -implicitDefEqProofs only[go_sem]|refine l7 (c1 _) ?_|refine l7 (c2 _) ?_|refine l7 (c3 _) ?_|refine l7 (c4 _) ?_|fail
     exact o5 ⟨rfl,rfl⟩
    |false=>
     rw[ht] at c4;rw[if_neg (by simp)]
     by_cases h16:l.length=16
     ·rw[if_pos h16]
      generalize ay1 l t=p at*;have hc:((l.length:Int)=16)=True:=eq_true (by omega)
      refine o8 [] [.tmp 6,.tmp 7] 46 Tryz.func42 ?_;repeat' first|refine l9 ?_|simp -dsimp -implicitDefEqProofs only[go_sem,hc]|refine l7 (c1 _) ?_|refine l7 (c2 _) ?_|refine l7 (c3 _) ?_|refine l7 (c4 _) ?_|fail
      exact o5 ⟨rfl,rfl⟩
     ·rw[if_neg h16]
      have hc:((l.length:Int)=16)=False:=eq_false (by omega)
      cases l with
      |nil=>
       have hp0:ay1 [] t=0:=rfl;rw[hp0] at c4⊢;refine o8 [] [.tmp 6,.tmp 7] 46 Tryz.func42 ?_;repeat' first|refine l9 ?_|simp -dsimp -implicitDefEqProofs (disch:=first|omega|simp only[ll];omega) only[go_sem]|refine l7 (c1 _) ?_|refine l7 (c2 _) ?_|refine l7 (c3 _) ?_|refine l7 (c4 _) ?_|refine l7 (dH7) ?_|refine l7 (dl4 (x:=.agg [.str t,.str m,.sl .full 0 []]) (by simp;done) ⟨rfl,rfl⟩) ?_|fail
       exact aa1 (.tup [.sl .sh 3 [af0 ⟨t,m,[]⟩],.lit (.int .i64 0)]) (ad6 (de1 (l:=[]) (i:=0)) (Le.refl _)) (ae2 (o9 (ab5 (f:=af0) (l:=[⟨t,m,[]⟩])) (o9 (.lit _) aa4))) ⟨rfl,rfl⟩
      |cons u r=>
       have hne:(u::r).map af0≠[]:=by simp
       have cI:=fun k H h=>dG3 (k:=k) (n:=(u::r).length) (i:=ay1 (u::r) t) (xs:=(u::r).map af0) (x:=.agg [.str t,.str m,.sl .full 0 []]) (H:=H) h (by simp) be8 ⟨rfl,rfl⟩ hpl (by omega) (fun _=>dS4)
       generalize u::r=l at*;generalize ay1 l t=p at*;refine o8 [] [.tmp 6,.tmp 7] 46 Tryz.func42 ?_;repeat' first|refine l9 ?_|simp -dsimp -implicitDefEqProofs (disch:=first|omega|simp only[ll];omega) only[go_sem,hc,aa6,hg0,hg1]|refine l7 (c1 _) ?_|refine l7 (c2 _) ?_|refine l7 (c3 _) ?_|refine l7 (c4 _) ?_|refine l7 (cL9 be8 hne (by simp;omega)) ?_|refine l7 (cI _ _ (by simp;done)) ?_|fail
       exact aa1 _ (ad6 de1 (Le.refl _)) (ae2 (o9 ab5 (o9 (.lit _) aa4))) ⟨rfl,rfl⟩
theorem cw5{ns:List bytes}{s:bytes}:decide (0<=aZ0 ns s)=ns.contains s:=by
 unfold aZ0;rw[bf7,decide_eq_true_eq,aW8];cases hf:ns.findIdx? (fun n=>n==s) with
 |none=>
  rw[cd6] at hf;refine⟨fun h=>?_,fun h=>?_⟩
  ·simp at h
  ·have:=hf s h
   simp at this
 |some i=>
  refine⟨fun _=>?_,fun _=>by simp⟩
  obtain⟨h1,h2,_⟩:=cd7.1 hf;rw[<-eq_of_beq h2];exact aT3 h1
theorem d94{b i:Nat}(l:List Usr)(s:bytes)(H:List AObj)(hb:H[b]?=some (.cells (.one 3) [.lit (.int .i64 i)]))(hi:i < l.length)(hl:l.length<=16)(hw:(l.getD i ah3).agreed.length<=100000):o7 Tryz.prog 200 [.str s,.ip (.sl .sh 3 (l.map af0)),.mp b 0] H (fun y H'=>y=.bool (!(l.getD i ah3).agreed.contains s)/\H'=H):=by
 have c1:=fun H=>cZ6 (o:=.sh) (l.getD i ah3).agreed s H hw
 rw[cw5] at c1;generalize hg:l.getD i ah3=u at*;generalize u.agreed.contains s=r at*;refine o8 [] [.tmp 4] 13 Tryz.func200 ?_;repeat' first|simp -dsimp -implicitDefEqProofs (disch:=first|assumption|omega) only[go_sem,hb,hi,hg]|refine l7 (c1 _) ?_|refine vcA ?_ ?_|omega
 exact o5 ⟨rfl,rfl⟩
theorem dI3(l:List Usr)(t:bytes)(terms:List bytes)(H:List AObj)(hw: ∀u∈l,u.agreed.length<=1100000)(ht:terms.length<=1100000):o7 Tryz.prog 115 [.sl .sh 3 (l.map af0),.str t,.sl .sh 1 (terms.map .str)] H (fun y H'=>y=.lit (.int .i64 (ar5 l t terms))/\H'=H):=by
 have c1:=fun H=>b55 l t H hw
 by_cases h:(ad9 l t).2=0
 ·have hP:ar5 l t terms=(if terms.all (l.getD (ad9 l t).1 ah3).agreed.contains then 0 else 13):=by unfold ar5;rw[if_pos h]
  have hlt:=bw3 h;have hlen:=bD1 h;rw[hP];rw[h] at c1;have hu:(l.getD (ad9 l t).1 ah3).agreed.length<=100000:=aE0 (cs8 h) (by decide)
  clear hP h;generalize (ad9 l t).1=i at*;have c2:=b71 (o:=.sh) 200 [.ip (.sl .sh 3 (l.map af0)),.mp H.length 0] (fun s=>!(l.getD i ah3).agreed.contains s) terms (H++[.cells (.one 3) [.lit (.int .i64 i)]]) ht (fun s _=>d94 l s _ (by simp) hlt hlen hu)
  have hA:(terms.any fun s=>!(l.getD i ah3).agreed.contains s)=!(terms.all (l.getD i ah3).agreed.contains):=by rw[List.all_eq_not_any_not,Bool.not_not]
  rw[hA] at c2;generalize terms.all (l.getD i ah3).agreed.contains=r at*;cases r with
  |true=>
   refine o8 [] [.tmp 6] 21 Tryz.func115 ?_;repeat' first|refine l9 ?_|simp -dsimp -implicitDefEqProofs only[go_sem,hlt]|refine l7 (c1 _) ?_|refine l7 (c2) ?_|fail
   exact aa1 _ (Le.refl _) (.lit _) ⟨rfl,rfl⟩
  |false=>
   refine o8 [] [.tmp 6] 21 Tryz.func115 ?_;repeat' first|refine l9 ?_|simp -dsimp -implicitDefEqProofs only[go_sem,hlt]|refine l7 (c1 _) ?_|refine l7 (c2) ?_|fail
   exact aa1 _ (Le.refl _) (.lit _) ⟨rfl,rfl⟩
 ·have hP:ar5 l t terms=(ad9 l t).2:=by unfold ar5;rw[if_neg h]
  rw[hP];clear hP;generalize (ad9 l t).1=i at*;generalize (ad9 l t).2=e at*;have hf:=eq_false h;refine o8 [] [.tmp 6] 21 Tryz.func115 ?_;repeat' first|refine l9 ?_|simp -dsimp -implicitDefEqProofs only[go_sem,hf]|refine l7 (c1 _) ?_|fail
  exact aa1 _ (Le.refl _) (.lit _) ⟨rfl,rfl⟩
end As
end
section
open Go V
namespace As
theorem d36(s:bytes)(H:List AObj):o7 Tryz.prog 139 [.str s] H (fun y H'=>y=jAV (ac5 s)/\H'=H):=by
 refine o8 [] [.cell 2 35] 5 Tryz.func139 ?_;repeat' simp -dsimp -implicitDefEqProofs (disch:=(simp only[ll];omega)) only[go_sem]
 exact aa1 (jAV (ac5 s)) (bc8 ab7 ab7) (ab1 _) ⟨rfl,rfl⟩
def cw3(s:bytes):AV:=.sl .full 6 [.agg [.str [97,108,103,111,114,105,116,104,109,115],.lit (.int .i64 5),.lit (.int .i64 0),.str [],.sl .full 0 [],.sl .full 5 [.agg [.lit (.int .i64 4),.lit (.int .i64 0),.str [110,111,110,101],.sl .sh 1 [],.sl .sh 5 []],.agg [.lit (.int .i64 4),.lit (.int .i64 0),.str [115,104,97,50,53,54],.sl .sh 1 [],.sl .sh 5 []]]],.agg [.str [108,111,111,107,117,112,95,112,101,112,112,101,114],.lit (.int .i64 4),.lit (.int .i64 0),.str s,.sl .sh 1 [],.sl .sh 5 []]]
theorem d93(s:bytes):Le (cw3 s) (.sl .sh 6 ([(cq6,JV.mk 5 0 [] [] [ac5 [110,111,110,101],ac5 [115,104,97,50,53,54]]),(b51,ac5 s)].map aI0)):=
 dd9 rfl (.cons (Le.refl _) (.cons (Le.refl _) (.cons (Le.refl _) (.cons (Le.refl _) (.cons ab7 (.cons as4 (aN6 [.str [108,111,111,107,117,112,95,112,101,112,112,101,114],.lit (.int .i64 4),.lit (.int .i64 0),.str s,.sl .sh 1 [],.sl .sh 5 []]))))))) fun y hy=>by
  simp only[List.map_cons,List.map_nil,an8,aJ2,or_false] at hy;rcases hy with rfl|rfl
  ·exact⟨rfl,rfl⟩
  ·exact⟨rfl,rfl⟩
theorem c88{s:bytes}(h:ah9 s=true):s.length<=64:=by
 unfold ah9 at h;simp only[xq3,decide_eq_true_eq] at h;first
  |exact h.2.1
  |exact h.1.2
  |omega
theorem dm0(s:bytes)(H:List AObj):o7 Tryz.prog 61 [.str s] H (fun y H'=>y=ar2 (av1 s)/\H'=H):=by
 have c1:=fun H=>bQ5 s H
 cases hp:ah9 s with
 |false=>
  have hP:av1 s=(aa9,1):=by unfold av1;rw[hp];rfl
  rw[hP];rw[hp] at c1;refine o8 [1000004,1000004000003] [.cell 2 35,.tmp 3] 22 Tryz.func61 ?_;repeat' first|refine l9 ?_|simp -dsimp -implicitDefEqProofs (disch:=(simp only[ll];omega)) only[go_sem]|refine l7 (c1 _) ?_|fail
  exact aa1 (ar2 (aa9,1)) (ad6 (bc8 ab7 ab7) (Le.refl _)) (ae2 (o9 (ab1 _) (o9 (.lit _) aa4))) ⟨rfl,rfl⟩
 |true=>
  have hP:av1 s=bH6 [(cq6,.mk 5 0 [] [] [ac5 [110,111,110,101],ac5 [115,104,97,50,53,54]]),(b51,ac5 s)]:=by unfold av1;rw[hp];rfl
  rw[hP];rw[hp] at c1;have c2:=fun t H=>d36 t H
  have hs:s.length<=64:=c88 hp;have cm:=fun H=>ef7 [(cq6,.mk 5 0 [] [] [ac5 [110,111,110,101],ac5 [115,104,97,50,53,54]]),(b51,ac5 s)] H (by simp) (fun p hp=>by
   simp only[an8,aJ2,or_false] at hp;rcases hp with rfl|rfl
   ·exact⟨by decide,by decide⟩
   ·refine⟨?_,(by decide:b51.length<=10000)⟩
    simp[ac5,aL9,JV.text,JV.names,JV.items,aF1]
    omega)
  have cm2:=fun H=>(cm H).weak (args:=[cw3 s]) rfl (fun j x y h1 h2=>by
   cases j with
   |zero=>cases h1;cases h2;exact d93 s
   |succ j=>simp at h1)
  unfold cw3 at cm2;clear cm hP;generalize bH6 [(cq6,.mk 5 0 [] [] [ac5 [110,111,110,101],ac5 [115,104,97,50,53,54]]),(b51,ac5 s)]=M at*;unfold ar2 at cm2;refine o8 [1000004,1000004000003] [.cell 2 35,.tmp 3] 22 Tryz.func61 ?_;repeat' first|refine l9 ?_|simp -dsimp -implicitDefEqProofs (disch:=omega) only[go_sem,ac5,JV.kind,JV.num,JV.text,JV.names,JV.items,List.map_nil,an7,ao5,an6,List.drop_zero,List.take_nil,List.drop_nil]|refine l7 (c1 _) ?_|refine l7 (c2 _ _) ?_|refine⟨_,_,c2 _ _,?_⟩|refine⟨_,_,cm2 _,?_⟩|fail
  obtain⟨v,e⟩:=M;cases v with
  |mk k n t ns is=>exact aa1 (ar2 (.mk k n t ns is,e)) (ad6 (bc8 (Le.refl _) (Le.refl _)) (Le.refl _)) (ae2 (o9 (ab1 _) (o9 (.lit _) aa4))) ⟨rfl,rfl⟩
end As
end
section
open Go V
namespace As
theorem az2{α:Type}{l:List α}{k:Nat}{o:α}(h:l[k]?=some o):l.set k o=l:=aW9 fun j=>by
 by_cases e:k=j
 ·subst e
  rw[aA0 (aa0 h),h]
 ·rw[ar6 e]
theorem bP2{H₀ H:List AObj}{R:AV->List AObj->Prop}{x:AV}{k:Nat}{sh:Shape}{cs:List AV}(cs':List AV)(hk:k < H.length)(hle:LeAll cs cs')(hr:Done H₀ R x (H.set k (.cells sh cs'))):Done H₀ R x (H.set k (.cells sh cs)):=by
 unfold Done at hr⊢;obtain⟨y,H'',he,hR⟩:=hr;refine⟨y,H'',be3 (fun G₀ w₀ G w v h0 hi hst r=>?_) he,hR⟩
 obtain⟨hi',st'⟩:=leC hi (aA0 hk) hle;rw[List.set_set] at hi' st';exact⟨_,hi',hst.trans st',r.mono st'⟩
def ai5(s:Idn)(a:Ask)(x:Ans):List AV:=.lit (.int .i64 s.now)::.str s.pepper::.sl .sh 10 (s.sess.map aj2)::.sl .sh 3 (s.users.map af0)::.sl .sh 4 (s.bonds.map av3)::.sl .sh 7 (s.plgs.map aw4)::.str ag4::.str keyS::o6 5::o6 0::o6 0::o6 0::o6 0::o6 0::o6 0::o6 0::o6 0::o6 0::o6 0::o6 0::o6 0::o6 0::o6 0::o6 0::o6 0::o6 0::o6 0::o6 0::o6 0::o6 0::o6 0::o6 0::o6 0::o6 0::o6 0::o6 0::o6 0::o6 0::o6 0::o6 0::.sl .sh 1 (ab4.map .str)::.lit (.int .i64 a.kind)::.str a.token::.str a.secret::.str a.medium::.str a.wh::.str a.mxid::.str a.room::.str a.sender::.lit (.int .i64 a.id)::.lit (.int .i64 a.attempt)::.str a.code::.lit (.int .i64 a.n)::.sl .sh 1 (a.docs.map .str)::.sl .sh 1 (a.draws.map .str)::.str a.alg::.str a.pepper::.sl .sh 1 (a.addrs.map .str)::.lit (.int .i64 x.code)::.str x.text::.lit (.int .i64 x.value.kind)::.lit (.int .i64 x.value.num)::.str x.value.text::.sl .sh 1 (x.value.names.map .str)::.sl .sh 5 (x.value.items.map jAV)::.str x.mwho.medium::.str x.mwho.wh::.lit (.int .i64 x.mid)::.str x.mtok::.sl .sh 5 (x.blocks.map jAV)::[]
theorem eb8{k:Nat}(s:Idn)(a:Ask)(x:Ans)(H:List AObj)(hk:H[k]?=some (.cells (.one 76) (ai5 s a x))):o7 Tryz.prog 43 [.mp k 0,.lit (.int .i64 0)] H (fun y H'=>y=.str (aE8 a 0)/\H'=H):=by
 unfold ai5 at hk;unfold aE8;by_cases h:a.draws.length=0
 ·have h0:a.draws=[]:=aB0 h
  rw[h0] at hk⊢;refine o8 [] [.tmp 4] 21 Tryz.func43 ?_;repeat' first|refine l9 ?_|simp -dsimp -implicitDefEqProofs (disch:=omega) only[go_sem,hk]
  exact o5 ⟨rfl,rfl⟩
 ·have hc:((a.draws.length:Int)<=0)=False:=eq_false (by omega)
  have hl:0 < a.draws.length:=by omega
  refine o8 [] [.tmp 4] 21 Tryz.func43 ?_;repeat' first|refine l9 ?_|simp -dsimp -implicitDefEqProofs (disch:=first|assumption|omega) only[go_sem,hk,hc,hl]|refine vcA ?_ ?_|omega
  exact o5 ⟨rfl,rfl⟩
theorem aj9{k:Nat}(e:Int)(s:Idn)(a:Ask)(x:Ans)(H:List AObj)(hk:H[k]?=some (.cells (.one 76) (ai5 s a x))):o7 Tryz.prog 44 [.mp k 0,.lit (.int .i64 e)] H (fun y H'=>y=.bool (decide (e≠0))/\H'=H.set k (.cells (.one 76) (ai5 s a (if e=0 then x else al5 e)))):=by
 by_cases h:e=0
 ·subst h
  rw[if_pos rfl,az2 hk];unfold ai5 at hk;refine o8 [] [.tmp 4] 14 Tryz.func44 ?_;repeat' first|refine l9 ?_|simp -dsimp -implicitDefEqProofs only[go_sem,hk]
  exact o5 ⟨rfl,rfl⟩
 ·rw[if_neg h,decide_eq_true h]
  have hf:=eq_false h;have hkl:=aa0 hk;unfold ai5 at hk;refine o8 [] [.tmp 4] 14 Tryz.func44 ?_;repeat' first|refine l9 ?_|simp -dsimp -implicitDefEqProofs only[go_sem,hk,hf]
  refine bP2 (ai5 s a (al5 e)) hkl ?_ (aa5 _ (Le.refl _) (by rw[List.length_set];exact xq0 _) ⟨rfl,rfl⟩)
  unfold ai5;repeat(first|exact LeAll.nil|(refine LeAll.cons ?_ ?_;focus(first|exact Le.refl _|exact ab7)))
end As
end
section
open Go V
namespace As
theorem d38{k:Nat}(s:Idn)(a:Ask)(H:List AObj)(hk:H[k]?=some (.cells (.one 76) (ai5 s a an0)))(hs:aq0 s.now=true):o7 Tryz.prog 25 [.mp k 0] H (fun y H'=>y=.tup []/\H'=H.set k (.cells (.one 76) (ai5 (aK4 s a).1 a (aK4 s a).2))):=by
 have c1:=fun H=>cj4 a.n H
 have hkl:=aa0 hk;cases ht:aq0 a.n with
 |false=>
  have hP:aK4 s a=(s,al5 1):=by unfold aK4;rw[ht];rfl
  rw[hP];rw[ht] at c1;have c2:=aj9 1 s a an0 H hk;rw[if_neg (by decide)] at c2
  unfold ai5 at hk;refine o8 [1000002] [] 27 Tryz.func25 ?_;repeat' first|refine l9 ?_|simp -dsimp -implicitDefEqProofs (disch:=omega) only[go_sem,hk]|refine l7 (c1 _) ?_|refine l7 (c2) ?_|fail
  exact aa5 _ (Le.refl _) (by rw[List.length_set];exact xq0 _) ⟨rfl,rfl⟩
 |true=>
  have hP:aK4 s a=({s with now:=min (s.now+a.n) 1099511627776},an0):=by unfold aK4;rw[ht];rfl
  rw[hP];rw[ht] at c1;unfold ai5 at hk;unfold aq0 at hs ht;simp only[decide_eq_true_eq] at hs ht;refine o8 [1000002] [] 27 Tryz.func25 ?_;repeat' first|refine l9 ?_|simp -dsimp -implicitDefEqProofs (disch:=omega) only[go_sem,hk]|refine l7 (c1 _) ?_|refine vcA ?_ ?_
  exact aa5 _ (Le.refl _) (by rw[List.length_set];exact xq0 _) ⟨rfl,rfl⟩
theorem eh6{k:Nat}(s:Idn)(a:Ask)(H:List AObj)(hk:H[k]?=some (.cells (.one 76) (ai5 s a an0)))(hw: ∀u∈s.users,u.agreed.length<=1100000):o7 Tryz.prog 54 [.mp k 0] H (fun y H'=>y=.tup [.str (al3 s.users a.token).1,.bool (!decide ((al3 s.users a.token).2≠0))]/\H'=H.set k (.cells (.one 76) (ai5 s a (if(al3 s.users a.token).2=0 then an0 else al5 (al3 s.users a.token).2)))):=by
 have c1:=fun H=>dZ8 s.users a.token H hw
 generalize al3 s.users a.token=r at*;have c2:=aj9 r.2 s a an0 H hk;generalize (if r.2=0 then an0 else al5 r.2)=x at*
 generalize decide (r.2≠0)=b at*;unfold ai5 at hk;refine o8 [1000001] [.tmp 2,.tmp 3] 25 Tryz.func54 ?_;repeat' first|refine l9 ?_|simp -dsimp -implicitDefEqProofs (disch:=omega) only[go_sem,hk]|refine⟨_,_,c1 _,?_⟩|refine l7 (c2) ?_|fail
 exact aa5 _ (Le.refl _) (by rw[List.length_set];exact xq0 _) ⟨rfl,rfl⟩
theorem cR0{k:Nat}(s:Idn)(a:Ask)(H:List AObj)(hk:H[k]?=some (.cells (.one 76) (ai5 s a an0)))(hw: ∀u∈s.users,u.agreed.length<=1100000):o7 Tryz.prog 12 [.mp k 0] H (fun y H'=>y=.tup []/\H'=H.set k (.cells (.one 76) (ai5 (bh8 s a).1 a (bh8 s a).2))):=by
 have hkl:=aa0 hk;have c1:=fun x H hk=>eb8 (k:=k) s a x H hk
 have c3:=fun H=>cZ1 s.users (aE8 a 0) a.mxid H hw
 have c2:=aj9 (al4 s.users (aE8 a 0) a.mxid).2 s a an0 H hk;by_cases h:(al4 s.users (aE8 a 0) a.mxid).2=0
 ·have hP:bh8 s a=({s with users:=(al4 s.users (aE8 a 0) a.mxid).1},{an0 with text:=aE8 a 0}):=if_pos h
  rw[hP];rw[if_pos h,az2 hk] at c2;rw[h] at c2 c3;clear hP h;generalize (al4 s.users (aE8 a 0) a.mxid).1=l at*;have c4:=c1 an0 H hk;generalize aE8 a 0=d at*;unfold ai5 at hk;refine o8 [1000000,1000000004006,1000000011006] [] 35 Tryz.func12 ?_;repeat' first|refine l9 ?_|simp -dsimp -implicitDefEqProofs (disch:=first|assumption|omega) only[go_sem,hk]|refine l7 (c4) ?_|refine⟨_,_,c4,?_⟩|refine⟨_,_,c3 _,?_⟩|refine l7 (c2) ?_|fail
  exact aa5 _ (Le.refl _) (by rw[List.length_set];exact xq0 _) ⟨rfl,rfl⟩
 ·have hP:bh8 s a=(s,al5 (al4 s.users (aE8 a 0) a.mxid).2):=if_neg h
  rw[hP];rw[if_neg h,decide_eq_true h] at c2;have c4:=c1 an0 H hk;generalize al4 s.users (aE8 a 0) a.mxid=r at*;generalize aE8 a 0=d at*;unfold ai5 at hk;refine o8 [1000000,1000000004006,1000000011006] [] 35 Tryz.func12 ?_;repeat' first|refine l9 ?_|simp -dsimp -implicitDefEqProofs (disch:=omega) only[go_sem,hk]|refine⟨_,_,c4,?_⟩|refine⟨_,_,c3 _,?_⟩|refine l7 (c2) ?_|fail
  exact aa5 _ (Le.refl _) (by rw[List.length_set];exact xq0 _) ⟨rfl,rfl⟩
theorem cK4{k:Nat}(s:Idn)(a:Ask)(x:Ans)(H:List AObj)(hk:H[k]?=some (.cells (.one 76) (ai5 s a x))):o7 Tryz.prog 44 [.mp k 0,.lit (.int .i64 0)] H (fun y H'=>y=.bool false/\H'=H):=by
 have c:=aj9 0 s a x H hk;rw[if_pos rfl,az2 hk] at c;exact c
theorem dW1{k:Nat}{e:Int}(h:e≠0)(s:Idn)(a:Ask)(x:Ans)(H:List AObj)(hk:H[k]?=some (.cells (.one 76) (ai5 s a x))):o7 Tryz.prog 44 [.mp k 0,.lit (.int .i64 e)] H (fun y H'=>y=.bool true/\H'=H.set k (.cells (.one 76) (ai5 s a (al5 e)))):=by
 have c:=aj9 e s a x H hk;rw[if_neg h,decide_eq_true h] at c;exact c
theorem cI7{s:Idn}{a:Ask}{x:Ans}{m:Nat}: ∀y∈ai5 s a x,Low m y:=by
 unfold ai5;repeat(first|exact fun y hy=>absurd hy (aJ2)|(refine List.forall_mem_cons.2 ⟨?_,?_⟩;focus(first|exact .lit _|exact .str _|exact ab2)))
theorem c05{l:List Usr}{t:bytes}(h:(al3 l t).2≠0):(al3 l t).1=[]:=by
 unfold al3 at h⊢;by_cases hk:(ad9 l t).2=0
 ·rw[if_pos hk] at h
  exact absurd rfl h
 ·rw[if_neg hk]
theorem dF3{k:Nat}(s:Idn)(a:Ask)(H:List AObj)(hk:H[k]?=some (.cells (.one 76) (ai5 s a an0)))(hw: ∀u∈s.users,u.agreed.length<=1100000):
  o7 Tryz.prog 47 [.mp k 0] H (fun y H'=>y=.tup [.str (al3 s.users a.token).1,.bool (decide ((al3 s.users a.token).2=0/\ar5 s.users a.token ab4=0))]/\H'=H.set k (.cells (.one 76) (ai5 s a (if(al3 s.users a.token).2=0 then(if ar5 s.users a.token ab4=0 then an0 else al5 (ar5 s.users a.token ab4)) else al5 (al3 s.users a.token).2)))):=by
 have hkl:=aa0 hk;have c1:=eh6 s a H hk hw;have c2:=fun H=>dI3 s.users a.token ab4 H hw (by decide)
 by_cases h:(al3 s.users a.token).2=0
 ·rw[if_pos h,az2 hk,h] at c1
  rw[if_pos h];generalize (al3 s.users a.token).1=m at*;have c3:=aj9 (ar5 s.users a.token ab4) s a an0 H hk;have hd:decide ((al3 s.users a.token).2=0/\ar5 s.users a.token ab4=0)=!decide (ar5 s.users a.token ab4≠0):=by
   rw[h];by_cases h2:ar5 s.users a.token ab4=0<;>simp[h2]
  rw[hd];clear hd h;generalize ar5 s.users a.token ab4=e at*;generalize (if e=0 then an0 else al5 e)=x at*
  generalize decide (e≠0)=b at*;unfold ai5 at hk;refine o8 [1000004] [.tmp 2,.tmp 3] 33 Tryz.func47 ?_;repeat' first|refine l9 ?_|simp -dsimp -implicitDefEqProofs (disch:=omega) only[go_sem,hk]|refine l7 (c1) ?_|refine⟨_,_,c2 _,?_⟩|refine⟨_,_,c3,?_⟩|fail
  exact aa5 _ (Le.refl _) (by rw[List.length_set];exact xq0 _) ⟨rfl,rfl⟩
 ·rw[if_neg h,decide_eq_true h] at c1
  rw[if_neg h,decide_eq_false fun q=>h q.1]
  have hm:=c05 h;rw[hm] at c1⊢;clear hm;generalize al3 s.users a.token=r at*;unfold ai5 at hk;refine o8 [1000004] [.tmp 2,.tmp 3] 33 Tryz.func47 ?_;repeat' first|refine l9 ?_|simp -dsimp -implicitDefEqProofs only[go_sem,hk]|refine l7 (c1) ?_|fail
  exact aa5 _ (Le.refl _) (by rw[List.length_set];exact xq0 _) ⟨rfl,rfl⟩
theorem di7{k:Nat}(s:Idn)(a:Ask)(H:List AObj)(hk:H[k]?=some (.cells (.one 76) (ai5 s a an0)))(hw: ∀u∈s.users,u.agreed.length<=1100000):
  o7 Tryz.prog 20 [.mp k 0] H (fun y H'=>y=.tup []/\H'=H.set k (.cells (.one 76) (ai5 (as8 ab4 s a).1 a (as8 ab4 s a).2))):=by
 have hkl:=aa0 hk;have c1:=dF3 s a H hk hw;by_cases h:(al3 s.users a.token).2=0
 ·by_cases h2:ar5 s.users a.token ab4=0
  ·rw[if_pos h,if_pos h2,az2 hk,decide_eq_true ⟨h,h2⟩] at c1
   have hP:as8 ab4 s a=(if(av1 s.pepper).2=0 then(s,{an0 with value:=(av1 s.pepper).1}) else(s,al5 (av1 s.pepper).2)):=by unfold as8;rw[if_pos h,if_pos h2]
   rw[hP];clear hP h h2;generalize (al3 s.users a.token).1=m at*;have c2:=fun H=>dm0 s.pepper H
   unfold ar2 at c2;by_cases h3:(av1 s.pepper).2=0
   ·rw[if_pos h3]
    have c5:=fun M (hM:(H++M)[k]?=some (.cells (.one 76) (ai5 s a an0)))=>cK4 s a an0 (H++M) hM
    rw[h3] at c2;clear h3;generalize (av1 s.pepper).1=v at*;have hk0:=hk;unfold ai5 at hk;refine o8 [] [] 31 Tryz.func20 ?_;repeat' first|refine l9 ?_|simp -dsimp -implicitDefEqProofs (disch:=first|assumption|omega|simp only[ll];omega) only[go_sem,hk]|refine l7 (c1) ?_|refine l7 (c2 _) ?_|refine l7 (c5 _ (by rw[xq4 hkl];exact hk0)) ?_|fail
    exact aS6 (ae2 aa4) (fun sh cs e=>by cases e;exact cI7 (s:=s) (a:=a) (x:={an0 with value:=v})) ⟨rfl,rfl⟩
   ·rw[if_neg h3]
    have c5:=fun M (hM:(H++M)[k]?=some (.cells (.one 76) (ai5 s a an0)))=>dW1 h3 s a an0 (H++M) hM
    generalize av1 s.pepper=r at*;have hk0:=hk;unfold ai5 at hk;refine o8 [] [] 31 Tryz.func20 ?_;repeat' first|refine l9 ?_|simp -dsimp -implicitDefEqProofs (disch:=first|assumption|omega) only[go_sem,hk]|refine l7 (c1) ?_|refine l7 (c2 _) ?_|refine l7 (c5 _ (by rw[xq4 hkl];exact hk0)) ?_|fail
    exact aS6 (ae2 aa4) (fun sh cs e=>by cases e;exact cI7 (s:=s) (a:=a) (x:=al5 r.2)) ⟨rfl,rfl⟩
  ·rw[if_pos h,if_neg h2,decide_eq_false fun q=>h2 q.2] at c1
   have hP:as8 ab4 s a=(s,al5 (ar5 s.users a.token ab4)):=by unfold as8;rw[if_pos h,if_neg h2]
   rw[hP];generalize (al3 s.users a.token).1=m at*;generalize ar5 s.users a.token ab4=e at*;unfold ai5 at hk;refine o8 [] [] 31 Tryz.func20 ?_;repeat' first|refine l9 ?_|simp -dsimp -implicitDefEqProofs only[go_sem,hk]|refine l7 (c1) ?_|fail
   exact aa5 _ (Le.refl _) (by rw[List.length_set];exact xq0 _) ⟨rfl,rfl⟩
 ·rw[if_neg h,decide_eq_false fun q=>h q.1] at c1
  have hP:as8 ab4 s a=(s,al5 (al3 s.users a.token).2):=by unfold as8;rw[if_neg h]
  rw[hP];generalize al3 s.users a.token=r at*;unfold ai5 at hk;refine o8 [] [] 31 Tryz.func20 ?_;repeat' first|refine l9 ?_|simp -dsimp -implicitDefEqProofs only[go_sem,hk]|refine l7 (c1) ?_|fail
  exact aa5 _ (Le.refl _) (by rw[List.length_set];exact xq0 _) ⟨rfl,rfl⟩
end As
end
section
open Go V
namespace As
theorem cZ8{o:Own}(d:AV)(H:List AObj):o7 Tryz.prog 114 [.sl o 1 [d]] H (fun y H'=>y=.sl o 1 [d]/\H'=H):=by
 refine o8 [1000006,1000011] [.tmp 2] 61 Tryz.func114 ?_;repeat' first|refine l9 ?_|simp -dsimp -implicitDefEqProofs only[go_sem]
 exact o5 ⟨rfl,rfl⟩
theorem df1{o:Own}(d:AV)(H:List AObj):o7 Tryz.prog 269 [.sl o 1 [d],.lit (.int .i64 0),.lit (.int .i64 1)] H (fun y H'=>y=.tup []/\H'=H):=by
 refine o8 [1000004,1000006] [] 49 Tryz.func269 ?_;repeat' simp -dsimp -implicitDefEqProofs (disch:=omega) only[go_sem]
 refine aa7 ab6 mixed [1000004,1000006] [0,1,2] (fun _:Unit=>True) (fun _=>[(6,.int .i64 1)]) (fun _=>H) (fun _=>0) (by kernel_rfl) ?_ () trivial aa3 rfl
 rintro⟨⟩ _
 repeat' first|refine l9 ?_|simp -dsimp -implicitDefEqProofs only[go_sem]
 exact o5 ⟨rfl,rfl⟩
theorem d59{o:Own}(d:AV)(n:Int)(H:List AObj):o7 Tryz.prog 198 [.sl o 1 [d],.lit (.int .i64 0),.lit (.int .i64 1),.lit (.int .i64 n)] H (fun y H'=>y=.tup []/\H'=H):=by
 refine o8 [1000017] [] 134 Tryz.func198 ?_;repeat' simp -dsimp -implicitDefEqProofs only[go_sem]
 refine aa7 ab6 mixed [1000017] [0] (fun _:Unit=>True) (fun _=>[(1,.lit (.int .i64 0)),(2,.lit (.int .i64 1))]) (fun _=>H) (fun _=>0) (by kernel_rfl) ?_ () trivial aa3 rfl
 rintro⟨⟩ _
 repeat' first|refine l9 ?_|simp -dsimp -implicitDefEqProofs (disch:=omega) only[go_sem]|refine l7 (df1 d _) ?_|fail
 exact o5 ⟨rfl,rfl⟩
theorem d24(H:List AObj):o7 Tryz.prog 199 [.lit (.int .u64 1)] H (fun y H'=>y=.lit (.int .i64 ((Lib.bitLen 1:Nat):Int))/\H'=H):=by
 have c1:=fun H=>cL7 1 H (by decide)
 generalize Lib.bitLen 1=n at*;refine o8 [] [.tmp 2] 8 Tryz.func199 ?_;repeat' first|refine l9 ?_|simp -dsimp -implicitDefEqProofs only[go_sem]|refine l7 (c1 _) ?_|fail
 exact o5 ⟨rfl,rfl⟩
theorem d02{o:Own}(d:AV)(H:List AObj):o7 Tryz.prog 113 [.sl o 1 [d]] H (fun y H'=>y=.tup []/\H'=H):=by
 have c1:=fun H=>d24 H
 generalize Lib.bitLen 1=n at*;refine o8 [] [] 11 Tryz.func113 ?_;repeat' first|simp -dsimp -implicitDefEqProofs (disch:=omega) only[go_sem]|refine l7 (c1 _) ?_|refine l7 (d59 d _ _) ?_|fail
 exact o5 ⟨rfl,rfl⟩
end As
end
section
open Go V
namespace As
theorem aW5{P:Program}{f:FuncId}{args:List AV}{H:List AObj}{R:AV->List AObj->Prop}{k:Nat}{sh:Shape}{cs cs':List AV}(hk:H[k]?=some (.cells sh cs))(hle:LeAll cs cs')(h:o7 P f args (H.set k (.cells sh cs')) R):o7 P f args H R:=fun G w vs hi ha=>by
 obtain⟨hi',st⟩:=leC hi hk hle;refine(h G w vs hi' ⟨ha.1,fun j x v ex ev=>(ha.2 j x v ex ev).mono st⟩).mono fun _ _ ⟨x,G',H',hi2,hs,hx,r⟩=>⟨x,G',H',hi2,st.trans hs,hx,r⟩
instance dat_ans (x:Ans):Dat (ap8 x):=inferInstanceAs (Dat (.agg [.lit (.int .i64 x.code),.str x.text,.lit (.int .i64 x.value.kind),.lit (.int .i64 x.value.num),.str x.value.text,.sl .sh 1 (x.value.names.map .str),.sl .sh 5 (x.value.items.map jAV),.str x.mwho.medium,.str x.mwho.wh,.lit (.int .i64 x.mid),.str x.mtok,.sl .sh 5 (x.blocks.map jAV)]))
def bp9(s:Idn)(a:Ask):List AV:=.lit (.int .i64 s.now)::.str s.pepper::.sl .sh 10 (s.sess.map aj2)::.sl .sh 3 (s.users.map af0)::.sl .sh 4 (s.bonds.map av3)::.sl .sh 7 (s.plgs.map aw4)::.str ag4::.str keyS::o6 5::o6 0::o6 0::o6 0::o6 0::o6 0::o6 0::o6 0::o6 0::o6 0::o6 0::o6 0::o6 0::o6 0::o6 0::o6 0::o6 0::o6 0::o6 0::o6 0::o6 0::o6 0::o6 0::o6 0::o6 0::o6 0::o6 0::o6 0::o6 0::o6 0::o6 0::o6 0::.sl .sh 1 (ab4.map .str)::.lit (.int .i64 a.kind)::.str a.token::.str a.secret::.str a.medium::.str a.wh::.str a.mxid::.str a.room::.str a.sender::.lit (.int .i64 a.id)::.lit (.int .i64 a.attempt)::.str a.code::.lit (.int .i64 a.n)::.sl .sh 1 (a.docs.map .str)::.sl .sh 1 (a.draws.map .str)::.str a.alg::.str a.pepper::.sl .sh 1 (a.addrs.map .str)::.lit (.int .i64 0)::.str []::.lit (.int .i64 0)::.lit (.int .i64 0)::.str []::.sl .full 0 []::.sl .full 0 []::.str []::.str []::.lit (.int .i64 0)::.str []::.sl .full 0 []::[]
theorem bI1{s:Idn}{a:Ask}:LeAll (bp9 s a) (ai5 s a an0):=by
 unfold bp9 ai5;repeat(first|exact LeAll.nil|(refine LeAll.cons ?_ ?_;focus(first|exact Le.refl _|exact ab7)))
theorem dL8{k:Nat}(s:Idn)(a:Ask)(H:List AObj)(hk:H[k]?=some (.cells (.one 76) (bp9 s a)))(hs:aq0 s.now=true):o7 Tryz.prog 25 [.mp k 0] H (fun y H'=>y=.tup []/\H'=H.set k (.cells (.one 76) (ai5 (aK4 s a).1 a (aK4 s a).2))):=by
 refine aW5 hk bI1 ?_;have:=d38 s a (H.set k (.cells (.one 76) (ai5 s a an0))) (aA0 (aa0 hk)) hs;rwa [List.set_set] at this
theorem bI0{e:Int}:Le (.agg [.lit (.int .i64 e),.str [],.lit (.int .i64 0),.lit (.int .i64 0),.str [],.sl .full 0 [],.sl .full 0 [],.str [],.str [],.lit (.int .i64 0),.str [],.sl .full 0 []]) (ap8 (al5 e)):=by
 unfold ap8;refine ak3 ?_;repeat(first|exact LeAll.nil|(refine LeAll.cons ?_ ?_;focus(first|exact Le.refl _|exact ab7)))
theorem aG4{x:AV}:List.replicate 16 x=[x,x,x,x,x,x,x,x,x,x,x,x,x,x,x,x]:=rfl
theorem cP8(s:Idn)(a:Ask)(H:List AObj)(hb:BdI s)(hk:a.kind=14):o7 Tryz.prog 6 [ac6,ae0 s,ai1 a] H (fun y H'=>y=.tup [ae0 (if aj8 s=true then(aK4 s a).1 else s),ap8 (if aj8 s=true then(aK4 s a).2 else al5 1)]/\H'=H):=by
 have c1:=fun H=>a05 H
 have c2:=fun H=>bh4 s H hb
 unfold ac6 at c1;unfold ae0 at c2;unfold ac6 ae0 ai1;rw[hk];cases hr:aj8 s with
 |false=>
  rw[hr] at c2;refine o8 [1000006,1000006007008] [.cell 6 27,.cell 7 41] 50 Tryz.func6 ?_;repeat' first|refine l9 ?_|simp -dsimp -implicitDefEqProofs (disch:=first|omega|simp only[ll];omega) only[go_sem,aG4,List.set_cons_zero,List.set_cons_succ,af4]|refine l7 (c1 _) ?_|refine l7 (c2 _) ?_|refine vcA ?_ ?_
  ·rfl
  ·refine aa1 (.tup [ae0 s,ap8 (al5 1)]) (ad6 (Le.refl _) bI0) (ae2 (o9 ab2 (o9 ab2 aa4))) ?_
   exact⟨rfl,rfl⟩
 |true=>
  rw[hr] at c2;have hs:aq0 s.now=true:=by unfold aj8 at hr;simp only[xq3] at hr;exact hr.1
  have c3:=fun k H hk=>dL8 (k:=k) s a H hk hs
  generalize aK4 s a=r at*;unfold bp9 ai5 o6 at c3;unfold o6 at c1;unfold o6;rw[hk] at c3;refine o8 [35,1000006,1000006007008] [.cell 6 27,.cell 7 41] 50 Tryz.func6 ?_;repeat' first|refine l9 ?_|simp -dsimp -implicitDefEqProofs (disch:=first|omega|simp only[ll];omega) only[go_sem,aG4,List.set_cons_zero,List.set_cons_succ,af4]|refine l7 (c1 _) ?_|refine l7 (c2 _) ?_|refine l7 (c3 _ _ (by rw[xq5 (by omega),au2];rfl)) ?_|refine vcA ?_ ?_
  all_goals try rfl
  ·exact xq0 6
  ·exact xq0 12
  ·exact aa1 (.tup [ae0 r.1,ap8 r.2]) (Le.refl (.tup [ae0 r.1,ap8 r.2])) (ae2 (o9 ab2 (o9 ab2 aa4))) ⟨rfl,rfl⟩
theorem cA6{k:Nat}(s:Idn)(a:Ask)(H:List AObj)(hk:H[k]?=some (.cells (.one 76) (bp9 s a)))(hs: ∀u∈s.users,u.agreed.length<=1100000):o7 Tryz.prog 12 [.mp k 0] H (fun y H'=>y=.tup []/\H'=H.set k (.cells (.one 76) (ai5 (bh8 s a).1 a (bh8 s a).2))):=by
 refine aW5 hk bI1 ?_;have:=cR0 s a (H.set k (.cells (.one 76) (ai5 s a an0))) (aA0 (aa0 hk)) hs;rwa [List.set_set] at this
theorem c62(s:Idn)(a:Ask)(H:List AObj)(hb:BdI s)(hk:a.kind=1):o7 Tryz.prog 6 [ac6,ae0 s,ai1 a] H (fun y H'=>y=.tup [ae0 (if aj8 s=true then(bh8 s a).1 else s),ap8 (if aj8 s=true then(bh8 s a).2 else al5 1)]/\H'=H):=by
 have c1:=fun H=>a05 H
 have c2:=fun H=>bh4 s H hb
 unfold ac6 at c1;unfold ae0 at c2;unfold ac6 ae0 ai1;rw[hk];cases hr:aj8 s with
 |false=>
  rw[hr] at c2;refine o8 [1000006,1000006007008] [.cell 6 27,.cell 7 41] 50 Tryz.func6 ?_;repeat' first|refine l9 ?_|simp -dsimp -implicitDefEqProofs (disch:=first|omega|simp only[ll];omega) only[go_sem,aG4,List.set_cons_zero,List.set_cons_succ,af4]|refine l7 (c1 _) ?_|refine l7 (c2 _) ?_|refine vcA ?_ ?_
  ·rfl
  ·refine aa1 (.tup [ae0 s,ap8 (al5 1)]) (ad6 (Le.refl _) bI0) (ae2 (o9 ab2 (o9 ab2 aa4))) ?_
   exact⟨rfl,rfl⟩
 |true=>
  rw[hr] at c2;have hs: ∀u∈s.users,u.agreed.length<=1100000:=hb.users;have c3:=fun k H hk=>cA6 (k:=k) s a H hk hs
  generalize bh8 s a=r at*;unfold bp9 ai5 o6 at c3;unfold o6 at c1;unfold o6;rw[hk] at c3;refine o8 [35,1000006,1000006007008] [.cell 6 27,.cell 7 41] 50 Tryz.func6 ?_;repeat' first|refine l9 ?_|simp -dsimp -implicitDefEqProofs (disch:=first|omega|simp only[ll];omega) only[go_sem,aG4,List.set_cons_zero,List.set_cons_succ,af4]|refine l7 (c1 _) ?_|refine l7 (c2 _) ?_|refine l7 (c3 _ _ (by rw[xq5 (by omega),au2];rfl)) ?_|refine vcA ?_ ?_
  all_goals try rfl
  ·exact xq0 6
  ·exact xq0 12
  ·exact aa1 (.tup [ae0 r.1,ap8 r.2]) (Le.refl (.tup [ae0 r.1,ap8 r.2])) (ae2 (o9 ab2 (o9 ab2 aa4))) ⟨rfl,rfl⟩
theorem cX6{k:Nat}(s:Idn)(a:Ask)(H:List AObj)(hk:H[k]?=some (.cells (.one 76) (bp9 s a)))(hs: ∀u∈s.users,u.agreed.length<=1100000):o7 Tryz.prog 20 [.mp k 0] H (fun y H'=>y=.tup []/\H'=H.set k (.cells (.one 76) (ai5 (as8 ab4 s a).1 a (as8 ab4 s a).2))):=by
 refine aW5 hk bI1 ?_;have:=di7 s a (H.set k (.cells (.one 76) (ai5 s a an0))) (aA0 (aa0 hk)) hs;rwa [List.set_set] at this
theorem c63(s:Idn)(a:Ask)(H:List AObj)(hb:BdI s)(hk:a.kind=9):o7 Tryz.prog 6 [ac6,ae0 s,ai1 a] H (fun y H'=>y=.tup [ae0 (if aj8 s=true then(as8 ab4 s a).1 else s),ap8 (if aj8 s=true then(as8 ab4 s a).2 else al5 1)]/\H'=H):=by
 have c1:=fun H=>a05 H
 have c2:=fun H=>bh4 s H hb
 unfold ac6 at c1;unfold ae0 at c2;unfold ac6 ae0 ai1;rw[hk];cases hr:aj8 s with
 |false=>
  rw[hr] at c2;refine o8 [1000006,1000006007008] [.cell 6 27,.cell 7 41] 50 Tryz.func6 ?_;repeat' first|refine l9 ?_|simp -dsimp -implicitDefEqProofs (disch:=first|omega|simp only[ll];omega) only[go_sem,aG4,List.set_cons_zero,List.set_cons_succ,af4]|refine l7 (c1 _) ?_|refine l7 (c2 _) ?_|refine vcA ?_ ?_
  ·rfl
  ·refine aa1 (.tup [ae0 s,ap8 (al5 1)]) (ad6 (Le.refl _) bI0) (ae2 (o9 ab2 (o9 ab2 aa4))) ?_
   exact⟨rfl,rfl⟩
 |true=>
  rw[hr] at c2;have hs: ∀u∈s.users,u.agreed.length<=1100000:=hb.users;have c3:=fun k H hk=>cX6 (k:=k) s a H hk hs
  generalize as8 ab4 s a=r at*;unfold bp9 ai5 o6 at c3;unfold o6 at c1;unfold o6;rw[hk] at c3;refine o8 [35,1000006,1000006007008] [.cell 6 27,.cell 7 41] 50 Tryz.func6 ?_;repeat' first|refine l9 ?_|simp -dsimp -implicitDefEqProofs (disch:=first|omega|simp only[ll];omega) only[go_sem,aG4,List.set_cons_zero,List.set_cons_succ,af4]|refine l7 (c1 _) ?_|refine l7 (c2 _) ?_|refine l7 (c3 _ _ (by rw[xq5 (by omega),au2];rfl)) ?_|refine vcA ?_ ?_
  all_goals try rfl
  ·exact xq0 6
  ·exact xq0 12
  ·exact aa1 (.tup [ae0 r.1,ap8 r.2]) (Le.refl (.tup [ae0 r.1,ap8 r.2])) (ae2 (o9 ab2 (o9 ab2 aa4))) ⟨rfl,rfl⟩
end As
end
section
open Go V
namespace As
theorem cx5{cs:List AV}{n:Nat}:af4 cs n []=cs:=rfl
theorem dx5{s t:Nat}:Le (.sl .full s []) (.sl .full t []):=fun _ _ _ _ h=>by
 cases h with
 |sl _ _ _ a len cap val hl hcap hs hc hr hf ha ho=>
  exact .sl .full t [] a len cap val hl hcap (fun x hx=>by cases hx) (fun j x e=>by simp[aa2] at e) (fun j x e=>by simp[aa2] at e) hf ha (fun k e=>by cases e)
theorem d15(H:List AObj):o7 Tryz.prog 197 [.sl .full 1 [],.lit (.int .i64 1)] H (fun y H'=> ∃z,y=.msl H.length 0 0 (1+z)/\H'=H++[.cells (.raw 9) (List.replicate (1+z) .any)]):=by
 refine o8 [] [.tmp 4] 27 Tryz.func197 ?_;repeat' first|refine l9 ?_|simp -dsimp -implicitDefEqProofs (disch:=omega) only[go_sem,List.take_nil]
 intro z;have hz:(((1+z:Nat):Int)=0)=False:=eq_false (by omega)
 repeat' simp -dsimp -implicitDefEqProofs only[go_sem,hz,aO5]
 exact aq9 ⟨z,rfl,rfl⟩
theorem d16(H:List AObj):o7 Tryz.prog 197 [.sl .full 0 [],.lit (.int .i64 1)] H (fun y H'=> ∃z,y=.msl H.length 0 0 (1+z)/\H'=H++[.cells (.raw 9) (List.replicate (1+z) .any)]):=by
 refine o7.weak (d15 H) rfl fun j x y e1 e2=>?_
 match j,e1,e2 with
 |0,rfl,rfl=>exact dx5
 |1,rfl,rfl=>exact Le.refl _
theorem dm1(d:bytes)(H:List AObj):o7 Tryz.prog 112 [.sl .full 1 [.sl .sh 1 [],.sl .sh 1 [.str d]]] H (fun y H'=>y=.sl .sh 1 [.str d]/\H'=H):=by
 refine o8 [] [.tmp 2] 36 Tryz.func112 ?_;repeat' simp -dsimp -implicitDefEqProofs only[go_sem]
 refine aa7 ab6 mixed [] [0,2,9,10] (fun i:Nat=>i<=2) (fun i=>[(11,.lit (.int .i64 (i:Int))),(3,.lit (.int .i64 (if i=2 then 1 else 0)))]) (fun _=>H) (fun i=>2 - i) (by kernel_rfl) ?_ 0 (by omega) aa3 rfl
 intro i hi;obtain rfl|rfl|rfl:i=0\/i=1\/i=2:=by omega
 ·repeat' first|refine l9 ?_|simp -dsimp -implicitDefEqProofs (disch:=omega) only[go_sem]
  refine again (1) ?_ ?_ rfl aa3
  ·omega
  ·omega
 ·repeat' first|refine l9 ?_|simp -dsimp -implicitDefEqProofs (disch:=omega) only[go_sem]
  refine again (2) ?_ ?_ rfl aa3
  ·omega
  ·omega
 ·repeat' first|refine l9 ?_|simp -dsimp -implicitDefEqProofs only[go_sem]
  refine o7.mono (d16 H) ?_;rintro _ _ ⟨z,rfl,rfl⟩
  repeat' simp -dsimp -implicitDefEqProofs only[go_sem]
  refine aa7 ab6 mixed [] [2,25,26] (fun i:Nat=>i<=2) (fun i=>[(27,.lit (.int .i64 (i:Int))),(6,.msl H.length 0 (if i=2 then 1 else 0) (1+z))]) (fun i=>H++[.cells (.raw 9) (if i=2 then .str d::List.replicate z .any else List.replicate (1+z) .any)]) (fun i=>2 - i) (by kernel_rfl) ?_ 0 (by omega) aa3 rfl
  intro i hi;obtain rfl|rfl|rfl:i=0\/i=1\/i=2:=by omega
  ·repeat' first|refine l9 ?_|simp -dsimp -implicitDefEqProofs (disch:=omega) only[go_sem,cx5]|refine vcA ?_ ?_|omega
   refine again (1) ?_ ?_ ?_ aa3
   ·omega
   ·omega
   ·simp[cx5,aa2]
  ·repeat' first|refine l9 ?_|simp -dsimp -implicitDefEqProofs (disch:=omega) only[go_sem]|refine vcA ?_ ?_|omega
   refine again (2) ?_ ?_ ?_ aa3
   ·omega
   ·omega
   ·simp[aa2,af4,Nat.add_comm 1 z,cM7]
    rfl
  ·repeat' first|refine l9 ?_|simp -dsimp -implicitDefEqProofs only[go_sem]
   refine ap1 (H':=[]) (k:=H.length) aH4 (aN9 (s:=1) (xs:=[.str d]) aH4 rfl (fun x hx=>by rw[aT1.1 hx];exact⟨rfl,rfl⟩) rfl) ?_
   rw[aP0];exact aa1 _ (Le.refl _) (ab5 (f:=AV.str) (l:=[d])) ⟨rfl,rfl⟩
theorem bO7{H:List AObj}{k:Nat}{a a' b b':AV}(h:Frz1 H k a a')(h':Frz1 H k b b':=by exact .keep _):Frz1 H k (.tup [a,b]) (.tup [a',b']):=.tup _ _ rfl fun j c d e1 e2=>by
 match j,e1,e2 with
 |0,rfl,rfl=>exact h
 |1,rfl,rfl=>exact h'
theorem cv3{l:List Usr}{i:Nat}(ag:List bytes)(h:i < l.length):(aa2 (l.map af0)).set (i*3+2) (.sl .sh 1 (ag.map .str))=aa2 ((l.set i {l.getD i ah3 with agreed:=ag}).map af0):=by
 induction l generalizing i with
 |nil=>cases h
 |cons u r ih=>
  cases i with
  |zero=>rfl
  |succ i=>
   have e:(i+1)*3+2=(af0 u).flat.length+(i*3+2):=by show _=3+_;omega
   rw[List.map_cons,ag6,e,az0 _ _ (by omega),au2,ih (by simpa using h)]
   rfl
theorem cb5{l:List Usr}{t d:bytes}(hk:(ad9 l t).2=0)(hd:ah9 d=true)(ha:(l.getD (ad9 l t).1 ah3).agreed=[]):bb7 l t [d]=(l.set (ad9 l t).1 {l.getD (ad9 l t).1 ah3 with agreed:=[d]},0):=by
 unfold bb7;rw[if_pos hk,ha];have h1:([d]:List bytes).all ah9=true:=by simp[hd]
 rw[if_pos h1];rfl
theorem cU0(s:bytes)(H:List AObj):o7 Tryz.prog 111 [.str s] H (fun y H'=>y=.bool (!ah9 s)/\H'=H):=by
 have c1:=fun H=>bN1 s H
 generalize ah9 s=b at*;refine o8 [] [.tmp 2] 6 Tryz.func111 ?_;repeat' first|simp -dsimp -implicitDefEqProofs only[go_sem]|refine l7 (c1 _) ?_|fail
 exact o5 ⟨rfl,rfl⟩
theorem dI4(l:List Usr)(t d:bytes)(H:List AObj)(hw: ∀u∈l,u.agreed.length<=1100000)(hk:(ad9 l t).2=0)(hd:ah9 d=true)(ha:(l.getD (ad9 l t).1 ah3).agreed=[]):o7 Tryz.prog 46 [.sl .sh 3 (l.map af0),.str t,.sl .sh 1 ([d].map .str)] H (fun y H'=>y=.tup [.sl .sh 3 ((bb7 l t [d]).1.map af0),.lit (.int .i64 0)]/\H'=H):=by
 have c1:=fun H=>b55 l t H hw
 have c2:=fun H=>b71 (o:=.sh) 111 [] (fun s=>!ah9 s) [d] H (by simp) (fun x _=>cU0 x H)
 have hany:([d]:List bytes).any (fun s=>!ah9 s)=false:=by simp[hd]
 rw[hany] at c2;have hlt:=bw3 hk;have hlen:=bD1 hk;rw[hk] at c1;rw[cb5 hk hd ha];have hf:=cv3 [d] hlt;generalize (ad9 l t).1=i at*;have hne:l.map af0≠[]:=fun e=>by rw[cM5] at e;rw[e] at hlt;cases hlt
 have c3:=fun H=>dm1 d H
 have c4:=fun H=>d02 (o:=.sh) (.str d) H
 have c5:=fun H=>cZ8 (o:=.sh) (.str d) H
 have c6:=cL9 (xs:=l.map af0) (H:=H) be8 hne (by simp;omega)
 have hfl:(aa2 (l.map af0)).length=l.length*3:=by rw[af5 (s:=3) fun y hy=>(be8 y hy).1,List.length_map]
 rw[List.map_cons,List.map_nil] at hf;refine o8 [] [.tmp 6,.tmp 7] 50 Tryz.func46 ?_;repeat' first|refine l9 ?_|simp -dsimp -implicitDefEqProofs (disch:=first|assumption|omega) only[go_sem,hlt,ha,hfl]|refine l7 (c1 _) ?_|refine l7 (c2 _) ?_|refine l7 (c3 _) ?_|refine l7 (c4 _) ?_|refine l7 (c5 _) ?_|refine l7 (c6) ?_|refine vcA ?_ ?_|omega
 rw[hf];have hk:(H++[AObj.cells (.prow 3) (aa2 ((l.set i {l.getD i ah3 with agreed:=[d]}).map af0))])[H.length]?=some (.cells (.prow 3) (aa2 ((l.set i {l.getD i ah3 with agreed:=[d]}).map af0))):=aH4;refine ap1 (H':=[]) (k:=H.length) hk (bO7 (bs7 hk (by simp) be8 rfl)) ?_
 rw[aP0];exact aa1 _ (Le.refl _) (ae2 (o9 ab5 (o9 (.lit _) aa4))) ⟨rfl,rfl⟩
structure FirstA(s:Idn)(a:Ask)(d:bytes):Prop where
 docs:a.docs=[d]
 known:(ad9 s.users a.token).2=0
 plain:ah9 d=true
 none:(s.users.getD (ad9 s.users a.token).1 ah3).agreed=[]
theorem dZ7{k:Nat}(s:Idn)(a:Ask)(d:bytes)(H:List AObj)(hk:H[k]?=some (.cells (.one 76) (ai5 s a an0)))(hw: ∀u∈s.users,u.agreed.length<=1100000)(hf:FirstA s a d):o7 Tryz.prog 14 [.mp k 0] H (fun y H'=>y=.tup []/\H'=H.set k (.cells (.one 76) (ai5 (aM7 s a).1 a (aM7 s a).2))):=by
 have hkl:=aa0 hk;obtain⟨h1,h2,h3,h4⟩:=hf;have c3:=fun H=>dI4 s.users a.token d H hw h2 h3 h4
 have hP:aM7 s a=({s with users:=(bb7 s.users a.token [d]).1},an0):=by
  unfold aM7;rw[h1,cb5 h2 h3 h4,if_pos rfl]
 have c2:=cK4 s a an0 H hk;rw[hP];clear hP;rw[List.map_cons,List.map_nil] at c3;generalize (bb7 s.users a.token [d]).1=l at*;unfold ai5 at hk⊢;rw[h1] at hk⊢;refine o8 [1000000] [] 32 Tryz.func14 ?_;repeat' first|refine l9 ?_|simp -dsimp -implicitDefEqProofs (disch:=omega) only[go_sem,hk]|refine⟨_,_,c3 _,?_⟩|refine l7 (c2) ?_|fail
 exact aa5 _ (Le.refl _) (by rw[List.length_set];exact xq0 _) ⟨rfl,rfl⟩
theorem dF4{k:Nat}(s:Idn)(a:Ask)(d:bytes)(H:List AObj)(hk:H[k]?=some (.cells (.one 76) (bp9 s a)))(hs: ∀u∈s.users,u.agreed.length<=1100000)(hf:FirstA s a d):o7 Tryz.prog 14 [.mp k 0] H (fun y H'=>y=.tup []/\H'=H.set k (.cells (.one 76) (ai5 (aM7 s a).1 a (aM7 s a).2))):=by
 refine aW5 hk bI1 ?_;have:=dZ7 s a d (H.set k (.cells (.one 76) (ai5 s a an0))) (aA0 (aa0 hk)) hs hf;rwa [List.set_set] at this
theorem c65(s:Idn)(a:Ask)(d:bytes)(H:List AObj)(hb:BdI s)(hk:a.kind=3)(hf:FirstA s a d):o7 Tryz.prog 6 [ac6,ae0 s,ai1 a] H (fun y H'=>y=.tup [ae0 (if aj8 s=true then(aM7 s a).1 else s),ap8 (if aj8 s=true then(aM7 s a).2 else al5 1)]/\H'=H):=by
 have c1:=fun H=>a05 H
 have c2:=fun H=>bh4 s H hb
 unfold ac6 at c1;unfold ae0 at c2;unfold ac6 ae0 ai1;rw[hk];cases hr:aj8 s with
 |false=>
  rw[hr] at c2;refine o8 [1000006,1000006007008] [.cell 6 27,.cell 7 41] 50 Tryz.func6 ?_;repeat' first|refine l9 ?_|simp -dsimp -implicitDefEqProofs (disch:=first|omega|simp only[ll];omega) only[go_sem,aG4,List.set_cons_zero,List.set_cons_succ,af4]|refine l7 (c1 _) ?_|refine l7 (c2 _) ?_|refine vcA ?_ ?_
  ·rfl
  ·refine aa1 (.tup [ae0 s,ap8 (al5 1)]) (ad6 (Le.refl _) bI0) (ae2 (o9 ab2 (o9 ab2 aa4))) ?_
   exact⟨rfl,rfl⟩
 |true=>
  rw[hr] at c2;have hs: ∀u∈s.users,u.agreed.length<=1100000:=hb.users;have c3:=fun k H hk=>dF4 (k:=k) s a d H hk hs hf
  generalize aM7 s a=r at*;unfold bp9 ai5 o6 at c3;unfold o6 at c1;unfold o6;rw[hk] at c3;refine o8 [35,1000006,1000006007008] [.cell 6 27,.cell 7 41] 50 Tryz.func6 ?_;repeat' first|refine l9 ?_|simp -dsimp -implicitDefEqProofs (disch:=first|omega|simp only[ll];omega) only[go_sem,aG4,List.set_cons_zero,List.set_cons_succ,af4]|refine l7 (c1 _) ?_|refine l7 (c2 _) ?_|refine l7 (c3 _ _ (by rw[xq5 (by omega),au2];rfl)) ?_|refine vcA ?_ ?_
  all_goals try rfl
  ·exact xq0 6
  ·exact xq0 12
  ·exact aa1 (.tup [ae0 r.1,ap8 r.2]) (Le.refl (.tup [ae0 r.1,ap8 r.2])) (ae2 (o9 ab2 (o9 ab2 aa4))) ⟨rfl,rfl⟩
end As
end
section
open Go V
namespace As
theorem jle(k n:Int)(t:bytes)(is:List JV){o:Own}{x y:AV}(hx:Le x (.sl .sh 1 []))(hy:Le y (.sl .sh 5 (is.map jAV))):Le (.agg [.lit (.int .i64 k),.lit (.int .i64 n),.str t,x,y]) (jAV (.mk k n t [] is)):=by
 rw[az6];exact ak3 (LeAll.cons (Le.refl _) (LeAll.cons (Le.refl _) (LeAll.cons (Le.refl _) (LeAll.cons hx (LeAll.cons hy LeAll.nil)))))
theorem b35(s:bytes)(H:List AObj):o7 Tryz.prog 66 [.str s] H (fun y H'=>y=jAV (ac5 s)/\H'=H):=by
 refine o8 [] [.cell 2 35] 5 Tryz.func66 ?_;repeat' simp -dsimp -implicitDefEqProofs (disch:=(simp only[ll];omega)) only[go_sem]
 exact aa1 (jAV (ac5 s)) (jle 4 0 s [] (o:=.sh) ab7 ab7) (ab1 _) ⟨rfl,rfl⟩
theorem b84(n:Int)(H:List AObj):o7 Tryz.prog 86 [.lit (.int .i64 n)] H (fun y H'=>y=jAV (aC2 n)/\H'=H):=by
 refine o8 [] [.cell 2 35] 5 Tryz.func86 ?_;repeat' simp -dsimp -implicitDefEqProofs (disch:=(simp only[ll];omega)) only[go_sem]
 exact aa1 (jAV (aC2 n)) (jle 3 n [] [] (o:=.sh) ab7 ab7) (ab1 _) ⟨rfl,rfl⟩
theorem bM2{o:Own}(l:List bytes)(H:List AObj)(hl:l.length<=1000000):o7 Tryz.prog 87 [.sl o 1 (l.map .str)] H (fun y H'=>y=jAV (bq9 l)/\H'=H):=by
 have c1:=fun s H=>b35 s H
 refine o8 [1000005,1000005001003] [.cell 2 35] 22 Tryz.func87 ?_;repeat' simp -dsimp -implicitDefEqProofs only[go_sem]
 refine bP5 (H.length+1) 4 5 (by simp;exact⟨rfl,rfl⟩) rfl (by decide) ?_
 refine aa7 ab6 mixed [1000005,1000005001003] [2,3,7,8] (fun i:Nat=>i<=l.length) (fun i=>[(9,.lit (.int .i64 (i:Int)))]) (fun i=>H++[.cells (.one 35) [.lit (.int .i64 0),.lit (.int .i64 0),.str [],.sl .full 0 [],.sl .full 0 []],.cells (.one 35) [.lit (.int .i64 5),.lit (.int .i64 0),.str [],.sl .full 0 [],.sl (.tok (H.length+2)) 5 (((l.take i).map ac5).map jAV)],.grow 5 i none]) (fun i=>l.length - i) (by kernel_rfl) ?_ 0 (by omega) aa3 (by simp)
 intro i hi;by_cases h:i < l.length
 ·have hc:((i:Int) < (l.length:Int))=True:=eq_true (by omega)
  have hm:((l.take i).map ac5).map jAV++[jAV (ac5 (l.getD i []))]=((l.take (i+1)).map ac5).map jAV:=by
   rw[bn9 h,aJ3,aJ3,List.getD,xq1 h];rfl
  have hl0:(((l.take i).map ac5).map jAV).length=i:=by simp;omega
  generalize hL0:((l.take i).map ac5).map jAV=L0 at*;repeat' first|refine l9 ?_|simp -dsimp -implicitDefEqProofs (disch:=first|assumption|omega|simp only[ll];omega) only[go_sem,hc,hm,hl0]|refine⟨_,_,c1 _ _,?_⟩|refine vcA ?_ ?_|omega
  refine again (i+1) ?_ ?_ ?_ aa3
  ·omega
  ·omega
  ·rfl
 ·obtain rfl:i=l.length:=by omega
  have hc:((l.length:Int) < (l.length:Int))=False:=eq_false (by omega)
  rw[aL1];repeat' first|refine l9 ?_|simp -dsimp -implicitDefEqProofs (disch:=(simp only[ll];omega)) only[go_sem,hc]
  exact aa1 (jAV (bq9 l)) (jle 5 0 [] (l.map ac5) (o:=.sh) ab7 as4) (ab1 _) ⟨rfl,rfl⟩
def bB3(p:bytes×Int):AV:=.tup [.sl .sh 1 (p.1.map o6),.lit (.int .i64 p.2)]
instance dat_rowE (p:bytes×Int):Dat (bB3 p):=inferInstanceAs (Dat (.tup [.sl .sh 1 (p.1.map o6),.lit (.int .i64 p.2)]))
theorem dI9{o:Own}(l:List JV)(H:List AObj)(hs:aF1 l<=39999):o7 Tryz.prog 85 [.sl o 5 (l.map jAV)] H (fun y H'=>y=bB3 (rowP l)/\H'=H):=by
 have c1:=fun H=>o7.weak (args:=[.agg [.lit (.int .i64 5),.lit (.int .i64 0),.str [],.sl .full 0 [],.sl o 5 (l.map jAV)]]) (d04 (.mk 5 0 [] [] l) H (by unfold am5;simp;omega)) rfl (fun j x y e1 e2=>by
  match j,e1,e2 with
  |0,rfl,rfl=>exact jle 5 0 [] l (o:=.sh) ab7 as4)
 unfold rowP;generalize aU9 (.mk 5 0 [] [] l)=q at*;unfold cI1 at c1;unfold bB3;by_cases h0:q.2=0
 ·rw[if_pos h0]
  rw[h0] at c1;by_cases h1:q.1.length<=4096
  ·have f1:(4096 < (q.1.length:Int))=False:=eq_false (by omega)
   rw[if_pos h1];refine o8 [] [.tmp 2,.tmp 3] 22 Tryz.func85 ?_;repeat' first|refine l9 ?_|simp -dsimp -implicitDefEqProofs only[go_sem,f1,cL1]|refine l7 (c1 _) ?_|fail
   exact o5 ⟨rfl,rfl⟩
  ·have f1:(4096 < (q.1.length:Int))=True:=eq_true (by omega)
   rw[if_neg h1];refine o8 [] [.tmp 2,.tmp 3] 22 Tryz.func85 ?_;repeat' first|refine l9 ?_|simp -dsimp -implicitDefEqProofs only[go_sem,f1]|refine l7 (c1 _) ?_|fail
   exact bI5 _ (ad6 ab7 (Le.refl _)) ⟨rfl,rfl⟩
 ·rw[if_neg h0]
  have f0:=eq_false h0;refine o8 [] [.tmp 2,.tmp 3] 22 Tryz.func85 ?_;repeat' first|refine l9 ?_|simp -dsimp -implicitDefEqProofs only[go_sem,f0]|refine l7 (c1 _) ?_|fail
  exact bI5 _ (ad6 ab7 (Le.refl _)) ⟨rfl,rfl⟩
theorem cy0(a:Ask)(H:List AObj)(hs:aF1 (bP6 a)<=39999)(h1:a.docs.length<=1000000)(h2:a.draws.length<=1000000)(h3:a.addrs.length<=1000000):o7 Tryz.prog 36 [ai1 a] H (fun y H'=>y=bB3 (am8 a)/\H'=H):=by
 have c1:=fun s H=>b35 s H
 have c2:=fun n H=>b84 n H
 have c3:=fun H=>bM2 (o:=.sh) a.docs H h1
 have c4:=fun H=>bM2 (o:=.sh) a.draws H h2
 have c5:=fun H=>bM2 (o:=.sh) a.addrs H h3
 have c6:=fun H=>dI9 (o:=.full) (bP6 a) H hs
 unfold am8;generalize rowP (bP6 a)=q at*;unfold bB3 at*;unfold bP6 at c6;simp only[List.map_cons,List.map_nil] at c6;unfold ai1;refine o8 [] [.tmp 2,.tmp 3] 63 Tryz.func36 ?_;repeat' first|refine l9 ?_|simp -dsimp -implicitDefEqProofs (disch:=omega) only[go_sem,ao5,an7,List.drop_zero,an6]|refine⟨_,c1 _ _,?_⟩|refine⟨_,c2 _ _,?_⟩|refine⟨_,c3 _,?_⟩|refine⟨_,c4 _,?_⟩|refine⟨_,c5 _,?_⟩|refine⟨_,c6 _,?_⟩|fail
 exact aa1 _ (Le.refl _) ab2 ⟨rfl,rfl⟩
end As
end
end Go.Proofs.YtdkpdjfimckdgaaGreatDoor
