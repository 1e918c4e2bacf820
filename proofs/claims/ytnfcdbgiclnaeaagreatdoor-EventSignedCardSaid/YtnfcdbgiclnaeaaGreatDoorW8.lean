/- seal.Sign. -/
import Derived.Test.YtnfcdbgiclnaeaaGreatDoorW7
import Derived.Test.YtnfcdbgiclnaeaaGreatDoorW3
import Derived.Test.YtnfcdbgiclnaeaaGreatDoorCards
import Derived.Test.YtnfcdbgiclnaeaaGreatDoorTie
import Derived.ProofKit
import Derived.OpenShut
import Derived.Shelf.Vars
import Derived.Deep.DeepWitnessRowRef
set_option linter.unusedVariables false
set_option linter.unusedSimpArgs false
set_option maxRecDepth 100000
set_option maxHeartbeats 4000000
namespace Go.Proofs.YtnfcdbgiclnaeaaGreatDoor
section
open Go V
namespace V
theorem em6{P:Program}{L:Tab}{n:Nat}{a b:Code}{Q:Exit->Env->List AObj->Prop}{env:Env}{H:List AObj}(hL:ac6 P L)(hm:P.follows .mixedOrders=true)(mu:List Nat)(E0:Env)(H0:List AObj)(ho:okC mu n a=true)
  (h1:vcC P L mu n a (Ex (fun env' H'=>aG1 env' E0/\H'=H0) Q) env H) (h2:AW P n b Q E0 H0):AW P n (.seq a b) Q env H:=
 by5 ((ai8 hL hm a ho h1).mono fun e env' H' q=>by
  cases e with
  |normal=>
   obtain⟨q1,rfl⟩:=q;exact fun ro N ds G a w s=>h2 ro N ds G a w (s.le q1)
  |_=>exact q)
end V
namespace Se
def aW7(v:JV)(server key:bytes)(seed:List UInt8):JV×Int:=
 if(aC1 v&&(Id.aU4 server&&ck7 key))=true then
  (if(ap3 v).2=0 then
   (if(!(ag6 (ab3 v) server).2&&decide ((ab3 v).items.length=8)||!(ad3 (ag6 (ab3 v) server).1 key).isSome&&decide ((ag6 (ab3 v) server).1.items.length=8))=true then(aa4,10)
    else if(ae8 (ag6 (ab3 v) server).1 key (ac7 (ae7 ad6 (Ed.az0 seed (ap3 v).1)))).2=0 then
     (if(ae8 (ab3 v) server (ae8 (ag6 (ab3 v) server).1 key (ac7 (ae7 ad6 (Ed.az0 seed (ap3 v).1)))).1).2=0 then
      ae8 v ac3 (ae8 (ab3 v) server (ae8 (ag6 (ab3 v) server).1 key (ac7 (ae7 ad6 (Ed.az0 seed (ap3 v).1)))).1).1
      else(aa4,(ae8 (ab3 v) server (ae8 (ag6 (ab3 v) server).1 key (ac7 (ae7 ad6 (Ed.az0 seed (ap3 v).1)))).1).2))
    else(aa4,(ae8 (ag6 (ab3 v) server).1 key (ac7 (ae7 ad6 (Ed.az0 seed (ap3 v).1)))).2))
   else(aa4,(ap3 v).2))
 else(aa4,1)
theorem cL1(v:JV)(server key:bytes)(seed:List UInt8)(H:List AObj)(hv:aa1 v<=18000)(h1:server.length<=1000)(h2:key.length<=1000)(hd:seed.length=32):o9 Tryz.prog 46 [jAV v,.str server,.str key,.agg (seed.map o8)] H (fun y H'=>y=af4 (aW7 v server key seed)/\H'=H):=by
 have c0:=fun z=>dm1 (k:=H.length+1) (v:=v) (H++[z,at7 v [.lit (.int .i64 0),.lit (.int .i64 0),.str [],.sl .full 0 [],.sl .full 0 [],.sl .full 0 []]]) (by omega) (ae6 (o:=.full) (fun k e=>by cases e)) (by rw[az9];rfl)
 have c1f:al4 v=false-> ∀z,o9 Tryz.prog 52 [.mp (H.length+1) 0] (H++[z,at7 v [.lit (.int .i64 0),.lit (.int .i64 0),.str [],.sl .full 0 [],.sl .full 0 [],.sl .full 0 []]]) (fun y H'=>y=.bool false/\H'=H++[z,at7 v [.lit (.int .i64 0),.lit (.int .i64 0),.str [],.sl .full 0 [],.sl .full 0 [],.sl .full 0 []]]):=fun h z=>(c0 z).mono fun x H' e=>⟨by rw[e.1,aC1,h];rfl,by rw[e.2,h];rfl⟩
 have c1t:al4 v=true-> ∀z,o9 Tryz.prog 52 [.mp (H.length+1) 0] (H++[z,at7 v [.lit (.int .i64 0),.lit (.int .i64 0),.str [],.sl .full 0 [],.sl .full 0 [],.sl .full 0 []]]) (fun y H'=>y=.bool (aC1 v)/\H'=H++[z,at7 v (ad9 (ab3 v)++[.sl .full 0 []])]):=fun h z=>(c0 z).mono fun x H' e=>⟨e.1,by rw[e.2,h,if_pos rfl,aY0];rfl⟩
 clear c0;have hob:aC1 v=true->al4 v=true:=fun h=>by
  unfold aC1 at h;simp only[xq3] at h;exact h.1
 have c2:=fun H=>Id.bF4 server H (by omega)
 have c3:=fun H=>et8 key H (by omega)
 have c4:=fun H=>cr7 v H (by omega)
 have hsg:aa1 (ab3 v)<=18000:=by
  have:=ay7 (v:=v) (s:=ac3);unfold ab3;cases hg:ad3 v ac3 with
  |none=>decide
  |some x=>
   rw[hg] at this;exact ay6 this hv
 have c5: ∀z m,o9 Tryz.prog 54 [.mp (H.length+1) 0,.str server] (H++[z,at7 v (ad9 (ab3 v)++[m])]) (fun y H'=>y=.tup [jAV (ag6 (ab3 v) server).1,.bool (ag6 (ab3 v) server).2]/\H'=H++[z,at7 v (ad9 (ab3 v)++[m])]):=fun z m=>
  dR6 (k:=H.length+1) server _ (by omega) (by rw[az9];rfl)
 have how:aa1 (ag6 (ab3 v) server).1<=18000:=by
  have:=ay7 (v:=ab3 v) (s:=server);unfold ag6;cases hg:ad3 (ab3 v) server with
  |none=>decide
  |some x=>
   rw[hg] at this;exact ay6 this hsg
 unfold aC4 at c4;unfold aW7;have hml:(ap3 v).1.length<=8192:=by
  unfold ap3;split
  ·split
   ·exact bB7 _
   ·exact aL0 _
  ·exact aL0 _
 generalize hO:al4 v=O at*;generalize aC1 v=P at*;unfold at7 ad9 at c1f c1t;cases P with
 |false=>
  rw[aC6,if_neg (by decide)]
  cases O with
  |false=>
   have c1:=c1f rfl;refine y7 [19,1000013,1000013000003,1000016,1000019] [.cell 8 25,.tmp 9] 124 Tryz.func46 rfl rfl rfl rfl (nlb rfl) (by kernel_rfl) ?_
   repeat' first|refine o6 ?_|simp -dsimp -implicitDefEqProofs (disch:=first|assumption|omega|simp only[ll];omega) only[go_sem,ab2]|refine o5 (c1 _) ?_|refine⟨_,_,c1 _,?_⟩|refine vcJ ?_ ?_<;>intro _|refine vcA ?_ ?_;focus(repeat'(first|omega|assumption|refine vcA ?_ ?_);done)|omega|refine o7 (fun _=>?_)
   exact aj9 (au6 le_zero) (ag0 rfl)
  |true=>
   have c1:=c1t rfl;refine y7 [19,1000013,1000013000003,1000016,1000019] [.cell 8 25,.tmp 9] 124 Tryz.func46 rfl rfl rfl rfl (nlb rfl) (by kernel_rfl) ?_
   repeat' first|refine o6 ?_|simp -dsimp -implicitDefEqProofs (disch:=first|assumption|omega|simp only[ll];omega) only[go_sem,ab2]|refine o5 (c1 _) ?_|refine⟨_,_,c1 _,?_⟩|refine vcJ ?_ ?_<;>intro _|refine vcA ?_ ?_;focus(repeat'(first|omega|assumption|refine vcA ?_ ?_);done)|omega|refine o7 (fun _=>?_)
   exact aj9 (au6 le_zero) (ag0 rfl)
 |true=>
  have hO':O=true:=hob rfl;subst hO';have c1:=c1t rfl;rw[Bool.true_and];cases hs:Id.aU4 server with
  |false=>
   rw[hs] at c2;rw[aC6,if_neg (by decide)]
   refine y7 [19,1000013,1000013000003,1000016,1000019] [.cell 8 25,.tmp 9] 124 Tryz.func46 rfl rfl rfl rfl (nlb rfl) (by kernel_rfl) ?_
   repeat' first|refine o6 ?_|simp -dsimp -implicitDefEqProofs (disch:=first|assumption|omega|simp only[ll];omega) only[go_sem,ab2]|refine o5 (c1 _) ?_|refine⟨_,_,c1 _,?_⟩|refine o5 (c2 _) ?_|refine⟨_,_,c2 _,?_⟩|refine vcJ ?_ ?_<;>intro _|refine vcA ?_ ?_;focus(repeat'(first|omega|assumption|refine vcA ?_ ?_);done)|omega|refine o7 (fun _=>?_)
   exact aj9 (au6 le_zero) (ag0 rfl)
  |true=>
   rw[hs] at c2;rw[Bool.true_and];cases hk:ck7 key with
   |false=>
    rw[hk] at c3;rw[if_neg (by decide)]
    refine y7 [19,1000013,1000013000003,1000016,1000019] [.cell 8 25,.tmp 9] 124 Tryz.func46 rfl rfl rfl rfl (nlb rfl) (by kernel_rfl) ?_
    repeat' first|refine o6 ?_|simp -dsimp -implicitDefEqProofs (disch:=first|assumption|omega|simp only[ll];omega) only[go_sem,ab2]|refine o5 (c1 _) ?_|refine⟨_,_,c1 _,?_⟩|refine o5 (c2 _) ?_|refine⟨_,_,c2 _,?_⟩|refine o5 (c3 _) ?_|refine⟨_,_,c3 _,?_⟩|refine vcJ ?_ ?_<;>intro _|refine vcA ?_ ?_;focus(repeat'(first|omega|assumption|refine vcA ?_ ?_);done)|omega|refine o7 (fun _=>?_)
    exact aj9 (au6 le_zero) (ag0 rfl)
   |true=>
    rw[hk] at c3;rw[if_pos rfl];by_cases hm:(ap3 v).2=0
    ·rw[if_pos hm]
     have hmc:=eq_true hm;have ho1:=au9 (n:=100000) (v:=(ag6 (ab3 v) server).1) (by omega)
     have c6:=fun H=>be1 (ag6 (ab3 v) server).1 key H ho1.1 ho1.2
     unfold aL7 at c6;have d1c:(((ab3 v).items.length:Int)=8)=(decide ((ab3 v).items.length=8)=true):=by rw[decide_eq_true_eq];exact propext ⟨fun h=>by omega,fun h=>by omega⟩
     have d2c:(((ag6 (ab3 v) server).1.items.length:Int)=8)=(decide ((ag6 (ab3 v) server).1.items.length=8)=true):=by rw[decide_eq_true_eq];exact propext ⟨fun h=>by omega,fun h=>by omega⟩
     unfold at7 ad9 at c5;have c7:=fun H=>Ed.cL1 (o:=.sh) seed (ap3 v).1 H hd (by omega)
     have hsl:=Ed.bX3 seed (ap3 v).1;generalize Ed.az0 seed (ap3 v).1=sg at*;have htl:(ae7 ad6 sg).length=86:=by rw[aB4,hsl]
     have c8: ∀H:List AObj,o9 Tryz.prog 80 [.sl .sh 1 (sg.map o8)] H (fun y H'=>y=.str (ae7 ad6 sg)/\H'=H):=fun H=>cL7 (o:=.sh) sg H (by omega)
     generalize ae7 ad6 sg=t at*;have hts:aa1 (ac7 t)<=200:=by rw[az5,htl];decide
     have c9:=fun H=>(bN7 (ag6 (ab3 v) server).1 (ac7 t) key H (by omega) (by omega) (by omega)).weak (args:=[jAV (ag6 (ab3 v) server).1,.str key,.agg [.lit (.int .i64 4),.lit (.int .i64 0),.str t,.sl .full 0 [],.sl .full 0 []]]) rfl (fun j x y h1 h2=>by
      match j with
      |0=>cases h1;cases h2;exact Le.refl _
      |1=>cases h1;cases h2;exact Le.refl _
      |2=>cases h1;cases h2;exact d06
      |j+3=>simp at h1)
     have hp1:=aU0 (v:=(ag6 (ab3 v) server).1) (x:=ac7 t) (s:=key);have hn1: ∀s:bytes,aj7 s=s.length+1:=fun s=>by unfold aj7;omega
     rw[hn1] at hp1;have c10:=fun H=>bN7 (ab3 v) (ae8 (ag6 (ab3 v) server).1 key (ac7 t)).1 server H (by omega) (by omega) (by omega)
     have hp2:=aU0 (v:=ab3 v) (x:=(ae8 (ag6 (ab3 v) server).1 key (ac7 t)).1) (s:=server);rw[hn1] at hp2;have c11:=fun H=>bN7 v (ae8 (ab3 v) server (ae8 (ag6 (ab3 v) server).1 key (ac7 t)).1).1 ac3 H (by omega) (by omega) (by decide)
     unfold af4 at c9 c10 c11;generalize ae8 (ag6 (ab3 v) server).1 key (ac7 t)=p at*;generalize ae8 (ab3 v) server p.1=q at*;generalize ae8 v ac3 q.1=z at*;unfold ac3 at c11;generalize (ag6 (ab3 v) server).2=b at*;generalize (ag6 (ab3 v) server).1=o at*;generalize (ad3 o key).isSome=th at*;generalize decide ((ab3 v).items.length=8)=d1 at*;generalize decide (o.items.length=8)=d2 at*;refine au3 aa7 mixed [19,2000085,1000012,1000012000006,1000012004006,1000012005006,1000013,1000013000003,1000016,1000019] 7 (rs:=[.cell 8 25,.tmp 9]) (n:=124) Tryz.func46 rfl rfl rfl rfl (nlb rfl) (by kernel_rfl) ?_
     repeat' first|refine o6 ?_|simp -dsimp -implicitDefEqProofs (disch:=first|assumption|omega|simp only[ll];omega) only[go_sem,hmc,ab2]|refine o5 (c1 _) ?_|refine⟨_,_,c1 _,?_⟩|refine o5 (c2 _) ?_|refine⟨_,_,c2 _,?_⟩|refine o5 (c3 _) ?_|refine⟨_,_,c3 _,?_⟩|refine o5 (c4 _) ?_|refine⟨_,_,c4 _,?_⟩|refine o5 (c5 _ _) ?_|refine⟨_,_,c5 _ _,?_⟩|refine o5 (c6 _) ?_|refine⟨_,_,c6 _,?_⟩|refine vcJ ?_ ?_<;>intro _|refine vcA ?_ ?_;focus(repeat'(first|omega|assumption|refine vcA ?_ ?_);done)|omega|refine o7 (fun _=>?_)
     by_cases hF:(!b&&d1||!th&&d2)=true
     ·rw[if_pos hF]
      refine aA0 aa7 mixed [19,2000085,1000012,1000012000006,1000012004006,1000012005006,1000013,1000013000003,1000016,1000019] (by kernel_rfl) ?_
      cases b<;>cases d1<;>cases th<;>cases d2<;>simp only[Bool.not_false,Bool.not_true,Bool.true_and,aC6,Bool.and_false,Bool.or_false,Bool.or_true,Bool.false_eq_true] at hF
      all_goals
       repeat' first|refine o6 ?_|simp -dsimp -implicitDefEqProofs (disch:=first|assumption|omega|simp only[ll];omega) only[go_sem,d1c,d2c]|refine vcJ ?_ ?_<;>intro _|refine vcA ?_ ?_;focus(repeat'(first|omega|assumption|refine vcA ?_ ?_);done)|omega|refine o7 (fun _=>?_)
       exact aj9 (au6 le_zero) (ag0 rfl)
     ·rw[if_neg hF]
      refine em6 aa7 mixed [19,2000085,1000012,1000012000006,1000012004006,1000012005006,1000013,1000013000003,1000016,1000019] [(78,.bool false),(1,.str server),(2,.str key),(4,.ip (jAV v)),(7,.ip (.agg (seed.map o8))),(8,.mp H.length 0),(9,.lit (.int .i64 0)),(10,.mp (H.length+1) 0),(11,.lit (.int .i64 0)),(12,.mp (H.length+2) 0)] (H++[.cells (.one 25) ar4,.cells (.one 85) (ad9 v++(ad9 (ab3 v)++[.sl .sh 1 ((ap3 v).1.map o8)])),.cells (.one 25) (ad9 o),.cells (.one 25) (ad9 ((ad3 o key).getD aa4))]) (by kernel_rfl) ?h1 ?h2
      case h1=>
       cases b<;>cases d1<;>cases th<;>cases d2<;>simp only[Bool.not_false,Bool.not_true,Bool.true_and,aC6,Bool.and_false,Bool.or_false,Bool.or_true,Bool.false_eq_true,not_true_eq_false] at hF
       all_goals
        repeat' first|refine o6 ?_|simp -dsimp -implicitDefEqProofs (disch:=first|assumption|omega|simp only[ll];omega) only[go_sem,d1c,d2c]|refine vcJ ?_ ?_<;>intro _|refine vcA ?_ ?_;focus(repeat'(first|omega|assumption|refine vcA ?_ ?_);done)|omega|refine o7 (fun _=>?_)
        exact y8
      case h2=>
       unfold ad9 ar4;refine cl7 aa7 mixed [19,2000085,1000012,1000012000006,1000012004006,1000012005006,1000013,1000013000003,1000016,1000019] 1 (by kernel_rfl) ?_
       repeat' first|refine o6 ?_|simp -dsimp -implicitDefEqProofs (disch:=first|assumption|omega|simp only[ll];omega) only[go_sem,ab2,hd,hsl,Ed.z64 hsl,Ed.t64 hsl]|refine o5 (c7 _) ?_|refine⟨_,_,c7 _,?_⟩|refine vcJ ?_ ?_<;>intro _|refine vcA ?_ ?_;focus(repeat'(first|omega|assumption|refine vcA ?_ ?_);done)|omega|refine o7 (fun _=>?_)
       refine aB8 16 (H.length+4) rfl (by rw[az9];rfl) ?_
       rw[aY0];refine aA0 aa7 mixed [19,2000085,1000012,1000012000006,1000012004006,1000012005006,1000013,1000013000003,1000016,1000019] (by kernel_rfl) ?_
       by_cases hp:p.2=0
       ·have hpc:=eq_true hp
        rw[if_pos hp];by_cases hq:q.2=0
        ·have hqc:=eq_true hq
         rw[if_pos hq];repeat' first|refine o6 ?_|simp -dsimp -implicitDefEqProofs (disch:=first|assumption|omega|simp only[ll];omega) only[go_sem,hpc,hqc,ab2,hsl,Ed.t64 hsl,xq5,xq8,List.drop_zero,ag5]|refine o5 (c8 _) ?_|refine⟨_,_,c8 _,?_⟩|refine o5 (c9 _) ?_|refine⟨_,_,c9 _,?_⟩|refine o5 (c10 _) ?_|refine⟨_,_,c10 _,?_⟩|refine o5 (c11 _) ?_|refine⟨_,_,c11 _,?_⟩|refine vcJ ?_ ?_<;>intro _|refine vcA ?_ ?_;focus(repeat'(first|omega|assumption|refine vcA ?_ ?_);done)|omega|refine o7 (fun _=>?_)
         exact ag0 rfl
        ·have hqc:=eq_false hq
         rw[if_neg hq];repeat' first|refine o6 ?_|simp -dsimp -implicitDefEqProofs (disch:=first|assumption|omega|simp only[ll];omega) only[go_sem,hpc,hqc,ab2,hsl,Ed.t64 hsl,xq5,xq8,List.drop_zero,ag5]|refine o5 (c8 _) ?_|refine⟨_,_,c8 _,?_⟩|refine o5 (c9 _) ?_|refine⟨_,_,c9 _,?_⟩|refine o5 (c10 _) ?_|refine⟨_,_,c10 _,?_⟩|refine vcJ ?_ ?_<;>intro _|refine vcA ?_ ?_;focus(repeat'(first|omega|assumption|refine vcA ?_ ?_);done)|omega|refine o7 (fun _=>?_)
         exact aj9 (au6 le_zero) (ag0 rfl)
       ·have hpc:=eq_false hp
        rw[if_neg hp];repeat' first|refine o6 ?_|simp -dsimp -implicitDefEqProofs (disch:=first|assumption|omega|simp only[ll];omega) only[go_sem,hpc,ab2,hsl,Ed.t64 hsl,xq5,xq8,List.drop_zero,ag5]|refine o5 (c8 _) ?_|refine⟨_,_,c8 _,?_⟩|refine o5 (c9 _) ?_|refine⟨_,_,c9 _,?_⟩|refine vcJ ?_ ?_<;>intro _|refine vcA ?_ ?_;focus(repeat'(first|omega|assumption|refine vcA ?_ ?_);done)|omega|refine o7 (fun _=>?_)
        exact aj9 (au6 le_zero) (ag0 rfl)
    ·rw[if_neg hm]
     have hmc:=eq_false hm;refine y7 [19,1000013,1000013000003,1000016,1000019] [.cell 8 25,.tmp 9] 124 Tryz.func46 rfl rfl rfl rfl (nlb rfl) (by kernel_rfl) ?_
     repeat' first|refine o6 ?_|simp -dsimp -implicitDefEqProofs (disch:=first|assumption|omega|simp only[ll];omega) only[go_sem,hmc,ab2]|refine o5 (c1 _) ?_|refine⟨_,_,c1 _,?_⟩|refine o5 (c2 _) ?_|refine⟨_,_,c2 _,?_⟩|refine o5 (c3 _) ?_|refine⟨_,_,c3 _,?_⟩|refine o5 (c4 _) ?_|refine⟨_,_,c4 _,?_⟩|refine vcJ ?_ ?_<;>intro _|refine vcA ?_ ?_;focus(repeat'(first|omega|assumption|refine vcA ?_ ?_);done)|omega|refine o7 (fun _=>?_)
     exact aj9 (au6 le_zero) (ag0 rfl)
end Se
end
section
open Go V
namespace Se
def bM2(p:bytes×Int)(pub m:bytes):Int:=if p.2=0/\p.1.length=64 then(if Ed.a00 pub m p.1=true then 0 else 8) else 2
def aT5(v:JV)(server key pub:bytes):Int:=
 if aC1 v=true then
  (if(ap3 v).2=0 then
   (match ad3 (ag6 (ab3 v) server).1 key with
    |none=>7
    |some t=>bM2 (a90 ad6 t.text) pub (ap3 v).1)
   else(ap3 v).2)
 else 1
theorem bb4(v:JV)(server key pub:bytes)(H:List AObj)(hv:aa1 v<=40000)(h2:key.length<=1000)(hd:pub.length=32):o9 Tryz.prog 22 [jAV v,.str server,.str key,.agg (pub.map o8)] H (fun y H'=>y=.lit (.int .i64 (aT5 v server key pub))/\H'=H):=by
 have c0:=dm1 (k:=H.length) (v:=v) (H++[at7 v [.lit (.int .i64 0),.lit (.int .i64 0),.str [],.sl .full 0 [],.sl .full 0 [],.sl .full 0 []]]) hv (ae6 (o:=.full) (fun k e=>by cases e)) (by rw[aP6];rfl)
 have c1f:al4 v=false->o9 Tryz.prog 52 [.mp H.length 0] (H++[at7 v [.lit (.int .i64 0),.lit (.int .i64 0),.str [],.sl .full 0 [],.sl .full 0 [],.sl .full 0 []]]) (fun y H'=>y=.bool false/\H'=H++[at7 v [.lit (.int .i64 0),.lit (.int .i64 0),.str [],.sl .full 0 [],.sl .full 0 [],.sl .full 0 []]]):=fun h=>c0.mono fun x H' e=>⟨by rw[e.1,aC1,h];rfl,by rw[e.2,h];rfl⟩
 have c1t:al4 v=true->o9 Tryz.prog 52 [.mp H.length 0] (H++[at7 v [.lit (.int .i64 0),.lit (.int .i64 0),.str [],.sl .full 0 [],.sl .full 0 [],.sl .full 0 []]]) (fun y H'=>y=.bool (aC1 v)/\H'=H++[at7 v (ad9 (ab3 v)++[.sl .full 0 []])]):=fun h=>c0.mono fun x H' e=>⟨e.1,by rw[e.2,h,if_pos rfl,bf3];rfl⟩
 clear c0;have hob:aC1 v=true->al4 v=true:=fun h=>by
  unfold aC1 at h;simp only[xq3] at h;exact h.1
 have c4:=fun H=>cr7 v H hv
 have hsg:aa1 (ab3 v)<=40000:=by
  have:=ay7 (v:=v) (s:=ac3);unfold ab3;cases hg:ad3 v ac3 with
  |none=>decide
  |some x=>
   rw[hg] at this;exact ay6 this hv
 have c5: ∀m,o9 Tryz.prog 54 [.mp H.length 0,.str server] (H++[at7 v (ad9 (ab3 v)++[m])]) (fun y H'=>y=.tup [jAV (ag6 (ab3 v) server).1,.bool (ag6 (ab3 v) server).2]/\H'=H++[at7 v (ad9 (ab3 v)++[m])]):=fun m=>
  dR6 (k:=H.length) server _ hsg (by rw[aP6];rfl)
 have how:aa1 (ag6 (ab3 v) server).1<=40000:=by
  have:=ay7 (v:=ab3 v) (s:=server);unfold ag6;cases hg:ad3 (ab3 v) server with
  |none=>decide
  |some x=>
   rw[hg] at this;exact ay6 this hsg
 unfold aC4 at c4;unfold aT5;have hml:(ap3 v).1.length<=8192:=by
  unfold ap3;split
  ·split
   ·exact bB7 _
   ·exact aL0 _
  ·exact aL0 _
 generalize hO:al4 v=O at*;generalize aC1 v=P at*;unfold at7 ad9 at c1f c1t;cases P with
 |false=>
  rw[if_neg (by decide)]
  cases O with
  |false=>
   have c1:=c1f rfl;refine y7 [18,1000015] [.tmp 8] 72 Tryz.func22 rfl rfl rfl rfl (nlb rfl) (by kernel_rfl) ?_
   repeat' first|refine o6 ?_|simp -dsimp -implicitDefEqProofs (disch:=first|assumption|omega|simp only[ll];omega) only[go_sem,ab2]|refine o5 (c1) ?_|refine⟨_,_,c1,?_⟩|refine vcJ ?_ ?_<;>intro _|refine vcA ?_ ?_;focus(repeat'(first|omega|assumption|refine vcA ?_ ?_);done)|omega|refine o7 (fun _=>?_)
   exact aa3 _ (Le.refl _) (.lit _) ⟨rfl,rfl⟩
  |true=>
   have c1:=c1t rfl;refine y7 [18,1000015] [.tmp 8] 72 Tryz.func22 rfl rfl rfl rfl (nlb rfl) (by kernel_rfl) ?_
   repeat' first|refine o6 ?_|simp -dsimp -implicitDefEqProofs (disch:=first|assumption|omega|simp only[ll];omega) only[go_sem,ab2]|refine o5 (c1) ?_|refine⟨_,_,c1,?_⟩|refine vcJ ?_ ?_<;>intro _|refine vcA ?_ ?_;focus(repeat'(first|omega|assumption|refine vcA ?_ ?_);done)|omega|refine o7 (fun _=>?_)
   exact aa3 _ (Le.refl _) (.lit _) ⟨rfl,rfl⟩
 |true=>
  have hO':O=true:=hob rfl;subst hO';have c1:=c1t rfl;rw[if_pos rfl];by_cases hm:(ap3 v).2=0
  ·rw[if_pos hm]
   have hmc:=eq_true hm;have ho1:=au9 (n:=100000) (v:=(ag6 (ab3 v) server).1) (by omega)
   have c6:=fun H=>be1 (ag6 (ab3 v) server).1 key H ho1.1 ho1.2
   have hs6:=ay7 (v:=(ag6 (ab3 v) server).1) (s:=key);unfold aL7 at c6;unfold at7 ad9 at c5;cases hg:ad3 (ag6 (ab3 v) server).1 key with
   |none=>
    rw[hg] at c6;refine y7 [18,1000015] [.tmp 8] 72 Tryz.func22 rfl rfl rfl rfl (nlb rfl) (by kernel_rfl) ?_
    repeat' first|refine o6 ?_|simp -dsimp -implicitDefEqProofs (disch:=first|assumption|omega|simp only[ll];omega) only[go_sem,hmc,ab2]|refine o5 (c1) ?_|refine⟨_,_,c1,?_⟩|refine o5 (c4 _) ?_|refine⟨_,_,c4 _,?_⟩|refine o5 (c5 _) ?_|refine⟨_,_,c5 _,?_⟩|refine o5 (c6 _) ?_|refine⟨_,_,c6 _,?_⟩|refine vcJ ?_ ?_<;>intro _|refine vcA ?_ ?_;focus(repeat'(first|omega|assumption|refine vcA ?_ ?_);done)|omega|refine o7 (fun _=>?_)
    exact aa3 _ (Le.refl _) (.lit _) ⟨rfl,rfl⟩
   |some t=>
    rw[hg] at c6 hs6;rw[Option.getD_some] at c6 hs6;have htl:=size_text t;have c7:=fun H=>dQ8 t.text H (by omega)
    unfold aC4 at c7;show o9 Tryz.prog 22 [jAV v,.str server,.str key,.agg (pub.map o8)] H (fun y H'=>y=.lit (.int .i64 (bM2 (a90 ad6 t.text) pub (ap3 v).1))/\H'=H)
    generalize a90 ad6 t.text=p at*;unfold bM2;by_cases hp:p.2=0
    ·have hpc:=eq_true hp
     by_cases hl:p.1.length=64
     ·have hlc:((p.1.length:Int)=64)=True:=eq_true (by omega)
      rw[if_pos ⟨hp,hl⟩];have c8:=fun H=>Ed.bb4 (o:=.sh) pub (ap3 v).1 p.1 H hd (by omega) hl
      generalize Ed.a00 pub (ap3 v).1 p.1=V at*;cases V with
      |true=>
       refine y7 [18,1000015] [.tmp 8] 72 Tryz.func22 rfl rfl rfl rfl (nlb rfl) (by kernel_rfl) ?_
       repeat' first|refine o6 ?_|simp -dsimp -implicitDefEqProofs (disch:=first|assumption|omega|simp only[ll];omega) only[go_sem,hmc,hpc,hlc,ab2,hd,hl,Ed.t64 hl]|refine o5 (c1) ?_|refine⟨_,_,c1,?_⟩|refine o5 (c4 _) ?_|refine⟨_,_,c4 _,?_⟩|refine o5 (c5 _) ?_|refine⟨_,_,c5 _,?_⟩|refine o5 (c6 _) ?_|refine⟨_,_,c6 _,?_⟩|refine o5 (c7 _) ?_|refine⟨_,_,c7 _,?_⟩|refine o5 (c8 _) ?_|refine⟨_,_,c8 _,?_⟩|refine vcJ ?_ ?_<;>intro _|refine vcA ?_ ?_;focus(repeat'(first|omega|assumption|refine vcA ?_ ?_);done)|omega|refine o7 (fun _=>?_)
       exact aa3 _ (Le.refl _) (.lit _) ⟨rfl,rfl⟩
      |false=>
       refine y7 [18,1000015] [.tmp 8] 72 Tryz.func22 rfl rfl rfl rfl (nlb rfl) (by kernel_rfl) ?_
       repeat' first|refine o6 ?_|simp -dsimp -implicitDefEqProofs (disch:=first|assumption|omega|simp only[ll];omega) only[go_sem,hmc,hpc,hlc,ab2,hd,hl,Ed.t64 hl]|refine o5 (c1) ?_|refine⟨_,_,c1,?_⟩|refine o5 (c4 _) ?_|refine⟨_,_,c4 _,?_⟩|refine o5 (c5 _) ?_|refine⟨_,_,c5 _,?_⟩|refine o5 (c6 _) ?_|refine⟨_,_,c6 _,?_⟩|refine o5 (c7 _) ?_|refine⟨_,_,c7 _,?_⟩|refine o5 (c8 _) ?_|refine⟨_,_,c8 _,?_⟩|refine vcJ ?_ ?_<;>intro _|refine vcA ?_ ?_;focus(repeat'(first|omega|assumption|refine vcA ?_ ?_);done)|omega|refine o7 (fun _=>?_)
       exact aa3 _ (Le.refl _) (.lit _) ⟨rfl,rfl⟩
     ·have hlc:((p.1.length:Int)=64)=False:=eq_false (by omega)
      rw[if_neg (fun h=>hl h.2)]
      refine y7 [18,1000015] [.tmp 8] 72 Tryz.func22 rfl rfl rfl rfl (nlb rfl) (by kernel_rfl) ?_
      repeat' first|refine o6 ?_|simp -dsimp -implicitDefEqProofs (disch:=first|assumption|omega|simp only[ll];omega) only[go_sem,hmc,hpc,hlc,ab2]|refine o5 (c1) ?_|refine⟨_,_,c1,?_⟩|refine o5 (c4 _) ?_|refine⟨_,_,c4 _,?_⟩|refine o5 (c5 _) ?_|refine⟨_,_,c5 _,?_⟩|refine o5 (c6 _) ?_|refine⟨_,_,c6 _,?_⟩|refine o5 (c7 _) ?_|refine⟨_,_,c7 _,?_⟩|refine vcJ ?_ ?_<;>intro _|refine vcA ?_ ?_;focus(repeat'(first|omega|assumption|refine vcA ?_ ?_);done)|omega|refine o7 (fun _=>?_)
      exact aa3 _ (Le.refl _) (.lit _) ⟨rfl,rfl⟩
    ·have hpc:=eq_false hp
     rw[if_neg (fun h=>hp h.1)]
     refine y7 [18,1000015] [.tmp 8] 72 Tryz.func22 rfl rfl rfl rfl (nlb rfl) (by kernel_rfl) ?_
     repeat' first|refine o6 ?_|simp -dsimp -implicitDefEqProofs (disch:=first|assumption|omega|simp only[ll];omega) only[go_sem,hmc,hpc,ab2]|refine o5 (c1) ?_|refine⟨_,_,c1,?_⟩|refine o5 (c4 _) ?_|refine⟨_,_,c4 _,?_⟩|refine o5 (c5 _) ?_|refine⟨_,_,c5 _,?_⟩|refine o5 (c6 _) ?_|refine⟨_,_,c6 _,?_⟩|refine o5 (c7 _) ?_|refine⟨_,_,c7 _,?_⟩|refine vcJ ?_ ?_<;>intro _|refine vcA ?_ ?_;focus(repeat'(first|omega|assumption|refine vcA ?_ ?_);done)|omega|refine o7 (fun _=>?_)
     exact aa3 _ (Le.refl _) (.lit _) ⟨rfl,rfl⟩
  ·rw[if_neg hm]
   have hmc:=eq_false hm;refine y7 [18,1000015] [.tmp 8] 72 Tryz.func22 rfl rfl rfl rfl (nlb rfl) (by kernel_rfl) ?_
   repeat' first|refine o6 ?_|simp -dsimp -implicitDefEqProofs (disch:=first|assumption|omega|simp only[ll];omega) only[go_sem,hmc,ab2]|refine o5 (c1) ?_|refine⟨_,_,c1,?_⟩|refine o5 (c4 _) ?_|refine⟨_,_,c4 _,?_⟩|refine vcJ ?_ ?_<;>intro _|refine vcA ?_ ?_;focus(repeat'(first|omega|assumption|refine vcA ?_ ?_);done)|omega|refine o7 (fun _=>?_)
   exact aa3 _ (Le.refl _) (.lit _) ⟨rfl,rfl⟩
end Se
end
section
open Go V
namespace Ev
structure T where
 id:bytes
 room:bytes
 sender:bytes
 typ:bytes
 state:Bool
 key:bytes
 content:JV
 prev:List bytes
 auth:List bytes
 depth:Int
 time:Int
 hash:bytes
 sigs:JV
abbrev cells(e:T):List AV:=[.str e.id,.str e.room,.str e.sender,.str e.typ,.lit (.bool e.state),.str e.key,.lit (.int .i64 e.content.kind),.lit (.int .i64 e.content.num),.str e.content.text,.sl .sh 1 (e.content.names.map .str),.sl .sh 5 (e.content.items.map jAV),.sl .sh 1 (e.prev.map .str),.sl .sh 1 (e.auth.map .str),.lit (.int .i64 e.depth),.lit (.int .i64 e.time),.str e.hash,.lit (.int .i64 e.sigs.kind),.lit (.int .i64 e.sigs.num),.str e.sigs.text,.sl .sh 1 (e.sigs.names.map .str),.sl .sh 5 (e.sigs.items.map jAV)]
def av(e:T):AV:=.agg (cells e)
def zero:T:=⟨[],[],[],[],false,[],aa4,[],[],0,0,[],aa4⟩
def bi1(p:T×Int):AV:=.tup [av p.1,.lit (.int .i64 p.2)]
def aX3:List bytes->List bytes->Bool
 |_,[]=>true
 |d,s::r=>Id.by2 s&&(!d.contains s&&aX3 (d++[s]) r)
def bn8(most:Nat)(l:List bytes):Bool:=decide (l.length<=most)&&aX3 [] l
def ca9(s:bytes):Bool:=decide (s≠[])&&(decide (s.length<=64)&&(aK7 s&&!Lib.contains s [32]))
def aq2(e:T):Bool:=
 (Id.av7 33 e.room&&(Id.av7 64 e.sender&&ca9 e.typ))&&
 ((decide (e.key.length<=255)&&(Lib.validD e.key&&(e.state||decide (e.key=[]))))&&
 (decide (1<=e.depth/\e.depth<=1099511627776/\0<=e.time/\e.time<=1099511627776)&&
 ((decide (e.content.kind=6)&&aa9 12 e.content)&&(bn8 20 e.prev&&bn8 10 e.auth))))
def bt6(n:Int):JV:=.mk 3 n [] [] []
def aJ6(l:List bytes):JV:=.mk 5 0 [] [] (l.map ac7)
def bd2:bytes:=[97,117,116,104,95,101,118,101,110,116,115]
def bd1:bytes:=[112,114,101,118,95,101,118,101,110,116,115]
def aQ9:bytes:=[100,101,112,116,104]
def bc9:bytes:=[111,114,105,103,105,110,95,115,101,114,118,101,114,95,116,115]
def bd0:bytes:=[114,111,111,109,95,105,100]
def aK6:bytes:=[115,101,110,100,101,114]
def aN6:bytes:=[115,116,97,116,101,95,107,101,121]
def ah9(e:T):Prs:=[(bd2,aJ6 e.auth),(bd1,aJ6 e.prev),(ag7,e.content),(aQ9,bt6 e.depth),(ae2,aD0 e.hash),(bc9,bt6 e.time),(bd0,ac7 e.room),(aK6,ac7 e.sender),(Se.ac3,e.sigs),(aJ1,ac7 e.typ)]++(if e.state=true then[(aN6,ac7 e.key)] else[])
def ab9(e:T):JV×Int:=aJ2 (ah9 e)
def aa6(e:T):JV×Int:=
 if e.sigs.kind=6/\aq2 e=true then(if(ab9 e).2=0/\aU9 (ab9 e).1<=8192 then((ab9 e).1,0) else(aa4,1)) else(aa4,1)
def az2(e:T):Bool:=decide ((aa6 e).2=0)&&(decide ((as5 (aa6 e).1).2=0)&&decide ((as5 (aa6 e).1).1=e.id))
def aj3(v:JV)(s:bytes):JV:=(ad3 v s).getD aa4
def aG5(v:JV):bytes:=(aj3 (aj3 v ae2) az7).text
def textsOf(v:JV):List bytes:=v.items.map JV.text
def ofJ(v:JV):T:=⟨[],(aj3 v bd0).text,(aj3 v aK6).text,(aj3 v aJ1).text,(ad3 v aN6).isSome,(aj3 v aN6).text,aj3 v ag7,textsOf (aj3 v bd1),textsOf (aj3 v bd2),(aj3 v aQ9).num,(aj3 v bc9).num,aG5 v,aj3 v Se.ac3⟩
open Classical in
noncomputable def aW9(v:JV):T×Int:=
 if al4 v=true then
  (if(aa6 (ofJ v)).2=0/\(aa9 12 (aa6 (ofJ v)).1=true/\aa9 12 v=true/\(aa6 (ofJ v)).1=v) then
   (if(as5 v).2=0 then({ofJ v with id:=(as5 v).1},0) else(zero,2))
   else(zero,2))
 else(zero,2)
end Ev
end
section
open Go V
namespace Ev
def aF0(w:bytes×JV->Nat)(l:Prs):Nat:=(l.map w).sum
theorem aD8(w:bytes×JV->Nat)(p:bytes×JV)(r:Prs):aF0 w (p::r)=w p+aF0 w r:=by unfold aF0;rw[List.map_cons,bl3]
theorem bb6(w:bytes×JV->Nat)(p:bytes×JV->Bool): ∀l:Prs,aF0 w (l.filter p)<=aF0 w l
 |[]=>xq0 _
 |q::r=>by
  have:=bb6 w p r;rw[bG8];split
  ·rw[aD8,aD8];omega
  ·rw[aD8];omega
theorem cx0{w:bytes×JV->Nat}{s:bytes}{x c:JV}(hw:w (s,x)<=w (s,c)): ∀l:Prs,srt (l.map (·.1))=true->ah5 s l=some c->aF0 w (ag9 s x l)<=aF0 w l
 |[],_,h=>by cases h
 |q::r,hs,h=>by
  rw[ag9];rw[ah5] at h;by_cases h1:q.1=s
  ·rw[if_pos h1] at h
   cases h
   rw[if_neg (by rw[h1,bK7];decide),if_pos h1,aD8,aD8]
   have:w (s,q.2)=w q:=by rw[<-h1]
   omega
  ·rw[if_neg h1] at h
   have hm:s∈r.map (·.1):=br6.1 (by rw[h];rfl)
   have hl:=bm9 hs s hm;rw[if_pos hl,aD8,aD8];have:=cx0 hw r (bW8 hs) h;omega
theorem cw9{w:bytes×JV->Nat}(hw: ∀(ns:List bytes) (c:JV),aa9 11 c=true->c.kind=6->w (ag7,av3 ns c)<=w (ag7,c)){l:Prs}(h:OkL l):aF0 w (bg5 l)<=aF0 w l:=by
 have ho:aF0 w (bt4 l)<=aF0 w l:=bb6 w _ l;unfold bg5;cases e:ah5 ag7 l with
 |none=>exact ho
 |some c=>
  dsimp only;split
  ·rename_i hc
   have hg:ah5 ag7 (bt4 l)=some c:=by
    unfold bt4;rw[bd8 (p:=hasB aJ7) (by decide),e]
   exact ay6 (cx0 (hw _ _ (h.get e) hc) _ (h.filter _).srt hg) ho
  ·exact ho
theorem di0(l:Prs):sumP l=aF0 (fun p=>aj7 p.1+aa1 p.2) l:=rfl
theorem dj1{v:JV}(h:al4 v=true):aa1 (ac5 v).1<=aa1 v:=by
 obtain⟨e,ok⟩:=bq8 h;rw[e,(b81 ok).1,aT0,aT0,di0,di0];have:=cw9 (w:=fun p=>aj7 p.1+aa1 p.2) (fun ns c _ _=>by
  have:=bI3 ns c;dsimp only;omega) ok
 omega
theorem be8(v:JV):aa1 (ac5 v).1<=aa1 v:=by
 by_cases h:al4 v=true
 ·exact dj1 h
 ·unfold ac5
  rw[if_neg h];exact ax3 v
def pw(p:bytes×JV):Nat:=(aN1 p.1).length+2+(ae9 p.2).length
theorem dJ7(b:Bool)(n:bytes):(aP5 b true n).length+(if b then 1 else 0)=(aN1 n).length+2:=by
 cases b<;>simp[aP5]<;>omega
theorem br3: ∀(l:Prs) (b:Bool),(au0 true (l.map (·.2)) b (l.map (·.1))).length+(if b=true/\l≠[] then 1 else 0)=aF0 pw l
 |[],b=>by simp[bD3,aF0]
 |p::r,b=>by
  have h1:=dJ7 b p.1;have h2:=br3 r false;rw[List.map_cons,List.map_cons,aR0,aD8,<-h2];unfold pw;simp only[List.headD_cons,List.tail_cons,List.length_append];cases b<;>simp at h1⊢ <;>omega
theorem co0(l:Prs):(ae9 (ofP ad8 l)).length=2+(aF0 pw l - (if l≠[] then 1 else 0)):=by
 have h:=br3 l true;have e:ae9 (ofP ad8 l)=123::(au0 true (l.map (·.2)) true (l.map (·.1))++[125]):=by
  rw[aA2];rfl
 rw[e];simp only[List.length_cons,List.length_append,List.length_nil];simp only[true_and] at h;omega
theorem b86{a b:Prs}(h:aF0 pw a<=aF0 pw b):(ae9 (ofP ad8 a)).length<=(ae9 (ofP ad8 b)).length:=by
 rw[co0,co0];cases a with
 |nil=>simp[aF0]
 |cons p r=>
  cases b with
  |nil=>
   rw[aD8] at h;have:aF0 pw []=0:=rfl;have:2<=pw p:=by unfold pw;omega
   omega
  |cons q t=>
   rw[if_pos (by simp),if_pos (by simp)]
   omega
theorem c86(ns:List bytes){c:JV}(h:aa9 11 c=true)(hk:c.kind=6):(ae9 (av3 ns c)).length<=(ae9 c).length:=by
 have h12:=bX4 (m:=12) (by omega) c h
 obtain⟨e,ok⟩:=bq8 (v:=c) (by unfold al4;rw[h12,decide_eq_true hk];rfl)
 rw[e,dq2 ok];exact b86 (bb6 _ _ _)
theorem dZ3{v:JV}(h:al4 v=true)(hl:(ae9 v).length<=8192):(as5 v).2=0:=by
 obtain⟨e,ok⟩:=bq8 h;have h1:=b81 ok;have h2:aF0 pw ((bg5 (prs v)).filter fun q=>!hasB [ac3] q.1)<=aF0 pw (prs v):=ay6 (bb6 _ _ _) (cw9 (fun ns c hr hk=>by
  have:=c86 ns hr hk;unfold pw;dsimp only;omega) ok)
 have h3:=b86 h2;rw[<-e] at h3;have h4:=bR5 (h1.2.filter fun q=>!hasB [ac3] q.1)
 have h5:(aQ0 v).2=0:=by
  conv=>lhs;rw[e]
  rw[ep3 ok];have hp:ak1 (ofP ad8 ((bg5 (prs v)).filter fun q=>!hasB [ac3] q.1))=(ae9 (ofP ad8 ((bg5 (prs v)).filter fun q=>!hasB [ac3] q.1)),0):=by
   unfold ak1;rw[if_pos h4,if_neg (Nat.not_lt.2 (ay6 h3 hl))]
  unfold bg4;rw[hp];rfl
 unfold as5;rw[if_pos h5]
theorem dX4:OkL []:=⟨rfl,fun s h=>(by cases h),fun x h=>(by cases h)⟩
theorem cU5: ∀(l a:Prs),OkL a->(∀p∈l,Lib.validD p.1=true/\aa9 11 p.2=true)->OkL (aX7 a l)
 |[],a,h,_=>h
 |p::r,a,h,k=>cU5 r (ag9 p.1 p.2 a) (h.ins (k p (ax1 ..)).1 (k p (ax1 ..)).2) fun q hq=>k q (aC8 _ hq)
open Classical in
theorem make_is{l:Prs}(h:(aJ2 l).2=0):aJ2 l=(ofP ad8 (aX7 [] l),0)/\OkL (aX7 [] l)/\(l.map (·.1)).Nodup:=by
 unfold aJ2 at h⊢;by_cases hg:l.all bD5=true
 ·rw[if_pos hg] at h⊢
  rw[cY2] at h⊢;by_cases hn:(l.map (·.1)).Nodup/\ ∀s∈l.map (·.1),s∉([]:Prs).map (·.1)
  ·rw[if_pos hn] at h⊢
   dsimp only at h⊢;by_cases ht:l.any aW3=true
   ·rw[if_pos ht] at h
    cases h
   ·rw[if_neg ht]
    refine⟨rfl,cU5 _ _ dX4 fun p hp=>?_,hn.1⟩
    have h1:=xq6.1 hg p hp;rw[bo3,xq3] at h1;have h2: ¬12<=ak3 13 p.2:=fun e=>ht (cf6.2 ⟨p,hp,decide_eq_true e⟩)
    exact⟨h1.2,bB5 13 11 12 p.2 h1.1 (by omega) (by omega)⟩
  ·rw[if_neg hn] at h
   cases h
 ·rw[if_neg hg] at h
  cases h
theorem bg8{s:bytes}: ∀(l a:Prs),s∉l.map (·.1)->ah5 s (aX7 a l)=ah5 s a
 |[],_,_=>rfl
 |p::r,a,h=>by
  rw[List.map_cons,ai9,not_or] at h;exact(bg8 r (ag9 p.1 p.2 a) h.2).trans (aR1 h.1 _ _)
theorem cH2{s:bytes}{x:JV}: ∀(l a:Prs),(l.map (·.1)).Nodup->(s,x)∈l->ah5 s (aX7 a l)=some x
 |[],_,_,h=>by cases h
 |p::r,a,hn,h=>by
  rw[List.map_cons,List.nodup_cons] at hn;rcases ai9.1 h with rfl|h
  ·exact(bg8 r (ag9 s x a) hn.1).trans (bo4 s x a)
  ·exact cH2 r (ag9 p.1 p.2 a) hn.2 h
theorem b58: ∀(l a:Prs),sumP (aX7 a l)<=sumP a+sumP l
 |[],a=>Nat.le_add_right _ _
 |p::r,a=>by
  have h1:=b58 r (ag9 p.1 p.2 a);have h2:=bW7 p.1 p.2 a;rw[ar9];show sumP (aX7 (ag9 p.1 p.2 a) r)<=_
  omega
theorem do6{l:Prs}(h:(aJ2 l).2≠0):(aJ2 l).1=aa4:=by
 unfold aJ2 at h⊢;split
 ·rename_i hg
  rw[if_pos hg] at h;cases e:ba7 [] l with
  |none=>rfl
  |some a=>
   rw[e] at h;dsimp only at h⊢;split
   ·rfl
   ·rename_i ht
    rw[if_neg ht] at h;exact absurd rfl h
 ·rfl
theorem c62(l:Prs):aa1 (aJ2 l).1<=1+sumP l:=by
 by_cases h:(aJ2 l).2=0
 ·rw[(make_is h).1]
  show aa1 (ofP ad8 (aX7 [] l))<=_
  rw[aT0];have:=b58 l [];have h0:sumP []=0:=rfl;show 1+0+_<=_
  omega
 ·rw[do6 h]
  have:aa1 aa4=1:=rfl;omega
theorem bC5: ∀(l d:List bytes),aX3 d l=true-> ∀s∈l,s.length=44
 |[],_,_,s,h=>by cases h
 |a::r,d,h,s,hs=>by
  rw[aX3,xq3,xq3] at h;rcases ai9.1 hs with rfl|hs
  ·have:=h.1
   unfold Id.by2 at this;simp only[xq3,decide_eq_true_eq] at this;exact this.2.1
  ·exact bC5 r _ h.2.2 s hs
structure Fr(e:T):Prop where
 room:e.room.length<=255
 sender:e.sender.length<=255
 typ:e.typ.length<=64
 key:e.key.length<=255
 nokey:e.state=false->e.key=[]
 prev:e.prev.length<=20/\ ∀s∈e.prev,s.length=44
 auth:e.auth.length<=10/\ ∀s∈e.auth,s.length=44
theorem bD7{e:T}(h:aq2 e=true):Fr e:=by
 unfold aq2 Id.av7 ca9 bn8 at h;simp only[xq3,bH3,decide_eq_true_eq] at h;obtain⟨⟨h1,h2,h3⟩,⟨h4,_,h5⟩,_,_,h6,h7⟩:=h;exact⟨h1.1,h2.1,h3.2.1,h4,fun hs=>by rcases h5 with h5|h5;· rw[hs] at h5;cases h5
                                                                                                                                                         ·exact h5,⟨h6.1,bC5 _ _ h6.2⟩,⟨h7.1,bC5 _ _ h7.2⟩⟩
theorem bi0{l:List bytes}(h: ∀s∈l,s.length=44):aa1 (aJ6 l)=1+45*l.length:=by
 rw[ar8,aH9];show 1+0+0+((l.map ac7).map aa1).sum=_
 have:((l.map ac7).map aa1).sum=45*l.length:=by
  induction l with
  |nil=>rfl
  |cons a r ih=>
   have h1:=ih fun s hs=>h s (aC8 _ hs)
   have h2:=h a (ax1 ..);simp only[List.map_cons,bl3,az5,List.length_cons];omega
 omega
theorem bX1(n:Int):aa1 (bt6 n)=1:=rfl
theorem cN6{e:T}(h:aq2 e=true):sumP (ah9 e)<=aa1 e.content+aa1 e.sigs+e.hash.length+2500:=by
 obtain⟨h1,h2,h3,h4,_,⟨h5,h6⟩,h7,h8⟩:=bD7 h;have e1:=bi0 h6;have e2:=bi0 h8;unfold ah9;have hn: ∀n:bytes,aj7 n=1+n.length:=fun n=>rfl
 cases hs:e.state with
 |false=>
  simp only[Bool.false_eq_true,if_false,List.append_nil,ar9,az5,bA5,bX1,hn,e1,e2];simp only[bd2,bd1,ag7,aQ9,ae2,bc9,bd0,aK6,Se.ac3,aJ1,aN6,List.length_cons,List.length_nil,sumP,List.map_nil,List.sum_nil];omega
 |true=>
  simp only[if_true,List.cons_append,List.nil_append,ar9,az5,bA5,bX1,hn,e1,e2];simp only[bd2,bd1,ag7,aQ9,ae2,bc9,bd0,aK6,Se.ac3,aJ1,aN6,List.length_cons,List.length_nil,sumP,List.map_nil,List.sum_nil];omega
theorem b66{e:T}(h:aq2 e=true):aa1 (ab9 e).1<=aa1 e.content+aa1 e.sigs+e.hash.length+2501:=by
 have h1:=c62 (ah9 e);have h2:=cN6 h;unfold ab9;omega
theorem br5{e:T}(h:(ab9 e).2=0){n:bytes}{x:JV}(hm:(n,x)∈ah9 e):ad3 (ab9 e).1 n=some x:=by
 obtain⟨h1,h2,h3⟩:=make_is h;unfold ab9;rw[h1,aF3 rfl];exact cH2 _ _ h3 hm
theorem ds6{e:T}(h:(ab9 e).2=0)(hs:e.state=false):ad3 (ab9 e).1 aN6=none:=by
 obtain⟨h1,h2,h3⟩:=make_is h;unfold ab9;rw[h1,aF3 rfl];refine(bg8 _ _ ?_).trans rfl;unfold ah9;rw[hs];simp only[Bool.false_eq_true,if_false,List.append_nil,List.map_cons,List.map_nil];decide
theorem d33{e:T}(h:(ab9 e).2=0)(hs:e.state=true):ad3 (ab9 e).1 aN6=some (ac7 e.key):=br5 h (by unfold ah9;rw[hs];simp)
theorem bY6{e:T}(h:(ab9 e).2=0):al4 (ab9 e).1=true:=by
 obtain⟨h1,h2,h3⟩:=make_is h;unfold ab9;rw[h1];exact dS1 h2
theorem aU6{e:T}(h:(aa6 e).2=0):e.sigs.kind=6/\aq2 e=true/\(ab9 e).2=0/\(ae9 (ab9 e).1).length<=8192/\(aa6 e).1=(ab9 e).1:=by
 unfold aa6 at h⊢;by_cases h1:e.sigs.kind=6/\aq2 e=true
 ·rw[if_pos h1] at h⊢
  by_cases h2:(ab9 e).2=0/\aU9 (ab9 e).1<=8192
  ·rw[if_pos h2]
   refine⟨h1.1,h1.2,h2.1,?_,rfl⟩;have h3:=h2.2;have h4:=bY6 h2.1;unfold al4 at h4;rw[xq3] at h4;unfold aU9 ak1 at h3;rw[if_pos h4.2] at h3;by_cases h5:8192 < (ae9 (ab9 e).1).length
   ·rw[if_pos h5,if_pos rfl] at h3
    omega
   ·omega
  ·rw[if_neg h2] at h
   cases h
 ·rw[if_neg h1] at h
  cases h
theorem bE3(e:T)(s:bytes):aa6 {e with id:=s}=aa6 e:=rfl
theorem bF9(l:List bytes):textsOf (aJ6 l)=l:=by
 unfold textsOf aJ6;show (l.map ac7).map JV.text=l
 rw[aS8];exact(bW2 fun _ _=>rfl).trans (List.map_id l)
theorem bt3{e:T}(h:(aa6 e).2=0):ofJ (aa6 e).1={e with id:=[]}:=by
 obtain⟨_,hf,hm,_,hv⟩:=aU6 h;have g: ∀{n x},(n,x)∈ah9 e->aj3 (aa6 e).1 n=x:=fun hx=>by
  unfold aj3;rw[hv,br5 hm hx];rfl
 unfold ofJ;rw[g (n:=bd0) (x:=ac7 e.room) (by simp[ah9]),g (n:=aK6) (x:=ac7 e.sender) (by simp[ah9]),g (n:=aJ1) (x:=ac7 e.typ) (by simp[ah9]),g (n:=ag7) (x:=e.content) (by simp[ah9]),g (n:=bd1) (x:=aJ6 e.prev) (by simp[ah9]),g (n:=bd2) (x:=aJ6 e.auth) (by simp[ah9]),g (n:=aQ9) (x:=bt6 e.depth) (by simp[ah9]),g (n:=bc9) (x:=bt6 e.time) (by simp[ah9]),g (n:=Se.ac3) (x:=e.sigs) (by simp[ah9]),bF9,bF9]
 have h1:aG5 (aa6 e).1=e.hash:=by
  unfold aG5;rw[g (n:=ae2) (x:=aD0 e.hash) (by simp[ah9])]
  unfold aj3;rw[cT5];rfl
 have h2:(ad3 (aa6 e).1 aN6).isSome=e.state/\(aj3 (aa6 e).1 aN6).text=e.key:=by
  unfold aj3;rw[hv];cases hs:e.state with
  |false=>
   rw[ds6 hm hs,(bD7 hf).nokey hs];exact⟨rfl,rfl⟩
  |true=>
   rw[d33 hm hs];exact⟨rfl,rfl⟩
 rw[h1,h2.1,h2.2];rfl
theorem b96{e:T}(h:(aa6 e).2=0):al4 (aa6 e).1=true:=by
 obtain⟨_,_,hm,_,hv⟩:=aU6 h;rw[hv];exact bY6 hm
theorem aQ8{e:T}(h:(aa6 e).2=0):(as5 (aa6 e).1).2=0:=by
 obtain⟨_,_,hm,hl,hv⟩:=aU6 h;rw[hv];exact dZ3 (bY6 hm) hl
theorem cn6{e:T}(h:(aa6 e).2=0):aW9 (aa6 e).1=({e with id:=(as5 (aa6 e).1).1},0):=by
 have ho:=b96 h;have hr:aa9 12 (aa6 e).1=true:=by
  unfold al4 at ho;rw[xq3] at ho;exact ho.2
 unfold aW9;rw[if_pos ho,bt3 h,bE3,if_pos ⟨h,hr,hr,rfl⟩,if_pos (aQ8 h)]
end Ev
end
section
open Go V
namespace Ev
def ac0(e:T):T:={e with id:=[],hash:=[],sigs:=ad8}
def ah1(v:JV)(server key seed:bytes):JV×Int:=
 if(ac5 v).2=0 then(aj3 (Se.aW7 (ac5 v).1 server key seed).1 Se.ac3,(Se.aW7 (ac5 v).1 server key seed).2) else(aa4,(ac5 v).2)
def bM8(e:T):T×Int:=
 if(aa6 e).2=0 then(if(as5 (aa6 e).1).2=0 then({e with id:=(as5 (aa6 e).1).1},0) else(zero,(as5 (aa6 e).1).2)) else(zero,3)
def bM9(e:T)(q:JV×Int):T×Int:=if q.2=0 then bM8 {e with sigs:=q.1} else(zero,q.2)
def bN0(e:T)(w:JV×Int)(server key seed:bytes):T×Int:=if w.2=0 then bM9 {e with hash:=aG5 w.1} (ah1 w.1 server key seed) else(zero,w.2)
def ar6(e:T)(server key seed:bytes):T×Int:=
 if aq2 (ac0 e)=true then(if(ab9 (ac0 e)).2=0 then bN0 (ac0 e) (ab5 (ab9 (ac0 e)).1) server key seed else(zero,1)) else(zero,1)
noncomputable def bu5(v:JV)(server key pub:bytes):Int:=
 if(ac5 v).2=0/\Se.aT5 (ac5 v).1 server key pub=0 then(if bS0 v=true then 0 else 17) else 8
noncomputable def aZ9(e:T)(server key pub:bytes):Int:=if az2 e=true then bu5 (aa6 e).1 server key pub else 1
def aw9(e:T)(q:JV):T:={ac0 e with hash:=aG5 (ab5 (ab9 (ac0 e)).1).1,sigs:=q}
theorem cJ6{e:T}{server key seed:bytes}(h:(ar6 e server key seed).2=0): ∃q,aq2 (ac0 e)=true/\(ab9 (ac0 e)).2=0/\(ab5 (ab9 (ac0 e)).1).2=0/\ah1 (ab5 (ab9 (ac0 e)).1).1 server key seed=(q,0)/\(aa6 (aw9 e q)).2=0/\ar6 e server key seed=({aw9 e q with id:=(as5 (aa6 (aw9 e q)).1).1},0):=by
 unfold ar6 at h⊢;by_cases h1:aq2 (ac0 e)=true
 ·rw[if_pos h1] at h⊢
  by_cases h2:(ab9 (ac0 e)).2=0
  ·rw[if_pos h2] at h⊢
   unfold bN0 at h⊢;by_cases h3:(ab5 (ab9 (ac0 e)).1).2=0
   ·rw[if_pos h3] at h⊢
    generalize hq:ah1 (ab5 (ab9 (ac0 e)).1).1 server key seed=p at*;unfold bM9 at h⊢;by_cases h4:p.2=0
    ·rw[if_pos h4] at h⊢
     unfold bM8 at h⊢;refine⟨p.1,h1,h2,h3,by rw[<-h4],?_⟩
     show (aa6 {ac0 e with hash:=aG5 (ab5 (ab9 (ac0 e)).1).1,sigs:=p.1}).2=0/\_=(({({ac0 e with hash:=aG5 (ab5 (ab9 (ac0 e)).1).1,sigs:=p.1}:T) with id:=(as5 (aa6 {ac0 e with hash:=aG5 (ab5 (ab9 (ac0 e)).1).1,sigs:=p.1}).1).1}:T),(0:Int))
     by_cases h5:(aa6 {ac0 e with hash:=aG5 (ab5 (ab9 (ac0 e)).1).1,sigs:=p.1}).2=0
     ·rw[if_pos h5] at h⊢
      refine⟨h5,?_⟩;rw[if_pos (aQ8 h5)]
     ·rw[if_neg h5] at h
      cases h
    ·rw[if_neg h4] at h
     exact absurd h h4
   ·rw[if_neg h3] at h
    exact absurd h h3
  ·rw[if_neg h2] at h
   cases h
 ·rw[if_neg h1] at h
  cases h
theorem dv8{e:T}{server key seed:bytes}(h:(ar6 e server key seed).2≠0):(ar6 e server key seed).1=zero:=by
 unfold ar6 bN0 bM9 bM8 at h⊢;repeat' split
 all_goals first|rfl|(exfalso;apply h;simp only[*,if_true])
theorem cA2{v:JV}(h:al4 v=true):ad3 (ac5 v).1 ac3=ad3 v ac3:=by
 obtain⟨e,ok⟩:=bq8 h;have:ad3 (ac5 (ofP ad8 (prs v))).1 ac3=ad3 (ofP ad8 (prs v)) ac3:=by
  rw[(b81 ok).1,by1];show ah5 ac3 (bg5 (prs v))=_
  rw[by1];have ho:ah5 ac3 (bt4 (prs v))=ah5 ac3 (prs v):=bd8 (p:=hasB aJ7) (by decide) _
  unfold bg5;cases ah5 ag7 (prs v) with
  |none=>exact ho
  |some c=>
   dsimp only;split
   ·exact(aR1 (by decide) _ _).trans ho
   ·exact ho
 rwa [<-e] at this
theorem cP3{v:JV}(h:(ab5 v).2=0):ad3 (ab5 v).1 ac3=ad3 v ac3:=by
 have hc:=bL4 h;obtain⟨e,ok⟩:=bq8 (bu1 hc);rw[bZ7 hc,by1,aR1 (by decide),<-by1,<-e]
theorem dc2{v:JV}(h:(ab5 v).2=0):al4 (ab5 v).1=true:=dV6 (cb8 h).1
theorem get_put{v x:JV}{s:bytes}(h:(ae8 v s x).2=0):ad3 (ae8 v s x).1 s=some x:=by
 obtain⟨hk,hr,hx,hs,e⟩:=bO4 h;obtain⟨e1,ok⟩:=bq8 (v:=v) (by unfold al4;rw[hr,decide_eq_true hk];rfl)
 have:ad3 (az8 (ofP ad8 (prs v)) s x) s=some x:=by
  rw[a96,aF3 rfl];exact bo4 s x _
 rw[<-e1] at this;rw[e,this]
theorem cU4(s t:bytes)(x:JV):ad3 (az8 ad8 s x) t=if s=t then some x else none:=by
 have:ad3 (az8 (ofP ad8 []) s x) t=if s=t then some x else none:=by
  rw[a96,aF3 rfl];rfl
 exact this
def bq2(v:JV)(server key:bytes)(t:JV):JV×Int:=
 if(Se.aC1 v&&(Id.aU4 server&&Se.ck7 key))=true then
  (if(Se.ap3 v).2=0 then
   (if(!(Se.ag6 (Se.ab3 v) server).2&&decide ((Se.ab3 v).items.length=8)||!(ad3 (Se.ag6 (Se.ab3 v) server).1 key).isSome&&decide ((Se.ag6 (Se.ab3 v) server).1.items.length=8))=true then(aa4,10)
    else if(ae8 (Se.ag6 (Se.ab3 v) server).1 key t).2=0 then
     (if(ae8 (Se.ab3 v) server (ae8 (Se.ag6 (Se.ab3 v) server).1 key t).1).2=0 then
      ae8 v Se.ac3 (ae8 (Se.ab3 v) server (ae8 (Se.ag6 (Se.ab3 v) server).1 key t).1).1
      else(aa4,(ae8 (Se.ab3 v) server (ae8 (Se.ag6 (Se.ab3 v) server).1 key t).1).2))
    else(aa4,(ae8 (Se.ag6 (Se.ab3 v) server).1 key t).2))
   else(aa4,(Se.ap3 v).2))
 else(aa4,1)
theorem cz3(v:JV)(server key seed:bytes):Se.aW7 v server key seed=bq2 v server key (ac7 (ae7 ad6 (Ed.az0 seed (Se.ap3 v).1))):=by
 unfold Se.aW7 bq2;exact Eq.refl _
theorem cB9(s:bytes):ad3 ad8 s=none:=by
 have:=by1 [] s;exact this
theorem dA7{v:JV}{server key:bytes}{t:JV}(h:(bq2 v server key t).2=0)(h0:ad3 v ac3=some ad8):aj3 (bq2 v server key t).1 Se.ac3=az8 ad8 server (az8 ad8 key t):=by
 have hs:Se.ab3 v=ad8:=by
  unfold Se.ab3;rw[show ad3 v Se.ac3=some ad8 from h0]
  rfl
 have ho:Se.ag6 ad8 server=(ad8,false):=by
  unfold Se.ag6;rw[cB9];rfl
 unfold bq2 at h⊢;rw[hs,ho] at h⊢;dsimp only at h⊢;by_cases h1:(Se.aC1 v&&(Id.aU4 server&&Se.ck7 key))=true
 ·rw[if_pos h1] at h⊢
  by_cases h2:(Se.ap3 v).2=0
  ·rw[if_pos h2] at h⊢
   rw[cB9,if_neg (by decide)] at h⊢
   by_cases h3:(ae8 ad8 key t).2=0
   ·rw[if_pos h3] at h⊢
    by_cases h4:(ae8 ad8 server (ae8 ad8 key t).1).2=0
    ·rw[if_pos h4] at h⊢
     have e1:=(bO4 h3).2.2.2.2;have e2:=(bO4 h4).2.2.2.2;unfold aj3;rw[get_put h,e2,e1];rfl
    ·rw[if_neg h4] at h
     exact absurd h h4
   ·rw[if_neg h3] at h
    exact absurd h h3
  ·rw[if_neg h2] at h
   exact absurd h h2
 ·rw[if_neg h1] at h
  cases h
theorem dV3{v:JV}{server key seed:bytes}(h:(Se.aW7 v server key seed).2=0)(h0:ad3 v ac3=some ad8):aj3 (Se.aW7 v server key seed).1 Se.ac3=az8 ad8 server (az8 ad8 key (ac7 (ae7 ad6 (Ed.az0 seed (Se.ap3 v).1)))):=by
 rw[cz3] at h⊢;exact dA7 h h0
theorem cM4{v:JV}{server key pub:bytes}(h:ad3 (Se.ag6 (Se.ab3 v) server).1 key=none):Se.aT5 v server key pub≠0:=by
 unfold Se.aT5;rw[h];by_cases h1:Se.aC1 v=true
 ·rw[if_pos h1]
  by_cases h2:(Se.ap3 v).2=0
  ·rw[if_pos h2]
   exact fun e=>absurd e (by decide:(7:Int)≠0)
  ·rw[if_neg h2]
   exact h2
 ·rw[if_neg h1]
  exact fun e=>absurd e (by decide:(1:Int)≠0)
theorem cE5(e:T):(Se.ac3,e.sigs)∈ah9 e:=by
 unfold ah9;exact cZ6 _ (by simp)
theorem cq2{e:T}{server key seed:bytes}{q:JV}(h3:(ab5 (ab9 (ac0 e)).1).2=0)(h2:(ab9 (ac0 e)).2=0)(hq:ah1 (ab5 (ab9 (ac0 e)).1).1 server key seed=(q,0)):q=az8 ad8 server (az8 ad8 key (ac7 (ae7 ad6 (Ed.az0 seed (Se.ap3 (ac5 (ab5 (ab9 (ac0 e)).1).1).1).1)))):=by
 unfold ah1 at hq;rw[if_pos (cb8 h3).1] at hq;have e1:ad3 (ac5 (ab5 (ab9 (ac0 e)).1).1).1 ac3=some ad8:=by
  rw[cA2 (dc2 h3),cP3 h3];exact br5 h2 (cE5 (ac0 e))
 have h5:=(Prod.mk.injEq ..).mp hq;rw[<-h5.1];exact dV3 h5.2 e1
theorem bV4{e:T}{s:bytes}(h:(aa6 e).2=0)(hs:(as5 (aa6 e).1).1=s):az2 {e with id:=s}=true:=by
 unfold az2;rw[bE3,decide_eq_true h,decide_eq_true (aQ8 h),decide_eq_true hs];rfl
theorem db5{e:T}{server key seed ws wk pub:bytes}(h:(ar6 e server key seed).2=0)(hw:ws≠server\/wk≠key):aZ9 (ar6 e server key seed).1 ws wk pub=8:=by
 obtain⟨q,h1,h2,h3,h4,h5,h6⟩:=cJ6 h;have hq:=cq2 h3 h2 h4;rw[h6];unfold aZ9;dsimp only;rw[if_pos (bV4 h5 rfl),bE3];unfold bu5;rw[if_neg];rintro⟨_,hv⟩
 refine cM4 ?_ hv;obtain⟨_,_,hm,_,hv2⟩:=aU6 h5;have e1:ad3 (ac5 (aa6 (aw9 e q)).1).1 ac3=some q:=by
  rw[cA2 (b96 h5),hv2];exact br5 hm (cE5 (aw9 e q))
 have e2:Se.ab3 (ac5 (aa6 (aw9 e q)).1).1=q:=by
  unfold Se.ab3;rw[show ad3 _ Se.ac3=some q from e1]
  rfl
 rw[e2,hq];unfold Se.ag6;rw[cU4];by_cases hs:server=ws
 ·rw[if_pos hs]
  dsimp only[Option.getD_some];rw[cU4,if_neg];rcases hw with hw|hw
  ·exact absurd hs.symm hw
  ·exact fun h=>hw h.symm
 ·rw[if_neg hs]
  rfl
theorem dI2{b:T}(h:(aa6 b).2=0):(aW9 (aa6 b).1).2=0/\az2 b=decide ((aW9 (aa6 b).1).1.id=b.id):=by
 rw[cn6 h];refine⟨rfl,?_⟩;unfold az2;rw[decide_eq_true h,decide_eq_true (aQ8 h)];rfl
theorem dI4{b:T}(h:(aa6 b).2≠0):az2 b=false:=by
 unfold az2;rw[decide_eq_false h];rfl
end Ev
end
section
namespace Cu
open Go V Fe
noncomputable def force{α:Type}(n:Nat)(k:Nat->α):α:=Nat.rec (k 0) (fun m _=>k (Nat.succ m)) n
theorem force_eq{α:Type}(n:Nat)(k:Nat->α):force n k=k n:=by cases n<;>rfl
def Is(l:List W)(n:Nat):Prop:=Lim 4503599627370496 l/\ag1 l%pF=n
theorem aj2{l m:List W}{a b:Nat}(h:Is l a)(k:Is m b):Is (aa8 l m) (a*b%pF):=by
 obtain⟨h1,rfl⟩:=h;obtain⟨k1,rfl⟩:=k;have t:=dh3 h1 k1;exact⟨t.1,by rw[t.2,Nat.mul_mod]⟩
theorem aD2{l m:List W}{a b:Nat}(h:Is l a)(k:Is m b):Is (aj1 l m) ((a+b)%pF):=by
 obtain⟨h1,rfl⟩:=h;obtain⟨k1,rfl⟩:=k;have t:=dB8 h1 k1;exact⟨t.1,by rw[t.2,Nat.add_mod]⟩
theorem aF4{l m:List W}{a b:Nat}(h:Is l a)(k:Is m b):Is (ae5 l m) ((a+(pF - b))%pF):=by
 obtain⟨h1,rfl⟩:=h;obtain⟨k1,rfl⟩:=k;have t:=bK0 h1 k1;refine⟨t.1,?_⟩;have t2:=t.2;generalize ag1 (ae5 l m)=x at*;generalize ag1 l=y at*;generalize ag1 m=z at*;unfold pF at*;omega
theorem bk5{n:Nat}{l:List W}(h:(decide (l.length=5)&&l.all fun x=>decide (x.toNat < n))=true):Lim n l:=by
 rw[xq3,decide_eq_true_eq,xq6] at h;exact⟨h.1,fun x hx=>of_decide_eq_true (h.2 x hx)⟩
theorem bk6:Is zeroE 0:=⟨bk5 (by kernel_rfl),by kernel_rfl⟩
theorem bL1:Is aH1 1:=⟨bk5 (by kernel_rfl),by kernel_rfl⟩
theorem aT2{l:List W}{a:Nat}(h:Is l a):ak2 l=leN 32 a:=by
 obtain⟨⟨h1,h2⟩,rfl⟩:=h;exact dv6 ⟨h1,fun x hx=>Nat.lt_trans (h2 x hx) (by decide)⟩
def cD2(n:Nat):Bool:=decide (((leN 32 n).getD 0 0&&&1)=1)
theorem dr0{l:List W}{a:Nat}(h:Is l a):bJ5 l=cD2 a:=by
 unfold bJ5 cD2;rw[aT2 h]
noncomputable def bJ1(e:Nat)(n:List W)(k:Nat):Nat->Nat:=
 Nat.rec (motive:=fun _=>Nat->Nat) (fun x=>x) (fun j r x=>force (x*x%pF) fun y=>Bool.rec (r y) (force (y*e%pF) r) (bF0 n j)) k
theorem cG0{e:List W}{a:Nat}(n:List W)(h:Is e a): ∀k j x,j+k=256->Is (aj6 e n j) x->Is (aw2 e n) (bJ1 a n k x)
 |0,j,x,hj,hx=>by
  have:j=256:=by omega
  subst this;exact hx
 |k+1,j,x,hj,hx=>by
  have e1:bJ1 a n (k+1) x=force (x*x%pF) fun y=>Bool.rec (bJ1 a n k y) (force (y*a%pF) (bJ1 a n k)) (bF0 n k):=rfl
  rw[e1,force_eq];have h1:=aj2 hx hx;have h2:255 - j=k:=by omega
  have e2:aj6 e n (j+1)=if bF0 n k=true then aa8 (aa8 (aj6 e n j) (aj6 e n j)) e else aa8 (aj6 e n j) (aj6 e n j):=by rw[aj6,h2]
  cases hb:bF0 n k with
  |true=>
   rw[hb,if_pos rfl] at e2;show Is _ (force _ _)
   rw[force_eq];exact cG0 n h k (j+1) _ (by omega) (e2▸aj2 h1 h)
  |false=>
   rw[hb,if_neg (by decide)] at e2
   exact cG0 n h k (j+1) _ (by omega) (e2▸h1)
theorem bL0{e:List W}{a:Nat}(n:List W)(h:Is e a):Is (aw2 e n) (bJ1 a n 256 1):=cG0 n h 256 0 1 rfl bL1
structure Pt where
 x:Nat
 y:Nat
 z:Nat
 t:Nat
def Is3(q:List W)(x y z:Nat):Prop:=Is (pX q) x/\Is (pY q) y/\Is (pZ q) z
def IsP(q:List W)(x y z t:Nat):Prop:=Is3 q x y z/\Is (pT q) t
theorem em8{a b c d:List W}(ha:a.length=5)(hb:b.length=5)(hc:c.length=5)(hd:d.length=5):pX (a++(b++(c++d)))=a/\pY (a++(b++(c++d)))=b/\pZ (a++(b++(c++d)))=c/\pT (a++(b++(c++d)))=d:=by
 match a,ha,b,hb,c,hc,d,hd with
 |[_,_,_,_,_],_,[_,_,_,_,_],_,[_,_,_,_,_],_,[_,_,_,_,_],_=>exact⟨rfl,rfl,rfl,rfl⟩
theorem ew9{a b c:List W}(ha:a.length=5)(hb:b.length=5)(hc:c.length=5):pX (a++(b++c))=a/\pY (a++(b++c))=b/\pZ (a++(b++c))=c:=by
 match a,ha,b,hb,c,hc with
 |[_,_,_,_,_],_,[_,_,_,_,_],_,[_,_,_,_,_],_=>exact⟨rfl,rfl,rfl⟩
theorem bZ4{q:List W}{x y z:Nat}(h:Is3 q x y z):Is3 (q.take 15) x y z:=by
 unfold Is3 pX pY pZ at*;rw[bO0,ct8,ct8,bO0,bO0];exact h
theorem cp9{e f g h:List W}{a b c d:Nat}(h1:Is e a)(h2:Is f b)(h3:Is g c)(h4:Is h d):IsP (ay3 e f g h) (a*b%pF) (c*d%pF) (b*c%pF) (a*d%pF):=by
 obtain⟨e1,e2,e3,e4⟩:=em8 (ac8 e f) (ac8 g h) (ac8 f g) (ac8 e h);unfold ay3 IsP Is3;rw[e1,e2,e3,e4];exact⟨⟨aj2 h1 h2,aj2 h3 h4,aj2 h2 h3⟩,aj2 h1 h4⟩
theorem bR6{x y:List W}{a b:Nat}(h1:Is x a)(h2:Is y b):IsP (ay2 x y) a b 1 (a*b%pF):=by
 obtain⟨e1,e2,e3,e4⟩:=em8 h1.1.1 h2.1.1 (c:=aH1) rfl (ac8 x y);unfold ay2 IsP Is3;rw[e1,e2,e3,e4];exact⟨⟨h1,h2,bL1⟩,aj2 h1 h2⟩
def cw0:Nat:=ag1 aP0%pF
theorem ck8:Is aP0 cw0:=⟨bk5 (by kernel_rfl),rfl⟩
def aq1:Nat:=(cw0+cw0)%pF
theorem dJ0:Is aQ4 aq1:=aD2 ck8 ck8
noncomputable def b87{α:Type}(tw x y z t u v w s:Nat)(k:Nat->Nat->Nat->Nat->α):α:=
 force ((y+(pF - x))%pF*((v+(pF - u))%pF)%pF) fun a=>
 force ((y+x)%pF*((v+u)%pF)%pF) fun b=>
 force (t*s%pF*tw%pF) fun c=>
 force (z*w%pF) fun i=>
 force ((i+i)%pF) fun d=>
 force ((b+(pF - a))%pF) fun e=>
 force ((d+(pF - c))%pF) fun f=>
 force ((d+c)%pF) fun g=>
 force ((b+a)%pF) fun h=>
 force (e*f%pF) fun x=>
 force (g*h%pF) fun y=>
 force (f*g%pF) fun z=>
 force (e*h%pF) fun t=>k x y z t
theorem cG1{p q:List W}{x y z t u v w s:Nat}(hp:IsP p x y z t)(hq:IsP q u v w s): ∃X Y Z T,IsP (bc7 p q) X Y Z T/\ ∀(α:Type) (k:Nat->Nat->Nat->Nat->α),b87 aq1 x y z t u v w s k=k X Y Z T:=by
 obtain⟨⟨p1,p2,p3⟩,p4⟩:=hp;obtain⟨⟨q1,q2,q3⟩,q4⟩:=hq;have ha:=aj2 (aF4 p2 p1) (aF4 q2 q1);have hb:=aj2 (aD2 p2 p1) (aD2 q2 q1);have hc:=aj2 (aj2 p4 q4) dJ0;have hi:=aj2 p3 q3;have hd:=aD2 hi hi;exact⟨_,_,_,_,cp9 (aF4 hb ha) (aF4 hd hc) (aD2 hd hc) (aD2 hb ha),fun α k=>by simp only[b87,force_eq]⟩
noncomputable def de2{α:Type}(x y z:Nat)(k:Nat->Nat->Nat->Nat->α):α:=
 force (x*x%pF) fun a=>
 force (y*y%pF) fun b=>
 force ((x+y)%pF*((x+y)%pF)%pF) fun c=>
 force (z*z%pF) fun i=>
 force ((a+b)%pF) fun h=>
 force ((a+(pF - b))%pF) fun g=>
 force ((h+(pF - c))%pF) fun e=>
 force (((i+i)%pF+g)%pF) fun f=>
 force (e*f%pF) fun x=>
 force (g*h%pF) fun y=>
 force (f*g%pF) fun z=>
 force (e*h%pF) fun t=>k x y z t
theorem d19{q:List W}{x y z:Nat}(hq:Is3 q x y z): ∃X Y Z T,IsP (aB5 q) X Y Z T/\ ∀(α:Type) (k:Nat->Nat->Nat->Nat->α),de2 x y z k=k X Y Z T:=by
 obtain⟨q1,q2,q3⟩:=hq;have ha:=aj2 q1 q1;have hb:=aj2 q2 q2;have hc:=aj2 (aD2 q1 q2) (aD2 q1 q2);have hi:=aj2 q3 q3;have hh:=aD2 ha hb;have hg:=aF4 ha hb;exact⟨_,_,_,_,cp9 (aF4 hh hc) (aD2 (aD2 hi hi) hg) hg hh,fun α k=>by simp only[de2,force_eq]⟩
noncomputable def aP2(tw u v w s:Nat)(b:List UInt8)(k:Nat):Nat->Nat->Nat->Nat->Pt:=
 Nat.rec (motive:=fun _=>Nat->Nat->Nat->Nat->Pt) (fun x y z t=>⟨x,y,z,t⟩) (fun j r x y z _=>de2 x y z fun x y z t=>Bool.rec (r x y z t) (b87 tw x y z t u v w s r) (ba5 b j)) k
theorem bZ3{p:List W}{u v w s:Nat}(b:List UInt8)(hp:IsP p u v w s): ∀k j x y z t,j+k=256->IsP (aC3 p b j) x y z t->IsP (aS2 p b) (aP2 aq1 u v w s b k x y z t).x (aP2 aq1 u v w s b k x y z t).y (aP2 aq1 u v w s b k x y z t).z (aP2 aq1 u v w s b k x y z t).t
 |0,j,x,y,z,t,hj,hx=>by
  have:j=256:=by omega
  subst this;exact hx
 |k+1,j,x,y,z,t,hj,hx=>by
  obtain⟨X,Y,Z,T,h1,h2⟩:=d19 (bZ4 hx.1);have e1:aP2 aq1 u v w s b (k+1) x y z t=de2 x y z fun x y z t=>Bool.rec (aP2 aq1 u v w s b k x y z t) (b87 aq1 x y z t u v w s (aP2 aq1 u v w s b k)) (ba5 b k):=rfl
  rw[h2] at e1;have h3:255 - j=k:=by omega
  have e2:aC3 p b (j+1)=if ba5 b k=true then bc7 (aB5 ((aC3 p b j).take 15)) p else aB5 ((aC3 p b j).take 15):=by rw[aC3,h3]
  cases hb:ba5 b k with
  |true=>
   rw[hb,if_pos rfl] at e2;rw[hb] at e1;obtain⟨X',Y',Z',T',h4,h5⟩:=cG1 h1 hp;rw[<-e2] at h4;have e3:=e1.trans (h5 _ _);rw[e3];exact bZ3 b hp k (j+1) _ _ _ _ (by omega) h4
  |false=>
   rw[hb,if_neg (by decide)] at e2
   rw[hb] at e1;rw[<-e2] at h1;have e3:aP2 aq1 u v w s b (k+1) x y z t=aP2 aq1 u v w s b k X Y Z T:=e1;rw[e3];exact bZ3 b hp k (j+1) _ _ _ _ (by omega) h1
theorem dI9:IsP bh3 0 1 1 0:=bR6 bk6 bL1
theorem cV4{p:List W}{u v w s:Nat}(b:List UInt8)(hp:IsP p u v w s){P:Pt}(e:aP2 aq1 u v w s b 256 0 1 1 0=P):IsP (aS2 p b) P.x P.y P.z P.t:=e▸bZ3 b hp 256 0 0 1 1 0 rfl dI9
noncomputable def bM7(x y z:Nat):List UInt8:=
 force (bJ1 z aT3 256 1) fun i=>force (y*i%pF) fun a=>force (x*i%pF) fun b=>bI6 (leN 32 a) (cD2 b)
theorem bL2{q:List W}{x y z:Nat}(h:Is3 q x y z):aE8 q=bM7 x y z:=by
 have hi:=bL0 aT3 h.2.2;unfold aE8 bM7;rw[force_eq,force_eq,force_eq,aT2 (aj2 h.2.1 hi),dr0 (aj2 h.1 hi)]
def bxG:Nat:=ag1 ce3%pF
def byG:Nat:=ag1 ce2%pF
theorem eq7:Is ce3 bxG:=⟨bk5 (by kernel_rfl),rfl⟩
theorem eq6:Is ce2 byG:=⟨bk5 (by kernel_rfl),rfl⟩
noncomputable def bo8(tw u v:Nat)(b:List UInt8):Pt:=force tw fun tw=>force u fun u=>force v fun v=>force (u*v%pF) fun s=>aP2 tw u v 1 s b 256 0 1 1 0
theorem cG2(b:List UInt8){P:Pt}(e:bo8 aq1 bxG byG b=P):IsP (aS2 be0 b) P.x P.y P.z P.t:=by
 unfold bo8 at e;simp only[force_eq] at e;exact cV4 b (bR6 eq7 eq6) e
theorem cY0{b:List UInt8}{P:Pt}{r:List UInt8}(e:bo8 aq1 bxG byG b=P)(h:bM7 P.x P.y P.z=r):aS5 b=r:=by
 unfold aS5;rw[bL2 (bZ4 (cG2 b e).1),h]
noncomputable def b73(tn e:Nat):Nat->Nat->Nat×Bool
 |0,_=>(0,false)
 |n+1,c=>if leN 32 (c*c%pF)=leN 32 e then(if cD2 c=true then(pF - c)%pF else c,true) else force (c*tn%pF) (b73 tn e n)
theorem cV3{t e:List W}{tn a:Nat}(ht:Is t tn)(he:Is e a): ∀(n:Nat) (c:List W) (b:Nat),Is c b->Is (aN0 t e n c).1 (b73 tn a n b).1/\(aN0 t e n c).2=(b73 tn a n b).2
 |0,_,_,_=>⟨bk6,rfl⟩
 |n+1,c,b,h=>by
  rw[aN0,b73,aT2 (aj2 h h),aT2 he,force_eq];by_cases h1:leN 32 (b*b%pF)=leN 32 a
  ·rw[if_pos h1,if_pos h1]
   refine⟨?_,rfl⟩;unfold cc8;rw[dr0 h];by_cases h2:cD2 b=true
   ·rw[if_pos h2,if_pos h2]
    have h3:=aF4 bk6 h;rw[Nat.zero_add] at h3;exact h3
   ·rw[if_neg h2,if_neg h2]
    exact h
  ·rw[if_neg h1,if_neg h1]
   exact cV3 ht he n _ _ (aj2 h ht)
def dR1:Nat:=ag1 bp9%pF
theorem d18:Is bp9 dR1:=⟨bk5 (by kernel_rfl),rfl⟩
noncomputable def bj9(e:Nat):Nat×Bool:=force dR1 fun t=>force (bJ1 e bB0 256 1) (b73 t e 2)
theorem dq9{e:List W}{a c:Nat}{b:Bool}(h:Is e a)(hr:bj9 a=(c,b)):Is (a08 e).1 c/\(a08 e).2=b:=by
 have:=cV3 d18 h 2 _ _ (bL0 bB0 h);unfold bj9 at hr;rw[force_eq,force_eq] at hr;rw[hr] at this;exact this
noncomputable def cg7(y:Nat):Nat:=force (y*y%pF) fun q=>force ((q*cw0%pF+1)%pF) fun d=>force (bJ1 d aT3 256 1) fun i=>(q+(pF - 1))%pF*i%pF
theorem eh9{l:List W}{y:Nat}(h:Is l y):Is (xSq l) (cg7 y):=by
 have hq:=aj2 h h;have:=aj2 (aF4 hq bL1) (bL0 aT3 (aD2 (aj2 hq ck8) bL1));unfold xSq sqF cg7;rw[force_eq,force_eq,force_eq];exact this
theorem cT9{b:List UInt8}{y c:Nat}(hb:b.length=32)(hy:leV (aL1 b)%pF=y)(h1:leN 32 y=aL1 b)(h2:bj9 (cg7 y)=(c,true))(h3:leN 32 c≠leN 32 0):(aR8 b).2=true/\ ∃x,(if bq0 b=true then(pF - c)%pF else c)=x/\IsP (aR8 b).1 x y 1 (x*y%pF):=by
 have hl:(aL1 b).length=32:=by unfold aL1;rw[List.length_set,hb]
 have hv:=dK5 hl;rw[hy] at hv;have hi:Is (au1 (aL1 b)) y:=hv;obtain⟨r1,r2⟩:=dq9 (eh9 hi) h2;unfold aR8;rw[aT2 hi,if_pos h1];unfold b67;rw[if_pos r2,aT2 r1,aT2 bk6,if_neg h3];by_cases hs:bq0 b=true
 ·rw[if_pos hs,if_pos hs]
  refine⟨rfl,_,rfl,?_⟩;have h5:=aF4 bk6 r1;rw[Nat.zero_add] at h5;exact bR6 h5 hi
 ·rw[if_neg hs,if_neg hs]
  exact⟨rfl,_,rfl,bR6 r1 hi⟩
theorem ef1{b r:List UInt8}{y c:Nat}(hb:b.length=32)(hy:leV (aL1 b)%pF=y)(h1:leN 32 y=aL1 b)(h2:bj9 (cg7 y)=(c,true))(h3:leN 32 c≠leN 32 0)(h4:bM7 ((pF - (if bq0 b=true then(pF - c)%pF else c))%pF) y 1=r):bt7 b=(r,0):=by
 obtain⟨g1,x,gx,g2⟩:=cT9 hb hy h1 h2 h3;rw[gx] at h4;unfold bt7 aS3;rw[if_pos g1];have h5:=aF4 bk6 g2.1.1;rw[Nat.zero_add] at h5;obtain⟨e1,e2,e3⟩:=ew9 h5.1.1 g2.1.2.1.1.1 g2.1.2.2.1.1;have:aE8 (bg6 (aR8 b).1)=r:=by
  rw[<-h4];apply bL2
  unfold bg6 Is3;rw[e1,e2,e3];exact⟨h5,g2.1.2⟩
 rw[this]
noncomputable def eg1(tw:Nat)(P Q:Pt):List UInt8:=b87 tw P.x P.y P.z P.t Q.x Q.y Q.z Q.t fun x y z _=>bM7 x y z
theorem eg0{a p b r:List UInt8}{y c:Nat}{P Q:Pt}(hb:p.length=32)(hy:leV (aL1 p)%pF=y)(h1:leN 32 y=aL1 p)(h2:bj9 (cg7 y)=(c,true))(h3:leN 32 c≠leN 32 0){x t:Nat}(hx:(if bq0 p=true then(pF - c)%pF else c)=x)(ht:x*y%pF=t)(hP:aP2 aq1 x y 1 t a 256 0 1 1 0=P)(hQ:bo8 aq1 bxG byG b=Q)(h4:eg1 aq1 P Q=r):bC8 a p b=(r,0):=by
 obtain⟨g1,x',gx,g2⟩:=cT9 hb hy h1 h2 h3;have:x'=x:=gx.symm.trans hx;subst this;rw[ht] at g2;unfold bC8 aS3;rw[if_pos g1];obtain⟨X,Y,Z,T,h5,h6⟩:=cG1 (cV4 a g2 hP) (cG2 b hQ);have:aE8 (bn9 a b (aR8 p).1)=r:=by
  rw[<-h4];unfold eg1;rw[h6];exact bL2 (bZ4 h5.1)
 rw[this]
end Cu
end
section
namespace Ed
open Go V Fe Sc Cu
def as8:List UInt8:=[3,0,0,0,0,0,0,0,0,0,0,0,0,0,0,0,0,0,0,0,0,0,0,0,0,0,0,0,0,0,0,0]
theorem cz2:ax2 as8=[191,212,231,77,109,219,240,133,119,26,161,89,201,28,84,101,237,211,6,84,11,210,200,105,208,58,205,174,122,224,238,234,216,237,89,131,20,125,86,239,70,91,149,93,78,74,12,226,31,28,40,26,141,85,224,141,53,216,22,245,81,99,84,63]:=by decide+kernel
def dA6:List UInt8:=[184,212,231,77,109,219,240,133,119,26,161,89,201,28,84,101,237,211,6,84,11,210,200,105,208,58,205,174,122,224,238,106]
theorem dj9:as1 as8=dA6:=by unfold as1;rw[cz2];decide+kernel
def ed1:List UInt8:=[216,237,89,131,20,125,86,239,70,91,149,93,78,74,12,226,31,28,40,26,141,85,224,141,53,216,22,245,81,99,84,63]
theorem ed0:aG9 as8=ed1:=by unfold aG9;rw[cz2];decide+kernel
def cA7:List UInt8:=[218,219,209,132,162,213,38,241,235,221,92,6,253,173,147,89,178,40,117,155,77,127,121,214,102,137,250,37,74,173,133,70]
theorem dB5:bo8 aq1 bxG byG dA6=⟨56405692230482464545604784115960435105928827986441749948754152243361124961132,45286876341192264074375528359528769008501024538557337215324421366020363174124,8247234788894269853583120264359546900735937451990611598645410728654266473192,43574705931537155450094437706946945989060911407261881085890199117865326121610⟩:=by kernel_rfl
theorem b84:ar1 as8=cA7:=by unfold ar1;rw[dj9];exact cY0 dB5 (by decide+kernel)
def bC7:List UInt8:=[123,34,97,117,116,104,95,101,118,101,110,116,115,34,58,91,93,44,34,99,111,110,116,101,110,116,34,58,123,34,99,114,101,97,116,111,114,34,58,34,64,97,58,104,34,125,44,34,100,101,112,116,104,34,58,49,44,34,104,97,115,104,101,115,34,58,123,34,115,104,97,50,53,54,34,58,34,89,110,79,69,90,74,76,121,100,57,71,84,87,83,68,121,53,50,117,49,54,102,116,72,73,77,43,71,56,71,55,101,114,50,78,50,116,108,110,74,43,66,99,34,125,44,34,111,114,105,103,105,110,95,115,101,114,118,101,114,95,116,115,34,58,48,44,34,112,114,101,118,95,101,118,101,110,116,115,34,58,91,93,44,34,114,111,111,109,95,105,100,34,58,34,33,114,58,104,34,44,34,115,101,110,100,101,114,34,58,34,64,97,58,104,34,44,34,115,116,97,116,101,95,107,101,121,34,58,34,34,44,34,116,121,112,101,34,58,34,109,46,114,111,111,109,46,99,114,101,97,116,101,34,125]
theorem dZ1:ax2 (ed1++bC7)=[154,200,153,234,28,31,132,204,166,76,184,27,14,16,5,27,95,31,112,220,160,81,29,72,205,106,230,242,253,99,245,26,88,73,102,75,71,90,241,106,51,178,187,15,29,41,32,241,130,100,76,106,250,82,230,57,110,160,31,249,231,197,30,115]:=by decide+kernel
def da6:List UInt8:=[78,11,136,143,138,5,227,98,133,211,139,236,222,91,132,7,0,179,251,69,250,33,69,168,49,243,184,54,62,186,1,8]
theorem ee9:bx2 as8 bC7=da6:=by unfold bx2 aw3;rw[ed0,dZ1];decide+kernel
def r0:List UInt8:=[184,54,65,10,205,62,244,110,123,197,206,172,36,42,93,250,117,142,105,18,247,186,32,252,164,176,103,98,225,132,58,248]
theorem ec5:bo8 aq1 bxG byG da6=⟨48538602071176322608598228348888294146356694324468821315037214052435119807588,7872476566481050567988345850893973096829532527820278243306899707550226821473,56922451352359990481039961441184361300061576249787557814579489497282177393265,41803995914186606858830310093269525172390010123308620366938899673839535902174⟩:=by kernel_rfl
theorem eu9:aS5 da6=r0:=cY0 ec5 (by decide+kernel)
theorem eq5:ax2 (r0++(cA7++bC7))=[91,51,115,8,235,25,118,217,179,246,101,239,196,22,40,4,19,120,1,224,103,119,189,220,44,25,253,220,22,168,50,42,104,76,253,146,108,92,125,40,70,191,22,120,17,212,30,85,180,223,156,212,117,150,80,109,207,158,105,135,145,160,232,143]:=by decide+kernel
def k0:List UInt8:=[37,82,85,107,160,120,148,106,160,166,185,172,106,227,92,223,153,209,97,162,73,141,92,242,232,72,35,64,181,60,201,0]
theorem eh6:aw3 (r0++(cA7++bC7))=k0:=by unfold aw3;rw[eq5];decide+kernel
def s0:List UInt8:=[231,158,241,104,233,202,202,97,193,125,50,223,248,126,196,140,228,171,202,252,134,198,9,72,211,10,26,100,76,240,239,7]
theorem eu8:bk3 k0 dA6 da6=s0:=by decide+kernel
theorem dV2:az0 as8 bC7=r0++s0:=by
 unfold az0;rw[ee9,eu9,b84,eh6,dj9,eu8]
def ef3:List UInt8:=[218,219,209,132,162,213,38,241,235,221,92,6,253,173,147,89,178,40,117,155,77,127,121,214,102,137,250,37,74,173,133,198]
theorem cz7:bj9 (cg7 31898086061597840061254374434819005103504529430023204751338217573563273173978)=(37465780952250151369641648731873544138529771113944773376421818212430486706308,true):=by kernel_rfl
theorem ef0:bt7 cA7=(ef3,0):=ef1 (y:=31898086061597840061254374434819005103504529430023204751338217573563273173978) (c:=37465780952250151369641648731873544138529771113944773376421818212430486706308) rfl (by decide+kernel) (by decide+kernel) cz7 (by decide+kernel) (by decide+kernel)
theorem dG9:aP2 aq1 20430263666407946342143843772470409788105221218875508643306973791526078113641 31898086061597840061254374434819005103504529430023204751338217573563273173978 1 22599273389454596259442420546771963255983423977321225120895791974719187437866 k0 256 0 1 1 0=⟨46312280493643865042467727454274609571934932900102578385972436197763790786392,51454074504662376154573100744671694294411398503147931265442193433787529579196,54700483556663596316851040965423159676070553224164510660833607020170131348293,34125275028926224755278463088133277350814070210686349498030318308762514121411⟩:=by kernel_rfl
theorem dH0:bo8 aq1 bxG byG s0=⟨18253126949783431598623468064692607156952688646163071155274872401865803018566,25253423181450724207081017194732363460186730468950861848852934466462491416317,49027039174653387185792935101754948579711337153168729208749353838154127261159,6436293553173553668729771232272364955321941646503823187243699897942132399980⟩:=by kernel_rfl
theorem ef9:bC8 k0 ef3 s0=(r0,0):=eg0 (y:=31898086061597840061254374434819005103504529430023204751338217573563273173978) (c:=37465780952250151369641648731873544138529771113944773376421818212430486706308) rfl (by decide+kernel) (by decide+kernel) cz7 (by decide+kernel) (x:=20430263666407946342143843772470409788105221218875508643306973791526078113641) (t:=22599273389454596259442420546771963255983423977321225120895791974719187437866) (by decide+kernel) (by decide+kernel) dG9 dH0 (by decide+kernel)
theorem dg6:a00 cA7 bC7 (r0++s0)=true:=by
 unfold a00;rw[show (r0++s0).drop 32=s0 from rfl,show (r0++s0).take 32=r0 from rfl,eh6,ef0,ef9]
 decide+kernel
end Ed
end
section
open Go V
namespace Ev
def aS9:bytes:=[104]
def a95:bytes:=[101,100,50,53,53,49,57,58,49]
def ek8:JV:=.mk 6 0 [] [[99,114,101,97,116,111,114]] [.mk 4 0 [64,97,58,104] [] []]
def ev0:T:=⟨[],[33,114,58,104],[64,97,58,104],[109,46,114,111,111,109,46,99,114,101,97,116,101],true,[],ek8,[],[],1,0,[],aa4⟩
theorem d45:aq2 (ac0 ev0)=true:=by kernel_rfl
theorem du0:(ab9 (ac0 ev0)).2=0:=by kernel_rfl
def dA0:bytes:=[98,115,132,100,146,242,119,209,147,89,32,242,231,107,181,233,251,71,32,207,134,240,110,222,175,99,118,182,89,201,248,23]
def cb9:bytes:=[89,110,79,69,90,74,76,121,100,57,71,84,87,83,68,121,53,50,117,49,54,102,116,72,73,77,43,71,56,71,55,101,114,50,78,50,116,108,110,74,43,66,99]
theorem du1:ac9 (ab9 (ac0 ev0)).1=(dA0,0):=by kernel_rfl
theorem dS2:ae7 ad6 dA0=cb9:=by kernel_rfl
def w0:JV:=(ae8 (ab9 (ac0 ev0)).1 ae2 (aD0 cb9)).1
theorem bE5:ab5 (ab9 (ac0 ev0)).1=(w0,0):=by
 unfold ab5;rw[du1,if_pos rfl];dsimp only;rw[dS2];kernel_rfl
theorem f_sum:aG5 w0=cb9:=by kernel_rfl
def c81:JV:=(ac5 w0).1
theorem er0:(ac5 w0).2=0:=by kernel_rfl
theorem er2:Se.ap3 c81=(Ed.bC7,0):=by kernel_rfl
def bI4:bytes:=Ed.r0++Ed.s0
def q0:JV:=az8 ad8 aS9 (az8 ad8 a95 (ac7 (ae7 ad6 bI4)))
theorem ej3:bq2 c81 aS9 a95 (ac7 (ae7 ad6 bI4))=(az8 c81 ac3 q0,0):=by kernel_rfl
theorem cI4:ah1 w0 aS9 a95 Ed.as8=(q0,0):=by
 unfold ah1;rw[if_pos er0,show (ac5 w0).1=c81 from rfl,cz3,er2]
 dsimp only;rw[Ed.dV2,show Ed.r0++Ed.s0=bI4 from rfl,ej3]
 kernel_rfl
def ck9:T:={ac0 ev0 with hash:=cb9,sigs:=q0}
theorem ej9:aw9 ev0 q0=ck9:=by
 unfold aw9;rw[bE5];dsimp only;rw[f_sum];kernel_rfl
theorem bE4:(aa6 ck9).2=0:=by kernel_rfl
def fin0:T:={ck9 with id:=(as5 (aa6 ck9).1).1}
theorem d46:ar6 ev0 aS9 a95 Ed.as8=(fin0,0):=by
 unfold ar6;rw[if_pos d45,if_pos du0];unfold bN0;rw[bE5];dsimp only;rw[if_pos rfl,f_sum,cI4];unfold bM9;rw[if_pos rfl];show bM8 ck9=(fin0,0)
 unfold bM8;rw[if_pos bE4,if_pos (aQ8 bE4)];rfl
theorem cI5:(aa6 fin0).2=0:=bE4
theorem ej5:aW9 (aa6 fin0).1=(fin0,0):=by
 have:=cn6 cI5;rw[this];rfl
theorem d44:az2 fin0=true:=bV4 bE4 rfl
def bC2:JV:=(aa6 ck9).1
theorem ej6:Se.aC1 (ac5 bC2).1=true:=by kernel_rfl
theorem ej7:Se.ap3 (ac5 bC2).1=(Ed.bC7,0):=by kernel_rfl
theorem er1:ad3 (Se.ag6 (Se.ab3 (ac5 bC2).1) aS9).1 a95=some (ac7 (ae7 ad6 bI4)):=by kernel_rfl
theorem er3:a90 ad6 (ae7 ad6 bI4)=(bI4,0):=by kernel_rfl
theorem ej2:Se.aT5 (ac5 bC2).1 aS9 a95 (Ed.ar1 Ed.as8)=0:=by
 unfold Se.aT5;rw[if_pos ej6,ej7,if_pos rfl,er1];show Se.bM2 (a90 ad6 (ae7 ad6 bI4)) (Ed.ar1 Ed.as8) Ed.bC7=0
 rw[er3,Ed.b84];unfold Se.bM2;rw[if_pos ⟨rfl,rfl⟩];dsimp only;rw[show bI4=Ed.r0++Ed.s0 from rfl,Ed.dg6]
 rfl
theorem ek1:ac9 bC2=(dA0,0):=by kernel_rfl
theorem ej8:ad3 ((ad3 bC2 ae2).getD aa4) az7=some (ac7 cb9):=by kernel_rfl
open Classical in
theorem ek0:bS0 bC2=true:=by
 unfold bS0;rw[ek1,ej8];dsimp only;rw[dS2,decide_eq_true rfl,decide_eq_true rfl];kernel_rfl
theorem ej4:(ac5 bC2).2=0:=by kernel_rfl
theorem dL3:aZ9 fin0 aS9 a95 (Ed.ar1 Ed.as8)=0:=by
 unfold aZ9;rw[if_pos d44];show bu5 bC2 aS9 a95 (Ed.ar1 Ed.as8)=0
 unfold bu5;rw[if_pos ⟨ej4,ej2⟩,if_pos ek0]
theorem dL4:(if Id.av7 64 fin0.sender=true then(Id.splitB fin0.sender).2.1 else[])=aS9:=by kernel_rfl
end Ev
end
section
open Go V
namespace Ev
theorem d26(ns:List bytes)(s:bytes):decide (0<=aX9 ns s)=ns.contains s:=by
 rw[bZ6];unfold hasB;induction ns with
 |nil=>rfl
 |cons a r ih=>rw[List.any_cons,List.contains_cons,ih,BEq.comm]
theorem do2{l:List bytes}{i:Nat}(h:i < l.length):aX3 (l.take i) (l.drop i)=(Id.by2 (l.getD i [])&&(!(l.take i).contains (l.getD i [])&&aX3 (l.take (i+1)) (l.drop (i+1)))):=by
 have e:l[i]?=some (l.getD i []):=by rw[cu0,xq1 h];rfl
 rw[a01 e,cJ0 e,aX3]
theorem cU7(l:List bytes)(m:Nat)(H:List AObj)(hm:m<=1000):o9 Tryz.prog 41 [.sl .sh 1 (l.map .str),.lit (.int .i64 m)] H (fun y H'=>y=.bool (bn8 m l)/\H'=H):=by
 unfold bn8;by_cases hl:l.length<=m
 ·have hlc:((m:Int) < (l.length:Int))=False:=eq_false (by omega)
  rw[decide_eq_true hl,Bool.true_and];generalize hR:aX3 [] l=R;refine y7 [] [.tmp 4] 29 Tryz.func41 rfl rfl rfl rfl (nlb rfl) (by kernel_rfl) ?_
  repeat' first|refine o6 ?_|simp -dsimp -implicitDefEqProofs (disch:=first|assumption|omega|simp only[ll];omega) only[go_sem,hlc]|refine vcJ ?_ ?_<;>intro _|refine vcA ?_ ?_;focus(repeat'(first|omega|assumption|refine vcA ?_ ?_);done)|omega|refine o7 (fun _=>?_)
  refine aa5 aa7 mixed [] [0,11,12] (fun i:Nat=>i<=l.length/\aX3 (l.take i) (l.drop i)=R) (fun i=>[(13,.lit (.int .i64 i))]) (fun _=>H) (fun i=>l.length - i) (by kernel_rfl) ?_ 0 ⟨by omega,hR⟩ y8 rfl
  rintro i ⟨hi,hI⟩
  by_cases h:i < l.length
  ·have hc:((i:Int) < (l.length:Int))=True:=eq_true (by omega)
   rw[do2 h] at hI;have c1:=fun H=>Id.d86 (l.getD i []) H
   have c2:=fun H=>bF7 (o:=.sh) (l.take i) (l.getD i []) H (by rw[List.length_take];omega)
   rw[d26] at c2;have htk:(l.map AV.str).take i=(l.take i).map AV.str:=cf8.symm;cases he:Id.by2 (l.getD i []) with
   |false=>
    rw[he] at hI c1;subst hI;repeat' first|refine o6 ?_|simp -dsimp -implicitDefEqProofs (disch:=first|assumption|omega|simp only[ll];omega) only[go_sem,hc]|refine o5 (c1 _) ?_|refine vcJ ?_ ?_<;>intro _|refine vcA ?_ ?_;focus(repeat'(first|omega|assumption|refine vcA ?_ ?_);done)|omega|refine o7 (fun _=>?_)
    exact y5 ⟨rfl,rfl⟩
   |true=>
    rw[he,Bool.true_and] at hI;rw[he] at c1;cases hd:(l.take i).contains (l.getD i []) with
    |true=>
     rw[hd] at hI c2;subst hI;repeat' first|refine o6 ?_|simp -dsimp -implicitDefEqProofs (disch:=first|assumption|omega|simp only[ll];omega) only[go_sem,hc,htk,aV8]|refine o5 (c1 _) ?_|refine o5 (c2 _) ?_|refine vcJ ?_ ?_<;>intro _|refine vcA ?_ ?_;focus(repeat'(first|omega|assumption|refine vcA ?_ ?_);done)|omega|refine o7 (fun _=>?_)
     exact y5 ⟨rfl,rfl⟩
    |false=>
     rw[hd] at hI c2;repeat' first|refine o6 ?_|simp -dsimp -implicitDefEqProofs (disch:=first|assumption|omega|simp only[ll];omega) only[go_sem,hc,htk,aV8]|refine o5 (c1 _) ?_|refine o5 (c2 _) ?_|refine vcJ ?_ ?_<;>intro _|refine vcA ?_ ?_;focus(repeat'(first|omega|assumption|refine vcA ?_ ?_);done)|omega|refine o7 (fun _=>?_)
     refine again (i+1) ?_ ?_ rfl y8
     ·omega
     ·exact⟨by omega,hI⟩
  ·have hc:((i:Int) < (l.length:Int))=False:=eq_false (by omega)
   rw[bl6 (by omega)] at hI
   subst hI;repeat' first|refine o6 ?_|simp -dsimp -implicitDefEqProofs (disch:=first|assumption|omega|simp only[ll];omega) only[go_sem,hc]|refine vcJ ?_ ?_<;>intro _|refine vcA ?_ ?_;focus(repeat'(first|omega|assumption|refine vcA ?_ ?_);done)|omega|refine o7 (fun _=>?_)
   exact y5 ⟨rfl,rfl⟩
 ·have hlc:((m:Int) < (l.length:Int))=True:=eq_true (by omega)
  rw[decide_eq_false hl];refine y7 [] [.tmp 4] 29 Tryz.func41 rfl rfl rfl rfl (nlb rfl) (by kernel_rfl) ?_
  repeat' first|refine o6 ?_|simp -dsimp -implicitDefEqProofs (disch:=first|assumption|omega|simp only[ll];omega) only[go_sem,hlc]|refine vcJ ?_ ?_<;>intro _|refine vcA ?_ ?_;focus(repeat'(first|omega|assumption|refine vcA ?_ ?_);done)|omega|refine o7 (fun _=>?_)
  exact y5 ⟨rfl,rfl⟩
theorem eh5(s:bytes)(H:List AObj)(hs:s.length<=1000):o9 Tryz.prog 39 [.str s] H (fun y H'=>y=.bool (ca9 s)/\H'=H):=by
 have c1:=fun H=>cR3 s H (by omega)
 have c2:=fun H=>bG4 s [32] H (by omega)
 unfold ca9;generalize aK7 s=P at*;generalize Lib.contains s [32]=C at*;by_cases h0:s=[]
 ·have h0c:=eq_true h0
  subst h0;refine y7 [] [.tmp 2] 19 Tryz.func39 rfl rfl rfl rfl (nlb rfl) (by kernel_rfl) ?_
  repeat' first|refine o6 ?_|simp -dsimp -implicitDefEqProofs (disch:=first|assumption|omega|simp only[ll];omega) only[go_sem]|refine vcJ ?_ ?_<;>intro _|refine vcA ?_ ?_;focus(repeat'(first|omega|assumption|refine vcA ?_ ?_);done)|omega|refine o7 (fun _=>?_)
  exact y5 ⟨rfl,rfl⟩
 ·have h0c:=eq_false h0
  rw[decide_eq_true h0,Bool.true_and];by_cases hl:s.length<=64
  ·rw[decide_eq_true hl,Bool.true_and]
   have hlc:((s.length:Int)<=64)=True:=eq_true (by omega)
   cases P with
   |false=>
    refine y7 [] [.tmp 2] 19 Tryz.func39 rfl rfl rfl rfl (nlb rfl) (by kernel_rfl) ?_
    repeat' first|refine o6 ?_|simp -dsimp -implicitDefEqProofs (disch:=first|assumption|omega|simp only[ll];omega) only[go_sem,h0c,hlc]|refine o5 (c1 _) ?_|refine vcJ ?_ ?_<;>intro _|refine vcA ?_ ?_;focus(repeat'(first|omega|assumption|refine vcA ?_ ?_);done)|omega|refine o7 (fun _=>?_)
    exact y5 ⟨rfl,rfl⟩
   |true=>
    refine y7 [] [.tmp 2] 19 Tryz.func39 rfl rfl rfl rfl (nlb rfl) (by kernel_rfl) ?_
    repeat' first|refine o6 ?_|simp -dsimp -implicitDefEqProofs (disch:=first|assumption|omega|simp only[ll];omega) only[go_sem,h0c,hlc]|refine o5 (c1 _) ?_|refine o5 (c2 _) ?_|refine vcJ ?_ ?_<;>intro _|refine vcA ?_ ?_;focus(repeat'(first|omega|assumption|refine vcA ?_ ?_);done)|omega|refine o7 (fun _=>?_)
    exact y5 ⟨rfl,rfl⟩
  ·rw[decide_eq_false hl,aC6]
   have hlc:((s.length:Int)<=64)=False:=eq_false (by omega)
   refine y7 [] [.tmp 2] 19 Tryz.func39 rfl rfl rfl rfl (nlb rfl) (by kernel_rfl) ?_
   repeat' first|refine o6 ?_|simp -dsimp -implicitDefEqProofs (disch:=first|assumption|omega|simp only[ll];omega) only[go_sem,h0c,hlc]|refine vcJ ?_ ?_<;>intro _|refine vcA ?_ ?_;focus(repeat'(first|omega|assumption|refine vcA ?_ ?_);done)|omega|refine o7 (fun _=>?_)
   exact y5 ⟨rfl,rfl⟩
theorem cW7(e:T)(H:List AObj)(h1:e.room.length<=1000)(h2:e.sender.length<=1000)(h3:e.typ.length<=1000)(h4:aa1 e.content<=40000)(h5:e.key.length<=1000):o9 Tryz.prog 15 [av e] H (fun y H'=>y=.bool (aq2 e)/\H'=H):=by
 have c1:=fun H=>Id.dx8 e.room H (by omega)
 have c2:=fun H=>Id.cK9 e.sender H (by omega)
 have c3:=fun H=>eh5 e.typ H (by omega)
 have c4:=fun H=>aD6 (o:=.sh) e.key H (by omega)
 have c5:=fun H=>aH7 e.content H h4
 have c6:=fun H=>cU7 e.prev 20 H (by omega)
 have c7:=fun H=>cU7 e.auth 10 H (by omega)
 unfold aq2;generalize Id.av7 33 e.room=r1 at*;generalize Id.av7 64 e.sender=r2 at*;generalize ca9 e.typ=r3 at*;generalize hv4:Lib.validD e.key=r4 at*;generalize aa9 12 e.content=r5 at*;generalize bn8 20 e.prev=r6 at*;generalize bn8 10 e.auth=r7 at*;unfold av cells;cases r1 with
 |false=>
  refine y7 [] [.tmp 2] 80 Tryz.func15 rfl rfl rfl rfl (nlb rfl) (by kernel_rfl) ?_
  repeat' first|refine o6 ?_|simp -dsimp -implicitDefEqProofs (disch:=first|assumption|omega|simp only[ll];omega) only[go_sem]|refine o5 (c1 _) ?_|refine vcJ ?_ ?_<;>intro _|refine vcA ?_ ?_;focus(repeat'(first|omega|assumption|refine vcA ?_ ?_);done)|omega|refine o7 (fun _=>?_)
  exact y5 ⟨rfl,rfl⟩
 |true=>
  cases r2 with
  |false=>
   refine y7 [] [.tmp 2] 80 Tryz.func15 rfl rfl rfl rfl (nlb rfl) (by kernel_rfl) ?_
   repeat' first|refine o6 ?_|simp -dsimp -implicitDefEqProofs (disch:=first|assumption|omega|simp only[ll];omega) only[go_sem]|refine o5 (c1 _) ?_|refine o5 (c2 _) ?_|refine vcJ ?_ ?_<;>intro _|refine vcA ?_ ?_;focus(repeat'(first|omega|assumption|refine vcA ?_ ?_);done)|omega|refine o7 (fun _=>?_)
   exact y5 ⟨rfl,rfl⟩
  |true=>
   cases r3 with
   |false=>
    refine y7 [] [.tmp 2] 80 Tryz.func15 rfl rfl rfl rfl (nlb rfl) (by kernel_rfl) ?_
    repeat' first|refine o6 ?_|simp -dsimp -implicitDefEqProofs (disch:=first|assumption|omega|simp only[ll];omega) only[go_sem]|refine o5 (c1 _) ?_|refine o5 (c2 _) ?_|refine o5 (c3 _) ?_|refine vcJ ?_ ?_<;>intro _|refine vcA ?_ ?_;focus(repeat'(first|omega|assumption|refine vcA ?_ ?_);done)|omega|refine o7 (fun _=>?_)
    exact y5 ⟨rfl,rfl⟩
   |true=>
    rw[Bool.true_and,Bool.true_and,Bool.true_and];by_cases hl:e.key.length<=255
    ·rw[decide_eq_true hl,Bool.true_and]
     have hlc:((255:Int) < (e.key.length:Int))=False:=eq_false (by omega)
     generalize hK:decide (e.key=[])=K;have hkc:(e.key=[])=(K=true):=by rw[<-hK,decide_eq_true_eq]
     generalize e.state=st;cases r4 with
     |false=>
      refine y7 [] [.tmp 2] 80 Tryz.func15 rfl rfl rfl rfl (nlb rfl) (by kernel_rfl) ?_
      repeat' first|refine o6 ?_|simp -dsimp -implicitDefEqProofs (disch:=first|assumption|omega|simp only[ll];omega) only[go_sem,hlc]|refine o5 (c1 _) ?_|refine o5 (c2 _) ?_|refine o5 (c3 _) ?_|refine o5 (c4 _) ?_|refine vcJ ?_ ?_<;>intro _|refine vcA ?_ ?_;focus(repeat'(first|omega|assumption|refine vcA ?_ ?_);done)|omega|refine o7 (fun _=>?_)
      exact y5 ⟨rfl,rfl⟩
     |true=>
      rw[Bool.true_and];by_cases hs:(st||K)=true
      ·rw[hs,Bool.true_and]
       have hsk:st=true\/(st=false/\K=true):=by
        cases st
        ·exact .inr ⟨rfl,hs⟩
        ·exact .inl rfl
       by_cases hn:1<=e.depth/\e.depth<=1099511627776/\0<=e.time/\e.time<=1099511627776
       ·obtain⟨n1,n2,n3,n4⟩:=hn
        have g1:(e.depth < 1)=False:=eq_false (by omega)
        have g2:((1099511627776:Int) < e.depth)=False:=eq_false (by omega)
        have g3:(e.time < 0)=False:=eq_false (by omega)
        have g4:((1099511627776:Int) < e.time)=False:=eq_false (by omega)
        rw[decide_eq_true ⟨n1,n2,n3,n4⟩,Bool.true_and];by_cases hk:e.content.kind=6
        ·have hk6:=eq_true hk
         rw[decide_eq_true hk,Bool.true_and];cases r5 with
         |false=>
          rcases hsk with rfl|⟨rfl,rfl⟩
          all_goals
           refine y7 [] [.tmp 2] 80 Tryz.func15 rfl rfl rfl rfl (nlb rfl) (by kernel_rfl) ?_
           repeat' first|refine o6 ?_|simp -dsimp -implicitDefEqProofs (disch:=first|assumption|omega|simp only[ll];omega) only[go_sem,hlc,hkc,g1,g2,g3,g4,hk6,xq5,xq8,List.drop_zero,ag5]|refine o5 (c1 _) ?_|refine o5 (c2 _) ?_|refine o5 (c3 _) ?_|refine o5 (c4 _) ?_|refine o5 (c5 _) ?_|refine vcJ ?_ ?_<;>intro _|refine vcA ?_ ?_;focus(repeat'(first|omega|assumption|refine vcA ?_ ?_);done)|omega|refine o7 (fun _=>?_)
           exact y5 ⟨rfl,rfl⟩
         |true=>
          rw[Bool.true_and];cases r6
          all_goals
           rcases hsk with rfl|⟨rfl,rfl⟩
           all_goals
            refine y7 [] [.tmp 2] 80 Tryz.func15 rfl rfl rfl rfl (nlb rfl) (by kernel_rfl) ?_
            repeat' first|refine o6 ?_|simp -dsimp -implicitDefEqProofs (disch:=first|assumption|omega|simp only[ll];omega) only[go_sem,hlc,hkc,g1,g2,g3,g4,hk6,xq5,xq8,List.drop_zero,ag5]|refine o5 (c1 _) ?_|refine o5 (c2 _) ?_|refine o5 (c3 _) ?_|refine o5 (c4 _) ?_|refine o5 (c5 _) ?_|refine o5 (c6 _) ?_|refine o5 (c7 _) ?_|refine vcJ ?_ ?_<;>intro _|refine vcA ?_ ?_;focus(repeat'(first|omega|assumption|refine vcA ?_ ?_);done)|omega|refine o7 (fun _=>?_)
            exact y5 ⟨rfl,rfl⟩
        ·have hk6:=eq_false hk
         rw[decide_eq_false hk,aC6];rcases hsk with rfl|⟨rfl,rfl⟩
         all_goals
          refine y7 [] [.tmp 2] 80 Tryz.func15 rfl rfl rfl rfl (nlb rfl) (by kernel_rfl) ?_
          repeat' first|refine o6 ?_|simp -dsimp -implicitDefEqProofs (disch:=first|assumption|omega|simp only[ll];omega) only[go_sem,hlc,hkc,g1,g2,g3,g4,hk6,xq5,xq8,List.drop_zero,ag5]|refine o5 (c1 _) ?_|refine o5 (c2 _) ?_|refine o5 (c3 _) ?_|refine o5 (c4 _) ?_|refine vcJ ?_ ?_<;>intro _|refine vcA ?_ ?_;focus(repeat'(first|omega|assumption|refine vcA ?_ ?_);done)|omega|refine o7 (fun _=>?_)
          exact y5 ⟨rfl,rfl⟩
       ·rw[decide_eq_false hn,aC6]
        rcases hsk with rfl|⟨rfl,rfl⟩
        all_goals
         by_cases g1:e.depth < 1
         ·have f1:=eq_true g1
          refine y7 [] [.tmp 2] 80 Tryz.func15 rfl rfl rfl rfl (nlb rfl) (by kernel_rfl) ?_
          repeat' first|refine o6 ?_|simp -dsimp -implicitDefEqProofs (disch:=first|assumption|omega|simp only[ll];omega) only[go_sem,hlc,hkc,f1]|refine o5 (c1 _) ?_|refine o5 (c2 _) ?_|refine o5 (c3 _) ?_|refine o5 (c4 _) ?_|refine vcJ ?_ ?_<;>intro _|refine vcA ?_ ?_;focus(repeat'(first|omega|assumption|refine vcA ?_ ?_);done)|omega|refine o7 (fun _=>?_)
          exact y5 ⟨rfl,rfl⟩
         ·have f1:=eq_false g1
          by_cases g2:1099511627776 < e.depth
          ·have f2:=eq_true g2
           refine y7 [] [.tmp 2] 80 Tryz.func15 rfl rfl rfl rfl (nlb rfl) (by kernel_rfl) ?_
           repeat' first|refine o6 ?_|simp -dsimp -implicitDefEqProofs (disch:=first|assumption|omega|simp only[ll];omega) only[go_sem,hlc,hkc,f1,f2]|refine o5 (c1 _) ?_|refine o5 (c2 _) ?_|refine o5 (c3 _) ?_|refine o5 (c4 _) ?_|refine vcJ ?_ ?_<;>intro _|refine vcA ?_ ?_;focus(repeat'(first|omega|assumption|refine vcA ?_ ?_);done)|omega|refine o7 (fun _=>?_)
           exact y5 ⟨rfl,rfl⟩
          ·have f2:=eq_false g2
           by_cases g3:e.time < 0
           ·have f3:=eq_true g3
            refine y7 [] [.tmp 2] 80 Tryz.func15 rfl rfl rfl rfl (nlb rfl) (by kernel_rfl) ?_
            repeat' first|refine o6 ?_|simp -dsimp -implicitDefEqProofs (disch:=first|assumption|omega|simp only[ll];omega) only[go_sem,hlc,hkc,f1,f2,f3]|refine o5 (c1 _) ?_|refine o5 (c2 _) ?_|refine o5 (c3 _) ?_|refine o5 (c4 _) ?_|refine vcJ ?_ ?_<;>intro _|refine vcA ?_ ?_;focus(repeat'(first|omega|assumption|refine vcA ?_ ?_);done)|omega|refine o7 (fun _=>?_)
            exact y5 ⟨rfl,rfl⟩
           ·have f3:=eq_false g3
            have f4:((1099511627776:Int) < e.time)=True:=eq_true (by omega)
            refine y7 [] [.tmp 2] 80 Tryz.func15 rfl rfl rfl rfl (nlb rfl) (by kernel_rfl) ?_
            repeat' first|refine o6 ?_|simp -dsimp -implicitDefEqProofs (disch:=first|assumption|omega|simp only[ll];omega) only[go_sem,hlc,hkc,f1,f2,f3,f4]|refine o5 (c1 _) ?_|refine o5 (c2 _) ?_|refine o5 (c3 _) ?_|refine o5 (c4 _) ?_|refine vcJ ?_ ?_<;>intro _|refine vcA ?_ ?_;focus(repeat'(first|omega|assumption|refine vcA ?_ ?_);done)|omega|refine o7 (fun _=>?_)
            exact y5 ⟨rfl,rfl⟩
      ·have hs':st=false/\K=false:=by
        cases st
        ·exact⟨rfl,by simpa using hs⟩
        ·exact absurd rfl hs
       obtain⟨rfl,rfl⟩:=hs';refine y7 [] [.tmp 2] 80 Tryz.func15 rfl rfl rfl rfl (nlb rfl) (by kernel_rfl) ?_
       repeat' first|refine o6 ?_|simp -dsimp -implicitDefEqProofs (disch:=first|assumption|omega|simp only[ll];omega) only[go_sem,hlc,hkc]|refine o5 (c1 _) ?_|refine o5 (c2 _) ?_|refine o5 (c3 _) ?_|refine o5 (c4 _) ?_|refine vcJ ?_ ?_<;>intro _|refine vcA ?_ ?_;focus(repeat'(first|omega|assumption|refine vcA ?_ ?_);done)|omega|refine o7 (fun _=>?_)
       exact y5 ⟨rfl,rfl⟩
    ·rw[decide_eq_false hl]
     have hlc:((255:Int) < (e.key.length:Int))=True:=eq_true (by omega)
     refine y7 [] [.tmp 2] 80 Tryz.func15 rfl rfl rfl rfl (nlb rfl) (by kernel_rfl) ?_
     repeat' first|refine o6 ?_|simp -dsimp -implicitDefEqProofs (disch:=first|assumption|omega|simp only[ll];omega) only[go_sem,hlc]|refine o5 (c1 _) ?_|refine o5 (c2 _) ?_|refine o5 (c3 _) ?_|refine vcJ ?_ ?_<;>intro _|refine vcA ?_ ?_;focus(repeat'(first|omega|assumption|refine vcA ?_ ?_);done)|omega|refine o7 (fun _=>?_)
     exact y5 ⟨rfl,rfl⟩
end Ev
end
section
open Go V
namespace Ev
theorem cd4{H M:List AObj}{v w:JV}(h:v=w):Done H (fun y H'=>y=jAV v/\H'=H) (jAV w) (H++M):=by
 subst h;exact aa3 _ (Le.refl _) (ad4 _) ⟨rfl,rfl⟩
theorem dh4(s:bytes)(H:List AObj):o9 Tryz.prog 76 [.str s] H (fun y H'=>y=jAV (ac7 s)/\H'=H):=by
 refine y7 [] [.cell 2 25] 5 Tryz.func76 rfl rfl rfl rfl (nlb rfl) (by kernel_rfl) ?_
 repeat' first|refine o6 ?_|simp -dsimp -implicitDefEqProofs (disch:=first|assumption|omega|simp only[ll];omega) only[go_sem]|refine vcJ ?_ ?_<;>intro _|refine vcA ?_ ?_;focus(repeat'(first|omega|assumption|refine vcA ?_ ?_);done)|omega|refine o7 (fun _=>?_)
 exact aj9 bR4 (cd4 rfl)
theorem bC4(n:Int)(H:List AObj):o9 Tryz.prog 78 [.lit (.int .i64 n)] H (fun y H'=>y=jAV (bt6 n)/\H'=H):=by
 refine y7 [] [.cell 2 25] 5 Tryz.func78 rfl rfl rfl rfl (nlb rfl) (by kernel_rfl) ?_
 repeat' first|refine o6 ?_|simp -dsimp -implicitDefEqProofs (disch:=first|assumption|omega|simp only[ll];omega) only[go_sem]|refine vcJ ?_ ?_<;>intro _|refine vcA ?_ ?_;focus(repeat'(first|omega|assumption|refine vcA ?_ ?_);done)|omega|refine o7 (fun _=>?_)
 exact aj9 bR4 (cd4 rfl)
def dI6(H:List AObj)(l:List bytes):List AObj:=H++[.cells (.one 25) ar4,.cells (.one 25) [.lit (.int .i64 5),.lit (.int .i64 0),.str [],.sl .full 0 [],.sl (.tok (H.length+2)) 5 ((l.map ac7).map jAV)],.grow 5 l.length none]
theorem cS8(l:List bytes)(H:List AObj)(hl:l.length<=1000):o9 Tryz.prog 77 [.sl .sh 1 (l.map .str)] H (fun y H'=>y=jAV (aJ6 l)/\H'=H):=by
 have c1:=fun s H=>dh4 s H
 have mS: ∀(a:List bytes) (b:bytes),(a.map ac7).map jAV++[jAV (ac7 b)]=((a++[b]).map ac7).map jAV:=fun a b=>by simp
 refine y7 [1000005,1000005001003] [.cell 2 25] 22 Tryz.func77 rfl rfl rfl rfl (nlb rfl) (by kernel_rfl) ?_
 repeat' first|refine o6 ?_|simp -dsimp -implicitDefEqProofs (disch:=first|assumption|omega|simp only[ll];omega) only[go_sem]|refine vcJ ?_ ?_<;>intro _|refine vcA ?_ ?_;focus(repeat'(first|omega|assumption|refine vcA ?_ ?_);done)|omega|refine o7 (fun _=>?_)
 refine b05 (H.length+1) 4 5 (by simp;exact⟨rfl,rfl⟩) rfl (by decide) ?_
 refine aa5 aa7 mixed [1000005,1000005001003] [2,3,7,8] (fun i:Nat=>i<=l.length) (fun i=>[(9,.int .i64 i)]) (fun i=>dI6 H (l.take i)) (fun i=>l.length - i) (by kernel_rfl) ?_ 0 (by omega) y8 (by simp[dI6,ar4])
 intro i hi;unfold dI6;dsimp only[ar4];by_cases h:i < l.length
 ·have hc:((i:Int) < (l.length:Int))=True:=eq_true (by omega)
  have e:l.take i++[l.getD i []]=l.take (i+1):=by
   have e:l[i]?=some (l.getD i []):=by rw[cu0,xq1 h];rfl
   rw[a01 e]
  have hn:(l.take i).length=i:=by rw[List.length_take];omega
  repeat' first|refine o6 ?_|simp -dsimp -implicitDefEqProofs (disch:=first|assumption|omega|simp only[ll];omega) only[go_sem,hc,mS,e]|refine o5 (c1 _ _) ?_|refine⟨_,_,c1 _ _,?_⟩|refine vcJ ?_ ?_<;>intro _|refine vcA ?_ ?_;focus(repeat'(first|omega|assumption|refine vcA ?_ ?_);done)|omega|refine o7 (fun _=>?_)
  refine again (i+1) ?_ ?_ ?_ y8
  ·omega
  ·omega
  ·rw[List.length_take,bl4 (by omega)]
 ·have hc:((i:Int) < (l.length:Int))=False:=eq_false (by omega)
  rw[ak5 (by omega:l.length<=i)]
  repeat' first|refine o6 ?_|simp -dsimp -implicitDefEqProofs (disch:=first|assumption|omega|simp only[ll];omega) only[go_sem,hc]|refine vcJ ?_ ?_<;>intro _|refine vcA ?_ ?_;focus(repeat'(first|omega|assumption|refine vcA ?_ ?_);done)|omega|refine o7 (fun _=>?_)
  exact aj9 (bK9 am9 aC5 (ns:=[]) (is:=l.map ac7)) (cd4 rfl)
theorem cU3(n:bytes)(v:JV):az3 (n,v)=.agg [.str n,.lit (.int .i64 v.kind),.lit (.int .i64 v.num),.str v.text,.sl .sh 1 (v.names.map .str),.sl .sh 5 (v.items.map jAV)]:=dt1.symm
theorem cX2{H M:List AObj}{o:Own}{l:Prs}{xs:List AV}(h:xs=l.map az3):Done H (fun y H'=>y=.sl .sh 6 (l.map az3)/\H'=H) (.sl o 6 xs) (H++M):=by
 subst h;exact aa3 _ aC5 bx4 ⟨rfl,rfl⟩
abbrev cX0(e:T):Prs:=[(bd2,aJ6 e.auth),(bd1,aJ6 e.prev),(ag7,e.content),(aQ9,bt6 e.depth),(ae2,aD0 e.hash),(bc9,bt6 e.time),(bd0,ac7 e.room),(aK6,ac7 e.sender),(Se.ac3,e.sigs),(aJ1,ac7 e.typ)]
theorem dL1(e:T)(H:List AObj)(h1:e.prev.length<=1000)(h2:e.auth.length<=1000):o9 Tryz.prog 43 [av e] H (fun y H'=>y=.sl .sh 6 ((ah9 e).map az3)/\H'=H):=by
 have c1:=fun s H=>dh4 s H
 have c2:=fun n H=>bC4 n H
 have c3:=fun H=>cS8 e.prev H h1
 have c4:=fun H=>cS8 e.auth H h2
 unfold av cells ah9;refine au3 aa7 mixed [1000002,1000002005002,1000002009002,1000002009006,1000002009013,1000002009019,1000002009023,1000002009027,1000002009034,1000002012002,1000002012006,1000002015002,1000002015006,1000002015013,1000002015019,1000002015023,1000002015027,1000002015034,1000002018002,1000002018006,1000002018013,1000002022002,1000002022006,1000002022013,1000002022019,1000002026002,1000002026006,1000002026013,1000002026019,1000002026023,1000002030002,1000002030006,1000002030013,1000002030019,1000002030023,1000002030027,1000002030034,1000002033002,1000002033006,1000002033013,1000002033019,1000002033023,1000002033027] 2 (rs:=[.tmp 2]) (n:=58) Tryz.func43 rfl rfl rfl rfl (nlb rfl) (by kernel_rfl) ?_
 repeat' first|refine o6 ?_|simp -dsimp -implicitDefEqProofs (disch:=first|assumption|omega|simp only[ll];omega) only[go_sem]|refine o5 (c1 _ _) ?_|refine⟨_,_,c1 _ _,?_⟩|refine vcJ ?_ ?_<;>intro _|refine vcA ?_ ?_;focus(repeat'(first|omega|assumption|refine vcA ?_ ?_);done)|omega|refine o7 (fun _=>?_)
 refine ce6 H.length (sh:=.one 25) (cs':=ad9 (aD0 e.hash)) (by rw[aP6];rfl) (.cons (Le.refl _) (.cons (Le.refl _) (.cons (Le.refl _) (.cons aC5 (.cons aC5 .nil))))) ?_
 rw[bf3];unfold ad9;refine aA0 aa7 mixed [1000002,1000002005002,1000002009002,1000002009006,1000002009013,1000002009019,1000002009023,1000002009027,1000002009034,1000002012002,1000002012006,1000002015002,1000002015006,1000002015013,1000002015019,1000002015023,1000002015027,1000002015034,1000002018002,1000002018006,1000002018013,1000002022002,1000002022006,1000002022013,1000002022019,1000002026002,1000002026006,1000002026013,1000002026019,1000002026023,1000002030002,1000002030006,1000002030013,1000002030019,1000002030023,1000002030027,1000002030034,1000002033002,1000002033006,1000002033013,1000002033019,1000002033023,1000002033027] (by kernel_rfl) ?_
 cases hst:e.state with
 |false=>
  repeat' first|refine o6 ?_|simp -dsimp -implicitDefEqProofs (disch:=first|assumption|omega|simp only[ll];omega) only[go_sem,hst,xq5,xq8,List.drop_zero,ag5]|refine o5 (c1 _ _) ?_|refine⟨_,_,c1 _ _,?_⟩|refine o5 (c2 _ _) ?_|refine⟨_,_,c2 _ _,?_⟩|refine o5 (c3 _) ?_|refine⟨_,_,c3 _,?_⟩|refine o5 (c4 _) ?_|refine⟨_,_,c4 _,?_⟩|refine vcJ ?_ ?_<;>intro _|refine vcA ?_ ?_;focus(repeat'(first|omega|assumption|refine vcA ?_ ?_);done)|omega|refine o7 (fun _=>?_)
  exact cX2 (l:=cX0 e) (by simp only[List.map_cons,List.map_nil,cU3];rfl)
 |true=>
  repeat' first|refine o6 ?_|simp -dsimp -implicitDefEqProofs (disch:=first|assumption|omega|simp only[ll];omega) only[go_sem,hst,xq5,xq8,List.drop_zero,ag5]|refine o5 (c1 _ _) ?_|refine⟨_,_,c1 _ _,?_⟩|refine o5 (c2 _ _) ?_|refine⟨_,_,c2 _ _,?_⟩|refine o5 (c3 _) ?_|refine⟨_,_,c3 _,?_⟩|refine o5 (c4 _) ?_|refine⟨_,_,c4 _,?_⟩|refine vcJ ?_ ?_<;>intro _|refine vcA ?_ ?_;focus(repeat'(first|omega|assumption|refine vcA ?_ ?_);done)|omega|refine o7 (fun _=>?_)
  exact cX2 (l:=cX0 e++[(aN6,ac7 e.key)]) (by simp only[List.cons_append,List.nil_append,List.map_cons,List.map_nil,cU3];rfl)
end Ev
end
section
open Go V
namespace Ev
theorem dZ8{m:Nat}{x:AV}(h:Low m x:=by(first|(first|exact .lit _|exact .str _|exact .any|exact ae4|exact ag3|exact .mp _ _ (by omega)|exact .msl _ _ _ _ (by omega)|exact ae6 (fun k e=>by cases e)|exact ad4 _|exact ai5|exact ai4|exact al2|exact al1 _)|(refine ag8 ?_;repeat(first|exact ab6|(refine aa2 ?_ ?_;focus(first|exact .lit _|exact .str _|exact .any|exact ae4|exact ag3|exact .mp _ _ (by omega)|exact .msl _ _ _ _ (by omega)|exact ae6 (fun k e=>by cases e)|exact ad4 _|exact ai5|exact ai4|exact al2|exact al1 _))))|(refine ay0 ?_;repeat(first|exact ab6|(refine aa2 ?_ ?_;focus(first|exact .lit _|exact .str _|exact .any|exact ae4|exact ag3|exact .mp _ _ (by omega)|exact .msl _ _ _ _ (by omega)|exact ae6 (fun k e=>by cases e)|exact ad4 _|exact ai5|exact ai4|exact al2|exact al1 _)))))):Low m x:=h
structure Bd(e:T):Prop where
 room:e.room.length<=1000
 sender:e.sender.length<=1000
 typ:e.typ.length<=1000
 key:e.key.length<=1000
 content:aa1 e.content<=9000
 sigs:aa1 e.sigs<=9000
 hash:e.hash.length<=9000
theorem dO7{e:T}(hf:aq2 e=true)(hb:Bd e): ∀p∈ah9 e,aa1 p.2<=10000/\p.1.length<=10000:=by
 obtain⟨h1,h2,h3,h4,_,⟨h5,h6⟩,h7,h8⟩:=bD7 hf;have e1:=bi0 h6;have e2:=bi0 h8;have b1:=hb.content;have b2:=hb.sigs;have b3:=hb.hash;have hc: ∀p∈ah9 e,p∈[(bd2,aJ6 e.auth),(bd1,aJ6 e.prev),(ag7,e.content),(aQ9,bt6 e.depth),(ae2,aD0 e.hash),(bc9,bt6 e.time),(bd0,ac7 e.room),(aK6,ac7 e.sender),(Se.ac3,e.sigs),(aJ1,ac7 e.typ)]\/p=(aN6,ac7 e.key):=by
  intro p hp;unfold ah9 at hp;rw[aP7] at hp;rcases hp with hp|hp
  ·exact .inl hp
  ·split at hp
   ·exact .inr (b43.1 hp)
   ·cases hp
 intro p hp;rcases hc p hp with h|rfl
 ·simp only[ai9,aG2,or_false] at h
  rcases h with rfl|rfl|rfl|rfl|rfl|rfl|rfl|rfl|rfl|rfl
  all_goals
   refine⟨?_,c26 rfl⟩;simp only[az5,bA5,bX1,e1,e2];omega
 ·refine⟨?_,c26 rfl⟩
  simp only[az5];omega
theorem bE2(e:T):(ah9 e).length<=1000:=by
 unfold ah9;rw[List.length_append];split<;>simp
theorem aN5(e:T)(H:List AObj)(hf:aq2 e=true)(hb:Bd e):o9 Tryz.prog 16 [av e] H (fun y H'=>y=af4 (ab9 e)/\H'=H):=by
 have h1:=bD7 hf;have c1:=fun H=>dL1 e H (by have:=h1.prev.1;omega) (by have:=h1.auth.1;omega)
 have c2:=fun H=>dy0 (ah9 e) H (bE2 e) (dO7 hf hb)
 unfold af4 at c2;unfold ab9;generalize aJ2 (ah9 e)=q at*;unfold av cells at*;refine y7 [] [.cell 2 25,.tmp 3] 9 Tryz.func16 rfl rfl rfl rfl (nlb rfl) (by kernel_rfl) ?_
 repeat' first|refine o6 ?_|simp -dsimp -implicitDefEqProofs (disch:=first|assumption|omega|simp only[ll];omega) only[go_sem]|refine o5 (c1 _) ?_|refine o5 (c2 _) ?_|refine vcJ ?_ ?_<;>intro _|refine vcA ?_ ?_;focus(repeat'(first|omega|assumption|refine vcA ?_ ?_);done)|omega|refine o7 (fun _=>?_)
 exact ag0 rfl
theorem cT4{e:T}(hf:aq2 e=true)(hb:Bd e):aa1 (ab9 e).1<=30000:=by
 have:=b66 hf;have b1:=hb.content;have b2:=hb.sigs;have b3:=hb.hash;omega
theorem aJ9{e:T}(hb:Bd e):aa1 (aa6 e).1<=30000:=by
 by_cases h:(aa6 e).2=0
 ·obtain⟨_,hf,_,_,hv⟩:=aU6 h
  rw[hv];exact cT4 hf hb
 ·have:(aa6 e).1=aa4:=by
   unfold aa6 at h⊢;split
   ·split
    ·rename_i h1 h2
     rw[if_pos h1,if_pos h2] at h;exact absurd rfl h
    ·rfl
   ·rfl
  rw[this];decide
theorem bb5(e:T)(H:List AObj)(hb:Bd e):o9 Tryz.prog 9 [av e] H (fun y H'=>y=af4 (aa6 e)/\H'=H):=by
 have c1:=fun H=>cW7 e H hb.room hb.sender hb.typ (by have:=hb.content;omega) hb.key
 unfold aa6;by_cases hk:e.sigs.kind=6
 ·have hkc:=eq_true hk
  by_cases hf:aq2 e=true
  ·rw[if_pos ⟨hk,hf⟩]
   have c2:=fun H=>aN5 e H hf hb
   have hs:=cT4 hf hb;have c3:=fun H=>dQ2 (ab9 e).1 H (by omega)
   rw[hf] at c1;unfold af4 at c2;generalize ab9 e=q at*;unfold av cells at*;by_cases hq:q.2=0
   ·have hqc:=eq_true hq
    by_cases hl:aU9 q.1<=8192
    ·have hlc:(8192 < aU9 q.1)=False:=eq_false (by omega)
     rw[if_pos ⟨hq,hl⟩];refine y7 [] [.cell 2 25,.tmp 3] 30 Tryz.func9 rfl rfl rfl rfl (nlb rfl) (by kernel_rfl) ?_
     repeat' first|refine o6 ?_|simp -dsimp -implicitDefEqProofs (disch:=first|assumption|omega|simp only[ll];omega) only[go_sem,hkc,hqc,hlc,xq5,xq8,List.drop_zero,ag5]|refine o5 (c1 _) ?_|refine o5 (c2 _) ?_|refine o5 (c3 _) ?_|refine vcJ ?_ ?_<;>intro _|refine vcA ?_ ?_;focus(repeat'(first|omega|assumption|refine vcA ?_ ?_);done)|omega|refine o7 (fun _=>?_)
     exact ag0 rfl
    ·have hlc:(8192 < aU9 q.1)=True:=eq_true (by omega)
     rw[if_neg fun h=>hl h.2]
     refine y7 [] [.cell 2 25,.tmp 3] 30 Tryz.func9 rfl rfl rfl rfl (nlb rfl) (by kernel_rfl) ?_
     repeat' first|refine o6 ?_|simp -dsimp -implicitDefEqProofs (disch:=first|assumption|omega|simp only[ll];omega) only[go_sem,hkc,hqc,hlc,xq5,xq8,List.drop_zero,ag5]|refine o5 (c1 _) ?_|refine o5 (c2 _) ?_|refine o5 (c3 _) ?_|refine vcJ ?_ ?_<;>intro _|refine vcA ?_ ?_;focus(repeat'(first|omega|assumption|refine vcA ?_ ?_);done)|omega|refine o7 (fun _=>?_)
     exact aj9 (au6 le_zero) (ag0 rfl)
   ·have hqc:=eq_false hq
    rw[if_neg fun h=>hq h.1]
    refine y7 [] [.cell 2 25,.tmp 3] 30 Tryz.func9 rfl rfl rfl rfl (nlb rfl) (by kernel_rfl) ?_
    repeat' first|refine o6 ?_|simp -dsimp -implicitDefEqProofs (disch:=first|assumption|omega|simp only[ll];omega) only[go_sem,hkc,hqc,xq5,xq8,List.drop_zero,ag5]|refine o5 (c1 _) ?_|refine o5 (c2 _) ?_|refine vcJ ?_ ?_<;>intro _|refine vcA ?_ ?_;focus(repeat'(first|omega|assumption|refine vcA ?_ ?_);done)|omega|refine o7 (fun _=>?_)
    exact aj9 (au6 le_zero) (ag0 rfl)
  ·rw[if_neg fun h=>hf h.2]
   rw[eq_false_of_ne_true hf] at c1;unfold av cells at*;refine y7 [] [.cell 2 25,.tmp 3] 30 Tryz.func9 rfl rfl rfl rfl (nlb rfl) (by kernel_rfl) ?_
   repeat' first|refine o6 ?_|simp -dsimp -implicitDefEqProofs (disch:=first|assumption|omega|simp only[ll];omega) only[go_sem,hkc,xq5,xq8,List.drop_zero,ag5]|refine o5 (c1 _) ?_|refine vcJ ?_ ?_<;>intro _|refine vcA ?_ ?_;focus(repeat'(first|omega|assumption|refine vcA ?_ ?_);done)|omega|refine o7 (fun _=>?_)
   exact aj9 (au6 le_zero) (ag0 rfl)
 ·have hkc:=eq_false hk
  rw[if_neg fun h=>hk h.1]
  unfold av cells at*;refine y7 [] [.cell 2 25,.tmp 3] 30 Tryz.func9 rfl rfl rfl rfl (nlb rfl) (by kernel_rfl) ?_
  repeat' first|refine o6 ?_|simp -dsimp -implicitDefEqProofs (disch:=first|assumption|omega|simp only[ll];omega) only[go_sem,hkc,xq5,xq8,List.drop_zero,ag5]|refine vcJ ?_ ?_<;>intro _|refine vcA ?_ ?_;focus(repeat'(first|omega|assumption|refine vcA ?_ ?_);done)|omega|refine o7 (fun _=>?_)
  exact aj9 (au6 le_zero) (ag0 rfl)
theorem aD6(e:T)(H:List AObj)(hb:Bd e):o9 Tryz.prog 10 [av e] H (fun y H'=>y=.bool (az2 e)/\H'=H):=by
 have c1:=fun H=>bb5 e H hb
 have hs:=aJ9 hb;have hr:=be8 (aa6 e).1;have c2:=fun H=>cL4 (aa6 e).1 H (by omega) (by omega)
 unfold az2;unfold af4 at c1;unfold aA3 at c2;generalize hn:as5 (aa6 e).1=n at*;clear hn hs hr;generalize aa6 e=q at*;unfold av cells at*;by_cases hq:q.2=0
 ·have hqc:=eq_true hq
  rw[decide_eq_true hq,Bool.true_and];by_cases h2:n.2=0
  ·have hnc:=eq_true h2
   rw[decide_eq_true h2,Bool.true_and];refine y7 [] [.tmp 2] 26 Tryz.func10 rfl rfl rfl rfl (nlb rfl) (by kernel_rfl) ?_
   repeat' first|refine o6 ?_|simp -dsimp -implicitDefEqProofs (disch:=first|assumption|omega|simp only[ll];omega) only[go_sem,hqc,hnc,xq5,xq8,List.drop_zero,ag5]|refine o5 (c1 _) ?_|refine o5 (c2 _) ?_|refine vcJ ?_ ?_<;>intro _|refine vcA ?_ ?_;focus(repeat'(first|omega|assumption|refine vcA ?_ ?_);done)|omega|refine o7 (fun _=>?_)
   exact aq9 ⟨rfl,rfl⟩
  ·have hnc:=eq_false h2
   rw[decide_eq_false h2];refine y7 [] [.tmp 2] 26 Tryz.func10 rfl rfl rfl rfl (nlb rfl) (by kernel_rfl) ?_
   repeat' first|refine o6 ?_|simp -dsimp -implicitDefEqProofs (disch:=first|assumption|omega|simp only[ll];omega) only[go_sem,hqc,hnc,xq5,xq8,List.drop_zero,ag5]|refine o5 (c1 _) ?_|refine o5 (c2 _) ?_|refine vcJ ?_ ?_<;>intro _|refine vcA ?_ ?_;focus(repeat'(first|omega|assumption|refine vcA ?_ ?_);done)|omega|refine o7 (fun _=>?_)
   exact aq9 ⟨rfl,rfl⟩
 ·have hqc:=eq_false hq
  rw[decide_eq_false hq];refine y7 [] [.tmp 2] 26 Tryz.func10 rfl rfl rfl rfl (nlb rfl) (by kernel_rfl) ?_
  repeat' first|refine o6 ?_|simp -dsimp -implicitDefEqProofs (disch:=first|assumption|omega|simp only[ll];omega) only[go_sem,hqc,xq5,xq8,List.drop_zero,ag5]|refine o5 (c1 _) ?_|refine vcJ ?_ ?_<;>intro _|refine vcA ?_ ?_;focus(repeat'(first|omega|assumption|refine vcA ?_ ?_);done)|omega|refine o7 (fun _=>?_)
  exact aq9 ⟨rfl,rfl⟩
theorem cm9(v:JV)(s:bytes):aa1 (aj3 v s)<=aa1 v:=by
 have:=ay7 (v:=v) (s:=s);unfold aj3;cases hg:ad3 v s with
 |none=>exact ax3 v
 |some x=>rwa [hg] at this
theorem bD6(v:JV)(s:bytes)(H:List AObj)(hv:aa1 v<=40000):o9 Tryz.prog 30 [jAV v,.str s] H (fun y H'=>y=jAV (aj3 v s)/\H'=H):=by
 have hgn:=au9 (n:=100000) (v:=v) (by omega)
 have c1:=fun H=>be1 v s H hgn.1 hgn.2
 unfold aL7 at c1;unfold aj3;generalize (ad3 v s).getD aa4=x at*;generalize (ad3 v s).isSome=b at*;refine y7 [] [.cell 4 25] 15 Tryz.func30 rfl rfl rfl rfl (nlb rfl) (by kernel_rfl) ?_
 repeat' first|refine o6 ?_|simp -dsimp -implicitDefEqProofs (disch:=first|assumption|omega|simp only[ll];omega) only[go_sem]|refine o5 (c1 _) ?_|refine vcJ ?_ ?_<;>intro _|refine vcA ?_ ?_;focus(repeat'(first|omega|assumption|refine vcA ?_ ?_);done)|omega|refine o7 (fun _=>?_)
 exact cd4 rfl
theorem bx9(v:JV)(s:bytes)(H:List AObj)(hv:aa1 v<=40000):o9 Tryz.prog 29 [jAV v,.str s] H (fun y H'=>y=.str (aj3 v s).text/\H'=H):=by
 have c1:=fun H=>bD6 v s H hv
 generalize aj3 v s=x at*;refine y7 [] [.tmp 4] 9 Tryz.func29 rfl rfl rfl rfl (nlb rfl) (by kernel_rfl) ?_
 repeat' first|refine o6 ?_|simp -dsimp -implicitDefEqProofs (disch:=first|assumption|omega|simp only[ll];omega) only[go_sem]|refine o5 (c1 _) ?_|refine vcJ ?_ ?_<;>intro _|refine vcA ?_ ?_;focus(repeat'(first|omega|assumption|refine vcA ?_ ?_);done)|omega|refine o7 (fun _=>?_)
 exact y5 ⟨rfl,rfl⟩
theorem cq0(v:JV)(s:bytes)(H:List AObj)(hv:aa1 v<=40000):o9 Tryz.prog 32 [jAV v,.str s] H (fun y H'=>y=.lit (.int .i64 (aj3 v s).num)/\H'=H):=by
 have c1:=fun H=>bD6 v s H hv
 generalize aj3 v s=x at*;refine y7 [] [.tmp 4] 9 Tryz.func32 rfl rfl rfl rfl (nlb rfl) (by kernel_rfl) ?_
 repeat' first|refine o6 ?_|simp -dsimp -implicitDefEqProofs (disch:=first|assumption|omega|simp only[ll];omega) only[go_sem]|refine o5 (c1 _) ?_|refine vcJ ?_ ?_<;>intro _|refine vcA ?_ ?_;focus(repeat'(first|omega|assumption|refine vcA ?_ ?_);done)|omega|refine o7 (fun _=>?_)
 exact y5 ⟨rfl,rfl⟩
theorem dr5(v:JV)(H:List AObj)(hv:aa1 v<=40000):o9 Tryz.prog 18 [jAV v] H (fun y H'=>y=.str (aG5 v)/\H'=H):=by
 have c1:=fun H=>bD6 v ae2 H hv
 have hs:=cm9 v ae2;have c2:=fun H=>bx9 (aj3 v ae2) az7 H (by omega)
 unfold aG5;generalize hx:aj3 v ae2=x at*;generalize (aj3 x az7).text=t at*;unfold ae2 at c1;unfold az7 at c2;refine y7 [] [.tmp 2] 7 Tryz.func18 rfl rfl rfl rfl (nlb rfl) (by kernel_rfl) ?_
 repeat' first|refine o6 ?_|simp -dsimp -implicitDefEqProofs (disch:=first|assumption|omega|simp only[ll];omega) only[go_sem]|refine o5 (c1 _) ?_|refine o5 (c2 _) ?_|refine vcJ ?_ ?_<;>intro _|refine vcA ?_ ?_;focus(repeat'(first|omega|assumption|refine vcA ?_ ?_);done)|omega|refine o7 (fun _=>?_)
 exact y5 ⟨rfl,rfl⟩
theorem dH6{m k:Nat}(h:k < m){l:List bytes}:Low m (.sl (.tok k) 1 (l.map .str)):=.sl _ _ _ (fun k e=>by cases e;exact h) fun x hx=>by
 rw[aJ4] at hx;obtain⟨s,_,rfl⟩:=xq9.1 hx;exact .str _
theorem cH0(v:JV)(s:bytes)(H:List AObj)(hv:aa1 v<=40000):o9 Tryz.prog 31 [jAV v,.str s] H (fun y H'=>y=.sl .sh 1 ((textsOf (aj3 v s)).map .str)/\H'=H):=by
 have c1:=fun H=>bD6 v s H hv
 have hs:=cm9 v s;have hgn:=au9 (n:=40000) (v:=aj3 v s) (by omega)
 unfold textsOf;generalize aj3 v s=x at*;have hx:=hgn.2;refine y7 [] [.tmp 4] 24 Tryz.func31 rfl rfl rfl rfl (nlb rfl) (by kernel_rfl) ?_
 repeat' first|refine o6 ?_|simp -dsimp -implicitDefEqProofs (disch:=first|assumption|omega|simp only[ll];omega) only[go_sem]|refine o5 (c1 _) ?_|refine vcJ ?_ ?_<;>intro _|refine vcA ?_ ?_;focus(repeat'(first|omega|assumption|refine vcA ?_ ?_);done)|omega|refine o7 (fun _=>?_)
 refine by7 5 1 rfl (by decide) (fun h=>absurd rfl h) ?_
 refine aa5 aa7 mixed [] [4,11,12] (fun i:Nat=>i<=x.items.length) (fun i=>[(13,.lit (.int .i64 i)),(5,.sl (.tok H.length) 1 (((x.items.take i).map JV.text).map .str))]) (fun i=>H++[.grow 1 i none]) (fun i=>x.items.length - i) (by kernel_rfl) ?_ 0 (by omega) y8 rfl
 intro i hi;by_cases h:i < x.items.length
 ·have hc:((i:Int) < (x.items.length:Int))=True:=eq_true (by omega)
  have hm:((x.items.take i).map JV.text).map AV.str++[AV.str (x.items.getD i aa4).text]=((x.items.take (i+1)).map JV.text).map AV.str:=by
   have e:x.items[i]?=some (x.items.getD i aa4):=by rw[cu0,xq1 h];rfl
   rw[a01 e];simp
  have hn:(x.items.take i).length=i:=by rw[List.length_take];omega
  repeat' first|refine o6 ?_|simp -dsimp -implicitDefEqProofs (disch:=first|assumption|omega|simp only[ll];omega) only[go_sem,hc,hm,hn]|refine vcJ ?_ ?_<;>intro _|refine vcA ?_ ?_;focus(repeat'(first|omega|assumption|refine vcA ?_ ?_);done)|omega|refine o7 (fun _=>?_)
  refine am1 (H.length+1) ([.cells (.one 25) (ad9 (x.items.getD i aa4))]) (i+1) ?_ ?_ ?_ ?_ ?_ (by repeat(first|exact af9|(refine af1 ?_ ?_;focus(first|exact dH6 (by omega)|exact dZ8)))) ?_ y8
  ·omega
  ·omega
  ·rw[List.append_assoc]
   rfl
  ·simp
  ·simp
  ·exact aU7 (fun o ho sh cs e=>by
    rw[b43] at ho;subst ho;cases e)
 ·have hc:((i:Int) < (x.items.length:Int))=False:=eq_false (by omega)
  rw[ak5 (by omega:x.items.length<=i)]
  repeat' first|refine o6 ?_|simp -dsimp -implicitDefEqProofs (disch:=first|assumption|omega|simp only[ll];omega) only[go_sem,hc]|refine vcJ ?_ ?_<;>intro _|refine vcA ?_ ?_;focus(repeat'(first|omega|assumption|refine vcA ?_ ?_);done)|omega|refine o7 (fun _=>?_)
  exact aa3 _ aC5 ai4 ⟨rfl,rfl⟩
end Ev
end
section
open Go V
namespace Ev
theorem eg9{m:Nat}(e:T):Low m (av e):=ay0 (by
 unfold cells;repeat(first|exact ab6|(refine aa2 ?_ ?_;focus(first|exact .lit _|exact .str _|exact ai4|exact ai5))))
theorem cl2{H M:List AObj}{e:T}{n:Int}{x:AV}(h:x=av e):Done H (fun y H'=>y=.tup [av e,.lit (.int .i64 n)]/\H'=H) (.tup [x,.lit (.int .i64 n)]) (H++M):=by
 subst h;exact aa3 _ (Le.refl _) (ag8 (aa2 (eg9 e) (aa2 (.lit _) ab6))) ⟨rfl,rfl⟩
theorem dH9:Le (.agg [.str [],.str [],.str [],.str [],.lit (.bool false),.str [],.lit (.int .i64 0),.lit (.int .i64 0),.str [],.sl .full 0 [],.sl .full 0 [],.sl .full 0 [],.sl .full 0 [],.lit (.int .i64 0),.lit (.int .i64 0),.str [],.lit (.int .i64 0),.lit (.int .i64 0),.str [],.sl .full 0 [],.sl .full 0 []]) (av zero):=by
 refine ca6 ?_;show LeAll _ (cells zero)
 unfold cells zero;repeat(first|exact LeAll.nil|(refine LeAll.cons ?_ ?_;focus(first|exact Le.refl _|exact am9)))
theorem aB6{H M:List AObj}{n:Int}:Done H (fun y H'=>y=.tup [av zero,.lit (.int .i64 n)]/\H'=H) (.tup [.agg [.str [],.str [],.str [],.str [],.lit (.bool false),.str [],.lit (.int .i64 0),.lit (.int .i64 0),.str [],.sl .full 0 [],.sl .full 0 [],.sl .full 0 [],.sl .full 0 [],.lit (.int .i64 0),.lit (.int .i64 0),.str [],.lit (.int .i64 0),.lit (.int .i64 0),.str [],.sl .full 0 [],.sl .full 0 []],.lit (.int .i64 n)]) (H++M):=
 aj9 (au6 dH9) (cl2 rfl)
open Classical in
theorem dx9(v:JV)(H:List AObj)(hv:aa1 v<=30000)(hb:Bd (ofJ v)):o9 Tryz.prog 11 [jAV v] H (fun y H'=>y=bi1 (aW9 v)/\H'=H):=by
 have c1:=fun H=>aH7 v H (by omega)
 have hgn:=au9 (n:=100000) (v:=v) (by omega)
 have c2:=fun H=>be1 v aN6 H hgn.1 hgn.2
 have t1:=fun H=>bx9 v bd0 H (by omega)
 have t2:=fun H=>bx9 v aK6 H (by omega)
 have t3:=fun H=>bx9 v aJ1 H (by omega)
 have t4:=fun H=>bx9 v aN6 H (by omega)
 have t5:=fun H=>bD6 v ag7 H (by omega)
 have t6:=fun H=>cH0 v bd1 H (by omega)
 have t7:=fun H=>cH0 v bd2 H (by omega)
 have t8:=fun H=>cq0 v aQ9 H (by omega)
 have t9:=fun H=>cq0 v bc9 H (by omega)
 have t10:=fun H=>dr5 v H (by omega)
 have t11:=fun H=>bD6 v Se.ac3 H (by omega)
 have c8:=fun H=>bb5 (ofJ v) H hb
 have hso:=aJ9 hb;have c9:=fun H=>dx6 (aa6 (ofJ v)).1 v H (by omega) (by omega)
 have hr:=be8 v;have c10:=fun H=>cL4 v H (by omega) (by omega)
 unfold aW9 al4;generalize aa6 (ofJ v)=q at*;generalize as5 v=n at*;unfold ofJ av cells at*;unfold aL7 at c2;dsimp only at c8;generalize (aj3 v bd0).text=x1 at*;generalize (aj3 v aK6).text=x2 at*;generalize (aj3 v aJ1).text=x3 at*;generalize (aj3 v aN6).text=x4 at*;generalize aj3 v ag7=x5 at*;generalize textsOf (aj3 v bd1)=x6 at*;generalize textsOf (aj3 v bd2)=x7 at*;generalize (aj3 v aQ9).num=x8 at*;generalize (aj3 v bc9).num=x9 at*;generalize aG5 v=x10 at*;generalize aj3 v Se.ac3=x11 at*;generalize (ad3 v aN6).getD aa4=y1 at*;generalize (ad3 v aN6).isSome=y2 at*;unfold bd0 at t1;unfold aK6 at t2;unfold aJ1 at t3;unfold aN6 at c2 t4;unfold ag7 at t5;unfold bd1 at t6;unfold bd2 at t7;unfold aQ9 at t8;unfold bc9 at t9;unfold Se.ac3 at t11;unfold af4 at c8;unfold aA3 at c10;unfold bi1;by_cases hk:v.kind=6
 ·have hkc:=eq_true hk
  rw[decide_eq_true hk,Bool.true_and];cases hR:aa9 12 v with
  |false=>
   rw[hR] at c1;rw[if_neg (by decide)]
   refine y7 [7] [.cell 2 27,.tmp 3] 76 Tryz.func11 rfl rfl rfl rfl (nlb rfl) (by kernel_rfl) ?_
   repeat' first|refine o6 ?_|simp -dsimp -implicitDefEqProofs (disch:=first|assumption|omega|simp only[ll];omega) only[go_sem,hkc]|refine o5 (c1 _) ?_|refine⟨_,_,c1 _,?_⟩|refine vcJ ?_ ?_<;>intro _|refine vcA ?_ ?_;focus(repeat'(first|omega|assumption|refine vcA ?_ ?_);done)|omega|refine o7 (fun _=>?_)
   exact aB6
  |true=>
   rw[hR] at c1 c9;rw[if_pos rfl];by_cases hq:q.2=0
   ·have hqc:=eq_true hq
    by_cases hs:aa9 12 q.1=true/\q.1=v
    ·have hsc:(aa9 12 q.1&&true&&decide (q.1=v))=true:=by rw[hs.1,decide_eq_true hs.2];rfl
     rw[hsc] at c9;rw[if_pos ⟨hq,hs.1,rfl,hs.2⟩];by_cases hn:n.2=0
     ·have hnc:=eq_true hn
      rw[if_pos hn];refine y7 [7,2000029,2000031,2000033,2000036,2000038,2000040,2000042,2000044,2000046,2000048,2000050,1000005,1000005000024,1000005001024,1000005002024,1000005003024,1000005004024,1000005005024,1000005007024,1000005008024,1000005009024,1000005010024,1000005011024,1000005012024,1000005013024,1000005014024,1000005015024,1000005016024,1000005017024,1000005018024,1000005019024,1000005020024,1000005021024,1000005022024] [.cell 2 27,.tmp 3] 76 Tryz.func11 rfl rfl rfl rfl (nlb rfl) (by kernel_rfl) ?_
      repeat' first|refine o6 ?_|simp -dsimp -implicitDefEqProofs (disch:=first|assumption|omega|simp only[ll];omega) only[go_sem,hkc,hqc,hnc]|refine o5 (c1 _) ?_|refine⟨_,_,c1 _,?_⟩|refine o5 (c2 _) ?_|refine⟨_,_,c2 _,?_⟩|refine o5 (t1 _) ?_|refine⟨_,_,t1 _,?_⟩|refine o5 (t2 _) ?_|refine⟨_,_,t2 _,?_⟩|refine o5 (t3 _) ?_|refine⟨_,_,t3 _,?_⟩|refine o5 (t4 _) ?_|refine⟨_,_,t4 _,?_⟩|refine o5 (t5 _) ?_|refine⟨_,_,t5 _,?_⟩|refine o5 (t6 _) ?_|refine⟨_,_,t6 _,?_⟩|refine o5 (t7 _) ?_|refine⟨_,_,t7 _,?_⟩|refine o5 (t8 _) ?_|refine⟨_,_,t8 _,?_⟩|refine o5 (t9 _) ?_|refine⟨_,_,t9 _,?_⟩|refine o5 (t10 _) ?_|refine⟨_,_,t10 _,?_⟩|refine o5 (t11 _) ?_|refine⟨_,_,t11 _,?_⟩|refine o5 (c8 _) ?_|refine⟨_,_,c8 _,?_⟩|refine o5 (c9 _) ?_|refine⟨_,_,c9 _,?_⟩|refine o5 (c10 _) ?_|refine⟨_,_,c10 _,?_⟩|refine vcJ ?_ ?_<;>intro _|refine vcA ?_ ?_;focus(repeat'(first|omega|assumption|refine vcA ?_ ?_);done)|omega|refine o7 (fun _=>?_)
      exact cl2 rfl
     ·have hnc:=eq_false hn
      rw[if_neg hn];refine y7 [7,2000029,2000031,2000033,2000036,2000038,2000040,2000042,2000044,2000046,2000048,2000050,1000005,1000005000024,1000005001024,1000005002024,1000005003024,1000005004024,1000005005024,1000005007024,1000005008024,1000005009024,1000005010024,1000005011024,1000005012024,1000005013024,1000005014024,1000005015024,1000005016024,1000005017024,1000005018024,1000005019024,1000005020024,1000005021024,1000005022024] [.cell 2 27,.tmp 3] 76 Tryz.func11 rfl rfl rfl rfl (nlb rfl) (by kernel_rfl) ?_
      repeat' first|refine o6 ?_|simp -dsimp -implicitDefEqProofs (disch:=first|assumption|omega|simp only[ll];omega) only[go_sem,hkc,hqc,hnc]|refine o5 (c1 _) ?_|refine⟨_,_,c1 _,?_⟩|refine o5 (c2 _) ?_|refine⟨_,_,c2 _,?_⟩|refine o5 (t1 _) ?_|refine⟨_,_,t1 _,?_⟩|refine o5 (t2 _) ?_|refine⟨_,_,t2 _,?_⟩|refine o5 (t3 _) ?_|refine⟨_,_,t3 _,?_⟩|refine o5 (t4 _) ?_|refine⟨_,_,t4 _,?_⟩|refine o5 (t5 _) ?_|refine⟨_,_,t5 _,?_⟩|refine o5 (t6 _) ?_|refine⟨_,_,t6 _,?_⟩|refine o5 (t7 _) ?_|refine⟨_,_,t7 _,?_⟩|refine o5 (t8 _) ?_|refine⟨_,_,t8 _,?_⟩|refine o5 (t9 _) ?_|refine⟨_,_,t9 _,?_⟩|refine o5 (t10 _) ?_|refine⟨_,_,t10 _,?_⟩|refine o5 (t11 _) ?_|refine⟨_,_,t11 _,?_⟩|refine o5 (c8 _) ?_|refine⟨_,_,c8 _,?_⟩|refine o5 (c9 _) ?_|refine⟨_,_,c9 _,?_⟩|refine o5 (c10 _) ?_|refine⟨_,_,c10 _,?_⟩|refine vcJ ?_ ?_<;>intro _|refine vcA ?_ ?_;focus(repeat'(first|omega|assumption|refine vcA ?_ ?_);done)|omega|refine o7 (fun _=>?_)
      exact aB6
    ·have hsc:(aa9 12 q.1&&true&&decide (q.1=v))=false:=by
      rw[Bool.and_true];rcases Classical.em (aa9 12 q.1=true) with h1|h1
      ·rw[decide_eq_false fun h2=>hs ⟨h1,h2⟩,Bool.and_false]
      ·rw[eq_false_of_ne_true h1,aC6]
     rw[hsc] at c9;rw[if_neg fun h=>hs ⟨h.2.1,h.2.2.2⟩]
     refine y7 [7,2000029,2000031,2000033,2000036,2000038,2000040,2000042,2000044,2000046,2000048,2000050,1000005,1000005000024,1000005001024,1000005002024,1000005003024,1000005004024,1000005005024,1000005007024,1000005008024,1000005009024,1000005010024,1000005011024,1000005012024,1000005013024,1000005014024,1000005015024,1000005016024,1000005017024,1000005018024,1000005019024,1000005020024,1000005021024,1000005022024] [.cell 2 27,.tmp 3] 76 Tryz.func11 rfl rfl rfl rfl (nlb rfl) (by kernel_rfl) ?_
     repeat' first|refine o6 ?_|simp -dsimp -implicitDefEqProofs (disch:=first|assumption|omega|simp only[ll];omega) only[go_sem,hkc,hqc]|refine o5 (c1 _) ?_|refine⟨_,_,c1 _,?_⟩|refine o5 (c2 _) ?_|refine⟨_,_,c2 _,?_⟩|refine o5 (t1 _) ?_|refine⟨_,_,t1 _,?_⟩|refine o5 (t2 _) ?_|refine⟨_,_,t2 _,?_⟩|refine o5 (t3 _) ?_|refine⟨_,_,t3 _,?_⟩|refine o5 (t4 _) ?_|refine⟨_,_,t4 _,?_⟩|refine o5 (t5 _) ?_|refine⟨_,_,t5 _,?_⟩|refine o5 (t6 _) ?_|refine⟨_,_,t6 _,?_⟩|refine o5 (t7 _) ?_|refine⟨_,_,t7 _,?_⟩|refine o5 (t8 _) ?_|refine⟨_,_,t8 _,?_⟩|refine o5 (t9 _) ?_|refine⟨_,_,t9 _,?_⟩|refine o5 (t10 _) ?_|refine⟨_,_,t10 _,?_⟩|refine o5 (t11 _) ?_|refine⟨_,_,t11 _,?_⟩|refine o5 (c8 _) ?_|refine⟨_,_,c8 _,?_⟩|refine o5 (c9 _) ?_|refine⟨_,_,c9 _,?_⟩|refine vcJ ?_ ?_<;>intro _|refine vcA ?_ ?_;focus(repeat'(first|omega|assumption|refine vcA ?_ ?_);done)|omega|refine o7 (fun _=>?_)
     exact aB6
   ·have hqc:=eq_false hq
    rw[if_neg fun h=>hq h.1]
    refine y7 [7,2000029,2000031,2000033,2000036,2000038,2000040,2000042,2000044,2000046,2000048,2000050,1000005,1000005000024,1000005001024,1000005002024,1000005003024,1000005004024,1000005005024,1000005007024,1000005008024,1000005009024,1000005010024,1000005011024,1000005012024,1000005013024,1000005014024,1000005015024,1000005016024,1000005017024,1000005018024,1000005019024,1000005020024,1000005021024,1000005022024] [.cell 2 27,.tmp 3] 76 Tryz.func11 rfl rfl rfl rfl (nlb rfl) (by kernel_rfl) ?_
    repeat' first|refine o6 ?_|simp -dsimp -implicitDefEqProofs (disch:=first|assumption|omega|simp only[ll];omega) only[go_sem,hkc,hqc]|refine o5 (c1 _) ?_|refine⟨_,_,c1 _,?_⟩|refine o5 (c2 _) ?_|refine⟨_,_,c2 _,?_⟩|refine o5 (t1 _) ?_|refine⟨_,_,t1 _,?_⟩|refine o5 (t2 _) ?_|refine⟨_,_,t2 _,?_⟩|refine o5 (t3 _) ?_|refine⟨_,_,t3 _,?_⟩|refine o5 (t4 _) ?_|refine⟨_,_,t4 _,?_⟩|refine o5 (t5 _) ?_|refine⟨_,_,t5 _,?_⟩|refine o5 (t6 _) ?_|refine⟨_,_,t6 _,?_⟩|refine o5 (t7 _) ?_|refine⟨_,_,t7 _,?_⟩|refine o5 (t8 _) ?_|refine⟨_,_,t8 _,?_⟩|refine o5 (t9 _) ?_|refine⟨_,_,t9 _,?_⟩|refine o5 (t10 _) ?_|refine⟨_,_,t10 _,?_⟩|refine o5 (t11 _) ?_|refine⟨_,_,t11 _,?_⟩|refine o5 (c8 _) ?_|refine⟨_,_,c8 _,?_⟩|refine vcJ ?_ ?_<;>intro _|refine vcA ?_ ?_;focus(repeat'(first|omega|assumption|refine vcA ?_ ?_);done)|omega|refine o7 (fun _=>?_)
    exact aB6
 ·have hkc:=eq_false hk
  rw[decide_eq_false hk,aC6,if_neg (by decide)]
  refine y7 [7] [.cell 2 27,.tmp 3] 76 Tryz.func11 rfl rfl rfl rfl (nlb rfl) (by kernel_rfl) ?_
  repeat' first|refine o6 ?_|simp -dsimp -implicitDefEqProofs (disch:=first|assumption|omega|simp only[ll];omega) only[go_sem,hkc]|refine vcJ ?_ ?_<;>intro _|refine vcA ?_ ?_;focus(repeat'(first|omega|assumption|refine vcA ?_ ?_);done)|omega|refine o7 (fun _=>?_)
  exact aB6
end Ev
end
section
open Go V
namespace Ev
def aG6(server key seed:bytes):AV:=.agg (.str server::.str key::seed.map o8)
theorem bF4(e:T)(H:List AObj)(hs:e.sender.length<=10000):o9 Tryz.prog 13 [av e] H (fun y H'=>y=.str (if Id.av7 64 e.sender=true then(Id.splitB e.sender).2.1 else[])/\H'=H):=by
 have c1:=fun H=>Id.cK9 e.sender H hs
 have c2:=fun H=>Id.d82 e.sender H hs
 unfold av cells;generalize Id.splitB e.sender=p at*;cases hn:Id.av7 64 e.sender with
 |true=>
  rw[hn] at c1;refine y7 [] [.tmp 2] 18 Tryz.func13 rfl rfl rfl rfl (nlb rfl) (by kernel_rfl) ?_
  repeat' first|refine o6 ?_|simp -dsimp -implicitDefEqProofs (disch:=first|assumption|omega|simp only[ll];omega) only[go_sem]|refine o5 (c1 _) ?_|refine o5 (c2 _) ?_|refine vcJ ?_ ?_<;>intro _|refine vcA ?_ ?_;focus(repeat'(first|omega|assumption|refine vcA ?_ ?_);done)|omega|refine o7 (fun _=>?_)
  exact y5 ⟨rfl,rfl⟩
 |false=>
  rw[hn] at c1;refine y7 [] [.tmp 2] 18 Tryz.func13 rfl rfl rfl rfl (nlb rfl) (by kernel_rfl) ?_
  repeat' first|refine o6 ?_|simp -dsimp -implicitDefEqProofs (disch:=first|assumption|omega|simp only[ll];omega) only[go_sem]|refine o5 (c1 _) ?_|refine vcJ ?_ ?_<;>intro _|refine vcA ?_ ?_;focus(repeat'(first|omega|assumption|refine vcA ?_ ?_);done)|omega|refine o7 (fun _=>?_)
  exact y5 ⟨rfl,rfl⟩
theorem c58(v:JV):aa1 (Se.ab3 v)<=aa1 v:=by
 have:=ay7 (v:=v) (s:=Se.ac3);unfold Se.ab3;cases hg:ad3 v Se.ac3 with
 |none=>exact ax3 v
 |some x=>rwa [hg] at this
theorem dj2(v:JV)(s:bytes):aa1 (Se.ag6 v s).1<=aa1 v:=by
 have:=ay7 (v:=v) (s:=s);unfold Se.ag6;cases hg:ad3 v s with
 |none=>exact ax3 v
 |some x=>rwa [hg] at this
theorem c60(v:JV)(server key:bytes)(t:JV):aa1 (bq2 v server key t).1<=3*aa1 v+server.length+key.length+aa1 t+20:=by
 have h0:=ax3 v;have hz:aa1 aa4=1:=rfl;have h1:=c58 v;have h2:=dj2 (Se.ab3 v) server;have hn: ∀n:bytes,aj7 n=1+n.length:=fun n=>rfl
 have h3:=aU0 (v:=(Se.ag6 (Se.ab3 v) server).1) (s:=key) (x:=t);have h4:=aU0 (v:=Se.ab3 v) (s:=server) (x:=(ae8 (Se.ag6 (Se.ab3 v) server).1 key t).1);have h5:=aU0 (v:=v) (s:=Se.ac3) (x:=(ae8 (Se.ab3 v) server (ae8 (Se.ag6 (Se.ab3 v) server).1 key t).1).1);have h6:aj7 Se.ac3=11:=rfl;rw[hn] at h3 h4;unfold bq2;repeat' split
 all_goals first|(dsimp only;omega)|omega
theorem c61(v:JV)(server key seed:bytes):aa1 (Se.aW7 v server key seed).1<=3*aa1 v+server.length+key.length+107:=by
 have h:=c60 v server key (ac7 (ae7 ad6 (Ed.az0 seed (Se.ap3 v).1)));rw[az5,aB4,Ed.bX3] at h;rw[cz3];omega
theorem dA3(v:JV)(server key seed:bytes)(H:List AObj)(hv:aa1 v<=12000)(h1:server.length<=1000)(h2:key.length<=1000)(hd:seed.length=32):o9 Tryz.prog 19 [jAV v,aG6 server key seed] H (fun y H'=>y=af4 (ah1 v server key seed)/\H'=H):=by
 have c1:=fun H=>b07 v H (by omega)
 have hr:=be8 v;have c2:=fun H=>Se.cL1 (ac5 v).1 server key seed H (by omega) h1 h2 hd
 have hz:=c61 (ac5 v).1 server key seed;have c3:=fun H=>bD6 (Se.aW7 (ac5 v).1 server key seed).1 Se.ac3 H (by omega)
 unfold ah1;unfold aG6;unfold af4 at c1 c2;generalize ac5 v=r at*;generalize Se.aW7 r.1 server key seed=q at*;generalize aj3 q.1 Se.ac3=g at*;unfold Se.ac3 at c3;by_cases hp:r.2=0
 ·have hpc:=eq_true hp
  rw[if_pos hp];refine y7 [6] [.cell 4 25,.tmp 5] 32 Tryz.func19 rfl rfl rfl rfl (nlb rfl) (by kernel_rfl) ?_
  repeat' first|refine o6 ?_|simp -dsimp -implicitDefEqProofs (disch:=first|assumption|omega|simp only[ll];omega) only[go_sem,hpc,ab2,hd]|refine o5 (c1 _) ?_|refine o5 (c2 _) ?_|refine o5 (c3 _) ?_|refine vcJ ?_ ?_<;>intro _|refine vcA ?_ ?_;focus(repeat'(first|omega|assumption|refine vcA ?_ ?_);done)|omega|refine o7 (fun _=>?_)
  exact ag0 rfl
 ·have hpc:=eq_false hp
  rw[if_neg hp];refine y7 [6] [.cell 4 25,.tmp 5] 32 Tryz.func19 rfl rfl rfl rfl (nlb rfl) (by kernel_rfl) ?_
  repeat' first|refine o6 ?_|simp -dsimp -implicitDefEqProofs (disch:=first|assumption|omega|simp only[ll];omega) only[go_sem,hpc,ab2,hd]|refine o5 (c1 _) ?_|refine vcJ ?_ ?_<;>intro _|refine vcA ?_ ?_;focus(repeat'(first|omega|assumption|refine vcA ?_ ?_);done)|omega|refine o7 (fun _=>?_)
  exact aj9 (au6 le_zero) (ag0 rfl)
theorem d68{e:T}(hb:Bd e):Bd (ac0 e):=⟨hb.room,hb.sender,hb.typ,hb.key,hb.content,(by decide:aa1 ad8<=9000),aL0 _⟩
theorem dj4{e:T}(hf:aq2 (ac0 e)=true)(hb:Bd e):aa1 (ab9 (ac0 e)).1<=11600:=by
 have:=b66 hf;have h1:=hb.content;have h2:aa1 (ac0 e).sigs=1:=rfl;have h3:(ac0 e).hash.length=0:=rfl;have h4:(ac0 e).content=e.content:=rfl;rw[h2,h3,h4] at this;omega
theorem a04{v:JV}(h:(ab5 v).2=0):(aG5 (ab5 v).1).length<=9000:=by
 unfold aG5 aj3;rw[dc3 h,Option.getD_some,cT5,Option.getD_some];show (ae7 ad6 (ac9 v).1).length<=9000
 rw[aB4,aY5];decide
theorem cy8(s:bytes)(x:JV):aa1 (az8 ad8 s x)=2+s.length+aa1 x:=by
 have:az8 ad8 s x=ofP ad8 [(s,x)]:=a96 ad8 [] s x;rw[this,aT0,ar9];show 1+0+(1+s.length+aa1 x+0)=_
 omega
theorem cl5{e:T}{server key seed:bytes}{q:JV}(hb:Bd e)(h1:server.length<=1000)(h2:key.length<=1000)(hm:(ab9 (ac0 e)).2=0)(h3:(ab5 (ab9 (ac0 e)).1).2=0)(hq:ah1 (ab5 (ab9 (ac0 e)).1).1 server key seed=(q,0)):Bd (aw9 e q):=by
 have h5:=cq2 h3 hm hq;refine⟨hb.room,hb.sender,hb.typ,hb.key,hb.content,?_,a04 h3⟩;show aa1 q<=9000
 rw[h5,cy8,cy8,az5,aB4,Ed.bX3];omega
def fc(e:T)(id hash:bytes)(k n:Int)(t:bytes)(ns is:List AV):List AV:=[.str id,.str e.room,.str e.sender,.str e.typ,.lit (.bool e.state),.str e.key,.lit (.int .i64 e.content.kind),.lit (.int .i64 e.content.num),.str e.content.text,.sl .sh 1 (e.content.names.map .str),.sl .sh 5 (e.content.items.map jAV),.sl .sh 1 (e.prev.map .str),.sl .sh 1 (e.auth.map .str),.lit (.int .i64 e.depth),.lit (.int .i64 e.time),.str hash,.lit (.int .i64 k),.lit (.int .i64 n),.str t,.sl .sh 1 ns,.sl .sh 5 is]
theorem cQ3(e:T)(q:JV×Int):bM9 {ac0 e with hash:=aG5 (ab5 (ab9 (ac0 e)).1).1} q=if q.2=0 then(if(aa6 (aw9 e q.1)).2=0 then(if(as5 (aa6 (aw9 e q.1)).1).2=0 then({aw9 e q.1 with id:=(as5 (aa6 (aw9 e q.1)).1).1},0) else(zero,(as5 (aa6 (aw9 e q.1)).1).2)) else(zero,3)) else(zero,q.2):=id rfl
theorem cY7(e:T)(server key seed:bytes)(H:List AObj)(hb:Bd e)(h1:server.length<=1000)(h2:key.length<=1000)(hd:seed.length=32):o9 Tryz.prog 6 [av e,aG6 server key seed] H (fun y H'=>y=bi1 (ar6 e server key seed)/\H'=H):=by
 have hbb:=d68 hb;have c1: ∀H,o9 Tryz.prog 15 [.agg (fc e [] [] 6 0 [] [] [])] H (fun y H'=>y=.bool (aq2 (ac0 e))/\H'=H):=fun H=>cW7 (ac0 e) H hb.room hb.sender hb.typ (by have:=hb.content;show aa1 e.content<=_;omega) hb.key
 have le:LeAll [.str [],.str e.room,.str e.sender,.str e.typ,.lit (.bool e.state),.str e.key,.lit (.int .i64 e.content.kind),.lit (.int .i64 e.content.num),.str e.content.text,.sl .sh 1 (e.content.names.map .str),.sl .sh 5 (e.content.items.map jAV),.sl .sh 1 (e.prev.map .str),.sl .sh 1 (e.auth.map .str),.lit (.int .i64 e.depth),.lit (.int .i64 e.time),.str [],.lit (.int .i64 6),.lit (.int .i64 0),.str [],.sl .full 0 [],.sl .full 0 []] (fc e [] [] 6 0 [] [] []):=by
  unfold fc;repeat(first|exact LeAll.nil|(refine LeAll.cons ?_ ?_;focus(first|exact Le.refl _|exact am9)))
 unfold bi1 ar6;unfold av cells aG6;refine au3 aa7 mixed [2,6] 2 (rs:=[.cell 4 27,.tmp 5]) (n:=67) Tryz.func6 rfl rfl rfl rfl (nlb rfl) (by kernel_rfl) ?_
 repeat' first|refine o6 ?_|simp -dsimp -implicitDefEqProofs (disch:=first|assumption|omega|simp only[ll];omega) only[go_sem,ab2,xq5,xq8,List.drop_zero,ag5]|refine vcJ ?_ ?_<;>intro _|refine vcA ?_ ?_;focus(repeat'(first|omega|assumption|refine vcA ?_ ?_);done)|omega|refine o7 (fun _=>?_)
 refine ce6 H.length (by rw[aP6];rfl) le ?_
 rw[bf3];unfold fc at c1⊢;by_cases hf:aq2 (ac0 e)=true
 ·rw[if_pos hf]
  rw[hf] at c1;have c2: ∀H,o9 Tryz.prog 16 [.agg (fc e [] [] 6 0 [] [] [])] H (fun y H'=>y=af4 (ab9 (ac0 e))/\H'=H):=fun H=>aN5 (ac0 e) H hf hbb
  have s1:=dj4 hf hb;unfold fc af4 at c2;by_cases hm:(ab9 (ac0 e)).2=0
  ·have hmc:=eq_true hm
   rw[if_pos hm];unfold bN0;have c3:=fun H=>dQ5 (ab9 (ac0 e)).1 H (by omega)
   have s2:=cN5 (ab9 (ac0 e)).1;have c4:=fun H=>dr5 (ab5 (ab9 (ac0 e)).1).1 H (by omega)
   have c5:=fun H=>dA3 (ab5 (ab9 (ac0 e)).1).1 server key seed H (by omega) h1 h2 hd
   unfold af4 at c3 c5;unfold aG6 at c5;by_cases h3:(ab5 (ab9 (ac0 e)).1).2=0
   ·have h3c:=eq_true h3
    rw[if_pos h3];rw[cQ3];by_cases h4:(ah1 (ab5 (ab9 (ac0 e)).1).1 server key seed).2=0
    ·have h4c:=eq_true h4
     rw[if_pos h4];have hbf:Bd (aw9 e (ah1 (ab5 (ab9 (ac0 e)).1).1 server key seed).1):=cl5 hb h1 h2 hm h3 (by rw[<-h4])
     have s3:=aJ9 hbf;have c6: ∀H,o9 Tryz.prog 9 [.agg (fc e [] (aG5 (ab5 (ab9 (ac0 e)).1).1) (ah1 (ab5 (ab9 (ac0 e)).1).1 server key seed).1.kind (ah1 (ab5 (ab9 (ac0 e)).1).1 server key seed).1.num (ah1 (ab5 (ab9 (ac0 e)).1).1 server key seed).1.text ((ah1 (ab5 (ab9 (ac0 e)).1).1 server key seed).1.names.map .str) ((ah1 (ab5 (ab9 (ac0 e)).1).1 server key seed).1.items.map jAV))] H (fun y H'=>y=af4 (aa6 (aw9 e (ah1 (ab5 (ab9 (ac0 e)).1).1 server key seed).1))/\H'=H):=fun H=>bb5 (aw9 e (ah1 (ab5 (ab9 (ac0 e)).1).1 server key seed).1) H hbf
     have hav: ∀s,AV.agg (fc e s (aG5 (ab5 (ab9 (ac0 e)).1).1) (ah1 (ab5 (ab9 (ac0 e)).1).1 server key seed).1.kind (ah1 (ab5 (ab9 (ac0 e)).1).1 server key seed).1.num (ah1 (ab5 (ab9 (ac0 e)).1).1 server key seed).1.text ((ah1 (ab5 (ab9 (ac0 e)).1).1 server key seed).1.names.map .str) ((ah1 (ab5 (ab9 (ac0 e)).1).1 server key seed).1.items.map jAV))=av {aw9 e (ah1 (ab5 (ab9 (ac0 e)).1).1 server key seed).1 with id:=s}:=fun s=>rfl
     have s4:=be8 (aa6 (aw9 e (ah1 (ab5 (ab9 (ac0 e)).1).1 server key seed).1)).1;have c7:=fun H=>cL4 (aa6 (aw9 e (ah1 (ab5 (ab9 (ac0 e)).1).1 server key seed).1)).1 H (by omega) (by omega)
     unfold fc af4 at c6;unfold fc at hav;unfold aA3 at c7;clear hbf s3 s4;generalize ab9 (ac0 e)=m at*;generalize ab5 m.1=w at*;generalize ah1 w.1 server key seed=q at*;generalize aG5 w.1=hs at*;generalize aw9 e q.1=fe at*;generalize aa6 fe=ob at*;generalize as5 ob.1=nm at*;by_cases h5:ob.2=0
     ·have h5c:=eq_true h5
      rw[if_pos h5];by_cases h6:nm.2=0
      ·have h6c:=eq_true h6
       rw[if_pos h6];refine aA0 aa7 mixed [2,6] (by kernel_rfl) ?_
       repeat' first|refine o6 ?_|simp -dsimp -implicitDefEqProofs (disch:=first|assumption|omega|simp only[ll];omega) only[go_sem,hmc,h3c,h4c,h5c,h6c,ab2,hd,xq5,xq8,List.drop_zero,ag5]|refine o5 (c1 _) ?_|refine o5 (c2 _) ?_|refine o5 (c3 _) ?_|refine o5 (c4 _) ?_|refine o5 (c5 _) ?_|refine o5 (c6 _) ?_|refine o5 (c7 _) ?_|refine vcJ ?_ ?_<;>intro _|refine vcA ?_ ?_;focus(repeat'(first|omega|assumption|refine vcA ?_ ?_);done)|omega|refine o7 (fun _=>?_)
       exact cl2 (hav _)
      ·have h6c:=eq_false h6
       rw[if_neg h6];refine aA0 aa7 mixed [2,6] (by kernel_rfl) ?_
       repeat' first|refine o6 ?_|simp -dsimp -implicitDefEqProofs (disch:=first|assumption|omega|simp only[ll];omega) only[go_sem,hmc,h3c,h4c,h5c,h6c,ab2,hd,xq5,xq8,List.drop_zero,ag5]|refine o5 (c1 _) ?_|refine o5 (c2 _) ?_|refine o5 (c3 _) ?_|refine o5 (c4 _) ?_|refine o5 (c5 _) ?_|refine o5 (c6 _) ?_|refine o5 (c7 _) ?_|refine vcJ ?_ ?_<;>intro _|refine vcA ?_ ?_;focus(repeat'(first|omega|assumption|refine vcA ?_ ?_);done)|omega|refine o7 (fun _=>?_)
       exact aB6
     ·have h5c:=eq_false h5
      rw[if_neg h5];refine aA0 aa7 mixed [2,6] (by kernel_rfl) ?_
      repeat' first|refine o6 ?_|simp -dsimp -implicitDefEqProofs (disch:=first|assumption|omega|simp only[ll];omega) only[go_sem,hmc,h3c,h4c,h5c,ab2,hd,xq5,xq8,List.drop_zero,ag5]|refine o5 (c1 _) ?_|refine o5 (c2 _) ?_|refine o5 (c3 _) ?_|refine o5 (c4 _) ?_|refine o5 (c5 _) ?_|refine o5 (c6 _) ?_|refine vcJ ?_ ?_<;>intro _|refine vcA ?_ ?_;focus(repeat'(first|omega|assumption|refine vcA ?_ ?_);done)|omega|refine o7 (fun _=>?_)
      exact aB6
    ·have h4c:=eq_false h4
     rw[if_neg h4];generalize ab9 (ac0 e)=m at*;generalize ab5 m.1=w at*;generalize ah1 w.1 server key seed=q at*;generalize aG5 w.1=hs at*;refine aA0 aa7 mixed [2,6] (by kernel_rfl) ?_
     repeat' first|refine o6 ?_|simp -dsimp -implicitDefEqProofs (disch:=first|assumption|omega|simp only[ll];omega) only[go_sem,hmc,h3c,h4c,ab2,hd,xq5,xq8,List.drop_zero,ag5]|refine o5 (c1 _) ?_|refine o5 (c2 _) ?_|refine o5 (c3 _) ?_|refine o5 (c4 _) ?_|refine o5 (c5 _) ?_|refine vcJ ?_ ?_<;>intro _|refine vcA ?_ ?_;focus(repeat'(first|omega|assumption|refine vcA ?_ ?_);done)|omega|refine o7 (fun _=>?_)
     exact aB6
   ·have h3c:=eq_false h3
    rw[if_neg h3];generalize ab9 (ac0 e)=m at*;generalize ab5 m.1=w at*;refine aA0 aa7 mixed [2,6] (by kernel_rfl) ?_
    repeat' first|refine o6 ?_|simp -dsimp -implicitDefEqProofs (disch:=first|assumption|omega|simp only[ll];omega) only[go_sem,hmc,h3c,xq5,xq8,List.drop_zero,ag5]|refine o5 (c1 _) ?_|refine o5 (c2 _) ?_|refine o5 (c3 _) ?_|refine vcJ ?_ ?_<;>intro _|refine vcA ?_ ?_;focus(repeat'(first|omega|assumption|refine vcA ?_ ?_);done)|omega|refine o7 (fun _=>?_)
    exact aB6
  ·have hmc:=eq_false hm
   rw[if_neg hm];generalize ab9 (ac0 e)=m at*;refine aA0 aa7 mixed [2,6] (by kernel_rfl) ?_
   repeat' first|refine o6 ?_|simp -dsimp -implicitDefEqProofs (disch:=first|assumption|omega|simp only[ll];omega) only[go_sem,hmc,xq5,xq8,List.drop_zero,ag5]|refine o5 (c1 _) ?_|refine o5 (c2 _) ?_|refine vcJ ?_ ?_<;>intro _|refine vcA ?_ ?_;focus(repeat'(first|omega|assumption|refine vcA ?_ ?_);done)|omega|refine o7 (fun _=>?_)
   exact aB6
 ·rw[if_neg hf]
  rw[eq_false_of_ne_true hf] at c1;refine aA0 aa7 mixed [2,6] (by kernel_rfl) ?_
  repeat' first|refine o6 ?_|simp -dsimp -implicitDefEqProofs (disch:=first|assumption|omega|simp only[ll];omega) only[go_sem,xq5,xq8,List.drop_zero,ag5]|refine o5 (c1 _) ?_|refine vcJ ?_ ?_<;>intro _|refine vcA ?_ ?_;focus(repeat'(first|omega|assumption|refine vcA ?_ ?_);done)|omega|refine o7 (fun _=>?_)
  exact aB6
end Ev
end
section
open Go V
namespace Ev
theorem bb4(e:T)(server key seed pub:bytes)(H:List AObj)(hb:Bd e)(h2:key.length<=1000)(hd:seed.length=32)(hp:pub.length=32):o9 Tryz.prog 7 [av e,aG6 server key seed,.agg (pub.map o8)] H (fun y H'=>y=.lit (.int .i64 (aZ9 e server key pub))/\H'=H):=by
 have c1:=fun H=>aD6 e H hb
 have c2:=fun H=>bb5 e H hb
 have s1:=aJ9 hb;have c3:=fun H=>b07 (aa6 e).1 H (by omega)
 have s2:=be8 (aa6 e).1;have c4:=fun H=>Se.bb4 (ac5 (aa6 e).1).1 server key pub H (by omega) h2 hp
 have c5:=fun H=>eo5 (aa6 e).1 H (by omega)
 unfold aZ9;have hor:az2 e=true->(aa6 e).2=0:=fun h=>by
  unfold az2 at h;rw[xq3,decide_eq_true_eq] at h;exact h.1
 unfold bu5;unfold af4 at c2 c3;unfold aG6;generalize bS0 (aa6 e).1=ft at*;generalize ac5 (aa6 e).1=rd at*;generalize Se.aT5 rd.1 server key pub=vs at*;generalize aa6 e=ob at*;generalize az2 e=re at*;unfold av cells at*;cases re with
 |false=>
  rw[if_neg (by decide)]
  refine y7 [] [.tmp 6] 43 Tryz.func7 rfl rfl rfl rfl (nlb rfl) (by kernel_rfl) ?_
  repeat' first|refine o6 ?_|simp -dsimp -implicitDefEqProofs (disch:=first|assumption|omega|simp only[ll];omega) only[go_sem,ab2,hd,hp,xq5,xq8,List.drop_zero,ag5]|refine o5 (c1 _) ?_|refine vcJ ?_ ?_<;>intro _|refine vcA ?_ ?_;focus(repeat'(first|omega|assumption|refine vcA ?_ ?_);done)|omega|refine o7 (fun _=>?_)
  exact y5 ⟨rfl,rfl⟩
 |true=>
  have hoc:=eq_true (hor rfl);rw[if_pos rfl];by_cases hr:rd.2=0
  ·have hrc:=eq_true hr
   by_cases hv:vs=0
   ·have hvc:=eq_true hv
    rw[if_pos ⟨hr,hv⟩];cases ft with
    |true=>
     refine y7 [] [.tmp 6] 43 Tryz.func7 rfl rfl rfl rfl (nlb rfl) (by kernel_rfl) ?_
     repeat' first|refine o6 ?_|simp -dsimp -implicitDefEqProofs (disch:=first|assumption|omega|simp only[ll];omega) only[go_sem,hoc,hrc,hvc,ab2,hd,hp,xq5,xq8,List.drop_zero,ag5]|refine o5 (c1 _) ?_|refine o5 (c2 _) ?_|refine o5 (c3 _) ?_|refine o5 (c4 _) ?_|refine o5 (c5 _) ?_|refine vcJ ?_ ?_<;>intro _|refine vcA ?_ ?_;focus(repeat'(first|omega|assumption|refine vcA ?_ ?_);done)|omega|refine o7 (fun _=>?_)
     exact aa3 _ (Le.refl _) (.lit _) ⟨rfl,rfl⟩
    |false=>
     refine y7 [] [.tmp 6] 43 Tryz.func7 rfl rfl rfl rfl (nlb rfl) (by kernel_rfl) ?_
     repeat' first|refine o6 ?_|simp -dsimp -implicitDefEqProofs (disch:=first|assumption|omega|simp only[ll];omega) only[go_sem,hoc,hrc,hvc,ab2,hd,hp,xq5,xq8,List.drop_zero,ag5]|refine o5 (c1 _) ?_|refine o5 (c2 _) ?_|refine o5 (c3 _) ?_|refine o5 (c4 _) ?_|refine o5 (c5 _) ?_|refine vcJ ?_ ?_<;>intro _|refine vcA ?_ ?_;focus(repeat'(first|omega|assumption|refine vcA ?_ ?_);done)|omega|refine o7 (fun _=>?_)
     exact aa3 _ (Le.refl _) (.lit _) ⟨rfl,rfl⟩
   ·have hvc:=eq_false hv
    rw[if_neg fun h=>hv h.2]
    refine y7 [] [.tmp 6] 43 Tryz.func7 rfl rfl rfl rfl (nlb rfl) (by kernel_rfl) ?_
    repeat' first|refine o6 ?_|simp -dsimp -implicitDefEqProofs (disch:=first|assumption|omega|simp only[ll];omega) only[go_sem,hoc,hrc,hvc,ab2,hd,hp,xq5,xq8,List.drop_zero,ag5]|refine o5 (c1 _) ?_|refine o5 (c2 _) ?_|refine o5 (c3 _) ?_|refine o5 (c4 _) ?_|refine vcJ ?_ ?_<;>intro _|refine vcA ?_ ?_;focus(repeat'(first|omega|assumption|refine vcA ?_ ?_);done)|omega|refine o7 (fun _=>?_)
    exact aa3 _ (Le.refl _) (.lit _) ⟨rfl,rfl⟩
  ·have hrc:=eq_false hr
   rw[if_neg fun h=>hr h.1]
   refine y7 [] [.tmp 6] 43 Tryz.func7 rfl rfl rfl rfl (nlb rfl) (by kernel_rfl) ?_
   repeat' first|refine o6 ?_|simp -dsimp -implicitDefEqProofs (disch:=first|assumption|omega|simp only[ll];omega) only[go_sem,hoc,hrc,ab2,hd,hp,xq5,xq8,List.drop_zero,ag5]|refine o5 (c1 _) ?_|refine o5 (c2 _) ?_|refine o5 (c3 _) ?_|refine vcJ ?_ ?_<;>intro _|refine vcA ?_ ?_;focus(repeat'(first|omega|assumption|refine vcA ?_ ?_);done)|omega|refine o7 (fun _=>?_)
   exact aa3 _ (Le.refl _) (.lit _) ⟨rfl,rfl⟩
end Ev
end
section
open Go V
namespace Ev
theorem cY4(l:List bytes)(H:List AObj)(hl:l.length<=1000):o9 Tryz.prog 35 [.sl .sh 1 (l.map .str),.sl .sh 1 (l.map .str)] H (fun y H'=>y=.bool true/\H'=H):=by
 refine y7 [1000006] [.tmp 4] 26 Tryz.func35 rfl rfl rfl rfl (nlb rfl) (by kernel_rfl) ?_
 repeat' first|refine o6 ?_|simp -dsimp -implicitDefEqProofs (disch:=first|assumption|omega|simp only[ll];omega) only[go_sem]|refine vcJ ?_ ?_<;>intro _|refine vcA ?_ ?_;focus(repeat'(first|omega|assumption|refine vcA ?_ ?_);done)|omega|refine o7 (fun _=>?_)
 refine aa5 aa7 mixed [1000006] [0,1] (fun i:Nat=>i<=l.length) (fun i=>[(5,.lit (.int .i64 i))]) (fun _=>H) (fun i=>l.length - i) (by kernel_rfl) ?_ 0 (by omega) y8 rfl
 intro i hi;by_cases h:i < l.length
 ·have hc:((i:Int) < (l.length:Int))=True:=eq_true (by omega)
  repeat' first|refine o6 ?_|simp -dsimp -implicitDefEqProofs (disch:=first|assumption|omega|simp only[ll];omega) only[go_sem,hc]|refine vcJ ?_ ?_<;>intro _|refine vcA ?_ ?_;focus(repeat'(first|omega|assumption|refine vcA ?_ ?_);done)|omega|refine o7 (fun _=>?_)
  refine again (i+1) ?_ ?_ rfl y8
  ·omega
  ·omega
 ·have hc:((i:Int) < (l.length:Int))=False:=eq_false (by omega)
  repeat' first|refine o6 ?_|simp -dsimp -implicitDefEqProofs (disch:=first|assumption|omega|simp only[ll];omega) only[go_sem,hc]|refine vcJ ?_ ?_<;>intro _|refine vcA ?_ ?_;focus(repeat'(first|omega|assumption|refine vcA ?_ ?_);done)|omega|refine o7 (fun _=>?_)
  exact y5 ⟨rfl,rfl⟩
open Classical in
theorem cf2(e:T)(H:List AObj)(hb:Bd e)(h1:e.prev.length<=1000)(h2:e.auth.length<=1000):o9 Tryz.prog 12 [av e,av e] H (fun y H'=>y=.bool true/\H'=H):=by
 have c1:=fun H=>cY8 e.content e.content H (by have:=hb.content;omega)
 have c2:=fun H=>cY8 e.sigs e.sigs H (by have:=hb.sigs;omega)
 have c3:=fun H=>cY4 e.prev H h1
 have c4:=fun H=>cY4 e.auth H h2
 have e1:decide (e.content=e.content)=true:=decide_eq_true rfl;have e2:decide (e.sigs=e.sigs)=true:=decide_eq_true rfl;rw[e1] at c1;rw[e2] at c2;unfold av cells;refine y7 [] [.tmp 4] 94 Tryz.func12 rfl rfl rfl rfl (nlb rfl) (by kernel_rfl) ?_
 repeat' first|refine o6 ?_|simp -dsimp -implicitDefEqProofs (disch:=first|assumption|omega|simp only[ll];omega) only[go_sem,xq5,xq8,List.drop_zero,ag5]|refine o5 (c1 _) ?_|refine o5 (c2 _) ?_|refine o5 (c3 _) ?_|refine o5 (c4 _) ?_|refine vcJ ?_ ?_<;>intro _|refine vcA ?_ ?_;focus(repeat'(first|omega|assumption|refine vcA ?_ ?_);done)|omega|refine o7 (fun _=>?_)
 exact y5 ⟨rfl,rfl⟩
end Ev
end
section
open Go V
namespace Ev
def Sm(e:T):Prop:=weigh e.content 9000+weigh e.sigs 9000+(e.prev.length:Int)+(e.auth.length:Int)<=9000/\(e.room.length:Int)<=1000/\(e.sender.length:Int)<=1000/\(e.typ.length:Int)<=1000/\(e.key.length:Int)<=1000/\(e.hash.length:Int)<=9000/\(e.prev.length:Int)<=100/\(e.auth.length:Int)<=100
open Classical in
noncomputable def bo1(e:T):Bool:=decide (¬Sm e)
open Classical in
theorem cW4{e:T}(h: ¬Sm e):bo1 e=true:=decide_eq_true h
open Classical in
theorem d32{e:T}(h:Sm e):bo1 e=false:=decide_eq_false fun k=>k h
theorem dr8{e:T}(h:bo1 e=false):Sm e:=Classical.byContradiction fun k=>by rw[cW4 k] at h;cases h
theorem cl1{H:List AObj}{e:T}(h: ¬Sm e):Done H (fun y H'=>y=.bool (bo1 e)/\H'=H) (.lit (.bool true)) H:=by
 rw[cW4 h];exact y5 ⟨rfl,rfl⟩
theorem d51{H:List AObj}{e:T}(h:Sm e):Done H (fun y H'=>y=.bool (bo1 e)/\H'=H) (.lit (.bool false)) H:=by
 rw[d32 h];exact y5 ⟨rfl,rfl⟩
theorem ep1{e:T}(h:Sm e):Bd e:=by
 obtain⟨h0,h1,h2,h3,h4,h5,h6,h7⟩:=h;have w1:=bl9 e.content 9000 (by decide)
 have w2:=bl9 e.sigs 9000 (by decide)
 have e1:=w1.2.2.1 (by omega)
 have e2:=w2.2.2.1 (by omega)
 exact⟨by omega,by omega,by omega,by omega,by omega,by omega,by omega⟩
theorem d85(e:T)(H:List AObj):o9 Tryz.prog 5 [av e] H (fun y H'=>y=.bool (bo1 e)/\H'=H):=by
 have c1:=fun H=>cY3 e.content 9000 H (by decide) (by decide)
 have c2:=fun H=>cY3 e.sigs 9000 H (by decide) (by decide)
 have w1:=bl9 e.content 9000 (by decide)
 have w2:=bl9 e.sigs 9000 (by decide)
 unfold av cells;by_cases hp:100 < e.prev.length
 ·have hpc:((100:Int) < (e.prev.length:Int))=True:=eq_true (by omega)
  refine y7 [1000001,1000001004002,1000001008002,1000001008005,1000001012002,1000001012005] [.tmp 2] 63 Tryz.func5 rfl rfl rfl rfl (nlb rfl) (by kernel_rfl) ?_
  repeat' first|refine o6 ?_|simp -dsimp -implicitDefEqProofs (disch:=first|assumption|omega|simp only[ll];omega) only[go_sem,hpc,xq5,xq8,List.drop_zero,ag5]|refine o5 (c1 _) ?_|refine⟨_,_,c1 _,?_⟩|refine o5 (c2 _) ?_|refine⟨_,_,c2 _,?_⟩|refine vcJ ?_ ?_<;>intro _|refine vcA ?_ ?_;focus(repeat'(first|omega|assumption|refine vcA ?_ ?_);done)|omega|refine o7 (fun _=>?_)
  all_goals exact cl1 (by unfold Sm;omega)
 ·have hpc:((100:Int) < (e.prev.length:Int))=False:=eq_false (by omega)
  by_cases ha:100 < e.auth.length
  ·have hac:((100:Int) < (e.auth.length:Int))=True:=eq_true (by omega)
   refine y7 [1000001,1000001004002,1000001008002,1000001008005,1000001012002,1000001012005] [.tmp 2] 63 Tryz.func5 rfl rfl rfl rfl (nlb rfl) (by kernel_rfl) ?_
   repeat' first|refine o6 ?_|simp -dsimp -implicitDefEqProofs (disch:=first|assumption|omega|simp only[ll];omega) only[go_sem,hpc,hac,xq5,xq8,List.drop_zero,ag5]|refine o5 (c1 _) ?_|refine⟨_,_,c1 _,?_⟩|refine o5 (c2 _) ?_|refine⟨_,_,c2 _,?_⟩|refine vcJ ?_ ?_<;>intro _|refine vcA ?_ ?_;focus(repeat'(first|omega|assumption|refine vcA ?_ ?_);done)|omega|refine o7 (fun _=>?_)
   all_goals exact cl1 (by unfold Sm;omega)
  ·have hac:((100:Int) < (e.auth.length:Int))=False:=eq_false (by omega)
   refine y7 [1000001,1000001004002,1000001008002,1000001008005,1000001012002,1000001012005] [.tmp 2] 63 Tryz.func5 rfl rfl rfl rfl (nlb rfl) (by kernel_rfl) ?_
   repeat' first|refine o6 ?_|simp -dsimp -implicitDefEqProofs (disch:=first|assumption|omega|simp only[ll];omega) only[go_sem,hpc,hac,xq5,xq8,List.drop_zero,ag5]|refine o5 (c1 _) ?_|refine⟨_,_,c1 _,?_⟩|refine o5 (c2 _) ?_|refine⟨_,_,c2 _,?_⟩|refine vcJ ?_ ?_<;>intro _|refine vcA ?_ ?_;focus(repeat'(first|omega|assumption|refine vcA ?_ ?_);done)|omega|refine o7 (fun _=>?_)
   all_goals first|exact cl1 (by unfold Sm;omega)|exact d51 (by unfold Sm;omega)
end Ev
end
section
open Go V
namespace Ev
theorem dw0:Bd ev0:=⟨by decide,by decide,by decide,by decide,by decide+kernel,by decide+kernel,by decide⟩
theorem aD4:Bd fin0:=by
 have hm:=du0;have h3:(ab5 (ab9 (ac0 ev0)).1).2=0:=by rw[bE5]
 have h4:ah1 (ab5 (ab9 (ac0 ev0)).1).1 aS9 a95 Ed.as8=(q0,0):=by rw[bE5];exact cI4
 have h:=cl5 (q:=q0) dw0 (by decide) (by decide) hm h3 h4
 rw[ej9] at h;exact⟨h.room,h.sender,h.typ,h.key,h.content,h.sigs,h.hash⟩
theorem dT6{g:FuncId}{A:AV}{e:T}{x:AV}{R:AV->List AObj->Prop}{H:List AObj}(h:o9 Tryz.prog g [av e,x] H R)(hl:Le A (av e)):o9 Tryz.prog g [A,x] H R:=h.weak rfl (fun j y z h1 h2=>by
 match j with
 |0=>cases h1;cases h2;exact hl
 |1=>cases h1;cases h2;exact Le.refl _
 |j+2=>simp at h1)
theorem eh3{o:Own}{s:Nat}{xs ys:List AV}(hl:xs.length=ys.length)(h:LeAll (aa0 xs) (aa0 ys))(hy: ∀y∈ys,y.flat.length=s/\y.okv=true):Le (.sl o s xs) (.sl .sh s ys):=fun _ _ _ _ r=>by
 obtain⟨_,hg⟩:=h.get;cases r with
 |sl _ _ _ a len cap val hl' hcap hs hc hr hf ha ho=>
  exact .sl .sh s ys a len cap val (hl'.trans hl) hcap hy (fun j x e=>by
   obtain⟨x',hx,_⟩:=hg j x e;exact hc j x' hx) (fun j x e=>by
   obtain⟨x',hx,hle⟩:=hg j x e;exact hle _ _ _ _ (hr j x' hx)) (fun e=>by cases e) ha (fun k e=>by cases e)
theorem dI0(t:bytes):Le (.sl .full 5 [.agg [.lit (.int .i64 4),.lit (.int .i64 0),.str t,.sl .full 0 [],.sl .full 0 []]]) (.sl .sh 5 ([JV.mk 4 0 t [] []].map jAV)):=
 eh3 rfl (.cons (Le.refl _) (.cons (Le.refl _) (.cons (Le.refl _) (.cons am9 (.cons am9 .nil))))) fun y hy=>by
  rw[List.map_cons,List.map_nil,b43] at hy;subst hy;exact⟨rfl,rfl⟩
theorem eh4:Le (.agg [.str [],.str [33,114,58,104],.str [64,97,58,104],.str [109,46,114,111,111,109,46,99,114,101,97,116,101],.lit (.bool true),.str [],.lit (.int .i64 6),.lit (.int .i64 0),.str [],.sl .full 1 [.str [99,114,101,97,116,111,114]],.sl .full 5 [.agg [.lit (.int .i64 4),.lit (.int .i64 0),.str [64,97,58,104],.sl .full 0 [],.sl .full 0 []]],.sl .full 0 [],.sl .full 0 [],.lit (.int .i64 1),.lit (.int .i64 0),.str [],.lit (.int .i64 0),.lit (.int .i64 0),.str [],.sl .full 0 [],.sl .full 0 []]) (av ev0):=by
 refine ca6 ?_;show LeAll _ (cells ev0)
 unfold cells ev0 ek8;repeat(first|exact LeAll.nil|(refine LeAll.cons ?_ ?_;focus(first|exact Le.refl _|exact am9|exact aC5|exact dI0 _)))
def sgL:List AV:=.str aS9::.str a95::Ed.as8.map o8
theorem eu7:af0 (AV.str [104]::AV.str [101,100,50,53,53,49,57,58,49]::[AV.lit (.int .u8 0),AV.lit (.int .u8 0),AV.lit (.int .u8 0),AV.lit (.int .u8 0),AV.lit (.int .u8 0),AV.lit (.int .u8 0),AV.lit (.int .u8 0),AV.lit (.int .u8 0),AV.lit (.int .u8 0),AV.lit (.int .u8 0),AV.lit (.int .u8 0),AV.lit (.int .u8 0),AV.lit (.int .u8 0),AV.lit (.int .u8 0),AV.lit (.int .u8 0),AV.lit (.int .u8 0),AV.lit (.int .u8 0),AV.lit (.int .u8 0),AV.lit (.int .u8 0),AV.lit (.int .u8 0),AV.lit (.int .u8 0),AV.lit (.int .u8 0),AV.lit (.int .u8 0),AV.lit (.int .u8 0),AV.lit (.int .u8 0),AV.lit (.int .u8 0),AV.lit (.int .u8 0),AV.lit (.int .u8 0),AV.lit (.int .u8 0),AV.lit (.int .u8 0),AV.lit (.int .u8 0),AV.lit (.int .u8 0)]) 2 ((List.replicate 32 (AV.lit (.int .u8 0))).set 0 (.lit (.int .u8 3)))=sgL:=rfl
theorem eu6:sgL.all AV.scalar=true:=rfl
theorem eu5:sgL.length=34:=rfl
theorem eu4:af0 (AV.str []::AV.str []::[AV.lit (.int .u8 0),AV.lit (.int .u8 0),AV.lit (.int .u8 0),AV.lit (.int .u8 0),AV.lit (.int .u8 0),AV.lit (.int .u8 0),AV.lit (.int .u8 0),AV.lit (.int .u8 0),AV.lit (.int .u8 0),AV.lit (.int .u8 0),AV.lit (.int .u8 0),AV.lit (.int .u8 0),AV.lit (.int .u8 0),AV.lit (.int .u8 0),AV.lit (.int .u8 0),AV.lit (.int .u8 0),AV.lit (.int .u8 0),AV.lit (.int .u8 0),AV.lit (.int .u8 0),AV.lit (.int .u8 0),AV.lit (.int .u8 0),AV.lit (.int .u8 0),AV.lit (.int .u8 0),AV.lit (.int .u8 0),AV.lit (.int .u8 0),AV.lit (.int .u8 0),AV.lit (.int .u8 0),AV.lit (.int .u8 0),AV.lit (.int .u8 0),AV.lit (.int .u8 0),AV.lit (.int .u8 0),AV.lit (.int .u8 0)]) 0 sgL=sgL:=rfl
theorem eb4:(sgL.drop 2).take 32=Ed.as8.map o8:=rfl
theorem eu2:((List.replicate 32 (AV.lit (.int .u8 0))).set 0 (.lit (.int .u8 3))).all AV.scalar=true:=rfl
theorem eu3:sgL.take 34=sgL:=rfl
theorem d76(H:List AObj):o9 Tryz.prog 4 [] H (fun y H'=>y=.bool true/\H'=H):=by
 have c1:=fun H=>dT6 (cY7 ev0 aS9 a95 Ed.as8 H dw0 (by decide) (by decide) rfl) eh4
 rw[d46] at c1;have c2:=fun H=>bb5 fin0 H aD4
 have s2:=aJ9 aD4;have hof:ofJ (aa6 fin0).1={fin0 with id:=[]}:=bt3 cI5;have c3:=fun H=>dx9 (aa6 fin0).1 H s2 (by rw[hof];exact⟨aD4.room,aD4.sender,aD4.typ,aD4.key,aD4.content,aD4.sigs,aD4.hash⟩)
 rw[ej5] at c3;have c4:=fun H=>cf2 fin0 H aD4 (by decide) (by decide)
 have c5:=fun H=>Ed.cL3 Ed.as8 H rfl
 have c6:=fun H=>bb4 fin0 aS9 a95 Ed.as8 (Ed.ar1 Ed.as8) H aD4 (by decide) rfl (by rw[Ed.b84];rfl)
 rw[dL3] at c6;have c7:=fun H=>bF4 fin0 H (by have:=aD4.sender;omega)
 rw[dL4] at c7;have hq:=eq_true cI5;clear hof;unfold af4 at c2;unfold bi1 at c1 c3;dsimp only at c1 c3;have hsg:aG6 aS9 a95 Ed.as8=.agg sgL:=rfl;rw[hsg] at c1 c6;have c5': ∀H,o9 Tryz.prog 8 [.agg ((sgL.drop 2).take 32)] H (fun y H'=>y=.agg ((Ed.ar1 Ed.as8).map o8)/\H'=H):=c5
 have hpl:((Ed.ar1 Ed.as8).map o8).length=32:=by rw[Ed.b84];rfl
 rw[eb4] at c5';generalize aa6 fin0=ob at*;generalize Ed.ar1 Ed.as8=pb at*;unfold av cells at c1 c2 c3 c4 c6 c7;generalize fin0=fe at*;have g1:=eu7;have g2:=eu6;have g3:=eu5;have g4:=eu4;have g5:=eb4;have g6:=eu3;have g7:=eu2;unfold aS9 at c7;generalize sgL=sg at*;refine y7 [1000005,1000005016020,1000005017020] [.tmp 0] 59 Tryz.func4 rfl rfl rfl rfl (nlb rfl) (by kernel_rfl) ?_
 repeat' first|refine o6 ?_|simp -dsimp -implicitDefEqProofs (disch:=first|assumption|omega|simp only[ll];omega) only[go_sem,g1,g2,g3,g4,g5,g6,g7,hq,ab2,xq5,xq8,List.drop_zero,ag5]|refine o5 (c1 _) ?_|refine⟨_,_,c1 _,?_⟩|refine o5 (c2 _) ?_|refine⟨_,_,c2 _,?_⟩|refine o5 (c3 _) ?_|refine⟨_,_,c3 _,?_⟩|refine o5 (c4 _) ?_|refine⟨_,_,c4 _,?_⟩|refine o5 (c5' _) ?_|refine⟨_,_,c5' _,?_⟩|refine o5 (c6 _) ?_|refine⟨_,_,c6 _,?_⟩|refine o5 (c7 _) ?_|refine⟨_,_,c7 _,?_⟩|refine vcJ ?_ ?_<;>intro _|refine vcA ?_ ?_;focus(repeat'(first|omega|assumption|refine vcA ?_ ?_);done)|omega|refine o7 (fun _=>?_)
 exact aq9 ⟨rfl,rfl⟩
end Ev
end
section
open Go V
namespace Ev
theorem dd2{e:T}(h:aq2 e=true):0<=e.time/\e.time<=1099511627776:=by
 unfold aq2 at h;simp only[xq3,decide_eq_true_eq] at h;exact⟨h.2.2.1.2.2.1,h.2.2.1.2.2.2⟩
def later(a:T):T:={a with time:=a.time+1}
theorem dO3{e:T}{server key seed:bytes}(hb:Bd e)(h1:server.length<=1000)(h2:key.length<=1000)(h:(ar6 e server key seed).2=0):Bd (ar6 e server key seed).1/\0<=(ar6 e server key seed).1.time/\(ar6 e server key seed).1.time<=1099511627776:=by
 obtain⟨q,_,k2,k3,k4,k5,k6⟩:=cJ6 h;have b:=cl5 hb h1 h2 k2 k3 k4;have t:=dd2 (aU6 k5).2.1;rw[k6];exact⟨⟨b.room,b.sender,b.typ,b.key,b.content,b.sigs,b.hash⟩,t⟩
theorem dO6{a:T}(b:Bd a):Bd (later a):=⟨b.room,b.sender,b.typ,b.key,b.content,b.sigs,b.hash⟩
theorem dU9{a b:bytes}{l:List AV}(h:l.length=32):((AV.str a::AV.str b::l).drop 2).take 32=l:=by
 show l.take 32=l
 exact ak5 (by omega)
theorem ct6(e:T)(server key seed ws wk wseed:bytes)(H:List AObj)(hd:seed.length=32)(hwd:wseed.length=32):o9 Tryz.prog 3 [av e,aG6 server key seed,aG6 ws wk wseed] H (fun y H'=>y=.bool true/\H'=H):=by
 have c0:=fun H=>d76 H
 have c1:=fun H=>d85 e H
 cases hg:bo1 e with
 |true=>
  rw[hg] at c1;unfold av cells aG6 at*;refine y7 [9,1000008,1000008013017,1000008014017,1000016,1000016006004,1000016008004] [.tmp 6] 106 Tryz.func3 rfl rfl rfl rfl (nlb rfl) (by kernel_rfl) ?_
  repeat' first|refine o6 ?_|simp -dsimp -implicitDefEqProofs (disch:=first|assumption|omega|simp only[ll];omega) only[go_sem,ab2,hd,hwd,xq5,xq8,List.drop_zero,ag5]|refine o5 (c0 _) ?_|refine⟨_,_,c0 _,?_⟩|refine o5 (c1 _) ?_|refine⟨_,_,c1 _,?_⟩|refine vcJ ?_ ?_<;>intro _|refine vcA ?_ ?_;focus(repeat'(first|omega|assumption|refine vcA ?_ ?_);done)|omega|refine o7 (fun _=>?_)
  exact y5 ⟨rfl,rfl⟩
 |false=>
  rw[hg] at c1;have hsm:=dr8 hg;have hb:=ep1 hsm;by_cases h1:server.length<=1000
  ·have h1c:((1000:Int) < (server.length:Int))=False:=eq_false (by omega)
   by_cases h2:key.length<=1000
   ·have h2c:((1000:Int) < (key.length:Int))=False:=eq_false (by omega)
    by_cases h3:ws.length<=1000
    ·have h3c:((1000:Int) < (ws.length:Int))=False:=eq_false (by omega)
     by_cases h4:wk.length<=1000
     ·have h4c:((1000:Int) < (wk.length:Int))=False:=eq_false (by omega)
      have c2:=fun H=>cY7 e server key seed H hb h1 h2 hd
      by_cases hf:(ar6 e server key seed).2=0
      ·obtain⟨ba,t1,t2⟩:=dO3 hb h1 h2 hf
       have bl:=dO6 ba;have hv:ws≠server\/wk≠key->aZ9 (ar6 e server key seed).1 ws wk (Ed.ar1 seed)=8:=db5 hf;have c3:=fun H=>Ed.cL3 seed H hd
       have hpl:(Ed.ar1 seed).length=32:=Cu.bf9 _;have c4:=fun H=>bb4 (ar6 e server key seed).1 ws wk wseed (Ed.ar1 seed) H ba h4 hwd hpl
       unfold bi1 at c2;rw[hf] at c2;generalize (ar6 e server key seed).1=a at*;have c5:=fun H=>bb5 (later a) H bl
       have c6:=fun H=>aD6 (later a) H bl
       have s5:=aJ9 bl;have hn:(aa6 (later a)).2≠0->az2 (later a)=false:=dI4;have hy:(aa6 (later a)).2=0->(aW9 (aa6 (later a)).1).2=0/\az2 (later a)=decide ((aW9 (aa6 (later a)).1).1.id=a.id):=fun h=>dI2 h
       have c7:(aa6 (later a)).2=0-> ∀H,o9 Tryz.prog 11 [jAV (aa6 (later a)).1] H (fun y H'=>y=bi1 (aW9 (aa6 (later a)).1)/\H'=H):=fun h H=>dx9 (aa6 (later a)).1 H s5 (by
        rw[bt3 h];exact⟨bl.room,bl.sender,bl.typ,bl.key,bl.content,bl.sigs,bl.hash⟩)
       unfold af4 at c5;unfold bi1 at c7;generalize aa6 (later a)=ob at*;generalize az2 (later a)=rt at*;generalize aW9 ob.1=rd at*;clear bl ba hsm hb;unfold av cells aG6 later at*;dsimp only at c5 c6;have tk:=dU9 (a:=server) (b:=key) (l:=seed.map o8) (by rw[List.length_map,hd])
       generalize Ed.ar1 seed=pb at*;by_cases w1:ws=server
       ·have w1c:=eq_true w1
        by_cases w2:wk=key
        ·have w2c:=eq_true w2
         by_cases hq:ob.2=0
         ·have hqc:=eq_true hq
          obtain⟨r1,r2⟩:=hy hq;have c7':=c7 hq;rw[r1] at c7';rw[r2] at c6;refine y7 [9,1000008,1000008013017,1000008014017,1000016,1000016006004,1000016008004] [.tmp 6] 106 Tryz.func3 rfl rfl rfl rfl (nlb rfl) (by kernel_rfl) ?_
          repeat' first|refine o6 ?_|simp -dsimp -implicitDefEqProofs (disch:=first|assumption|omega|simp only[ll];omega) only[go_sem,h1c,h2c,h3c,h4c,w1c,w2c,hqc,tk,ab2,hd,hwd,hpl,xq5,xq8,List.drop_zero,ag5]|refine o5 (c0 _) ?_|refine⟨_,_,c0 _,?_⟩|refine o5 (c1 _) ?_|refine⟨_,_,c1 _,?_⟩|refine o5 (c2 _) ?_|refine⟨_,_,c2 _,?_⟩|refine o5 (c5 _) ?_|refine⟨_,_,c5 _,?_⟩|refine o5 (c6 _) ?_|refine⟨_,_,c6 _,?_⟩|refine o5 (c7' _) ?_|refine⟨_,_,c7' _,?_⟩|refine vcJ ?_ ?_<;>intro _|refine vcA ?_ ?_;focus(repeat'(first|omega|assumption|refine vcA ?_ ?_);done)|omega|refine o7 (fun _=>?_)
          exact aq9 ⟨rfl,rfl⟩
         ·have hqc:=eq_false hq
          rw[hn hq] at c6;refine y7 [9,1000008,1000008013017,1000008014017,1000016,1000016006004,1000016008004] [.tmp 6] 106 Tryz.func3 rfl rfl rfl rfl (nlb rfl) (by kernel_rfl) ?_
          repeat' first|refine o6 ?_|simp -dsimp -implicitDefEqProofs (disch:=first|assumption|omega|simp only[ll];omega) only[go_sem,h1c,h2c,h3c,h4c,w1c,w2c,hqc,tk,ab2,hd,hwd,hpl,xq5,xq8,List.drop_zero,ag5]|refine o5 (c0 _) ?_|refine⟨_,_,c0 _,?_⟩|refine o5 (c1 _) ?_|refine⟨_,_,c1 _,?_⟩|refine o5 (c2 _) ?_|refine⟨_,_,c2 _,?_⟩|refine o5 (c5 _) ?_|refine⟨_,_,c5 _,?_⟩|refine o5 (c6 _) ?_|refine⟨_,_,c6 _,?_⟩|refine vcJ ?_ ?_<;>intro _|refine vcA ?_ ?_;focus(repeat'(first|omega|assumption|refine vcA ?_ ?_);done)|omega|refine o7 (fun _=>?_)
          exact aq9 ⟨rfl,rfl⟩
        ·have w2c:=eq_false w2
         rw[hv (.inr w2)] at c4;by_cases hq:ob.2=0
         ·have hqc:=eq_true hq
          obtain⟨r1,r2⟩:=hy hq;have c7':=c7 hq;rw[r1] at c7';rw[r2] at c6;refine y7 [9,1000008,1000008013017,1000008014017,1000016,1000016006004,1000016008004] [.tmp 6] 106 Tryz.func3 rfl rfl rfl rfl (nlb rfl) (by kernel_rfl) ?_
          repeat' first|refine o6 ?_|simp -dsimp -implicitDefEqProofs (disch:=first|assumption|omega|simp only[ll];omega) only[go_sem,h1c,h2c,h3c,h4c,w1c,w2c,hqc,tk,ab2,hd,hwd,hpl,xq5,xq8,List.drop_zero,ag5]|refine o5 (c0 _) ?_|refine⟨_,_,c0 _,?_⟩|refine o5 (c1 _) ?_|refine⟨_,_,c1 _,?_⟩|refine o5 (c2 _) ?_|refine⟨_,_,c2 _,?_⟩|refine o5 (c3 _) ?_|refine⟨_,_,c3 _,?_⟩|refine o5 (c4 _) ?_|refine⟨_,_,c4 _,?_⟩|refine o5 (c5 _) ?_|refine⟨_,_,c5 _,?_⟩|refine o5 (c6 _) ?_|refine⟨_,_,c6 _,?_⟩|refine o5 (c7' _) ?_|refine⟨_,_,c7' _,?_⟩|refine vcJ ?_ ?_<;>intro _|refine vcA ?_ ?_;focus(repeat'(first|omega|assumption|refine vcA ?_ ?_);done)|omega|refine o7 (fun _=>?_)
          exact aq9 ⟨rfl,rfl⟩
         ·have hqc:=eq_false hq
          rw[hn hq] at c6;refine y7 [9,1000008,1000008013017,1000008014017,1000016,1000016006004,1000016008004] [.tmp 6] 106 Tryz.func3 rfl rfl rfl rfl (nlb rfl) (by kernel_rfl) ?_
          repeat' first|refine o6 ?_|simp -dsimp -implicitDefEqProofs (disch:=first|assumption|omega|simp only[ll];omega) only[go_sem,h1c,h2c,h3c,h4c,w1c,w2c,hqc,tk,ab2,hd,hwd,hpl,xq5,xq8,List.drop_zero,ag5]|refine o5 (c0 _) ?_|refine⟨_,_,c0 _,?_⟩|refine o5 (c1 _) ?_|refine⟨_,_,c1 _,?_⟩|refine o5 (c2 _) ?_|refine⟨_,_,c2 _,?_⟩|refine o5 (c3 _) ?_|refine⟨_,_,c3 _,?_⟩|refine o5 (c4 _) ?_|refine⟨_,_,c4 _,?_⟩|refine o5 (c5 _) ?_|refine⟨_,_,c5 _,?_⟩|refine o5 (c6 _) ?_|refine⟨_,_,c6 _,?_⟩|refine vcJ ?_ ?_<;>intro _|refine vcA ?_ ?_;focus(repeat'(first|omega|assumption|refine vcA ?_ ?_);done)|omega|refine o7 (fun _=>?_)
          exact aq9 ⟨rfl,rfl⟩
       ·have w1c:=eq_false w1
        rw[hv (.inl w1)] at c4;by_cases hq:ob.2=0
        ·have hqc:=eq_true hq
         obtain⟨r1,r2⟩:=hy hq;have c7':=c7 hq;rw[r1] at c7';rw[r2] at c6;refine y7 [9,1000008,1000008013017,1000008014017,1000016,1000016006004,1000016008004] [.tmp 6] 106 Tryz.func3 rfl rfl rfl rfl (nlb rfl) (by kernel_rfl) ?_
         repeat' first|refine o6 ?_|simp -dsimp -implicitDefEqProofs (disch:=first|assumption|omega|simp only[ll];omega) only[go_sem,h1c,h2c,h3c,h4c,w1c,hqc,tk,ab2,hd,hwd,hpl,xq5,xq8,List.drop_zero,ag5]|refine o5 (c0 _) ?_|refine⟨_,_,c0 _,?_⟩|refine o5 (c1 _) ?_|refine⟨_,_,c1 _,?_⟩|refine o5 (c2 _) ?_|refine⟨_,_,c2 _,?_⟩|refine o5 (c3 _) ?_|refine⟨_,_,c3 _,?_⟩|refine o5 (c4 _) ?_|refine⟨_,_,c4 _,?_⟩|refine o5 (c5 _) ?_|refine⟨_,_,c5 _,?_⟩|refine o5 (c6 _) ?_|refine⟨_,_,c6 _,?_⟩|refine o5 (c7' _) ?_|refine⟨_,_,c7' _,?_⟩|refine vcJ ?_ ?_<;>intro _|refine vcA ?_ ?_;focus(repeat'(first|omega|assumption|refine vcA ?_ ?_);done)|omega|refine o7 (fun _=>?_)
         exact aq9 ⟨rfl,rfl⟩
        ·have hqc:=eq_false hq
         rw[hn hq] at c6;refine y7 [9,1000008,1000008013017,1000008014017,1000016,1000016006004,1000016008004] [.tmp 6] 106 Tryz.func3 rfl rfl rfl rfl (nlb rfl) (by kernel_rfl) ?_
         repeat' first|refine o6 ?_|simp -dsimp -implicitDefEqProofs (disch:=first|assumption|omega|simp only[ll];omega) only[go_sem,h1c,h2c,h3c,h4c,w1c,hqc,tk,ab2,hd,hwd,hpl,xq5,xq8,List.drop_zero,ag5]|refine o5 (c0 _) ?_|refine⟨_,_,c0 _,?_⟩|refine o5 (c1 _) ?_|refine⟨_,_,c1 _,?_⟩|refine o5 (c2 _) ?_|refine⟨_,_,c2 _,?_⟩|refine o5 (c3 _) ?_|refine⟨_,_,c3 _,?_⟩|refine o5 (c4 _) ?_|refine⟨_,_,c4 _,?_⟩|refine o5 (c5 _) ?_|refine⟨_,_,c5 _,?_⟩|refine o5 (c6 _) ?_|refine⟨_,_,c6 _,?_⟩|refine vcJ ?_ ?_<;>intro _|refine vcA ?_ ?_;focus(repeat'(first|omega|assumption|refine vcA ?_ ?_);done)|omega|refine o7 (fun _=>?_)
         exact aq9 ⟨rfl,rfl⟩
      ·have hfc:=eq_false hf
       have hz:=dv8 hf;unfold bi1 at c2;rw[hz] at c2;generalize (ar6 e server key seed).2=f at*;unfold av cells aG6 at*;have hzi:zero.id=[]:=rfl;refine y7 [9,1000008,1000008013017,1000008014017,1000016,1000016006004,1000016008004] [.tmp 6] 106 Tryz.func3 rfl rfl rfl rfl (nlb rfl) (by kernel_rfl) ?_
       repeat' first|refine o6 ?_|simp -dsimp -implicitDefEqProofs (disch:=first|assumption|omega|simp only[ll];omega) only[go_sem,h1c,h2c,h3c,h4c,hfc,hzi,ab2,hd,hwd,xq5,xq8,List.drop_zero,ag5]|refine o5 (c0 _) ?_|refine⟨_,_,c0 _,?_⟩|refine o5 (c1 _) ?_|refine⟨_,_,c1 _,?_⟩|refine o5 (c2 _) ?_|refine⟨_,_,c2 _,?_⟩|refine vcJ ?_ ?_<;>intro _|refine vcA ?_ ?_;focus(repeat'(first|omega|assumption|refine vcA ?_ ?_);done)|omega|refine o7 (fun _=>?_)
       exact aq9 ⟨rfl,rfl⟩
     ·have h4c:((1000:Int) < (wk.length:Int))=True:=eq_true (by omega)
      unfold av cells aG6 at*;refine y7 [9,1000008,1000008013017,1000008014017,1000016,1000016006004,1000016008004] [.tmp 6] 106 Tryz.func3 rfl rfl rfl rfl (nlb rfl) (by kernel_rfl) ?_
      repeat' first|refine o6 ?_|simp -dsimp -implicitDefEqProofs (disch:=first|assumption|omega|simp only[ll];omega) only[go_sem,h1c,h2c,h3c,h4c,ab2,hd,hwd,xq5,xq8,List.drop_zero,ag5]|refine o5 (c0 _) ?_|refine⟨_,_,c0 _,?_⟩|refine o5 (c1 _) ?_|refine⟨_,_,c1 _,?_⟩|refine vcJ ?_ ?_<;>intro _|refine vcA ?_ ?_;focus(repeat'(first|omega|assumption|refine vcA ?_ ?_);done)|omega|refine o7 (fun _=>?_)
      exact y5 ⟨rfl,rfl⟩
    ·have h3c:((1000:Int) < (ws.length:Int))=True:=eq_true (by omega)
     unfold av cells aG6 at*;refine y7 [9,1000008,1000008013017,1000008014017,1000016,1000016006004,1000016008004] [.tmp 6] 106 Tryz.func3 rfl rfl rfl rfl (nlb rfl) (by kernel_rfl) ?_
     repeat' first|refine o6 ?_|simp -dsimp -implicitDefEqProofs (disch:=first|assumption|omega|simp only[ll];omega) only[go_sem,h1c,h2c,h3c,ab2,hd,hwd,xq5,xq8,List.drop_zero,ag5]|refine o5 (c0 _) ?_|refine⟨_,_,c0 _,?_⟩|refine o5 (c1 _) ?_|refine⟨_,_,c1 _,?_⟩|refine vcJ ?_ ?_<;>intro _|refine vcA ?_ ?_;focus(repeat'(first|omega|assumption|refine vcA ?_ ?_);done)|omega|refine o7 (fun _=>?_)
     exact y5 ⟨rfl,rfl⟩
   ·have h2c:((1000:Int) < (key.length:Int))=True:=eq_true (by omega)
    unfold av cells aG6 at*;refine y7 [9,1000008,1000008013017,1000008014017,1000016,1000016006004,1000016008004] [.tmp 6] 106 Tryz.func3 rfl rfl rfl rfl (nlb rfl) (by kernel_rfl) ?_
    repeat' first|refine o6 ?_|simp -dsimp -implicitDefEqProofs (disch:=first|assumption|omega|simp only[ll];omega) only[go_sem,h1c,h2c,ab2,hd,hwd,xq5,xq8,List.drop_zero,ag5]|refine o5 (c0 _) ?_|refine⟨_,_,c0 _,?_⟩|refine o5 (c1 _) ?_|refine⟨_,_,c1 _,?_⟩|refine vcJ ?_ ?_<;>intro _|refine vcA ?_ ?_;focus(repeat'(first|omega|assumption|refine vcA ?_ ?_);done)|omega|refine o7 (fun _=>?_)
    exact y5 ⟨rfl,rfl⟩
  ·have h1c:((1000:Int) < (server.length:Int))=True:=eq_true (by omega)
   unfold av cells aG6 at*;refine y7 [9,1000008,1000008013017,1000008014017,1000016,1000016006004,1000016008004] [.tmp 6] 106 Tryz.func3 rfl rfl rfl rfl (nlb rfl) (by kernel_rfl) ?_
   repeat' first|refine o6 ?_|simp -dsimp -implicitDefEqProofs (disch:=first|assumption|omega|simp only[ll];omega) only[go_sem,h1c,ab2,hd,hwd,xq5,xq8,List.drop_zero,ag5]|refine o5 (c0 _) ?_|refine⟨_,_,c0 _,?_⟩|refine o5 (c1 _) ?_|refine⟨_,_,c1 _,?_⟩|refine vcJ ?_ ?_<;>intro _|refine vcA ?_ ?_;focus(repeat'(first|omega|assumption|refine vcA ?_ ?_);done)|omega|refine o7 (fun _=>?_)
   exact y5 ⟨rfl,rfl⟩
end Ev
end
section
open Go V Go.ChangeShapes Go.WideShapes Go.ChangeAt Go.RowKit
theorem own:ownKnob Tryz.prog.godebug=none:=by kernel_rfl
theorem kids:Kids Tryz.prog (· < Tryz.prog.types.size):=kids_rows (by kernel_rfl) (by kernel_rfl)
theorem dj0:((List.range Tryz.prog.types.size).all fun t=>match Tryz.prog.underlying t with|some (.slice e)=>decide (0 < Tryz.prog.cellsOf e)|_=>true)=true:=by kernel_rfl
theorem hsz{t e:TypeId}(ht:t < Tryz.prog.types.size)(h:Tryz.prog.underlying t=some (.slice e)):0 < Tryz.prog.cellsOf e:=by
 have:=xq6.1 dj0 t (aZ8.2 ht);rw[h] at this;simpa using this
theorem de4:Tryz.prog.cellsOf 5=1:=by kernel_rfl
theorem bE9:Tryz.prog.cellsOf 92=1:=by kernel_rfl
theorem eq8:Tryz.prog.globalNamed "internal/strconv.uint64pow10" =some 11:=by kernel_rfl
theorem eo6:(Tryz.prog.globals[11]?).map (·.type)=some 287:=by kernel_rfl
theorem er7:Tryz.prog.cellsOf 287=20:=by kernel_rfl
theorem dB6:(Rows.laid_internal_strconv_uint64pow10:DataW Unit)=Lib.tabData .u64 ((List.range 20).map fun i=>((10^i:Nat):Int)):=by kernel_rfl
theorem dK4:Tryz.prog.globalNamed "unicode/utf8.acceptRanges" =some 3:=by kernel_rfl
theorem dy9:(Tryz.prog.globals[3]?).map (·.type)=some 156:=by kernel_rfl
theorem el9:Tryz.prog.cellsOf 155=2:=by kernel_rfl
theorem cR1:(Rows.laid_unicode_utf8_acceptRanges:DataW Unit)=Lib.acceptData:=by kernel_rfl
theorem eq9:Tryz.prog.globalNamed "vouchsafe/field.One" =some 6:=by kernel_rfl
theorem eo7:(Tryz.prog.globals[6]?).map (·.type)=some 94:=by kernel_rfl
theorem er9:Tryz.prog.cellsOf 94=5:=by kernel_rfl
theorem dD8:(Rows.laid_vouchsafe_field_One:DataW Unit)=Lib.tabData .u64 (cC7.map fun n:Nat=>(n:Int)):=by kernel_rfl
theorem ei8:Tryz.prog.globalNamed "vouchsafe/curve.once" =some 8:=by kernel_rfl
theorem d93:(Tryz.prog.globals[8]?).map (·.type)=some 94:=by kernel_rfl
theorem el2:Tryz.prog.cellsOf 94=5:=by kernel_rfl
theorem dm5:(Rows.laid_vouchsafe_curve_once:DataW Unit)=Lib.tabData .u64 (bQ3.map fun n:Nat=>(n:Int)):=by kernel_rfl
theorem d36:Tryz.prog.globalNamed "vouchsafe/scalar.order" =some 5:=by kernel_rfl
theorem dT4:(Tryz.prog.globals[5]?).map (·.type)=some 172:=by kernel_rfl
theorem d60:Tryz.prog.cellsOf 172=4:=by kernel_rfl
theorem c95:(Rows.laid_vouchsafe_scalar_order:DataW Unit)=Lib.tabData .u64 (bn6.map fun n:Nat=>(n:Int)):=by kernel_rfl
theorem ei7:Tryz.prog.globalNamed "vouchsafe/scalar.tail" =some 10:=by kernel_rfl
theorem d92:(Tryz.prog.globals[10]?).map (·.type)=some 275:=by kernel_rfl
theorem el0:Tryz.prog.cellsOf 275=2:=by kernel_rfl
theorem dh6:(Rows.laid_vouchsafe_scalar_tail:DataW Unit)=Lib.tabData .u64 (bO9.map fun n:Nat=>(n:Int)):=by kernel_rfl
theorem d34:Tryz.prog.globalNamed "strings.asciiSpace" =some 4:=by kernel_rfl
theorem dT2:(Tryz.prog.globals[4]?).map (·.type)=some 153:=by kernel_rfl
theorem d58:Tryz.prog.cellsOf 153=256:=by kernel_rfl
theorem c56:(Rows.laid_strings_asciiSpace:DataW Unit)=Lib.tabData .u8 ((List.range 256).map fun c=>((bI2 c:Nat):Int)):=by kernel_rfl
theorem d35:Tryz.prog.globalNamed "vouchsafe/sha.roots" =some 1:=by kernel_rfl
theorem dT3:(Tryz.prog.globals[1]?).map (·.type)=some 130:=by kernel_rfl
theorem d59:Tryz.prog.cellsOf 130=80:=by kernel_rfl
theorem c74:(Rows.laid_vouchsafe_sha_roots:DataW Unit)=Lib.tabData .u64 (be9.map fun n:Nat=>(n:Int)):=by kernel_rfl
theorem dK3:Tryz.prog.globalNamed "vouchsafe/sha.begins" =some 0:=by kernel_rfl
theorem dy8:(Tryz.prog.globals[0]?).map (·.type)=some 129:=by kernel_rfl
theorem dN6:Tryz.prog.cellsOf 129=8:=by kernel_rfl
theorem cQ4:(Rows.laid_vouchsafe_sha_begins:DataW Unit)=Lib.tabData .u64 (ba6.map fun n:Nat=>(n:Int)):=by kernel_rfl
theorem d37:Tryz.prog.globalNamed "unicode/utf8.first" =some 2:=by kernel_rfl
theorem dT5:(Tryz.prog.globals[2]?).map (·.type)=some 153:=by kernel_rfl
theorem d61:Tryz.prog.cellsOf 153=256:=by kernel_rfl
theorem dd4:(Rows.laid_unicode_utf8_first:DataW Unit)=Lib.tabData .u8 ((List.range 256).map fun c=>(Lib.firstT c:Int)):=by kernel_rfl
noncomputable def bd5:List (String×DataW Unit):=[("math/bits.deBruijn32tab",Rows.laid_math_bits_deBruijn32tab),("math/bits.deBruijn64tab",Rows.laid_math_bits_deBruijn64tab),("internal/strconv.uint64pow10",Rows.laid_internal_strconv_uint64pow10),("unicode/utf8.acceptRanges",Rows.laid_unicode_utf8_acceptRanges),("vouchsafe/field.One",Rows.laid_vouchsafe_field_One),("vouchsafe/curve.once",Rows.laid_vouchsafe_curve_once),("vouchsafe/scalar.order",Rows.laid_vouchsafe_scalar_order),("vouchsafe/scalar.tail",Rows.laid_vouchsafe_scalar_tail),("unicode.White_Space",Rows.laid_unicode_White_Space),("strings.asciiSpace",Rows.laid_strings_asciiSpace),("vouchsafe/sha.roots",Rows.laid_vouchsafe_sha_roots),("vouchsafe/sha.begins",Rows.laid_vouchsafe_sha_begins),("unicode/utf8.first",Rows.laid_unicode_utf8_first)]
theorem tabs{W:World}(h:laidMet Tryz.prog bd5 W)(ho:W.ShapedOpen Tryz.prog):cw5 W:=by
 unfold bd5 at h;refine⟨fun g j v e=>?_,fun g t e=>?_,fun g e=>?_⟩
 ·unfold aQ1 at e
  split at e
  ·obtain⟨g,t,cs,fuel,p,hg,hty,hvar,hd⟩:=Lib.laidMet.reads h (n:= "vouchsafe/sha.begins") (d:=Rows.laid_vouchsafe_sha_begins) (by simp)
   obtain rfl:=Option.some.inj (dK3.symm.trans hg);obtain rfl:=Option.some.inj (dy8.symm.trans hty);rw[cQ4] at hd;have hcs:=Lib.cells_of_tab Tryz.underlying129 Tryz.underlying92 bE9 dN6 hd;rw[World.var?_cell hg hvar j,<-aP8,hcs,aS8];exact e
  ·obtain⟨g,t,cs,fuel,p,hg,hty,hvar,hd⟩:=Lib.laidMet.reads h (n:= "vouchsafe/sha.roots") (d:=Rows.laid_vouchsafe_sha_roots) (by simp)
   obtain rfl:=Option.some.inj (d35.symm.trans hg);obtain rfl:=Option.some.inj (dT3.symm.trans hty);rw[c74] at hd;have hcs:=Lib.cells_of_tab Tryz.underlying130 Tryz.underlying92 bE9 d59 hd;rw[World.var?_cell hg hvar j,<-aP8,hcs,aS8];exact e
  ·obtain⟨g,t,cs,fuel,p,hg,hty,hvar,hd⟩:=Lib.laidMet.reads h (n:= "unicode/utf8.first") (d:=Rows.laid_unicode_utf8_first) (by simp)
   obtain rfl:=Option.some.inj (d37.symm.trans hg);obtain rfl:=Option.some.inj (dT5.symm.trans hty);rw[dd4] at hd;have hcs:=Lib.cells_of_tab Tryz.underlying153 Tryz.underlying5 de4 d61 hd;rw[World.var?_cell hg hvar j,<-aP8,hcs,aS8];exact e
  ·obtain⟨g,t,cs,fuel,p,hg,hty,hvar,hd⟩:=Lib.laidMet.reads h (n:= "unicode/utf8.acceptRanges") (d:=Rows.laid_unicode_utf8_acceptRanges) (by simp)
   obtain rfl:=Option.some.inj (dK4.symm.trans hg);obtain rfl:=Option.some.inj (dy9.symm.trans hty);rw[cR1] at hd;rw[World.var?_cell hg hvar j,<-aP8];have hj:j < 32:=(show aM7.length=32 from rfl)▸(y9 e:j < aM7.length)
   obtain⟨fuel',d,q,hdi,he⟩:=Lib.array_elem Tryz.underlying156 hd (j/2) (by omega)
   simp only[ak6,aM3 (show j/2 < 16 by omega),Option.map_some,Option.some.injEq] at hdi
   subst hdi;rw[el9] at he;have hcs:=Lib.ints_of_struct Tryz.underlying155 (fun j f hj=>by
    match j,hj with
    |0,hj=>simp at hj;subst hj;exact⟨Tryz.underlying5,rfl,de4⟩
    |1,hj=>simp at hj;subst hj;exact⟨Tryz.underlying5,rfl,de4⟩
    |j+2,hj=>simp at hj) (by rw[el9];rfl) he
   have e0:=congrArg (·[j%2]?) hcs;simp only[aG3,aP9,show j%2 < 2 by omega,if_true,show j/2*2+j%2=j by omega] at e0
   rw[e0,<-e];have key: ∀k,k < 32->(List.map (fun z=>Value.int .u8 z) [((Lib.accLo (k/2):Nat):Int),((Lib.accHi (k/2):Nat):Int)])[k%2]?=aM7[k]?:=by
    intro k hk;match k,hk with
    |0,_|1,_|2,_|3,_|4,_|5,_|6,_|7,_|8,_|9,_|10,_|11,_|12,_|13,_|14,_|15,_|16,_|17,_|18,_|19,_|20,_|21,_|22,_|23,_|24,_|25,_|26,_|27,_|28,_|29,_|30,_|31,_=>rfl
    |_+32,h=>omega
   exact key j hj
  ·obtain⟨g,t,cs,fuel,p,hg,hty,hvar,hd⟩:=Lib.laidMet.reads h (n:= "strings.asciiSpace") (d:=Rows.laid_strings_asciiSpace) (by simp)
   obtain rfl:=Option.some.inj (d34.symm.trans hg);obtain rfl:=Option.some.inj (dT2.symm.trans hty);rw[c56] at hd;have hcs:=Lib.cells_of_tab Tryz.underlying153 Tryz.underlying5 de4 d58 hd;rw[World.var?_cell hg hvar j,<-aP8,hcs,aS8];exact e
  ·obtain⟨g,t,cs,fuel,p,hg,hty,hvar,hd⟩:=Lib.laidMet.reads h (n:= "vouchsafe/scalar.order") (d:=Rows.laid_vouchsafe_scalar_order) (by simp)
   obtain rfl:=Option.some.inj (d36.symm.trans hg);obtain rfl:=Option.some.inj (dT4.symm.trans hty);rw[c95] at hd;have hcs:=Lib.cells_of_tab Tryz.underlying172 Tryz.underlying92 bE9 d60 hd;rw[World.var?_cell hg hvar j,<-aP8,hcs,aS8];exact e
  ·obtain⟨g,t,cs,fuel,p,hg,hty,hvar,hd⟩:=Lib.laidMet.reads h (n:= "vouchsafe/field.One") (d:=Rows.laid_vouchsafe_field_One) (by simp)
   obtain rfl:=Option.some.inj (eq9.symm.trans hg);obtain rfl:=Option.some.inj (eo7.symm.trans hty);rw[dD8] at hd;have hcs:=Lib.cells_of_tab Tryz.underlying94 Tryz.underlying92 bE9 er9 hd;rw[World.var?_cell hg hvar j,<-aP8,hcs,aS8];exact e
  ·obtain⟨g,t,cs,fuel,p,hg,hty,hvar,hd⟩:=Lib.laidMet.reads h (n:= "vouchsafe/curve.once") (d:=Rows.laid_vouchsafe_curve_once) (by simp)
   obtain rfl:=Option.some.inj (ei8.symm.trans hg);obtain rfl:=Option.some.inj (d93.symm.trans hty);rw[dm5] at hd;have hcs:=Lib.cells_of_tab Tryz.underlying94 Tryz.underlying92 bE9 el2 hd;rw[World.var?_cell hg hvar j,<-aP8,hcs,aS8];exact e
  ·obtain⟨g,t,cs,fuel,p,hg,hty,hvar,hd⟩:=Lib.laidMet.reads h (n:= "vouchsafe/scalar.tail") (d:=Rows.laid_vouchsafe_scalar_tail) (by simp)
   obtain rfl:=Option.some.inj (ei7.symm.trans hg);obtain rfl:=Option.some.inj (d92.symm.trans hty);rw[dh6] at hd;have hcs:=Lib.cells_of_tab Tryz.underlying275 Tryz.underlying92 bE9 el0 hd;rw[World.var?_cell hg hvar j,<-aP8,hcs,aS8];exact e
  ·obtain⟨g,t,cs,fuel,p,hg,hty,hvar,hd⟩:=Lib.laidMet.reads h (n:= "internal/strconv.uint64pow10") (d:=Rows.laid_internal_strconv_uint64pow10) (by simp)
   obtain rfl:=Option.some.inj (eq8.symm.trans hg);obtain rfl:=Option.some.inj (eo6.symm.trans hty);rw[dB6] at hd;have hcs:=Lib.cells_of_tab Tryz.underlying287 Tryz.underlying92 bE9 er7 hd;rw[World.var?_cell hg hvar j,<-aP8,hcs,aS8];exact e
  ·simp at e
 ·unfold aY1 at e
  cases e
 ·unfold dJ8 at e
  split at e
  ·exact cell_of_shapedOpen_int (t:=3) (zero:= #[.int .i64 0]) ho (of_decide_eq_true (by kernel_rfl)) (by kernel_rfl) rfl (by kernel_rfl) (by kernel_rfl) Tryz.underlying3
  ·cases e
noncomputable def aA5(cs:List Value):Obj->Obj
 |.cells _ t frozen=>.cells cs.toArray t frozen
 |o=>o
def cF0:DataW Unit->List Value
 |.agg l=>l.filterMap fun|.lit (.int k n)=>some (.int k n)|_=>none
 |_=>[]
noncomputable def bp0(os:Os):Array Obj:=(World.holding Tryz.prog os ⟨#[],#[],[]⟩).heap
noncomputable def laidWorld(os:Os):World:=
 {World.holding Tryz.prog os ⟨#[],#[],[]⟩ with heap:=(((((((((((((((bp0 os).modify 12 (aA5 (cF0 Rows.laid_math_bits_deBruijn32tab))).modify 13 (aA5 (cF0 Rows.laid_math_bits_deBruijn64tab))).modify 11 (aA5 bm6)).modify 3 (aA5 aM7)).modify 6 (aA5 cy3)).modify 8 (aA5 ch7)).modify 5 (aA5 bW5)).modify 10 (aA5 ch2)).modify 7 (aA5 [.pointer (some ⟨(bp0 os).size+0,0,none⟩)])).modify 4 (aA5 a02)).modify 1 (aA5 a03)).modify 0 (aA5 aT8)).modify 2 (aA5 bm7)).push (.cells #[.slice (some ⟨(bp0 os).size+1,0,none⟩) 7 7,.slice none 0 0,.int .i64 2] 252 (0,0))).push (.cells #[.int .u16 9,.int .u16 13,.int .u16 1,.int .u16 32,.int .u16 133,.int .u16 101,.int .u16 160,.int .u16 5760,.int .u16 5600,.int .u16 8192,.int .u16 8202,.int .u16 1,.int .u16 8232,.int .u16 8233,.int .u16 1,.int .u16 8239,.int .u16 8287,.int .u16 48,.int .u16 12288,.int .u16 12288,.int .u16 1] 255 (0,0))}
noncomputable def dq0(os:Os):List Nat:=[12,13,11,3,6,8,5,10,7,(bp0 os).size+0,(bp0 os).size+1,4,1,0,2]
end
section
open Go V Go.ChangeShapes Go.WideShapes Go.ChangeAt Go.RowKit
theorem cK5{P:Program}{W:World}{base:Nat}{t:TypeId}{fs:Array Field}{v:Value}(hd:P.underlying t=some (.struct fs))(k:Value.okWide P W .any base t v): ∃cs,v=.agg cs:=by
 unfold Value.okWide at k;rw[hd] at k;obtain⟨cs,h,_⟩:=k;exact⟨cs,h⟩
theorem ao1{W:World}{x:AV}{c:Value}(hx:x.flat=[x])(h:bF6 W x [c]):Rel (G₀ W) [] W x c:=h.2.2 0 x c (by rw[hx];rfl) rfl
theorem dS4:Tryz.prog.cellsOf 3=1:=by kernel_rfl
theorem bS5:Tryz.prog.cellsOf 9=1:=by kernel_rfl
theorem dv4:Tryz.prog.cellsOf 22=1:=by kernel_rfl
theorem es4:Tryz.prog.cellsOf 23=1:=by kernel_rfl
theorem dN5:Tryz.prog.cellsOf 25=5:=by kernel_rfl
section
variable {H:Type}{enc:TypeId×Value->H}{W:World}
theorem five{α:Type}{l:List α}(h:l.length=5): ∃a b c d e,l=[a,b,c,d,e]:=by
 match l,h with
 |[a,b,c,d,e],_=>exact⟨a,b,c,d,e,rfl⟩
theorem bY2: ∀n,aA1 enc Tryz.prog W n 25 jAV (fun _=>True)
 |0=>aA1.zero
 |n+1=>fun m cs x hm hx=>by
  obtain⟨xs,n',rfl,rfl,hl,hxl,hf⟩:=DataW.trod_struct Tryz.underlying25 hx;rw[dN5] at hl;have h0:DataW.trod enc Tryz.prog W 0 (fun _=>true) true n' 3 ((cs.drop 0).take (Tryz.prog.cellsOf 3))=xs[0]?:=hf 0 _ rfl
  have h1:DataW.trod enc Tryz.prog W 0 (fun _=>true) true n' 3 ((cs.drop 1).take (Tryz.prog.cellsOf 3))=xs[1]?:=hf 1 _ rfl
  have h2:DataW.trod enc Tryz.prog W 0 (fun _=>true) true n' 9 ((cs.drop 2).take (Tryz.prog.cellsOf 9))=xs[2]?:=hf 2 _ rfl
  have h3:DataW.trod enc Tryz.prog W 0 (fun _=>true) true n' 22 ((cs.drop 3).take (Tryz.prog.cellsOf 22))=xs[3]?:=hf 3 _ rfl
  have h4:DataW.trod enc Tryz.prog W 0 (fun _=>true) true n' 23 ((cs.drop 4).take (Tryz.prog.cellsOf 23))=xs[4]?:=hf 4 _ rfl
  rw[dS4] at h0 h1;rw[bS5] at h2;rw[dv4] at h3;rw[es4] at h4;obtain⟨k0,k1,k2,k3,k4,rfl⟩:=five hl;obtain⟨x0,x1,x2,x3,x4,rfl⟩:=five (hxl.trans (by rfl))
  obtain⟨a,_,r0⟩:=bf1 (enc:=enc) (w:=W) (n'+1) Tryz.underlying3 n' _ _ (aE9 _) h0;obtain⟨b,_,r1⟩:=bf1 (enc:=enc) (w:=W) (n'+1) Tryz.underlying3 n' _ _ (aE9 _) h1;obtain⟨c,_,r2⟩:=an7 (enc:=enc) (w:=W) (n'+1) Tryz.underlying9 n' _ _ (aE9 _) h2;obtain⟨d,_,r3⟩:=bc8 Tryz.underlying22 bS5 (by decide) (an7 (enc:=enc) (w:=W) n' Tryz.underlying9) n' _ _ (aE9 _) h3
  obtain⟨f,_,r4⟩:=bc8 Tryz.underlying23 dN5 (by decide) (bY2 n) n' _ _ (by omega) h4
  refine⟨.mk a b c d f,trivial,bQ4,by rw[as2];rfl,fun j y u ey eu=>?_⟩
  rw[as2] at ey;match j,ey,eu with
  |0,ey,eu=>cases ey;cases eu;exact ao1 rfl r0
  |1,ey,eu=>cases ey;cases eu;exact ao1 rfl r1
  |2,ey,eu=>cases ey;cases eu;exact ao1 rfl r2
  |3,ey,eu=>cases ey;cases eu;exact ao1 rfl r3
  |4,ey,eu=>cases ey;cases eu;exact ao1 rfl r4
end
theorem ca7{W:World}:laidMetH Tryz.prog bd5 W=laidMet Tryz.prog bd5 W:=MakeChecks.laidMetH_plain _ _ _ (by kernel_rfl)
theorem eo9{W:World}(h:laidMetH Tryz.prog bd5 W)(ho:W.ShapedOpen Tryz.prog):cw5 W:=tabs (ca7▸h) ho
end
section
open Go V Go.ChangeShapes Go.WideShapes Go.ChangeAt Go.RowKit
theorem ew6:Tryz.prog.cellsOf 5=1:=by kernel_rfl
theorem el7:Tryz.prog.cellsOf 4=1:=by kernel_rfl
theorem dv5:Tryz.prog.cellsOf 28=32:=by kernel_rfl
theorem ew4:Tryz.prog.cellsOf 30=34:=by kernel_rfl
theorem ew5:Tryz.prog.cellsOf 27=21:=by kernel_rfl
theorem three{α:Type}{l:List α}(h:l.length=3): ∃a b c,l=[a,b,c]:=by
 match l,h with
 |[a,b,c],_=>exact⟨a,b,c,rfl⟩
theorem eh2{α:Type}{l:List α}(h:l.length=13): ∃a b c d e f g h i j k m n,l=[a,b,c,d,e,f,g,h,i,j,k,m,n]:=by
 match l,h with
 |[a,b,c,d,e,f,g,h,i,j,k,m,n],_=>exact⟨a,b,c,d,e,f,g,h,i,j,k,m,n,rfl⟩
theorem eh1{α:Type}{l:List α}(h:l.length=21): ∃a b c d e f g h i j k m n o p q r s t u v,l=[a,b,c,d,e,f,g,h,i,j,k,m,n,o,p,q,r,s,t,u,v]:=by
 match l,h with
 |[a,b,c,d,e,f,g,h,i,j,k,m,n,o,p,q,r,s,t,u,v],_=>exact⟨a,b,c,d,e,f,g,h,i,j,k,m,n,o,p,q,r,s,t,u,v,rfl⟩
section
variable {H:Type}{enc:TypeId×Value->H}{W:World}
theorem c96(n:Nat):aA1 enc Tryz.prog W n 28 (fun l:bytes=>.agg (l.map o8)) (fun l=>l.length=32):=fun m cs x hm hx=>by
 obtain⟨xs,n',rfl,rfl,hl,hxl,hf⟩:=DataW.trod_array Tryz.underlying28 hx;have hl:=hl.trans dv5;have each: ∀i,i < 32-> ∃b:UInt8,∀c,cs[i]?=some c->Rel (G₀ W) [] W (o8 b) c:=fun i hi=>by
  have h0:=hf i hi;rw[ew6,Nat.mul_one,xq1 (by omega)] at h0
  obtain⟨b,_,r⟩:=dC8 (enc:=enc) (w:=W) (n'+1) Tryz.underlying5 n' _ _ (aE9 _) h0;refine⟨b,fun c hc=>r.2.2 0 _ c rfl ?_⟩
  rw[aG3,if_pos (by omega),aP9,av1]
  exact hc
 refine⟨(List.range 32).map fun i=>if h:i < 32 then Classical.choose (each i h) else 0,by simp,?_,?_,fun j y u ey eu=>?_⟩
 ·exact ab2
 ·show (((List.range 32).map fun i=>if h:i < 32 then Classical.choose (each i h) else 0).map o8).length=_
  rw[hl];simp
 ·have ey:(((List.range 32).map fun i=>if h:i < 32 then Classical.choose (each i h) else 0).map o8)[j]?=some y:=ey
  have hj:j < 32:=by have:=y9 eu;omega
  rw[ak6,ak6,aM3 hj] at ey;simp only[Option.map_some,dif_pos hj,Option.some.injEq] at ey;subst ey;exact Classical.choose_spec (each j hj) u eu
theorem cC1(n:Nat):aA1 enc Tryz.prog W n 30 (fun p:bytes×bytes×bytes=>Ev.aG6 p.1 p.2.1 p.2.2) (fun p=>p.2.2.length=32):=fun m cs x hm hx=>by
 obtain⟨xs,n',rfl,rfl,hl,hxl,hf⟩:=DataW.trod_struct Tryz.underlying30 hx;rw[ew4] at hl;have h0:DataW.trod enc Tryz.prog W 0 (fun _=>true) true n' 9 ((cs.drop 0).take (Tryz.prog.cellsOf 9))=xs[0]?:=hf 0 _ rfl
 have h1:DataW.trod enc Tryz.prog W 0 (fun _=>true) true n' 9 ((cs.drop 1).take (Tryz.prog.cellsOf 9))=xs[1]?:=hf 1 _ rfl
 have h2:DataW.trod enc Tryz.prog W 0 (fun _=>true) true n' 28 ((cs.drop 2).take (Tryz.prog.cellsOf 28))=xs[2]?:=hf 2 _ rfl
 rw[bS5] at h0 h1;rw[dv5] at h2;obtain⟨x0,x1,x2,rfl⟩:=three (hxl.trans (by rfl))
 obtain⟨a,_,r0⟩:=an7 (enc:=enc) (w:=W) (n'+1) Tryz.underlying9 n' _ _ (aE9 _) h0;obtain⟨b,_,r1⟩:=an7 (enc:=enc) (w:=W) (n'+1) Tryz.underlying9 n' _ _ (aE9 _) h1;obtain⟨s,hs,r2⟩:=c96 (enc:=enc) (W:=W) n' n' _ _ (xq0 _) h2;obtain⟨k0,k1,cs,rfl⟩: ∃c d l,cs=c::d::l:=by
  match cs,hl with
  |c::d::l,_=>exact⟨c,d,l,rfl⟩
 refine⟨(a,b,s),hs,?_,?_,fun j y u ey eu=>?_⟩
 ·show (AV.str a::AV.str b::s.map o8).all AV.scalar=true
  exact(show (true&&(true&&(s.map o8).all AV.scalar))=true by rw[ab2];rfl)
 ·show (AV.str a::AV.str b::s.map o8).length=_
  rw[hl];simp[hs]
 ·match j,ey,eu with
  |0,ey,eu=>cases ey;cases eu;exact ao1 rfl r0
  |1,ey,eu=>cases ey;cases eu;exact ao1 rfl r1
  |j+2,ey,eu=>
   have hj:j < 32:=by
    have:=y9 eu;simp only[List.length_cons] at this hl;omega
   refine r2.2.2 j y u ey ?_;rw[xq5,xq5,List.drop_zero,aG3,if_pos hj];exact eu
theorem dC9(n:Nat):aA1 enc Tryz.prog W n 27 Ev.av (fun _=>True):=fun m cs x hm hx=>by
 obtain⟨xs,n',rfl,rfl,hl,hxl,hf⟩:=DataW.trod_struct Tryz.underlying27 hx;rw[ew5] at hl;have h0:DataW.trod enc Tryz.prog W 0 (fun _=>true) true n' 9 ((cs.drop 0).take (Tryz.prog.cellsOf 9))=xs[0]?:=hf 0 _ rfl
 have h1:DataW.trod enc Tryz.prog W 0 (fun _=>true) true n' 9 ((cs.drop 1).take (Tryz.prog.cellsOf 9))=xs[1]?:=hf 1 _ rfl
 have h2:DataW.trod enc Tryz.prog W 0 (fun _=>true) true n' 9 ((cs.drop 2).take (Tryz.prog.cellsOf 9))=xs[2]?:=hf 2 _ rfl
 have h3:DataW.trod enc Tryz.prog W 0 (fun _=>true) true n' 9 ((cs.drop 3).take (Tryz.prog.cellsOf 9))=xs[3]?:=hf 3 _ rfl
 have h4:DataW.trod enc Tryz.prog W 0 (fun _=>true) true n' 4 ((cs.drop 4).take (Tryz.prog.cellsOf 4))=xs[4]?:=hf 4 _ rfl
 have h5:DataW.trod enc Tryz.prog W 0 (fun _=>true) true n' 9 ((cs.drop 5).take (Tryz.prog.cellsOf 9))=xs[5]?:=hf 5 _ rfl
 have h6:DataW.trod enc Tryz.prog W 0 (fun _=>true) true n' 25 ((cs.drop 6).take (Tryz.prog.cellsOf 25))=xs[6]?:=hf 6 _ rfl
 have h7:DataW.trod enc Tryz.prog W 0 (fun _=>true) true n' 22 ((cs.drop 11).take (Tryz.prog.cellsOf 22))=xs[7]?:=hf 7 _ rfl
 have h8:DataW.trod enc Tryz.prog W 0 (fun _=>true) true n' 22 ((cs.drop 12).take (Tryz.prog.cellsOf 22))=xs[8]?:=hf 8 _ rfl
 have h9:DataW.trod enc Tryz.prog W 0 (fun _=>true) true n' 3 ((cs.drop 13).take (Tryz.prog.cellsOf 3))=xs[9]?:=hf 9 _ rfl
 have h10:DataW.trod enc Tryz.prog W 0 (fun _=>true) true n' 3 ((cs.drop 14).take (Tryz.prog.cellsOf 3))=xs[10]?:=hf 10 _ rfl
 have h11:DataW.trod enc Tryz.prog W 0 (fun _=>true) true n' 9 ((cs.drop 15).take (Tryz.prog.cellsOf 9))=xs[11]?:=hf 11 _ rfl
 have h12:DataW.trod enc Tryz.prog W 0 (fun _=>true) true n' 25 ((cs.drop 16).take (Tryz.prog.cellsOf 25))=xs[12]?:=hf 12 _ rfl
 clear hf hx;rw[bS5] at h0 h1 h2 h3 h5 h11;rw[dN5] at h6 h12;rw[dS4] at h9 h10;rw[el7] at h4;rw[dv4] at h7 h8;obtain⟨x0,x1,x2,x3,x4,x5,x6,x7,x8,x9,x10,x11,x12,rfl⟩:=eh2 (hxl.trans (by rfl))
 obtain⟨k0,k1,k2,k3,k4,k5,k6,k7,k8,k9,k10,k11,k12,k13,k14,k15,k16,k17,k18,k19,k20,rfl⟩:=eh1 hl;obtain⟨v0,_,r0⟩:=an7 (enc:=enc) (w:=W) (n'+1) Tryz.underlying9 n' _ _ (aE9 _) h0;obtain⟨v1,_,r1⟩:=an7 (enc:=enc) (w:=W) (n'+1) Tryz.underlying9 n' _ _ (aE9 _) h1;obtain⟨v2,_,r2⟩:=an7 (enc:=enc) (w:=W) (n'+1) Tryz.underlying9 n' _ _ (aE9 _) h2;obtain⟨v3,_,r3⟩:=an7 (enc:=enc) (w:=W) (n'+1) Tryz.underlying9 n' _ _ (aE9 _) h3;obtain⟨v4,_,r4⟩:=c97 (enc:=enc) (w:=W) (n'+1) Tryz.underlying4 n' _ _ (aE9 _) h4;obtain⟨v5,_,r5⟩:=an7 (enc:=enc) (w:=W) (n'+1) Tryz.underlying9 n' _ _ (aE9 _) h5;obtain⟨v6,_,r6⟩:=bY2 (enc:=enc) (W:=W) n' n' _ _ (xq0 _) h6;obtain⟨v7,_,r7⟩:=bc8 Tryz.underlying22 bS5 (by decide) (an7 (enc:=enc) (w:=W) n' Tryz.underlying9) n' _ _ (aE9 _) h7
 obtain⟨v8,_,r8⟩:=bc8 Tryz.underlying22 bS5 (by decide) (an7 (enc:=enc) (w:=W) n' Tryz.underlying9) n' _ _ (aE9 _) h8
 obtain⟨v9,_,r9⟩:=bf1 (enc:=enc) (w:=W) (n'+1) Tryz.underlying3 n' _ _ (aE9 _) h9;obtain⟨v10,_,r10⟩:=bf1 (enc:=enc) (w:=W) (n'+1) Tryz.underlying3 n' _ _ (aE9 _) h10;obtain⟨v11,_,r11⟩:=an7 (enc:=enc) (w:=W) (n'+1) Tryz.underlying9 n' _ _ (aE9 _) h11;obtain⟨v12,_,r12⟩:=bY2 (enc:=enc) (W:=W) n' n' _ _ (xq0 _) h12;refine⟨⟨v0,v1,v2,v3,v4,v5,v6,v7,v8,v9,v10,v11,v12⟩,trivial,rfl,rfl,fun j y u ey eu=>?_⟩
 match j,ey,eu with
 |0,ey,eu=>cases ey;cases eu;exact ao1 rfl r0
 |1,ey,eu=>cases ey;cases eu;exact ao1 rfl r1
 |2,ey,eu=>cases ey;cases eu;exact ao1 rfl r2
 |3,ey,eu=>cases ey;cases eu;exact ao1 rfl r3
 |4,ey,eu=>cases ey;cases eu;exact ao1 rfl r4
 |5,ey,eu=>cases ey;cases eu;exact ao1 rfl r5
 |6,ey,eu=>cases ey;cases eu;exact r6.2.2 0 _ _ (by rw[as2];rfl) rfl
 |7,ey,eu=>cases ey;cases eu;exact r6.2.2 1 _ _ (by rw[as2];rfl) rfl
 |8,ey,eu=>cases ey;cases eu;exact r6.2.2 2 _ _ (by rw[as2];rfl) rfl
 |9,ey,eu=>cases ey;cases eu;exact r6.2.2 3 _ _ (by rw[as2];rfl) rfl
 |10,ey,eu=>cases ey;cases eu;exact r6.2.2 4 _ _ (by rw[as2];rfl) rfl
 |11,ey,eu=>cases ey;cases eu;exact ao1 rfl r7
 |12,ey,eu=>cases ey;cases eu;exact ao1 rfl r8
 |13,ey,eu=>cases ey;cases eu;exact ao1 rfl r9
 |14,ey,eu=>cases ey;cases eu;exact ao1 rfl r10
 |15,ey,eu=>cases ey;cases eu;exact ao1 rfl r11
 |16,ey,eu=>cases ey;cases eu;exact r12.2.2 0 _ _ (by rw[as2];rfl) rfl
 |17,ey,eu=>cases ey;cases eu;exact r12.2.2 1 _ _ (by rw[as2];rfl) rfl
 |18,ey,eu=>cases ey;cases eu;exact r12.2.2 2 _ _ (by rw[as2];rfl) rfl
 |19,ey,eu=>cases ey;cases eu;exact r12.2.2 3 _ _ (by rw[as2];rfl) rfl
 |20,ey,eu=>cases ey;cases eu;exact r12.2.2 4 _ _ (by rw[as2];rfl) rfl
 |j+21,ey,eu=>simp at eu
end
noncomputable def zSg:Value:=.agg ⟨.string ⟨#[]⟩::.string ⟨#[]⟩::List.replicate 32 (.int .u8 0)⟩
noncomputable def dSg{H:Type}:DataW H:=.agg [.lit (.string []),.lit (.string []),.agg (List.replicate 32 (.lit (.int .u8 0)))]
theorem dk7{W:World}{v:Ev.T}{cs:Array Value}(h:bF6 W (Ev.av v) (Value.agg cs).cells.toList):Rel (G₀ W) [] W (Ev.av v) (.agg cs):=b78 h
theorem cn5{W:World}{a b s:bytes}{cs:Array Value}(h:bF6 W (Ev.aG6 a b s) (Value.agg cs).cells.toList):Rel (G₀ W) [] W (Ev.aG6 a b s) (.agg cs):=b78 h
end
section
open Go Go.ChangeShapes Go.WideShapes Go.ChangeAt Go.RowKit
theorem c90:laidOutB Tryz.prog=true:=by kernel_rfl
theorem dW1:mapsRowed Tryz.prog=true:=by kernel_rfl
theorem dC0:(Tryz.prog.stops==[])=true:=by kernel_rfl
theorem dC2:(Tryz.prog.stopKnobs==[])=true:=by kernel_rfl
theorem dW2:(true==Tryz.prog.plainKeys)=true:=by kernel_rfl
theorem dC3:Tryz.prog.stopsHeard=true:=by kernel_rfl
theorem dC4:Tryz.prog.mayEnter=true:=by kernel_rfl
theorem dC1:(false==Tryz.prog.liftsFinal)=true:=by kernel_rfl
theorem dq4{P:Program}{f:FuncId}{fn:Func}{s:ChangeSpec}{c:OpenClaim}(h1:c.wf (OpenSpec.ofChange s)=true)(h2:laidOutB P=true)(h3:mapsRowed P=true)(h4:fn.params.all (P.readableRec ·)=true)(h5:namedTie P c.named s.vars=true)
  (h6:(c.stops==[])=true) (h7:(P.stops==[])=true) (h8:(c.knobs==[])=true) (h9:(P.stopKnobs==[])=true) (h10:(c.inPlace==P.inPlace f)=true) (h11:(c.unfollowed==P.unfollowed f)=true) (h12:(c.recurses==P.recurses f)=true) (h13:(c.named==P.varsNamed f)=true)
  (h14:((c.maps==(fn.params.toList++s.plain.varTypes P).any (P.mapsRec ·))&&(c.ifaces==(fn.params.toList++s.plain.varTypes P).any (P.ifacesRec ·))&&(c.mapsOut==P.mapsAmong fn.resultTypes.toList))=true)
  (h15:((c.loops==(fn.params.toList++s.plain.varTypes P).any (P.loopsFrom ·))&&(c.wideKeys==(fn.params.toList++s.plain.varTypes P++fn.resultTypes.toList).any (P.wideKeysFrom ·)))=true)
  (h16:(s.vars.all (P.varReadable ·)&&fn.resultTypes.all (fun t=>P.readableRec t&&decide (t < P.types.size))&&(c.ifacesOut==fn.resultTypes.toList.any (P.ifacesRec ·))&&(c.loopsOut==fn.resultTypes.toList.any (P.loopsFrom ·)))=true)
  (h17:(c.plainKeys==P.plainKeys)=true) (h18:c.shortTexts.isNone=true) (h19:P.stopsHeard=true) (h20:P.mayEnter=true) (h21:(c.lifted==P.liftsFinal)=true) (h22:(P.make==some c.make)=true)
  (h23:(c.kinds==(if c.domain.isEmpty then[] else fn.params.toList.map fun t=>match P.underlying t with|some (.int k)=>some k|_=>none))=true) (h24:(c.pinned==c.pinnedBy)=true)
  (h25:(c.veiled==(fn.params.toList++s.plain.varTypes P++fn.resultTypes.toList).any (P.veiledRec ·))=true) (h26:c.veiledFits P fn.params.toList (fn.params.toList++s.plain.varTypes P++fn.resultTypes.toList)=true):joinedFacts P f fn s c=true:=by
 simp only[Bool.and_eq_true] at h14 h15 h16;obtain⟨⟨a1,a2⟩,a3⟩:=h14;obtain⟨b1,b2⟩:=h15;obtain⟨⟨⟨c1,c2⟩,c3⟩,c4⟩:=h16;simp only[joinedFacts,Bool.and_eq_true];exact⟨⟨⟨⟨⟨⟨⟨⟨⟨⟨⟨⟨⟨⟨⟨⟨⟨⟨⟨⟨⟨⟨⟨⟨⟨⟨⟨⟨⟨⟨⟨h1,h2⟩,h3⟩,h4⟩,h5⟩,h6⟩,h7⟩,h8⟩,h9⟩,h10⟩,h11⟩,h12⟩,h13⟩,a1⟩,a2⟩,a3⟩,b1⟩,b2⟩,c1⟩,c2⟩,c3⟩,c4⟩,h17⟩,h18⟩,h19⟩,h20⟩,h21⟩,h22⟩,h23⟩,h24⟩,h25⟩,h26⟩
def bR7:List Nat->Bool
 |a::b::r=>Nat.blt a b&&bR7 (b::r)
 |_=>true
theorem cV9: ∀{l:List Nat},bR7 l=true->l.Pairwise (· < ·)
 |[],_=>.nil
 |[a],_=>List.pairwise_singleton _ _
 |a::b::r,h=>by
  simp only[bR7,Bool.and_eq_true,Nat.blt_eq] at h;have ih:=cV9 h.2;refine List.pairwise_cons.2 ⟨fun c hc=>?_,ih⟩
  rcases List.mem_cons.1 hc with rfl|hc
  ·exact h.1
  ·exact Nat.lt_trans h.1 ((List.pairwise_cons.1 ih).1 c hc)
theorem da7{α:Type}(key:α->Nat){l:List α}(h:bR7 (l.map key)=true):l.Nodup:=by
 have:=cV9 h;rw[List.pairwise_map] at this;exact this.imp fun hlt e=>by rw[e] at hlt;exact Nat.lt_irrefl _ hlt
def dR4(bs:List Nat):MemPlace->Nat
 |.cell b off=>(bs.findIdx fun x=>Nat.beq x b)*65536+off
 |.map b=>(bs.findIdx fun x=>Nat.beq x b)*65536
theorem cF2{P:Program}{w:World}{l:List (String×DataW Unit)}(fuel:Nat)(key:MemPlace->Nat)(h:(DataW.laidRun P w fuel (l.map (·.1))).map (·.1)=some l)
  (hk:(DataW.laidRun P w fuel (l.map (·.1))).map (fun x=>bR7 (x.2.map key))=some true) (hr:(DataW.laidRun P w fuel (l.map (·.1))).map (fun x=>laidRowsB P w x.2)=some true):laidMet P l w:=by
 cases hx:DataW.laidRun P w fuel (l.map (·.1)) with
 |none=>simp[hx] at h
 |some x=>
  obtain⟨l',ps⟩:=x;simp only[hx,Option.map_some,Option.some.injEq] at h hr hk;subst h;exact laidMet_of_run fuel hx (decide_eq_true (da7 key hk)) hr
end
end Go.Proofs.YtnfcdbgiclnaeaaGreatDoor
