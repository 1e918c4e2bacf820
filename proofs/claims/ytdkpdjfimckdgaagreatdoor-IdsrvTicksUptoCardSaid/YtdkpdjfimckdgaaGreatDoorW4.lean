/- Trees of JSON, and what is done with them, as plain functions. -/
import Derived.Test.YtdkpdjfimckdgaaGreatDoorW3
import Derived.Lib.ValidAsc
import Derived.Lib.EndianMore
import Derived.Sort.Walk0
import Derived.Test.YtdkpdjfimckdgaaGreatDoorW1
import Derived.RangeFuncIn
import Derived.RangeFuncLeaves
set_option linter.unusedVariables false
set_option linter.unusedSimpArgs false
set_option maxRecDepth 10000
set_option maxHeartbeats 4000000
namespace Go.Proofs.YtdkpdjfimckdgaaGreatDoor
section
open Go V
theorem b53{m:Nat}{x:AV}(h:Low m x:=by(first|(first|exact .lit _|exact .str _|exact .any|exact ac8|exact ad1|exact .mp _ _ (by omega)|exact .msl _ _ _ _ (by omega)|exact ac1 (fun k e=>by cases e)|exact ab1 _|exact ae4|exact ae7|exact af2|exact af1 _|exact ab5|exact ab2)|(refine ae2 ?_;repeat(first|exact aa4|(refine o9 ?_ ?_;focus(first|exact .lit _|exact .str _|exact .any|exact ac8|exact ad1|exact .mp _ _ (by omega)|exact .msl _ _ _ _ (by omega)|exact ac1 (fun k e=>by cases e)|exact ab1 _|exact ae4|exact ae7|exact af2|exact af1 _|exact ab5|exact ab2))))|(refine am9 ?_;repeat(first|exact aa4|(refine o9 ?_ ?_;focus(first|exact .lit _|exact .str _|exact .any|exact ac8|exact ad1|exact .mp _ _ (by omega)|exact .msl _ _ _ _ (by omega)|exact ac1 (fun k e=>by cases e)|exact ab1 _|exact ae4|exact ae7|exact af2|exact af1 _|exact ab5|exact ab2)))))):Low m x:=h
theorem aY9{xs ys:List UInt8}{b:UInt8}{k:Nat}{c:Int}(hy:xs++[b]=ys)(hc:c=2^k)(hx:8*xs.length=k)(hk:k<=56):IntKind.u64.wrap ((BitVec.ofInt IntKind.u64.bits ((Lib.leNat xs:Nat):Int)|||BitVec.ofInt IntKind.u64.bits (IntKind.u64.wrap ((b.toNat:Int)*c))).toNat:Int)=((Lib.leNat ys:Nat):Int):=by
 subst hy;subst hc;have hb:=b.toNat_lt;have hlt:Lib.leNat xs < 2^k:=by
  have:=Lib.leNat_lt xs;rwa [show (256:Nat)=2^8 from rfl,<-Nat.pow_mul,hx] at this
 have hp:(2:Nat)^k<=2^56:=bo0 (by omega) hk
 have h1:b.toNat*2^k < 2^64:=by
  have:b.toNat*2^k<=255*2^56:=Nat.mul_le_mul (by omega) hp
  omega
 have h2:(b.toNat:Int)*2^k=((b.toNat*2^k:Nat):Int):=by simp
 rw[h2,bg2 h1,bC1 (by omega) h1,Lib.leNat_append,show (256:Nat)=2^8 from rfl,<-Nat.pow_mul,hx]
 congr 1
 have:=Nat.two_pow_add_eq_or_of_lt hlt b.toNat;rw[Nat.or_comm,Nat.mul_comm,<-this];simp[Lib.leNat]
 omega
theorem de2(b:UInt8):(b.toNat:Int)=((Lib.leNat [b]:Nat):Int):=by simp[Lib.leNat]
theorem d41{l:List UInt8}(h:8<=l.length):l.take 8=[l.getD 0 0,l.getD 1 0,l.getD 2 0,l.getD 3 0,l.getD 4 0,l.getD 5 0,l.getD 6 0,l.getD 7 0]:=by
 match l,h with
 |a0::a1::a2::a3::a4::a5::a6::a7::r,_=>simp
theorem ci5{o:Own}(l:List UInt8)(H:List AObj)(hl:8<=l.length):o7 Tryz.prog 314 [.sl o 1 (l.map o6)] H (fun x H'=>x=.int .u64 (Lib.leNat (l.take 8))/\H'=H):=by
 refine o8 [1000001,1000002] [.tmp 2] 71 Tryz.func314 ?_;repeat' first|refine l9 ?_|simp -dsimp -implicitDefEqProofs (disch:=omega) only[go_sem]|refine vcA ?_ ?_|omega
 refine o5 ⟨?_,rfl⟩;rw[de2 (l.getD 0 0),aY9 (xs:=[l.getD 0 0]) (ys:=[l.getD 0 0,l.getD 1 0]) (b:=l.getD 1 0) (k:=8) (c:=256) rfl (by decide) rfl (by decide),aY9 (xs:=[l.getD 0 0,l.getD 1 0]) (ys:=[l.getD 0 0,l.getD 1 0,l.getD 2 0]) (b:=l.getD 2 0) (k:=16) (c:=65536) rfl (by decide) rfl (by decide),aY9 (xs:=[l.getD 0 0,l.getD 1 0,l.getD 2 0]) (ys:=[l.getD 0 0,l.getD 1 0,l.getD 2 0,l.getD 3 0]) (b:=l.getD 3 0) (k:=24) (c:=16777216) rfl (by decide) rfl (by decide),aY9 (xs:=[l.getD 0 0,l.getD 1 0,l.getD 2 0,l.getD 3 0]) (ys:=[l.getD 0 0,l.getD 1 0,l.getD 2 0,l.getD 3 0,l.getD 4 0]) (b:=l.getD 4 0) (k:=32) (c:=4294967296) rfl (by decide) rfl (by decide),aY9 (xs:=[l.getD 0 0,l.getD 1 0,l.getD 2 0,l.getD 3 0,l.getD 4 0]) (ys:=[l.getD 0 0,l.getD 1 0,l.getD 2 0,l.getD 3 0,l.getD 4 0,l.getD 5 0]) (b:=l.getD 5 0) (k:=40) (c:=1099511627776) rfl (by decide) rfl (by decide),aY9 (xs:=[l.getD 0 0,l.getD 1 0,l.getD 2 0,l.getD 3 0,l.getD 4 0,l.getD 5 0]) (ys:=[l.getD 0 0,l.getD 1 0,l.getD 2 0,l.getD 3 0,l.getD 4 0,l.getD 5 0,l.getD 6 0]) (b:=l.getD 6 0) (k:=48) (c:=281474976710656) rfl (by decide) rfl (by decide),aY9 (xs:=[l.getD 0 0,l.getD 1 0,l.getD 2 0,l.getD 3 0,l.getD 4 0,l.getD 5 0,l.getD 6 0]) (ys:=[l.getD 0 0,l.getD 1 0,l.getD 2 0,l.getD 3 0,l.getD 4 0,l.getD 5 0,l.getD 6 0,l.getD 7 0]) (b:=l.getD 7 0) (k:=56) (c:=72057594037927936) rfl (by decide) rfl (by decide),d41 hl]
theorem and7{x:Nat}(h:x < 256):IntKind.u8.wrap ((BitVec.ofInt IntKind.u8.bits (x:Int)&&&BitVec.ofInt IntKind.u8.bits 7).toNat:Int)=((x%8:Nat):Int):=by
 show IntKind.u8.wrap ((BitVec.ofInt 8 (x:Int)&&&BitVec.ofInt 8 ((7:Nat):Int)).toNat:Int)=_
 rw[dj5 (by omega) (by decide),show (7:Nat)=2^3 - 1 from rfl,Nat.and_two_pow_sub_one_eq_mod,cy4 (by omega)]
theorem bb4(n:Nat):Lib.firstT n < 256:=by unfold Lib.firstT;(repeat' split)<;>omega
theorem cY9(n:Nat):IntKind.u8.wrap ((BitVec.ofInt IntKind.u8.bits ((Lib.firstT n:Nat):Int)&&&BitVec.ofInt IntKind.u8.bits 7).toNat:Int)=((Lib.firstT n%8:Nat):Int):=and7 (bb4 n)
theorem dh2(n:Nat):(Lib.firstT n/16 < 16)=True:=eq_true (by have:=bb4 n;omega)
theorem cW6(n:Nat):(((Lib.firstT n/16:Nat):Int) < 16)=True:=eq_true (by have:=bb4 n;omega)
theorem cx6(n:Nat):(aM8.drop (Lib.firstT n/16*2)).take 2=[.lit (.int .u8 (Lib.accLo (Lib.firstT n/16))),.lit (.int .u8 (Lib.accHi (Lib.firstT n/16)))]:=cb7 (by have:=bb4 n;omega)
theorem am2{m:List UInt8}(h0:0 < (m.length:Int))(h1:128<=((m.getD 0 0).toNat:Int))(h:(Lib.firstT (m.getD 0 0).toNat%8=2/\(m.length < 2\/(m.getD 1 0).toNat < Lib.accLo (Lib.firstT (m.getD 0 0).toNat/16)\/Lib.accHi (Lib.firstT (m.getD 0 0).toNat/16) < (m.getD 1 0).toNat))\/
  (Lib.firstT (m.getD 0 0).toNat%8=3/\(m.length < 3\/(m.getD 1 0).toNat < Lib.accLo (Lib.firstT (m.getD 0 0).toNat/16)\/Lib.accHi (Lib.firstT (m.getD 0 0).toNat/16) < (m.getD 1 0).toNat\/(m.getD 2 0).toNat < 128\/191 < (m.getD 2 0).toNat))\/
  (Lib.firstT (m.getD 0 0).toNat%8=4/\(m.length < 4\/(m.getD 1 0).toNat < Lib.accLo (Lib.firstT (m.getD 0 0).toNat/16)\/Lib.accHi (Lib.firstT (m.getD 0 0).toNat/16) < (m.getD 1 0).toNat\/(m.getD 2 0).toNat < 128\/191 < (m.getD 2 0).toNat\/(m.getD 3 0).toNat < 128\/191 < (m.getD 3 0).toNat))\/
  (Lib.firstT (m.getD 0 0).toNat%8≠2/\Lib.firstT (m.getD 0 0).toNat%8≠3/\Lib.firstT (m.getD 0 0).toNat%8≠4)):Lib.validD m=false:=by
 rw[Lib.validD_lead m (aD7.1 (by omega)) (by omega),Lib.checkN]
 rcases h with⟨h,h'⟩|⟨h,h'⟩|⟨h,h'⟩|⟨h,h',h''⟩
 ·rw[if_pos h,if_pos h']
 ·rw[if_neg (by omega),if_pos h,if_pos h']
 ·rw[if_neg (by omega),if_neg (by omega),if_pos h,if_pos h']
 ·rw[if_neg h,if_neg h',if_neg h'']
theorem bC8{m:List UInt8}{k:Nat}(hk:k=Lib.firstT (m.getD 0 0).toNat%8)(h0:k<=m.length)(h1:128<=((m.getD 0 0).toNat:Int))(h2:Lib.accLo (Lib.firstT (m.getD 0 0).toNat/16)<=(m.getD 1 0).toNat)(h3:(m.getD 1 0).toNat<=Lib.accHi (Lib.firstT (m.getD 0 0).toNat/16))
  (h:k=2\/(k=3/\128<=(m.getD 2 0).toNat/\(m.getD 2 0).toNat<=191)\/(k=4/\128<=(m.getD 2 0).toNat/\(m.getD 2 0).toNat<=191/\128<=(m.getD 3 0).toNat/\(m.getD 3 0).toNat<=191)):Lib.validD (m.drop k)=Lib.validD m:=by
 rw[Lib.validD_lead m (aD7.1 (by omega)) (by omega),Lib.checkN]
 rcases h with h|⟨h,h'⟩|⟨h,h'⟩
 ·rw[if_pos (by omega),if_neg (by omega),h]
 ·rw[if_neg (by omega),if_pos (by omega),if_neg (by omega),h]
 ·rw[if_neg (by omega),if_neg (by omega),if_pos (by omega),if_neg (by omega),h]
theorem skip{m:List UInt8}{n k:Nat}(h: ∀b∈(m.drop n).take k,b.toNat < 128){x:Bool}(hx:Lib.validD (m.drop n)=x):Lib.validD (m.drop (n+k))=x:=by
 rw[<-hx,Lib.validD_ascii k _ h,List.drop_drop]
theorem bU3{m:List UInt8}(h0:0 < (m.length:Int))(h:((m.getD 0 0).toNat:Int) < 128){x:Bool}(hx:Lib.validD m=x):Lib.validD (m.drop 1)=x:=by
 refine skip (n:=0) (k:=1) ?_ hx;match m,h0,h with
 |a::r,_,h=>
  intro b hb;simp at hb
  subst hb;simp at h
  omega
theorem lt8(w:List UInt8):Lib.leNat (w.take 8) < 2^64:=by
 have h1:=Lib.leNat_lt (w.take 8);have h2:(w.take 8).length<=8:=List.length_take_le ..;exact aB2 h1 (show 256^(w.take 8).length<=256^8 from bo0 (by omega) h2)
theorem bC3{x:Nat}(hx:x < 2^64)(h:IntKind.u64.wrap ((BitVec.ofInt IntKind.u64.bits (x:Int)&&&BitVec.ofInt IntKind.u64.bits 9259542123273814144).toNat:Int)=0):x&&&Lib.maskN 8=0:=by
 have e:(9259542123273814144:Int)=((9259542123273814144:Nat):Int):=rfl;rw[e,dZ3 hx (by decide)] at h
 rw[Lib.maskN8];omega
theorem bk0{w:List UInt8}(hw:8<=w.length)(h:Lib.leNat (w.take 8)&&&Lib.maskN 8=0): ∀b∈w.take 8,b.toNat < 128:=by
 refine(Lib.leNat_mask (w.take 8)).1 ?_;rwa [show (w.take 8).length=8 by rw[List.length_take];omega]
theorem dE7{w:List UInt8}(hw:8<=w.length)(h:IntKind.u64.wrap ((BitVec.ofInt IntKind.u64.bits ((Lib.leNat (w.take 8):Nat):Int)&&&BitVec.ofInt IntKind.u64.bits 9259542123273814144).toNat:Int)=0): ∀b∈w.take 8,b.toNat < 128:=
 bk0 hw (bC3 (lt8 w) h)
theorem ep0{w v:List UInt8}(hw:8<=w.length)(hv:8<=v.length)(h:IntKind.u64.wrap ((BitVec.ofInt IntKind.u64.bits (IntKind.u64.wrap ((BitVec.ofInt IntKind.u64.bits ((Lib.leNat (w.take 8):Nat):Int)|||BitVec.ofInt IntKind.u64.bits ((Lib.leNat (v.take 8):Nat):Int)).toNat:Int))&&&BitVec.ofInt IntKind.u64.bits 9259542123273814144).toNat:Int)=0):
  (∀b∈w.take 8,b.toNat < 128)/\(∀b∈v.take 8,b.toNat < 128):=by
 rw[bC1 (lt8 w) (lt8 v)] at h;have:=bC3 (bR3 (lt8 w) (lt8 v)) h;rw[Lib.or_mask] at this;exact⟨bk0 hw this.1,bk0 hv this.2⟩
theorem eo9{w v u t:List UInt8}(hw:8<=w.length)(hv:8<=v.length)(hu:8<=u.length)(ht:8<=t.length)(h:IntKind.u64.wrap ((BitVec.ofInt IntKind.u64.bits (IntKind.u64.wrap ((BitVec.ofInt IntKind.u64.bits (IntKind.u64.wrap ((BitVec.ofInt IntKind.u64.bits ((Lib.leNat (w.take 8):Nat):Int)|||BitVec.ofInt IntKind.u64.bits ((Lib.leNat (v.take 8):Nat):Int)).toNat:Int))|||BitVec.ofInt IntKind.u64.bits (IntKind.u64.wrap ((BitVec.ofInt IntKind.u64.bits ((Lib.leNat (u.take 8):Nat):Int)|||BitVec.ofInt IntKind.u64.bits ((Lib.leNat (t.take 8):Nat):Int)).toNat:Int))).toNat:Int))&&&BitVec.ofInt IntKind.u64.bits 9259542123273814144).toNat:Int)=0):
  (∀b∈w.take 8,b.toNat < 128)/\(∀b∈v.take 8,b.toNat < 128)/\(∀b∈u.take 8,b.toNat < 128)/\(∀b∈t.take 8,b.toNat < 128):=by
 have l1:=bR3 (lt8 w) (lt8 v);have l2:=bR3 (lt8 u) (lt8 t);rw[bC1 (lt8 w) (lt8 v),bC1 (lt8 u) (lt8 t),bC1 l1 l2] at h;have:=bC3 (bR3 l1 l2) h;rw[Lib.or_mask,Lib.or_mask,Lib.or_mask] at this;exact⟨bk0 hw this.1.1,bk0 hv this.1.2,bk0 hu this.2.1,bk0 ht this.2.2⟩
theorem dZ9{o:Own}(l:List UInt8)(H:List AObj)(hl:l.length<=100000):o7 Tryz.prog 232 [.sl o 1 (l.map o6)] H (fun x H'=>x=.bool (Lib.validD l)/\H'=H):=by
 refine o8 [1000008,1000010,1000018,1000022,1000026] [.tmp 2] 188 Tryz.func232 ?_;repeat' first|simp -dsimp -implicitDefEqProofs (disch:=(simp only[ll];omega)) only[go_sem]|refine vcA ?_ ?_|omega
 refine bG2 ab6 mixed [] (fun m:List UInt8=>m.length<=l.length/\Lib.validD m=Lib.validD l) (fun m=>[(0,.sl .sh 1 (m.map o6))]) (fun _=>H) (fun m=>m.length) (by kernel_rfl) ?_ l ⟨xq0 _,rfl⟩ aa3 rfl
 intro m ⟨hm,hv⟩;have hF:=bb4 (m.getD 0 0).toNat;repeat' first|refine l9 ?_|simp -dsimp -implicitDefEqProofs (disch:=first|omega|simp only[ll];omega) only[go_sem,cY9,dh2,cW6,cx6]|refine l7 (ci5 _ _ ?_) ?_|refine⟨_,ci5 _ _ ?_,?_⟩|refine vcA ?_ ?_|omega|refine aa8 fun _=>?_
 ·rename_i h1 h2 h3 h4 h5 h6
  have v1:=bU3 h1 h2 hv;have v9:=skip (dE7 (by rw[List.length_drop];omega) h4) v1
  have a2:=ep0 (w:=m.drop 9) (v:=m.drop 17) (by rw[List.length_drop];omega) (by rw[List.length_drop];omega) h6
  have v17:=skip a2.1 v9;have v25:=skip a2.2 v17;refine bG2 ab6 mixed [] (fun q:List UInt8=>q.length < m.length/\Lib.validD q=Lib.validD l) (fun q=>[(0,.sl .sh 1 (q.map o6))]) (fun _=>H) (fun q=>q.length) (by kernel_rfl) ?_ (m.drop 25) ⟨by rw[List.length_drop];omega,v25⟩ aa3 rfl
  intro q ⟨hq,hvq⟩;repeat' first|refine l9 ?_|simp -dsimp -implicitDefEqProofs (disch:=(simp only[ll];omega)) only[go_sem]|refine⟨_,ci5 _ _ ?_,?_⟩|refine vcA ?_ ?_|omega|refine aa8 fun _=>?_
  ·rename_i k1 k2
   have a4:=eo9 (w:=q) (v:=q.drop 8) (u:=q.drop 16) (t:=q.drop 24) (by omega) (by rw[List.length_drop];omega) (by rw[List.length_drop];omega) (by rw[List.length_drop];omega) k2
   refine again (q.drop 32) ?_ ?_ rfl aa3
   ·simp only[List.length_drop];omega
   ·exact⟨by simp only[List.length_drop];omega,skip (n:=24) a4.2.2.2 (skip (n:=16) a4.2.2.1 (skip (n:=8) a4.2.1 (skip (n:=0) a4.1 hvq)))⟩
  ·refine again (q) ?_ ?_ rfl aa3
   ·omega
   ·exact⟨by omega,hvq⟩
  ·refine again (q) ?_ ?_ rfl aa3
   ·omega
   ·exact⟨by omega,hvq⟩
 ·rename_i h1 h2 h3 h4 h5 h6
  have v1:=bU3 h1 h2 hv;refine again (m.drop 9) ?_ ?_ rfl aa3
  ·simp only[List.length_drop];omega
  ·exact⟨by simp only[List.length_drop];omega,skip (dE7 (by rw[List.length_drop];omega) h4) v1⟩
 ·rename_i h1 h2 h3 h4 h5
  have v1:=bU3 h1 h2 hv;refine again (m.drop 9) ?_ ?_ rfl aa3
  ·simp only[List.length_drop];omega
  ·exact⟨by simp only[List.length_drop];omega,skip (dE7 (by rw[List.length_drop];omega) h4) v1⟩
 ·rename_i h1 h2 h3 h4
  refine again (m.drop 1) ?_ ?_ rfl aa3
  ·simp only[List.length_drop];omega
  ·exact⟨by simp only[List.length_drop];omega,bU3 h1 h2 hv⟩
 ·rename_i h1 h2 h3
  refine again (m.drop 1) ?_ ?_ rfl aa3
  ·simp only[List.length_drop];omega
  ·exact⟨by simp only[List.length_drop];omega,bU3 h1 h2 hv⟩
 ·exact am7 (.lit _) ⟨ad5 (by rw[<-hv,am2 (by omega) (by omega) (by omega)]),rfl⟩
 ·exact am7 (.lit _) ⟨ad5 (by rw[<-hv,am2 (by omega) (by omega) (by omega)]),rfl⟩
 ·exact am7 (.lit _) ⟨ad5 (by rw[<-hv,am2 (by omega) (by omega) (by omega)]),rfl⟩
 ·refine aw0 (m.drop 2) ?_ ?_ (by repeat(first|exact ae1|(refine ad3 ?_ ?_;focus exact b53))) aa3
  ·simp only[List.length_drop];omega
  ·exact⟨by simp only[List.length_drop];omega,(bC8 (by omega) (by omega) (by omega) (by omega) (by omega) (by omega)).trans hv⟩
 ·exact am7 (.lit _) ⟨ad5 (by rw[<-hv,am2 (by omega) (by omega) (by omega)]),rfl⟩
 ·exact am7 (.lit _) ⟨ad5 (by rw[<-hv,am2 (by omega) (by omega) (by omega)]),rfl⟩
 ·exact am7 (.lit _) ⟨ad5 (by rw[<-hv,am2 (by omega) (by omega) (by omega)]),rfl⟩
 ·exact am7 (.lit _) ⟨ad5 (by rw[<-hv,am2 (by omega) (by omega) (by omega)]),rfl⟩
 ·exact am7 (.lit _) ⟨ad5 (by rw[<-hv,am2 (by omega) (by omega) (by omega)]),rfl⟩
 ·refine aw0 (m.drop 3) ?_ ?_ (by repeat(first|exact ae1|(refine ad3 ?_ ?_;focus exact b53))) aa3
  ·simp only[List.length_drop];omega
  ·exact⟨by simp only[List.length_drop];omega,(bC8 (by omega) (by omega) (by omega) (by omega) (by omega) (by omega)).trans hv⟩
 ·exact am7 (.lit _) ⟨ad5 (by rw[<-hv,am2 (by omega) (by omega) (by omega)]),rfl⟩
 ·exact am7 (.lit _) ⟨ad5 (by rw[<-hv,am2 (by omega) (by omega) (by omega)]),rfl⟩
 ·exact am7 (.lit _) ⟨ad5 (by rw[<-hv,am2 (by omega) (by omega) (by omega)]),rfl⟩
 ·exact am7 (.lit _) ⟨ad5 (by rw[<-hv,am2 (by omega) (by omega) (by omega)]),rfl⟩
 ·exact am7 (.lit _) ⟨ad5 (by rw[<-hv,am2 (by omega) (by omega) (by omega)]),rfl⟩
 ·exact am7 (.lit _) ⟨ad5 (by rw[<-hv,am2 (by omega) (by omega) (by omega)]),rfl⟩
 ·exact am7 (.lit _) ⟨ad5 (by rw[<-hv,am2 (by omega) (by omega) (by omega)]),rfl⟩
 ·refine aw0 (m.drop 4) ?_ ?_ (by repeat(first|exact ae1|(refine ad3 ?_ ?_;focus exact b53))) aa3
  ·simp only[List.length_drop];omega
  ·exact⟨by simp only[List.length_drop];omega,(bC8 (by omega) (by omega) (by omega) (by omega) (by omega) (by omega)).trans hv⟩
 ·exact am7 (.lit _) ⟨ad5 (by rw[<-hv,am2 (by omega) (by omega) (by omega)]),rfl⟩
 ·have:m=[]:=aB0 (by omega)
  subst this;exact o5 ⟨ad5 hv,rfl⟩
end
section
open Go V
inductive JV where
 |mk (kind num:Int) (text:List UInt8) (names:List (List UInt8)) (items:List JV)
instance:Inhabited JV:=⟨.mk 0 0 [] [] []⟩
def JV.kind:JV->Int|.mk k _ _ _ _=>k
def JV.num:JV->Int|.mk _ n _ _ _=>n
def JV.text:JV->List UInt8|.mk _ _ t _ _=>t
def JV.names:JV->List (List UInt8)|.mk _ _ _ ns _=>ns
def JV.items:JV->List JV|.mk _ _ _ _ is=>is
def aa9:JV:=.mk 0 0 [] [] []
mutual
def jAV:JV->AV
 |.mk k n t ns is=>.agg [.lit (.int .i64 k),.lit (.int .i64 n),.str t,.sl .sh 1 (ns.map .str),.sl .sh 5 (ct2 is)]
def ct2:List JV->List AV
 |[]=>[]
 |v::r=>jAV v::ct2 r
end
theorem cJ5: ∀l,ct2 l=l.map jAV
 |[]=>by unfold ct2;rfl
 |v::r=>by unfold ct2;rw[cJ5 r];rfl
theorem ct3(k n:Int)(t:List UInt8)(ns:List (List UInt8))(is:List JV):jAV (.mk k n t ns is)=.agg [.lit (.int .i64 k),.lit (.int .i64 n),.str t,.sl .sh 1 (ns.map .str),.sl .sh 5 (is.map jAV)]:=by
 rw[<-cJ5];unfold jAV;rfl
theorem az6(v:JV):jAV v=.agg [.lit (.int .i64 v.kind),.lit (.int .i64 v.num),.str v.text,.sl .sh 1 (v.names.map .str),.sl .sh 5 (v.items.map jAV)]:=by
 cases v;exact ct3 ..
theorem JV.induct{p:JV->Prop}(h: ∀k n t ns is,(∀x∈is,p x)->p (.mk k n t ns is)): ∀v,p v:=by
 intro v;refine JV.rec (motive_1:=p) (motive_2:=fun l=> ∀x∈l,p x) (fun k n t ns is ih=>h k n t ns is ih) (fun x hx=>by cases hx) (fun v r hv hr x hx=>?_) v
 rcases an8.1 hx with rfl|hx
 ·exact hv
 ·exact hr x hx
abbrev bytes:=List UInt8
def af8(a b:bytes):Bool:=Op.bytesLess a b
def srt:List bytes->Bool
 |a::b::r=>af8 a b&&srt (b::r)
 |_=>true
def pos(ns:List bytes)(s:bytes):Nat:=(ns.takeWhile (af8 · s)).length
def bp0(v:JV)(s:bytes)(x:JV):JV:=
 if v.names[pos v.names s]?=some s then .mk v.kind v.num v.text v.names (v.items.set (pos v.names s) x)
 else .mk v.kind v.num v.text (v.names.insertIdx (pos v.names s) s) (v.items.insertIdx (pos v.names s) x)
def aR3(v:JV)(s:bytes):Option JV:=
 if v.kind=6 then(match v.names.findIdx? (fun n=>n==s) with|some i=>v.items[i]?|none=>none) else none
def a95(v:JV):Bool:=decide (v.num=0)&&decide (v.text=[])
def bm1(v:JV):Bool:=decide (v.names=[])&&decide (v.items=[])
def aF5(v:JV):Bool:=decide (v.names.length=v.items.length)&&v.names.all Lib.validD&&srt v.names
def bi5(v:JV):Bool:=
 if v.kind=0\/v.kind=1\/v.kind=2 then a95 v&&bm1 v
 else if v.kind=3 then bm1 v&&decide (v.text=[])&&decide (-9007199254740991<=v.num/\v.num<=9007199254740991)
 else if v.kind=4 then bm1 v&&decide (v.num=0)&&Lib.validD v.text
 else false
def a15(v:JV):Bool:=
 if v.kind=5 then a95 v&&decide (v.names=[])
 else if v.kind=6 then a95 v&&aF5 v
 else false
def am0:Nat->JV->Bool
 |0,v=>bi5 v
 |n+1,v=>bi5 v||(a15 v&&v.items.all (am0 n))
def aE9:Nat->JV->Nat
 |0,_=>0
 |n+1,v=>if v.kind=5\/v.kind=6 then(v.items.map (aE9 n)).foldl max 0+1 else 0
def aN7(c:UInt8):Bool:=c==32||c==9||c==10||c==13
def isDigit(c:UInt8):Bool:=decide (48<=c.toNat/\c.toNat<=57)
def blanks(r:bytes):bytes:=r.dropWhile aN7
def ae8(w r:bytes):Option bytes:=if w.isPrefixOf r then some (r.drop w.length) else none
def peek(r:bytes):UInt8:=r.headD 0
def hexV(c:UInt8):Option Nat:=
 if 48<=c.toNat/\c.toNat<=57 then some (c.toNat - 48) else if 97<=c.toNat/\c.toNat<=102 then some (c.toNat - 87) else if 65<=c.toNat/\c.toNat<=70 then some (c.toNat - 55) else none
def be0(c:UInt8):Bool:=(hexV c).isSome
def az8(l:bytes):Nat:=l.foldl (fun n c=>n*16+(hexV c).getD 0) 0
def ah8(r:bytes):Int×Bool×bytes:=
 if r.length < 4 then(0,false,r) else if(r.take 4).all be0 then(az8 (r.take 4),true,r.drop 4) else(0,false,r)
def joined(h l:Int):Int×Bool:=if h < 55296\/56319 < h\/l < 56320\/57343 < l then(0,false) else(65536+(h - 55296)*1024+(l - 56320),true)
def bw7(r:Int):Bool:=decide (55296<=r/\r<=57343)
def aO6(h:Int)(r:bytes):Int×Bool×bytes:=
 match ae8 [92,117] r with
 |none=>(0,false,r)
 |some r2=>((joined h (ah8 r2).1).1,(ah8 r2).2.1&&(joined h (ah8 r2).1).2,(ah8 r2).2.2)
def an9:bytes:=[34,92,47,98,102,110,114,116]
def cv6:bytes:=[34,92,47,8,12,10,13,9]
def bx4(u:Int×Bool×bytes):bytes×Int×bytes:=if u.2.1 then(enc1 u.1,0,u.2.2) else([],2,u.2.2)
def au9(r:bytes):bytes×Int×bytes:=
 if an9.idxOf (peek r) < 8 then([cv6.getD (an9.idxOf (peek r)) 0],0,r.drop 1)
 else match ae8 [117] r with
  |none=>([],2,r)
  |some r2=>bx4 (if(ah8 r2).2.1&&bw7 (ah8 r2).1 then aO6 (ah8 r2).1 (ah8 r2).2.2 else ah8 r2)
def ak2:Nat->bytes->bytes->bytes×bytes×Int
 |0,r,_=>([],r,2)
 |n+1,r,out=>
  if(peek r).toNat < 32 then([],r,2)
  else if peek r=34 then(out,r.drop 1,0)
  else if peek r=92 then
   if(au9 (r.drop 1)).2.1≠0 then([],(au9 (r.drop 1)).2.2,(au9 (r.drop 1)).2.1) else ak2 n (au9 (r.drop 1)).2.2 (out++(au9 (r.drop 1)).1)
  else ak2 n (r.drop 1) (out++[peek r])
def ag0(r:bytes):bytes×bytes×Int:=
 match ae8 [34] r with
 |none=>([],r,2)
 |some r2=>ak2 (r2.length+1) r2 []
def ah5(l:bytes):Nat:=l.foldl (fun n c=>n*10+(c.toNat - 48)) 0
def ax0(r:bytes):Nat:=if peek r=48 then 1 else(r.takeWhile isDigit).length
def aC9(below:Bool)(r:bytes):Int×bytes×Int:=
 if ax0 r=0\/(below=true/\peek r=48) then(0,r,2)
 else if 9007199254740991 < ah5 (r.take (ax0 r)) then(0,r.drop (ax0 r),5)
 else(if below then -(ah5 (r.take (ax0 r)):Int) else ah5 (r.take (ax0 r)),r.drop (ax0 r),0)
def aR2(r:bytes):Int×bytes×Int:=
 match ae8 [45] r with
 |none=>aC9 false r
 |some r2=>aC9 true r2
def aw5(v:JV)(r:bytes):bytes×bytes×Int:=
 let q:=ag0 (blanks r)
 let e:=if(aR3 v q.1).isSome/\q.2.2=0 then 6 else q.2.2
 match ae8 [58] (blanks q.2.1) with
 |none=>(q.1,blanks q.2.1,if e=0 then 2 else e)
 |some r4=>(q.1,r4,e)
def ar0(k:JV->bytes->JV×bytes×Int)(e:UInt8)(v:JV)(r:bytes)(err:Int):JV×bytes×Int:=
 if err≠0 then(aa9,blanks r,err)
 else match ae8 [e] (blanks r) with
  |some r4=>(v,r4,0)
  |none=>match ae8 [44] (blanks r) with
   |some r4=>k v r4
   |none=>(aa9,blanks r,2)
def ef1(v x:JV):JV:=.mk v.kind v.num v.text v.names (v.items++[x])
def aL5(f:bytes->JV×bytes×Int)(e:UInt8):Nat->JV->bytes->JV×bytes×Int
 |0,_,r=>(aa9,r,2)
 |n+1,v,r=>
  if v.kind=6 then
   if(aw5 v r).2.2≠0 then(aa9,(aw5 v r).2.1,(aw5 v r).2.2)
   else ar0 (aL5 f e n) e (bp0 v (aw5 v r).1 (f (aw5 v r).2.1).1) (f (aw5 v r).2.1).2.1 (f (aw5 v r).2.1).2.2
  else ar0 (aL5 f e n) e (ef1 v (f r).1) (f r).2.1 (f r).2.2
def an3(f:bytes->JV×bytes×Int)(e:UInt8)(v:JV)(r:bytes):JV×bytes×Int:=
 match ae8 [e] (blanks r) with
 |some r2=>(v,r2,0)
 |none=>aL5 f e ((blanks r).length+1) v (blanks r)
def aK5:JV:=.mk 5 0 [] [] []
def as6:JV:=.mk 6 0 [] [] []
def aP5:bytes:=[110,117,108,108]
def aP4:bytes:=[116,114,117,101]
def aH7:bytes:=[102,97,108,115,101]
def aD2(r:bytes):Option (JV×bytes×Int):=
 match ae8 aP5 r with
 |some r2=>some (aa9,r2,0)
 |none=>match ae8 aP4 r with
  |some r2=>some (.mk 1 0 [] [] [],r2,0)
  |none=>match ae8 aH7 r with
   |some r2=>some (.mk 2 0 [] [] [],r2,0)
   |none=>
    if peek r=34 then some (.mk 4 0 (ag0 r).1 [] [],(ag0 r).2.1,(ag0 r).2.2)
    else if peek r=45\/isDigit (peek r)=true then some (.mk 3 (aR2 r).1 [] [] [],(aR2 r).2.1,(aR2 r).2.2)
    else if peek r≠91/\peek r≠123 then some (aa9,r,2)
    else none
def al9:Nat->bytes->JV×bytes×Int
 |0,r=>(aD2 (blanks r)).getD (aa9,blanks r,4)
 |n+1,r=>(aD2 (blanks r)).getD (if peek (blanks r)=91 then an3 (al9 n) 93 aK5 ((blanks r).drop 1) else an3 (al9 n) 125 as6 ((blanks r).drop 1))
def bB9(s:bytes):JV×Int:=
 if 8192 < s.length then(aa9,3)
 else if Lib.validD s=false then(aa9,2)
 else if(al9 12 s).2.2≠0 then(aa9,(al9 12 s).2.2)
 else if blanks (al9 12 s).2.1≠[] then(aa9,2)
 else((al9 12 s).1,0)
end
section
open Go V
theorem cs4(a b:bytes):af8 a b=decide (a < b):=Proofs.bytesLess_eq a b
theorem aO9{a b c:bytes}(h:af8 a b=true)(k:af8 b c=true):af8 a c=true:=by
 rw[cs4,decide_eq_true_eq] at*;exact List.lt_trans h k
theorem b89{a b:bytes}(h:af8 a b=false)(k:af8 b a=false):a=b:=by
 rw[cs4,decide_eq_false_iff_not] at*;exact List.le_antisymm k h
theorem bM5{a:bytes}{l:List bytes}(h:srt (a::l)=true):srt l=true:=by
 cases l with
 |nil=>rfl
 |cons b r=>simp only[srt,xq3] at h;exact h.2
theorem aX9: ∀{l:List bytes} {a:bytes},srt (a::l)=true-> ∀b∈l,af8 a b=true
 |[],a,_,b,hb=>by cases hb
 |c::r,a,h,b,hb=>by
  simp only[srt,xq3] at h;rcases an8.1 hb with rfl|hb
  ·exact h.1
  ·exact aO9 h.1 (aX9 h.2 b hb)
theorem bg9{a:bytes}{l:List bytes}(h: ∀b∈l,af8 a b=true)(k:srt l=true):srt (a::l)=true:=by
 cases l with
 |nil=>rfl
 |cons b r=>simp only[srt,xq3];exact⟨h b (aD9 ..),k⟩
theorem ck6{l:List bytes}(h:srt l=true):l.Pairwise (fun a b=>af8 a b=true):=by
 induction l with
 |nil=>exact .nil
 |cons a l ih=>exact .cons (aX9 h) (ih (bM5 h))
theorem cz8{l:List bytes}(h:l.Pairwise (fun a b=>af8 a b=true)):srt l=true:=by
 induction l with
 |nil=>rfl
 |cons a l ih=>
  rw[List.pairwise_cons] at h;exact bg9 h.1 (ih h.2)
theorem ck7{l:List bytes}(h:srt l=true){i j:Nat}{a b:bytes}(hij:i < j)(hi:l[i]?=some a)(hj:l[j]?=some b):af8 a b=true:=by
 have hjl:=aa0 hj;have hil:=aa0 hi;have:=List.pairwise_iff_getElem.1 (ck6 h) i j hil hjl hij;rw[xq1 hil] at hi;rw[xq1 hjl] at hj;cases hi
 cases hj
 exact this
theorem bi2(l:List bytes)(s:bytes):pos l s<=l.length:=(List.takeWhile_sublist _).length_le
theorem bv7(a:bytes)(l:List bytes)(s:bytes):pos (a::l) s=if af8 a s=true then pos l s+1 else 0:=by
 unfold pos;rw[ce0];split<;>rfl
theorem bB7: ∀{l:List bytes} {s:bytes} {i:Nat} {a:bytes},i < pos l s->l[i]?=some a->af8 a s=true
 |[],s,i,a,h,e=>by simp at e
 |b::l,s,i,a,h,e=>by
  rw[bv7] at h;split at h
  ·rename_i hb
   cases i with
   |zero=>simp at e;subst e;exact hb
   |succ i=>exact bB7 (l:=l) (i:=i) (by omega) (by simpa using e)
  ·omega
theorem cm7: ∀{l:List bytes} {s a:bytes},l[pos l s]?=some a->af8 a s=false
 |[],s,a,e=>by simp at e
 |b::l,s,a,e=>by
  rw[bv7] at e;split at e
  ·exact cm7 (l:=l) (by simpa using e)
  ·rename_i hb
   simp at e;subst e;simpa using hb
theorem cR7{l:List bytes}{s:bytes}{i:Nat}(hi:i<=l.length)(h1: ∀j a,j < i->l[j]?=some a->af8 a s=true)(h2: ∀a,l[i]?=some a->af8 a s=false):pos l s=i:=by
 rcases Nat.lt_trichotomy (pos l s) i with h|h|h
 ·have hil:pos l s < l.length:=by omega
  obtain⟨a,ha⟩: ∃a,l[pos l s]?=some a:=⟨_,xq1 hil⟩;have:=h1 _ a h ha;rw[cm7 ha] at this;cases this
 ·exact h
 ·have hp:=bi2 l s
  have hil:i < l.length:=by omega
  obtain⟨a,ha⟩: ∃a,l[i]?=some a:=⟨_,xq1 hil⟩;have h3:=bB7 h ha;rw[h2 a ha] at h3;cases h3
theorem bT9: ∀{l:List bytes},srt l=true-> ∀{s:bytes},l[pos l s]?≠some s->srt (l.insertIdx (pos l s) s)=true
 |[],_,s,_=>rfl
 |a::l,hl,s,hs=>by
  rw[bv7] at hs⊢;split
  ·rename_i h
   rw[if_pos h,List.getElem?_cons_succ] at hs;rw[bt8];refine bg9 (fun b hb=>?_) (bT9 (bM5 hl) hs)
   rcases(List.mem_insertIdx (bi2 l s)).1 hb with rfl|hb
   ·exact h
   ·exact aX9 hl b hb
  ·rename_i h
   rw[if_neg h,List.getElem?_cons_zero] at hs;rw[bz5];have h1:af8 s a=true:=by
    cases e:af8 s a with
    |true=>rfl
    |false=>exact absurd (congrArg some (b89 (by simpa using h) e)) hs
   exact bg9 (fun b hb=>by
    rcases an8.1 hb with rfl|hb
    ·exact h1
    ·exact aO9 h1 (aX9 hl b hb)) hl
end
section
open Go V
def ad4(t r:bytes)(e:Int):AObj:=.cells (.one 438) [.str t,.lit (.int .i64 ((t.length - r.length:Nat):Int)),.lit (.int .i64 e)]
theorem ay6{r t:bytes}(h:r <:+t):r.length<=t.length:=h.length_le
theorem bM3{r t:bytes}(h:r <:+t):t.drop (t.length - r.length)=r:=(List.suffix_iff_eq_drop.1 h).symm
theorem as2{r t:bytes}(h:r <:+t)(n:Nat):r.drop n <:+t:=(b21 n r).trans h
theorem ai0{r t:bytes}(h:r <:+t):blanks r <:+t:=(List.dropWhile_suffix _).trans h
theorem aq4{r t w r2:bytes}(h:r <:+t)(k:ae8 w r=some r2):r2 <:+t:=by
 unfold ae8 at k;split at k
 ·cases k;exact as2 h _
 ·cases k
theorem bh0{r w r2:bytes}(k:ae8 w r=some r2):r2.length+w.length=r.length:=by
 unfold ae8 at k;split at k
 ·rename_i hp
  cases k
  rw[aN3,decide_eq_true_eq] at hp;rw[List.length_drop];omega
 ·cases k
theorem b46{r t:bytes}(h:r <:+t)(hp:t.length - r.length < t.length):t.getD (t.length - r.length) 0=peek r:=by
 obtain⟨p,rfl⟩:=h;have:(p++r).length - r.length=p.length:=by simp
 rw[this,List.getD,xq5 (xq0 _),ao4];cases r<;>simp[peek]
theorem dq4{r:bytes}(h:r.length=0):peek r=0:=by
 rw[aB0 h];rfl
theorem cI3{t r':bytes}{e e':Int}{n:Int}(h:n=((t.length - r'.length:Nat):Int))(he:e=e'):AObj.cells (.one 438) [.str t,.lit (.int .i64 n),.lit (.int .i64 e)]=AObj.cells (.one 438) [.str t,.lit (.int .i64 ((t.length - r'.length:Nat):Int)),.lit (.int .i64 e')]:=by rw[h,he]
theorem ah1{H:List AObj}{k:Nat}{o:AObj}:H.length<=(H.set k o).length:=by simp
theorem at6{k:Nat}{t r:bytes}{e:Int}{H:List AObj}(hk:H[k]?=some (ad4 t r e))(hs:r <:+t)(hl:t.length<=10000):o7 Tryz.prog 407 [.mp k 0] H (fun x H'=>x=.lit (.int .u8 (peek r).toNat)/\H'=H):=by
 have h1:=ay6 hs;unfold ad4 at*;refine o8 [1000001,1000003] [.tmp 2] 22 Tryz.func407 ?_;repeat' first|simp -dsimp -implicitDefEqProofs (disch:=omega) only[go_sem,hk]|refine vcA ?_ ?_|omega|refine aa8 fun _=>?_
 ·exact o5 ⟨by rw[dq4 (r:=r) (by omega)];rfl,rfl⟩
 ·exact o5 ⟨by rw[b46 hs (by omega)],rfl⟩
theorem ac2{k:Nat}{t r w:bytes}{e:Int}{H:List AObj}(hk:H[k]?=some (ad4 t r e))(hs:r <:+t)(hl:t.length<=10000)(hw:w.length<=100):o7 Tryz.prog 408 [.mp k 0,.str w] H (fun x H'=>x=.bool (ae8 w r).isSome/\H'=H.set k (ad4 t ((ae8 w r).getD r) e)):=by
 have h1:=ay6 hs;have h2:=bM3 hs;unfold ad4 at*;refine o8 [1000001] [.tmp 4] 26 Tryz.func408 ?_;repeat' first|refine l9 ?_|simp -dsimp -implicitDefEqProofs (disch:=omega) only[go_sem,hk,h2]|refine⟨_,_,bL0 _ _ _ (by omega),?_⟩|refine vcA ?_ ?_|omega|refine aa8 fun _=>?_
 ·rename_i h
  refine o5 ⟨?_,?_⟩
  ·rw[ae8,h];rfl
  ·rw[ae8,h];exact(az2 hk).symm
 ·rename_i h
  refine aa5 _ (Le.refl _) ah1 ⟨?_,?_⟩
  ·rw[ae8,h];rfl
  ·have e:ae8 w r=some (r.drop w.length):=by rw[ae8,if_pos h]
   have:=bh0 e;rw[e,Option.getD_some];refine congrArg _ (cI3 ?_ rfl);omega
theorem ca5(c:UInt8):(0<=aw2 [32,9,10,13] c)=(aN7 c=true):=by
 unfold aw2 aN7;simp only[List.idxOf_cons,List.idxOf_nil,List.length_cons,List.length_nil];by_cases h1:c=32
 ·subst h1;decide
 by_cases h2:c=9
 ·subst h2;decide
 by_cases h3:c=10
 ·subst h3;decide
 by_cases h4:c=13
 ·subst h4;decide
 have b1:(32==c)=false:=beq_eq_false_iff_ne.2 (Ne.symm h1);have b2:(9==c)=false:=beq_eq_false_iff_ne.2 (Ne.symm h2);have b3:(10==c)=false:=beq_eq_false_iff_ne.2 (Ne.symm h3);have b4:(13==c)=false:=beq_eq_false_iff_ne.2 (Ne.symm h4);simp[b1,b2,b3,b4,h1,h2,h3,h4]
theorem dO3{r t:bytes}(h:r <:+t)(hp:t.length - r.length < t.length):r≠[]/\1<=r.length:=by
 cases r with
 |nil=>simp at hp
 |cons c r=>exact⟨by simp,by simp⟩
theorem cE5{r:bytes}(h:r≠[])(hb:aN7 (peek r)=true):blanks r=blanks (r.drop 1):=by
 cases r with
 |nil=>exact absurd rfl h
 |cons c r=>simp only[peek,bL9] at hb;simp[blanks,hb]
theorem cE4{r:bytes}(hb:aN7 (peek r)=false):blanks r=r:=by
 cases r with
 |nil=>rfl
 |cons c r=>simp only[peek,bL9] at hb;simp[blanks,hb]
theorem ad8{k:Nat}{t r:bytes}{e:Int}{H:List AObj}(hk:H[k]?=some (ad4 t r e))(hs:r <:+t)(hl:t.length<=10000):o7 Tryz.prog 347 [.mp k 0] H (fun x H'=>x=.tup []/\H'=H.set k (ad4 t (blanks r) e)):=by
 have hkl:=aa0 hk;refine o8 [1000000] [] 32 Tryz.func347 ?_;repeat' simp -dsimp -implicitDefEqProofs only[go_sem]
 refine aa7 ab6 mixed [1000000] [0] (fun r':bytes=>r' <:+t/\blanks r'=blanks r) (fun _=>[]) (fun r'=>H.set k (ad4 t r' e)) (fun r'=>r'.length) (by kernel_rfl) ?_ r ⟨hs,rfl⟩ aa3 (az2 hk).symm
 rintro r' ⟨hs',hb⟩
 have h1:=ay6 hs';unfold ad4 at*;repeat' first|refine l9 ?_|simp -dsimp -implicitDefEqProofs (disch:=first|assumption|omega) only[go_sem]|refine⟨_,_,al7 _ _ _,?_⟩|refine vcA ?_ ?_|omega|refine aa8 fun _=>?_
 ·rename_i h2 h3
  obtain⟨hne,h4⟩:=dO3 hs' (by omega)
  rw[b46 hs' (by omega),ca5] at h3
  refine again (r'.drop 1) ?_ ?_ ?_ aa3
  ·rw[List.length_drop];omega
  ·exact⟨as2 hs' 1,by rw[<-cE5 hne h3];exact hb⟩
  ·refine congrArg _ (cI3 ?_ rfl)
   rw[List.length_drop];omega
 ·rename_i h2 h3
  rw[b46 hs' (by omega)] at h3
  have h4:=ca5 (peek r');rw[<-hb,cE4 (by rw[Bool.eq_false_iff];intro hc;rw[hc] at h4;have:=h4.mpr rfl;omega)]
  exact aa5 _ (Le.refl _) ah1 ⟨rfl,rfl⟩
 ·rename_i h2
  have h4:r'=[]:=aB0 (by omega)
  subst h4;exact aa5 _ (Le.refl _) ah1 ⟨rfl,by rw[<-hb];rfl⟩
theorem aj9{k:Nat}{t r:bytes}{e e':Int}{H:List AObj}(hk:H[k]?=some (ad4 t r e)):o7 Tryz.prog 348 [.mp k 0,.lit (.int .i64 e')] H (fun x H'=>x=.tup []/\H'=H.set k (ad4 t r (if e=0 then e' else e))):=by
 unfold ad4 at*;refine o8 [] [] 13 Tryz.func348 ?_;repeat' first|refine l9 ?_|simp -dsimp -implicitDefEqProofs only[go_sem,hk]|refine vcA ?_ ?_|refine aa8 fun _=>?_
 ·rename_i h
  exact aa5 _ (Le.refl _) ah1 ⟨rfl,by rw[if_pos h]⟩
 ·rename_i h
  exact o5 ⟨rfl,by rw[if_neg h];exact(az2 hk).symm⟩
end
section
open Go V
theorem cE0(l:bytes)(c:UInt8):ah5 (l++[c])=ah5 l*10+(c.toNat - 48):=by simp[ah5]
theorem bp6{l:bytes}{i:Nat}(h:i < l.length):ah5 (l.take (i+1))=ah5 (l.take i)*10+((l.getD i 0).toNat - 48):=by rw[take_snoc h,cE0]
theorem cE1(l:bytes): ∀(i j:Nat),i<=j->j<=l.length->ah5 (l.take i)<=ah5 (l.take j):=by
 intro i j hij;induction j with
 |zero=>intro _;obtain rfl:i=0:=by omega
        exact xq0 _
 |succ j ih=>
  intro hj;rcases xq8 i (j+1) with h|h
  ·have:=ih (by omega) (by omega)
   rw[bp6 (by omega)]
   omega
  ·have:i=j+1:=by omega
   subst this;exact xq0 _
theorem aX4(a:Int):IntKind.u64.wrap a=a%18446744073709551616:=by
 simp[IntKind.wrap,IntKind.signed,IntKind.bits]
def bP0:AV:=.ifc 532 (.lit (.int .i64 1))
def bG5(n:Nat):AV:=if n < 18446744073709551616 then .tup [.lit (.int .u64 n),.lit .nilIface] else .tup [.lit (.int .u64 18446744073709551615),bP0]
theorem c26{l:bytes}{i:Nat}(h:i < l.length)(hb:18446744073709551616<=ah5 (l.take i)*10+((l.getD i 0).toNat - 48)):bG5 (ah5 l)=.tup [.lit (.int .u64 18446744073709551615),bP0]:=by
 have:=cE1 l (i+1) l.length (by omega) (xq0 _)
 rw[bp6 h,aL1] at this;unfold bG5;rw[if_neg (by omega)]
theorem bz1(l:bytes)(H:List AObj)(hne:l≠[])(hl:l.length<=10000)(hd: ∀i,i < l.length->48<=(l.getD i 0).toNat/\(l.getD i 0).toNat<=57):
  o7 Tryz.prog 452 [.str l,.lit (.int .i64 10),.lit (.int .i64 64)] H (fun x H'=>x=bG5 (ah5 l)/\H'=H):=by
 refine o8 [] [.tmp 6,.tmp 7] 172 Tryz.func452 ?_;repeat' first|refine l9 ?_|simp -dsimp -implicitDefEqProofs (disch:=omega) only[go_sem,hne,aX4]|refine vcA ?_ ?_
 refine aa7 ab6 mixed [] [1,8,9,10,11,99,100] (fun i:Nat=>i<=l.length/\ah5 (l.take i) < 18446744073709551616) (fun i=>[(101,.int .i64 i),(13,.int .u64 (ah5 (l.take i))),(12,.bool false)]) (fun _=>H) (fun i=>l.length - i) (by kernel_rfl) ?_ 0 ⟨by omega,Nat.lt_of_le_of_lt (xq0 0) (by omega)⟩ aa3 rfl
 rintro i ⟨hi,hv⟩
 have hdi:=hd i;have hb1:= @c26 l i;have hb2:= @bp6 l i;repeat' first|refine l9 ?_|simp -dsimp -implicitDefEqProofs (disch:=omega) only[go_sem,bq7,aX4]|refine vcA ?_ ?_|omega|refine aa8 fun _=>?_
 ·exact o5 ⟨(hb1 (by omega) (by omega)).symm,rfl⟩
 ·exact o5 ⟨(hb1 (by omega) (by omega)).symm,rfl⟩
 ·have hb3:=hb2 (by omega)
  refine again (i+1) ?_ ?_ rfl aa3
  ·omega
  ·exact⟨by omega,by omega⟩
 ·obtain rfl:i=l.length:=by omega
  rw[aL1] at hv;exact o5 ⟨by rw[bG5,if_pos hv],rfl⟩
def b57(n:Nat):AV:=if n < 9223372036854775808 then .tup [.lit (.int .i64 n),.lit .nilIface] else .tup [.lit (.int .i64 9223372036854775807),bP0]
theorem cy1(l:bytes)(H:List AObj)(hne:l≠[])(hl:l.length<=10000)(hd: ∀i,i < l.length->48<=(l.getD i 0).toNat/\(l.getD i 0).toNat<=57):
  o7 Tryz.prog 447 [.str l,.lit (.int .i64 10),.lit (.int .i64 64)] H (fun x H'=>x=b57 (ah5 l)/\H'=H):=by
 have h0:=hd 0;have hpos:0 < l.length:=aD7.2 hne;by_cases hv:ah5 l < 18446744073709551616
 ·have hu:bG5 (ah5 l)=.tup [.lit (.int .u64 (ah5 l)),.lit .nilIface]:=if_pos hv
  have hc:=bz1 l H hne hl hd;rw[hu] at hc;refine o8 [] [.tmp 6,.tmp 7] 73 Tryz.func447 ?_;repeat' first|refine l9 ?_|simp -dsimp -implicitDefEqProofs (disch:=omega) only[go_sem,hne,aX4]|refine l7 (hc) ?_|refine vcA ?_ ?_|omega|refine aa8 fun _=>?_
  ·exact o5 ⟨by rw[b57,if_neg (by omega)];rfl,rfl⟩
  ·exact o5 ⟨by rw[b57,if_pos (by omega)],rfl⟩
 ·have hu:bG5 (ah5 l)=.tup [.lit (.int .u64 18446744073709551615),.ifc 532 (.lit (.int .i64 1))]:=if_neg hv
  have hc:=bz1 l H hne hl hd;rw[hu] at hc;refine o8 [] [.tmp 6,.tmp 7] 73 Tryz.func447 ?_;repeat' first|refine l9 ?_|simp -dsimp -implicitDefEqProofs (disch:=omega) only[go_sem,hne,aX4]|refine l7 (hc) ?_|refine vcA ?_ ?_|omega|refine aa8 fun _=>?_
  ·exact o5 ⟨by rw[b57,if_neg (by omega)];rfl,rfl⟩
end
section
open Go V
def ax9(l:List UInt8):List AV:=(List.range 256).map fun i=>.lit (.bool (l.any fun c=>c.toNat==i))
theorem aS1(l:List UInt8):(ax9 l).length=256:=by simp[ax9]
theorem b78:List.replicate 256 (AV.lit (.bool false))=ax9 []:=by
 unfold ax9;simp only[List.any_nil];rw[List.map_const',List.length_range]
theorem c73(l:List UInt8)(c:UInt8):(ax9 l).getD c.toNat .any=.lit (.bool (l.any fun d=>d.toNat==c.toNat)):=by
 have:=c.toNat_lt;unfold ax9;rw[List.getD,xq7,aO4 (by omega)]
 rfl
theorem dk9(l:List UInt8)(c:UInt8):(l.any fun d=>d.toNat==c.toNat)=l.contains c:=by
 rw[bf7,cd9];simp only[beq_iff_eq,aW8];constructor
 ·rintro⟨d,hd,e⟩
  rwa [<-bo1.1 e]
 ·intro h
  exact⟨c,h,rfl⟩
theorem c71(l:List UInt8)(c:UInt8):(ax9 l).set c.toNat (.lit (.bool true))=ax9 (l++[c]):=by
 refine aW9 fun i=>?_
 rw[bu3];unfold ax9;simp only[xq7,List.length_map,List.length_range];have:=c.toNat_lt;by_cases hi:i < 256
 ·rw[aO4 hi]
  by_cases h:c.toNat=i
  ·subst h
   simp
   omega
  ·simp[h]
 ·rw[aw1 (by simpa using hi)]
  simp
  omega
theorem ca9{cs xs:List AV}(h:cs.length=xs.length):af4 cs 0 xs=xs:=by
 refine aW9 fun k=>?_
 rw[bj9];by_cases hk:k < xs.length
 ·rw[if_pos ⟨by omega,by omega,by omega⟩,aO5]
 ·rw[if_neg (by omega),aw1 (by omega),aw1 (by omega)]
theorem ck9(l:List UInt8):(ax9 l).all AV.scalar=true:=by
 rw[xq6];intro x hx;obtain⟨i,_,rfl⟩:=xq9.1 hx;rfl
theorem bU6(l:List UInt8):(ax9 l).take 256=ax9 l:=aF0 (by rw[aS1];omega)
theorem bU7(l m:List UInt8):af4 (ax9 l) 0 (ax9 m)=ax9 m:=ca9 (by rw[aS1,aS1])
theorem dd4{m:Nat}{l:List UInt8}:Low m (.agg (ax9 l)):=.agg _ fun x hx=>by
 obtain⟨i,_,rfl⟩:=xq9.1 hx;exact .lit _
theorem dd0(l:List UInt8)(H:List AObj)(hl:l.length<=1000)(ha: ∀i,i < l.length->(l.getD i 0).toNat < 128):o7 Tryz.prog 329 [.str l] H (fun x H'=>x=.tup [.agg (ax9 l),.bool true]/\H'=H):=by
 refine o8 [] [.cell 2 417,.tmp 3] 21 Tryz.func329 ?_;repeat' simp -dsimp -implicitDefEqProofs only[go_sem]
 refine aa7 ab6 mixed [] [0,2] (fun i:Nat=>i<=l.length) (fun i=>[(4,.int .i64 i)]) (fun i=>H++[.cells (.one 417) (ax9 (l.take i))]) (fun i=>l.length - i) (by kernel_rfl) ?_ 0 (by omega) aa3 (by rw[an6,<-b78])
 intro i hi;have hai:=ha i;repeat' first|refine l9 ?_|simp -dsimp -implicitDefEqProofs (disch:=omega) only[go_sem,aS1,ck9,bU6,bU7]|refine vcA ?_ ?_|omega|refine aa8 fun _=>?_
 ·refine again (i+1) ?_ ?_ ?_ aa3
  ·omega
  ·omega
  ·rw[c71,take_snoc (by omega)]
 ·obtain rfl:i=l.length:=by omega
  exact aa1 _ (Le.refl _) (ae2 (o9 dd4 (o9 (.lit _) aa4))) ⟨rfl,rfl⟩
theorem ck8(l:List UInt8)(c:UInt8){k:Nat}{H:List AObj}(hk:H[k]?=some (.cells (.one 417) (ax9 l))):o7 Tryz.prog 403 [.mp k 0,.lit (.int .u8 c.toNat)] H (fun x H'=>x=.bool (l.contains c)/\H'=H):=by
 refine o8 [] [.tmp 4] 10 Tryz.func403 ?_;repeat' simp -dsimp -implicitDefEqProofs only[go_sem,hk,aS1,c73,dk9]
 exact o5 ⟨rfl,rfl⟩
def aw3(p:UInt8->Bool)(l:List UInt8):List UInt8:=l.dropWhile p
def ap5(p:UInt8->Bool)(l:List UInt8):List UInt8:=(l.reverse.dropWhile p).reverse
theorem bS6{p:UInt8->Bool}{l:List UInt8}(h:0 < l.length)(hp:p (l.getD (l.length - 1) 0)=false):ap5 p l=l:=by
 obtain⟨m,c,rfl⟩: ∃m c,l=m++[c]:=⟨l.dropLast,l.getLast (List.ne_nil_of_length_pos h),(List.dropLast_concat_getLast _).symm⟩;unfold ap5;have:(m++[c]).getD ((m++[c]).length - 1) 0=c:=by simp[List.getD]
 rw[this] at hp;simp[hp]
theorem bS7{p:UInt8->Bool}{l:List UInt8}(h:0 < l.length)(hp:p (l.getD (l.length - 1) 0)=true):ap5 p l=ap5 p (l.take (l.length - 1)):=by
 obtain⟨m,c,rfl⟩: ∃m c,l=m++[c]:=⟨l.dropLast,l.getLast (List.ne_nil_of_length_pos h),(List.dropLast_concat_getLast _).symm⟩;unfold ap5;have:(m++[c]).getD ((m++[c]).length - 1) 0=c:=by simp[List.getD]
 rw[this] at hp;simp[hp]
theorem bS8{p:UInt8->Bool}{l:List UInt8}(h:0 < l.length)(hp:p (l.getD 0 0)=false):aw3 p l=l:=by
 cases l with
 |nil=>simp at h
 |cons c l=>simp at hp;simp[aw3,hp]
theorem bS9{p:UInt8->Bool}{l:List UInt8}(h:0 < l.length)(hp:p (l.getD 0 0)=true):aw3 p l=aw3 p (l.drop 1):=by
 cases l with
 |nil=>simp at h
 |cons c l=>simp at hp;simp[aw3,hp]
theorem cz0(l s:List UInt8){k:Nat}{H:List AObj}(hk:H[k]?=some (.cells (.one 417) (ax9 s)))(hl:l.length<=100000):o7 Tryz.prog 331 [.str l,.mp k 0] H (fun x H'=>x=.str (ap5 s.contains l)/\H'=H):=by
 refine o8 [] [.tmp 4] 22 Tryz.func331 ?_;repeat' simp -dsimp -implicitDefEqProofs only[go_sem]
 refine aa7 ab6 mixed [] [1,4] (fun r:List UInt8=>ap5 s.contains r=ap5 s.contains l/\r.length<=l.length) (fun r=>[(0,.str r)]) (fun _=>H) (fun r=>r.length) (by kernel_rfl) ?_ l ⟨rfl,xq0 _⟩ aa3 rfl
 rintro r ⟨hr,hrl⟩
 repeat' first|refine l9 ?_|simp -dsimp -implicitDefEqProofs (disch:=omega) only[go_sem]|refine l7 (ck8 s _ hk) ?_|refine vcA ?_ ?_|omega|refine aa8 fun _=>?_
 ·rename_i h1 h2
  rw[show ((r.length:Int) - 1).toNat=r.length - 1 by omega] at h2
  exact o5 ⟨by rw[<-hr,bS6 (by omega) h2],rfl⟩
 ·rename_i h1 h2
  rw[show ((r.length:Int) - 1).toNat=r.length - 1 by omega] at h2
  refine again (r.take (((r.length:Int) - 1).toNat - 0)) ?_ ?_ rfl aa3
  ·rw[List.length_take];omega
  ·rw[show ((r.length:Int) - 1).toNat - 0=r.length - 1 by omega,List.length_take]
   exact⟨by rw[<-hr,bS7 (l:=r) (by omega) h2],by omega⟩
 ·have:r=[]:=aB0 (by omega)
  subst this;exact o5 ⟨by rw[<-hr];rfl,rfl⟩
theorem cO9(l s:List UInt8){k:Nat}{H:List AObj}(hk:H[k]?=some (.cells (.one 417) (ax9 s)))(hl:l.length<=100000):o7 Tryz.prog 330 [.str l,.mp k 0] H (fun x H'=>x=.str (aw3 s.contains l)/\H'=H):=by
 refine o8 [] [.tmp 4] 16 Tryz.func330 ?_;repeat' simp -dsimp -implicitDefEqProofs only[go_sem]
 refine aa7 ab6 mixed [] [1,4] (fun r:List UInt8=>aw3 s.contains r=aw3 s.contains l/\r.length<=l.length) (fun r=>[(0,.str r)]) (fun _=>H) (fun r=>r.length) (by kernel_rfl) ?_ l ⟨rfl,xq0 _⟩ aa3 rfl
 rintro r ⟨hr,hrl⟩
 repeat' first|refine l9 ?_|simp -dsimp -implicitDefEqProofs (disch:=(simp only[ll];omega)) only[go_sem]|refine l7 (ck8 s _ hk) ?_|refine vcA ?_ ?_|omega|refine aa8 fun _=>?_
 ·rename_i h1 h2
  exact o5 ⟨by rw[<-hr,bS8 (by omega) h2],rfl⟩
 ·rename_i h1 h2
  refine again (r.drop 1) ?_ ?_ rfl aa3
  ·rw[List.length_drop];omega
  ·rw[List.length_drop]
   exact⟨by rw[<-hr,bS9 (l:=r) (by omega) h2],by omega⟩
 ·have:r=[]:=aB0 (by omega)
  subst this;exact o5 ⟨by rw[<-hr];rfl,rfl⟩
theorem cw0{p:UInt8->Bool}: ∀{l:List UInt8},l.dropWhile p=[]↔ ∀x∈l,p x=true
 |[]=>by simp
 |c::l=>by
  rw[List.dropWhile_cons];split
  ·rename_i h
   rw[cw0];simp[h]
  ·rename_i h
   simp
   intro h2;exact absurd h2 h
theorem bA4{p:UInt8->Bool}{l:List UInt8}:aw3 p (ap5 p l)=[]↔l.all p=true:=by
 constructor
 ·intro h
  unfold aw3 ap5 at h;rw[cw0] at h;rw[xq6];intro x hx;have h2: ∀m:List UInt8,(∀y∈(m.dropWhile p),p y=true)-> ∀y∈m,p y=true:=fun m hm y hy=>by
   rw[<-List.takeWhile_append_dropWhile (p:=p) (l:=m)] at hy;rcases aT2.1 hy with hy|hy
   ·exact xq6.1 (List.all_takeWhile) y hy
   ·exact hm y hy
  exact h2 l.reverse (fun y hy=>h y (bR0.2 hy)) x (bR0.2 hx)
 ·intro h
  rw[xq6] at h;unfold aw3 ap5;rw[cw0];intro x hx;exact h x (bR0.1 ((cd8 _).subset (bR0.1 hx)))
theorem b07(l s:List UInt8)(H:List AObj)(hl:l.length<=100000)(hs:1 < s.length)(hs2:s.length<=1000)(ha: ∀i,i < s.length->(s.getD i 0).toNat < 128):o7 Tryz.prog 246 [.str l,.str s] H (fun x H'=>x=.str (aw3 s.contains (ap5 s.contains l))/\H'=H):=by
 have h1:s≠[]:=by intro e;subst e;simp at hs
 have h2:(ap5 s.contains l).length<=100000:=by
  unfold ap5;have:=(cd8 s.contains (l:=l.reverse)).length_le;rw[cN0] at this⊢;omega
 refine o8 [1000004] [.tmp 4] 43 Tryz.func246 ?_;repeat' first|refine l9 ?_|simp -dsimp -implicitDefEqProofs only[go_sem,aS1,ck9,bU6,bU7,b78,h1]|refine l7 (dd0 s _ hs2 ha) ?_|refine l7 (cz0 l s aH4 hl) ?_|refine l7 (cO9 _ s aH4 h2) ?_|refine vcA ?_ ?_|omega|refine aa8 fun _=>?_
 ·rename_i h
  subst h;exact o5 ⟨rfl,rfl⟩
 ·exact aa1 _ (Le.refl _) (.str _) ⟨rfl,rfl⟩
end
section
open Go V
theorem cM4{z:AV}{n:Nat}:(List.range n).map (fun i=>[z].getD (i%1) .any)=List.replicate n z:=bz2
theorem cD7(l:List UInt8):aa2 (l.map o6)=l.map o6:=au8 o6 (fun _=>rfl) l
theorem aO0(l:List bytes):aa2 (l.map .str)=l.map .str:=by
 induction l with
 |nil=>rfl
 |cons a l ih=>rw[List.map_cons,ag6,ih];rfl
theorem cY3{z:AV}{n:Nat}{l:List UInt8}(h:n=l.length):af4 (List.replicate n z) 0 (l.map o6)=l.map o6:=ca9 (by simp[h])
attribute [go_sem] cM4 List.length_range cD7 aO0 cY3
theorem bm8{H₀ M:List AObj}{R:AV->List AObj->Prop}{v:List UInt8}(hr:R (.str v) H₀):Done H₀ R (.str v) (H₀++M):=aa1 _ (Le.refl _) (.str _) hr
theorem cZ9(l:bytes)(H:List AObj)(hl:l.length<=100000):o7 Tryz.prog 460 [.str l] H (fun x H'=>x=.str l/\H'=H):=by
 by_cases hne:l=[]
 ·subst hne
  refine o8 [] [.tmp 2] 18 Tryz.func460 ?_;repeat' first|refine l9 ?_|simp -dsimp -implicitDefEqProofs only[go_sem]
  exact o5 ⟨rfl,rfl⟩
 ·have hpos:=aD7.2 hne
  refine o8 [] [.tmp 2] 18 Tryz.func460 ?_;repeat' first|refine l9 ?_|simp -dsimp -implicitDefEqProofs (disch:=omega) only[go_sem,hne]|refine vcA ?_ ?_|omega|refine aa8 fun _=>?_
  exact bm8 ⟨rfl,rfl⟩
theorem d92{t:TypeId}{x y:AV}(h:Le x y):Le (.ifc t x) (.ifc t y):=fun _ _ _ _ r=>by
 cases r with
 |ifc _ _ v hr=>exact .ifc t y v (h _ _ _ _ hr)
theorem cl8(fn l:bytes)(H:List AObj)(hl:l.length<=100000):o7 Tryz.prog 454 [.str fn,.str l] H (fun x H'=>x=.ip (.agg [.str fn,.str l,.err])/\H'=H):=by
 refine o8 [1000001,1000001003002] [.tmp 4] 11 Tryz.func454 ?_;repeat' first|refine l9 ?_|simp -dsimp -implicitDefEqProofs only[go_sem]|refine⟨_,_,cZ9 _ _ hl,?_⟩|fail
 all_goals exact o5 ⟨rfl,rfl⟩
def dc3:AV:=.ifc 533 .any
theorem c38(fn l:bytes)(b z:Int)(H:List AObj)(hl:l.length<=100000):o7 Tryz.prog 448 [.str fn,.str l,.lit (.int .i64 b),.lit (.int .i64 z),.ifc 532 (.lit (.int .i64 1))] H (fun x H'=>x=dc3/\H'=H):=by
 refine o8 [] [.tmp 10] 43 Tryz.func448 ?_;repeat' first|refine l9 ?_|simp -dsimp -implicitDefEqProofs only[go_sem]|refine l7 (cl8 _ _ _ hl) ?_|fail
 all_goals exact bI5 _ (d92 (Le.any _)) ⟨rfl,rfl⟩
def ct8(n:Nat):AV:=if n < 9223372036854775808 then .tup [.lit (.int .i64 n),.lit .nilIface] else .tup [.lit (.int .i64 9223372036854775807),dc3]
theorem bk5(l:bytes)(H:List AObj)(hne:l≠[])(hl:l.length<=10000)(hd: ∀i,i < l.length->48<=(l.getD i 0).toNat/\(l.getD i 0).toNat<=57):
  o7 Tryz.prog 439 [.str l,.lit (.int .i64 10),.lit (.int .i64 64)] H (fun x H'=>x=ct8 (ah5 l)/\H'=H):=by
 have hc:=cy1 l H hne hl hd;by_cases hv:ah5 l < 9223372036854775808
 ·have hu:b57 (ah5 l)=.tup [.lit (.int .i64 (ah5 l)),.lit .nilIface]:=if_pos hv
  rw[hu] at hc;refine o8 [] [.tmp 6,.tmp 7] 25 Tryz.func439 ?_;repeat' first|refine l9 ?_|simp -dsimp -implicitDefEqProofs only[go_sem]|refine l7 (hc) ?_|fail
  exact o5 ⟨by rw[ct8,if_pos hv],rfl⟩
 ·have hu:b57 (ah5 l)=.tup [.lit (.int .i64 9223372036854775807),.ifc 532 (.lit (.int .i64 1))]:=if_neg hv
  rw[hu] at hc;refine o8 [] [.tmp 6,.tmp 7] 25 Tryz.func439 ?_;repeat' first|refine l9 ?_|simp -dsimp -implicitDefEqProofs only[go_sem]|refine l7 (hc) ?_|refine l7 (c38 _ _ _ _ _ (by omega)) ?_|fail
  all_goals exact o5 ⟨by rw[ct8,if_neg hv],rfl⟩
end
section
open Go V
theorem ba9{v:JV}:(jAV v).flat=[.lit (.int .i64 v.kind),.lit (.int .i64 v.num),.str v.text,.sl .sh 1 (v.names.map .str),.sl .sh 5 (v.items.map jAV)]:=by rw[az6];rfl
theorem cf8{v:JV}:(jAV v).okv=true:=by rw[az6];rfl
theorem eb0{v:JV}:AV.agg [.lit (.int .i64 v.kind),.lit (.int .i64 v.num),.str v.text,.sl .sh 1 (v.names.map .str),.sl .sh 5 (v.items.map jAV)]=jAV v:=(az6 v).symm
theorem ea5{l:List JV}{i:Nat}(h:i < l.length):(l.map jAV).getD i .any=jAV (l.getD i aa9):=by
 rw[List.getD,xq7,xq1 h,List.getD,xq1 h];rfl
theorem ea3{l:List bytes}{i:Nat}(h:i < l.length):(l.map AV.str).getD i .any=.str (l.getD i []):=by
 rw[List.getD,xq7,xq1 h,List.getD,xq1 h];rfl
attribute [go_sem] ba9 cf8 eb0 ea5 ea3
theorem ag9{α:Type}{l:List α}{i:Nat}{d:α}(h:i < l.length):l.getD i d∈l:=by
 rw[List.getD,xq1 h];exact aT3 h
theorem ab1{m:Nat}: ∀v:JV,Low m (jAV v):=by
 refine JV.induct fun k n t ns is ih=>?_
 rw[ct3];refine am9 (o9 (.lit _) (o9 (.lit _) (o9 (.str _) (o9 ?_ (o9 ?_ aa4)))))
 ·refine .sl _ _ _ (fun k e=>by cases e) fun x hx=>?_
  rw[aO0] at hx;obtain⟨s,_,rfl⟩:=xq9.1 hx;exact .str _
 ·refine .sl _ _ _ (fun k e=>by cases e) fun x hx=>?_
  unfold aa2 at hx;obtain⟨y,hy,hx⟩:=bb8.1 hx;obtain⟨v,hv,rfl⟩:=xq9.1 hy;have:=ih v hv;rw[az6] at this;cases this with
  |agg _ h=>
   rw[ba9] at hx;exact h x hx
theorem dT5{a b c d e a' b' c' d' e':AV}(h1:Le a a')(h2:Le b b')(h3:Le c c')(h4:Le d d')(h5:Le e e'):Le (.agg [a,b,c,d,e]) (.agg [a',b',c',d',e']):=
 ak3 (.cons h1 (.cons h2 (.cons h3 (.cons h4 (.cons h5 .nil)))))
theorem bc8{k n:Int}{t:bytes}{ns:List bytes}{is:List JV}{x y:AV}(h1:Le x (.sl .sh 1 (ns.map .str)))(h2:Le y (.sl .sh 5 (is.map jAV))):Le (.agg [.lit (.int .i64 k),.lit (.int .i64 n),.str t,x,y]) (jAV (.mk k n t ns is)):=by
 rw[ct3];exact dT5 (Le.refl _) (Le.refl _) (Le.refl _) h1 h2
theorem cV0{k n:Int}{t:bytes}{o o':Own}{s s':Nat}:Le (.agg [.lit (.int .i64 k),.lit (.int .i64 n),.str t,.sl o s [],.sl o' s' []]) (jAV (.mk k n t [] [])):=bc8 ab7 ab7
def aV4(n:List UInt8):Nat:=1+n.length
mutual
def am5:JV->Nat
 |.mk _ _ t ns is=>1+t.length+(ns.map aV4).sum+aF1 is
def aF1:List JV->Nat
 |[]=>0
 |v::r=>am5 v+aF1 r
end
theorem aL9(v:JV):am5 v=1+v.text.length+(v.names.map aV4).sum+aF1 v.items:=by cases v;rw[am5];rfl
theorem bl0: ∀l,aF1 l=(l.map am5).sum
 |[]=>by rw[aF1];rfl
 |v::r=>by rw[aF1,bl0 r];simp
theorem bA9(v:JV):1<=am5 v:=by rw[aL9];omega
theorem b36{α:Type}{f:α->Nat}: ∀{l:List α} {x:α},x∈l->f x<=(l.map f).sum
 |a::l,x,h=>by
  rw[List.map_cons,bQ9];rcases an8.1 h with rfl|h
  ·omega
  ·have:=b36 (f:=f) h;omega
theorem b37{α:Type}{f:α->Nat}(h: ∀x,1<=f x): ∀(l:List α),l.length<=(l.map f).sum
 |[]=>by simp
 |a::l=>by
  have:=b37 h l;have:=h a;rw[List.map_cons,bQ9,List.length_cons];omega
theorem size_text(v:JV):v.text.length < am5 v:=by rw[aL9];omega
theorem b77{v:JV}{n:bytes}(h:n∈v.names):n.length < am5 v:=by
 have:=b36 (f:=aV4) h;rw[aL9 v];unfold aV4 at*;omega
theorem bA8{v x:JV}(h:x∈v.items):am5 x < am5 v:=by
 have:=b36 (f:=am5) h;rw[aL9 v,bl0];omega
theorem bU4(v:JV):v.names.length < am5 v:=by
 have:=b37 (f:=aV4) (fun n=>by unfold aV4;omega) v.names
 rw[aL9 v];omega
theorem bd5(v:JV):v.items.length < am5 v:=by
 have:=b37 bA9 v.items;rw[aL9 v,bl0];omega
def aZ0(ns:List bytes)(s:bytes):Int:=match ns.findIdx? (fun n=>n==s) with|some i=>(i:Nat)|none=> -1
theorem bf3{α:Type}{p:α->Bool}{l:List α}{i:Nat}{d:α}(hi:i < l.length)(h1: ∀j,j < i->p (l.getD j d)=false)(h2:p (l.getD i d)=true):l.findIdx? p=some i:=by
 rw[cd7];refine⟨hi,?_,fun j hj=>?_⟩
 ·rw[List.getD,xq1 hi] at h2
  exact h2
 ·have:=h1 j hj
  rw[List.getD,xq1 (by omega)] at this
  simpa using this
theorem bf2{α:Type}{p:α->Bool}{l:List α}{d:α}(h1: ∀j,j < l.length->p (l.getD j d)=false):l.findIdx? p=none:=by
 rw[cd6];intro x hx;obtain⟨j,hj,rfl⟩:=cM9.1 hx;have:=h1 j hj;rwa [List.getD,xq1 hj] at this
theorem upto_succ{p:Nat->Prop}{i:Nat}(h: ∀j,j < i->p j)(k:p i): ∀j,j < i+1->p j:=fun j hj=>by
 rcases xq8 j i with h1|h1
 ·exact h j h1
 ·obtain rfl:j=i:=by omega
  exact k
theorem cL8{o:Own}(ns:List bytes)(s:bytes)(H:List AObj)(hl:ns.length<=100000):o7 Tryz.prog 233 [.sl o 1 (ns.map .str),.str s] H (fun x H'=>x=.int .i64 (aZ0 ns s)/\H'=H):=by
 refine o8 [] [.tmp 4] 19 Tryz.func233 ?_;repeat' simp -dsimp -implicitDefEqProofs only[go_sem]
 refine aa7 ab6 mixed [] [0,1,7] (fun i:Nat=>i<=ns.length/\ ∀j,j < i->(ns.getD j []==s)=false) (fun i=>[(8,.int .i64 i)]) (fun _=>H) (fun i=>ns.length - i) (by kernel_rfl) ?_ 0 ⟨by omega,fun j hj=>by omega⟩ aa3 rfl
 rintro i ⟨hi,hp⟩
 repeat' first|refine l9 ?_|simp -dsimp -implicitDefEqProofs (disch:=omega) only[go_sem]|refine vcA ?_ ?_|omega|refine aa8 fun _=>?_
 ·rename_i h1 h2
  refine o5 ⟨int_eq ?_,rfl⟩;rw[aZ0,bf3 (d:=[]) (by omega) hp (by rw[<-h2];simp)]
 ·rename_i h1 h2
  refine again (i+1) ?_ ?_ rfl aa3
  ·omega
  ·exact⟨by omega,upto_succ hp (by rw[beq_eq_false_iff_ne];exact fun e=>h2 e.symm)⟩
 ·obtain rfl:i=ns.length:=by omega
  refine o5 ⟨int_eq ?_,rfl⟩;rw[aZ0,bf2 (d:=[]) hp]
def cu0(l:List JV)(p:JV->Bool):Int:=match l.findIdx? p with|some i=>(i:Nat)|none=> -1
theorem cF8{o:Own}(g:FuncId)(cs:List AV)(p:JV->Bool)(l:List JV)(H:List AObj)(hl:l.length<=100000)(hp: ∀x∈l,o7 Tryz.prog g (jAV x::cs) H (fun y H'=>y=.bool (p x)/\H'=H)):
  o7 Tryz.prog 381 [.sl o 5 (l.map jAV),.fn (.func g) [] cs] H (fun x H'=>x=.int .i64 (cu0 l p)/\H'=H):=by
 refine o8 [] [.tmp 4] 19 Tryz.func381 ?_;repeat' simp -dsimp -implicitDefEqProofs only[go_sem]
 refine aa7 ab6 mixed [] [0,1,7] (fun i:Nat=>i<=l.length/\ ∀j,j < i->p (l.getD j aa9)=false) (fun i=>[(8,.int .i64 i)]) (fun _=>H) (fun i=>l.length - i) (by kernel_rfl) ?_ 0 ⟨by omega,fun j hj=>by omega⟩ aa3 rfl
 rintro i ⟨hi,hq⟩
 repeat' first|refine l9 ?_|simp -dsimp -implicitDefEqProofs (disch:=omega) only[go_sem]|refine l7 (hp _ (ag9 (by omega))) ?_|refine vcA ?_ ?_|omega|refine aa8 fun _=>?_
 ·rename_i h1 h2
  refine o5 ⟨int_eq ?_,rfl⟩;rw[cu0,bf3 (d:=aa9) (by omega) hq h2]
 ·rename_i h1 h2
  refine again (i+1) ?_ ?_ rfl aa3
  ·omega
  ·exact⟨by omega,upto_succ hq h2⟩
 ·obtain rfl:i=l.length:=by omega
  refine o5 ⟨int_eq ?_,rfl⟩;rw[cu0,bf2 (d:=aa9) hq]
theorem dU5(l:List JV)(p:JV->Bool):(0<=cu0 l p)=(l.any p=true):=by
 unfold cu0;cases h:l.findIdx? p with
 |some i=>
  have h2:=cd7.1 h;obtain⟨hi,hp,_⟩:=h2;exact propext ⟨fun _=>cd9.2 ⟨l[i],aT3 hi,hp⟩,fun _=>Int.natCast_nonneg _⟩
 |none=>
  have h2:=cd6.1 h;have:l.any p=false:=by
   rw[cO1];intro x hx;simp[h2 x hx]
  rw[this];simp
theorem b70{o:Own}(g:FuncId)(cs:List AV)(p:JV->Bool)(l:List JV)(H:List AObj)(hl:l.length<=100000)(hp: ∀x∈l,o7 Tryz.prog g (jAV x::cs) H (fun y H'=>y=.bool (p x)/\H'=H)):
  o7 Tryz.prog 312 [.sl o 5 (l.map jAV),.fn (.func g) [] cs] H (fun x H'=>x=.bool (l.any p)/\H'=H):=by
 refine o8 [] [.tmp 4] 9 Tryz.func312 ?_;repeat' first|simp -dsimp -implicitDefEqProofs only[go_sem]|refine l7 (cF8 g cs p l H hl hp) ?_|fail
 refine o5 ⟨ad5 ?_,rfl⟩;rw[bf7,decide_eq_true_eq,dU5]
theorem cZ6{o:Own}(ns:List bytes)(s:bytes)(H:List AObj)(hl:ns.length<=100000):o7 Tryz.prog 201 [.sl o 1 (ns.map .str),.str s] H (fun x H'=>x=.bool (decide (0<=aZ0 ns s))/\H'=H):=by
 refine o8 [] [.tmp 4] 9 Tryz.func201 ?_;repeat' first|simp -dsimp -implicitDefEqProofs only[go_sem]|refine l7 (cL8 ns s H hl) ?_|fail
 exact o5 ⟨rfl,rfl⟩
theorem ae4{m:Nat}{l:List JV}:Low m (.sl .sh 5 (l.map jAV)):=.sl _ _ _ (fun k e=>by cases e) fun x hx=>by
 unfold aa2 at hx;obtain⟨y,hy,hx⟩:=bb8.1 hx;obtain⟨v,hv,rfl⟩:=xq9.1 hy;have:=ab1 (m:=m) v;rw[az6] at this;cases this with
 |agg _ h=>
  rw[ba9] at hx;exact h x hx
theorem ae7{m s:Nat}{l:List bytes}:Low m (.sl .sh s (l.map .str)):=.sl _ _ _ (fun k e=>by cases e) fun x hx=>by
 rw[aO0] at hx;obtain⟨s,_,rfl⟩:=xq9.1 hx;exact .str _
theorem af2{m:Nat}{f:Fn}:Low m (.fn f [] []):=.fn _ _ _ (fun x hx=>by cases hx) (fun x hx=>by cases hx)
end
section
open Go V
def aI0(p:List UInt8×JV):AV:=.agg (.str p.1::(jAV p.2).flat)
theorem dg9{p:List UInt8×JV}:(aI0 p).flat=[.str p.1,.lit (.int .i64 p.2.kind),.lit (.int .i64 p.2.num),.str p.2.text,.sl .sh 1 (p.2.names.map .str),.sl .sh 5 (p.2.items.map jAV)]:=by unfold aI0;rw[ba9];rfl
theorem ea9{p:List UInt8×JV}:AV.agg [.str p.1,.lit (.int .i64 p.2.kind),.lit (.int .i64 p.2.num),.str p.2.text,.sl .sh 1 (p.2.names.map .str),.sl .sh 5 (p.2.items.map jAV)]=aI0 p:=by unfold aI0;rw[ba9]
theorem eb7{a:AV}{l:List AV}:(a::l).drop 1=l:=rfl
theorem ei5{p:List UInt8×JV}:(aI0 p).okv=true:=by unfold aI0;rw[ba9];rfl
theorem ea4{l:List (List UInt8×JV)}{i:Nat}(h:i < l.length):(l.map aI0).getD i .any=aI0 (l.getD i ([],aa9)):=by
 rw[List.getD,xq7,xq1 h,List.getD,xq1 h];rfl
attribute [go_sem] dg9 ei5 ea4 ea9 eb7
theorem ei9{m:Nat}(p:List UInt8×JV): ∀z∈(aI0 p).flat,Low m z:=fun z hz=>by
 have:=ab1 (m:=m) p.2;rw[az6] at this;cases this with
 |agg _ h=>
  rw[dg9] at hz;rcases an8.1 hz with rfl|hz
  ·exact .str _
  ·exact h z hz
theorem bH9{m s:Nat}{l:List (List UInt8×JV)}:Low m (.sl .sh s (l.map aI0)):=.sl _ _ _ (fun k e=>by cases e) fun x hx=>by
 unfold aa2 at hx;obtain⟨y,hy,hx⟩:=bb8.1 hx;obtain⟨p,hp,rfl⟩:=xq9.1 hy;exact ei9 p x hx
end
section
open V
structure Sha(w:Nat) where
 count:Nat
 k:Nat->BitVec w
 b0:Nat×Nat×Nat
 b1:Nat×Nat×Nat
 s0:Nat×Nat×Nat
 s1:Nat×Nat×Nat
def bigT{w:Nat}(x:BitVec w)(l:Nat×Nat×Nat):BitVec w:=x.rotateRight l.1^^^x.rotateRight l.2.1^^^x.rotateRight l.2.2
def ba1{w:Nat}(x:BitVec w)(l:Nat×Nat×Nat):BitVec w:=x.rotateRight l.1^^^x.rotateRight l.2.1^^^(x>>>l.2.2)
namespace Sha
variable {w:Nat}(S:Sha w)
def next(m:List (BitVec w)):BitVec w:=m.getD (m.length - 16) 0+ba1 (m.getD (m.length - 15) 0) S.s0+m.getD (m.length - 7) 0+ba1 (m.getD (m.length - 2) 0) S.s1
def sched(block:List (BitVec w)):Nat->List (BitVec w)
 |0=>block
 |n+1=>let m:=sched block n;m++[S.next m]
structure St(w:Nat) where
 a:BitVec w
 b:BitVec w
 c:BitVec w
 d:BitVec w
 e:BitVec w
 f:BitVec w
 g:BitVec w
 h:BitVec w
def St.list(s:St w):List (BitVec w):=[s.a,s.b,s.c,s.d,s.e,s.f,s.g,s.h]
def chT(e f g:BitVec w):BitVec w:=(e&&&f)^^^(~~~ e&&&g)
def en8(a b c:BitVec w):BitVec w:=(a&&&b)^^^(a&&&c)^^^(b&&&c)
def t1(i:Nat)(x:BitVec w)(s:St w):BitVec w:=s.h+bigT s.e S.b1+chT s.e s.f s.g+S.k i+x
def t2(s:St w):BitVec w:=bigT s.a S.b0+en8 s.a s.b s.c
def step(i:Nat)(x:BitVec w)(s:St w):St w:=⟨S.t1 i x s+S.t2 s,s.a,s.b,s.c,s.d+S.t1 i x s,s.e,s.f,s.g⟩
def steps(m:List (BitVec w))(s:St w):Nat->St w
 |0=>s
 |n+1=>S.step n (m.getD n 0) (steps m s n)
def add(s t:St w):St w:=⟨s.a+t.a,s.b+t.b,s.c+t.c,s.d+t.d,s.e+t.e,s.f+t.f,s.g+t.g,s.h+t.h⟩
def take(s:St w)(block:List (BitVec w)):St w:=add s (S.steps (S.sched block (S.count - 16)) s S.count)
theorem sched_len(block:List (BitVec w))(n:Nat):(S.sched block n).length=block.length+n:=by
 induction n with
 |zero=>rfl
 |succ n ih=>simp only[sched,List.length_append,ih,List.length_cons,List.length_nil];omega
end Sha
def bg3(w:Nat)(l:List UInt8):BitVec w:=l.foldl (fun x b=>x<<<8|||BitVec.ofNat w b.toNat) 0
theorem cy6(w:Nat)(l:List UInt8)(b:UInt8):bg3 w (l++[b])=(bg3 w l<<<8|||BitVec.ofNat w b.toNat):=by
 simp[bg3]
def wordsOf(w:Nat)(l:List UInt8):List (BitVec w):=(List.range 16).map fun j=>bg3 w ((l.drop (j*(w/8))).take (w/8))
theorem bJ4(w:Nat)(l:List UInt8):(wordsOf w l).length=16:=by simp[wordsOf]
theorem cy5(w:Nat):wordsOf w []=List.replicate 16 0:=by
 simp[wordsOf,bg3]
 rfl
theorem ci4{w:Nat}{l:List UInt8}{j:Nat}(h:j < 16):(wordsOf w l).getD j 0=bg3 w ((l.drop (j*(w/8))).take (w/8)):=by
 simp[wordsOf,List.getD,xq7,aO4 h]
theorem ci2{w:Nat}{l:List UInt8}{b:UInt8}(hw:0 < w/8)(h:l.length < 16*(w/8)):
  wordsOf w (l++[b])=(wordsOf w l).set (l.length/(w/8)) ((wordsOf w l).getD (l.length/(w/8)) 0<<<8|||BitVec.ofNat w b.toNat):=by
 have hlt:l.length/(w/8) < 16:=(Nat.div_lt_iff_lt_mul hw).2 h;rw[ci4 hlt];apply aW9
 intro j;have hg: ∀m:List UInt8,(wordsOf w m)[j]?=if j < 16 then some (bg3 w ((m.drop (j*(w/8))).take (w/8))) else none:=fun m=>by
  unfold wordsOf;rw[xq7];by_cases h1:j < 16
  ·rw[aO4 h1,if_pos h1]
   rfl
  ·rw[aw1 (by simp;omega),if_neg h1]
   rfl
 rw[bu3,hg,hg,bJ4];by_cases h1:j < 16
 ·rw[if_pos h1,if_pos h1]
  have hm:=Nat.div_add_mod l.length (w/8);have hml:=Nat.mod_lt l.length hw;rw[Nat.mul_comm] at hm;generalize w/8=z at*;generalize hq:l.length/z=q at*;generalize l.length%z=r at*;split
  ·rename_i e
   subst e;rw[<-cy6];congr 2
   rw[bG1 (by omega)]
   rw[aF0 (by rw[List.length_append,List.length_drop];simp only[List.length_cons,List.length_nil];omega),aF0 (by rw[List.length_drop];omega)]
  ·rename_i e
   congr 2
   rcases xq8 j q with hjq|hjq
   ·have h3:j*z+z<=q*z:=by
     have:=aG2 z (show j+1<=q by omega)
     rw[aA1,bt7] at this;exact this
    rw[bG1 (by omega),bL4 (by rw[List.length_drop];omega)]
   ·have h3:q*z+z<=j*z:=by
     have:=aG2 z (show q+1<=j by omega)
     rw[aA1,bt7] at this;exact this
    rw[bc5 (by rw[List.length_append];simp only[List.length_cons,List.length_nil];omega),bc5 (by omega)]
 ·rw[if_neg h1,if_neg h1,if_neg (by omega)]
def bytesOf(size:Nat)(x:Nat):List UInt8:=(List.range size).map fun i=>UInt8.ofNat (x/256^(size - 1 - i))
theorem bK7(size x:Nat):(bytesOf size x).length=size:=by simp[bytesOf]
def at7(w n:Nat):Nat:=(n+1+w/4+2*w - 1)/(2*w)*(2*w)
def padded(w:Nat)(b:List UInt8):List UInt8:=b++128::(List.replicate (at7 w b.length - 8 - (b.length+1)) 0++bytesOf 8 (8*b.length))
def chunks(n:Nat)(l:List UInt8):List (List UInt8):=(List.range (l.length/n)).map fun i=>(l.drop (i*n)).take n
def sumOf{w:Nat}(S:Sha w)(h:Sha.St w)(b:List UInt8):List UInt8:=
 (((chunks (2*w) (padded w b)).foldl (fun s c=>S.take s (wordsOf w c)) h).list).flatMap fun x=>bytesOf (w/8) x.toNat
theorem c52{w:Nat}(S:Sha w)(h:Sha.St w)(b:List UInt8):(sumOf S h b).length=8*(w/8):=by
 unfold sumOf Sha.St.list;simp[bK7]
 omega
def kOf(w i:Nat):BitVec w:=BitVec.ofNat w (bh3.getD i 0/2^(64 - w))
def hOf(w i:Nat):BitVec w:=BitVec.ofNat w (a02.getD i 0/2^(64 - w))
def bJ0(w:Nat):Sha.St w:=⟨hOf w 0,hOf w 1,hOf w 2,hOf w 3,hOf w 4,hOf w 5,hOf w 6,hOf w 7⟩
def ad7:Sha 32:=⟨64,kOf 32,(2,13,22),(6,11,25),(7,18,3),(17,19,10)⟩
def sum256(b:List UInt8):List UInt8:=sumOf ad7 (bJ0 32) b
theorem bv1(b:List UInt8):(sum256 b).length=32:=c52 _ _ _
end
section
open Go V
abbrev wAV(K:IntKind){w:Nat}(x:BitVec w):AV:=.lit (.int K (x.toNat:Int))
theorem aT6{w:Nat}(x:BitVec w):BitVec.ofInt w (x.toNat:Int)=x:=by simp
theorem bG7(x:BitVec 32):IntKind.u32.wrap (x.toNat:Int)=(x.toNat:Int):=ci1 x.isLt
theorem dL4(x y:BitVec 32):IntKind.u32.wrap ((x.toNat:Int)+(y.toNat:Int))=((x+y).toNat:Int):=by
 rw[BitVec.toNat_add];simp[IntKind.wrap,IntKind.signed,IntKind.bits]
theorem u32_xor(x y:BitVec 32):IntKind.u32.wrap (((BitVec.ofInt IntKind.u32.bits (x.toNat:Int)^^^BitVec.ofInt IntKind.u32.bits (y.toNat:Int)).toNat:Nat):Int)=((x^^^y).toNat:Int):=by
 show IntKind.u32.wrap (((BitVec.ofInt 32 (x.toNat:Int)^^^BitVec.ofInt 32 (y.toNat:Int)).toNat:Nat):Int)=_
 rw[aT6,aT6,bG7]
theorem u32_and(x y:BitVec 32):IntKind.u32.wrap (((BitVec.ofInt IntKind.u32.bits (x.toNat:Int)&&&BitVec.ofInt IntKind.u32.bits (y.toNat:Int)).toNat:Nat):Int)=((x&&&y).toNat:Int):=by
 show IntKind.u32.wrap (((BitVec.ofInt 32 (x.toNat:Int)&&&BitVec.ofInt 32 (y.toNat:Int)).toNat:Nat):Int)=_
 rw[aT6,aT6,bG7]
theorem u32_or(x y:BitVec 32):IntKind.u32.wrap (((BitVec.ofInt IntKind.u32.bits (x.toNat:Int)|||BitVec.ofInt IntKind.u32.bits (y.toNat:Int)).toNat:Nat):Int)=((x|||y).toNat:Int):=by
 show IntKind.u32.wrap (((BitVec.ofInt 32 (x.toNat:Int)|||BitVec.ofInt 32 (y.toNat:Int)).toNat:Nat):Int)=_
 rw[aT6,aT6,bG7]
theorem dL3(x:BitVec 32):IntKind.u32.wrap (((BitVec.ofInt IntKind.u32.bits (if IntKind.u32.signed=true then -1 else IntKind.u32.max)^^^BitVec.ofInt IntKind.u32.bits (x.toNat:Int)).toNat:Nat):Int)=((~~~ x).toNat:Int):=by
 show IntKind.u32.wrap (((BitVec.allOnes 32^^^BitVec.ofInt 32 (x.toNat:Int)).toNat:Nat):Int)=_
 rw[aT6,BitVec.xor_comm,BitVec.xor_allOnes,bG7]
attribute [go_sem] bG7 dL4 u32_xor u32_and u32_or dL3
theorem d30(x:BitVec 32):x.toNat/8=(x>>>3).toNat:=by simp[cM8]
theorem dK9(x:BitVec 32):x.toNat/1024=(x>>>10).toNat:=by simp[cM8]
theorem bs6{K:IntKind}{w:Nat}{m:List (BitVec w)}{i:Nat}(h:i < m.length):(m.map (wAV K)).getD i .any=wAV K (m.getD i 0):=by
 simp[List.getD,xq1 h]
theorem en7{K:IntKind}{w:Nat}(a:List (BitVec w))(b:BitVec w):a.map (wAV K)++[wAV K b]=(a++[b]).map (wAV K):=by simp
theorem d63{K:IntKind}{w:Nat}{m:List (BitVec w)}:ones (m.map (wAV K))=True:=eq_true (bi3 fun _=>rfl)
theorem el6{K:IntKind}{w:Nat}{m:List (BitVec w)}:(m.map (wAV K)).all AV.scalar=true:=xq6.2 (bi3 fun _=>rfl)
theorem d52{x:BitVec 32}{n:Nat}(h1:1<=n)(h2:n<=31):IntKind.u32.wrap (((BitVec.ofInt IntKind.u32.bits (IntKind.u32.wrap ((x.toNat:Int)*2^(32 - n)))|||BitVec.ofInt IntKind.u32.bits (((x.toNat/2^n:Nat)):Int)).toNat:Nat):Int)=((x.rotateRight n).toNat:Int):=by
 show IntKind.u32.wrap (((BitVec.ofInt 32 (IntKind.u32.wrap ((x.toNat:Int)*2^(32 - n)))|||BitVec.ofInt 32 (((x.toNat/2^n:Nat)):Int)).toNat:Nat):Int)=_
 have e1:BitVec.ofInt 32 (IntKind.u32.wrap ((x.toNat:Int)*2^(32 - n)))=x<<<(32 - n):=by
  have:IntKind.u32.wrap ((x.toNat:Int)*2^(32 - n))=((x<<<(32 - n)).toNat:Int):=by
   rw[BitVec.toNat_shiftLeft,cd5];simp[IntKind.wrap,IntKind.signed,IntKind.bits]
  rw[this,aT6]
 have e2:BitVec.ofInt 32 (((x.toNat/2^n:Nat)):Int)=x>>>n:=by
  have:x.toNat/2^n=(x>>>n).toNat:=by simp[cM8]
  rw[this,aT6]
 rw[e1,e2,bG7];congr 2
 rw[BitVec.rotateRight_def,bu0 (by omega),BitVec.or_comm]
theorem dl0{a:Int}(h:0<=a/\a < 18446744073709551616):((BitVec.ofInt IntKind.u64.bits a&&&BitVec.ofInt IntKind.u64.bits 31).toNat:Int)=a%32:=cb4 (k:=64) (m:=5) h.1 h.2 (by omega)
theorem dc8{α:Type}{l:List α}{i:Nat}{d:α}(h:i < l.length):l.getD i d∈l:=by
 rw[List.getD,xq1 h];exact aT3 h
theorem em1(x:BitVec 32)(n:Nat)(H:List AObj)(h1:1<=n)(h2:n<=31):o7 Tryz.prog 376 [wAV .u32 x,.lit (.int .i64 (0 - (n:Int)))] H (fun y H'=>y=wAV .u32 (x.rotateRight n)/\H'=H):=by
 have hr:=d52 (x:=x) h1 h2;have w1:IntKind.u64.wrap (0 - (n:Int))=18446744073709551616 - n:=by
  simp[IntKind.wrap,IntKind.signed,IntKind.bits]<;>omega
 have w2:((BitVec.ofInt IntKind.u64.bits (18446744073709551616 - (n:Int))&&&BitVec.ofInt IntKind.u64.bits 31).toNat:Int)=32 - (n:Int):=by
  rw[dl0 (by omega)]
  omega
 have m1:min (32 - (n:Int)).toNat 32=32 - n:=by omega
 have m2:min (32 - (32 - (n:Int))).toNat 32=n:=by omega
 have m3:(x.toNat:Int).fdiv (2^n)=((x.toNat/2^n:Nat):Int):=by
  rw[bj2 (Int.le_of_lt (Int.pow_pos (by decide)))]
  have:((2:Int)^n)=((2^n:Nat):Int):=by simp
  rw[this,Int.toNat_natCast]
 refine o8 [] [.tmp 4] 17 Tryz.func376 ?_;repeat' first|simp -dsimp -implicitDefEqProofs (disch:=omega) only[go_sem,w1,w2,m1,m2,m3,hr]|refine vcA ?_ ?_|omega
 exact o5 ⟨rfl,rfl⟩
theorem bd3{o:Own}(x:BitVec 32)(ns:List Nat)(H:List AObj)(hn: ∀n∈ns,1<=n/\n<=31)(hl:ns.length<=100):o7 Tryz.prog 303 [wAV .u32 x,.sl o 1 (ns.map fun n:Nat=>.lit (.int .i64 (n:Int)))] H (fun y H'=>y=wAV .u32 (ns.foldl (fun a n=>a^^^x.rotateRight n) 0)/\H'=H):=by
 refine o8 [] [.tmp 4] 22 Tryz.func303 ?_;repeat' simp -dsimp -implicitDefEqProofs only[go_sem]
 refine aa7 ab6 mixed [] [0,4,8,9] (fun i:Nat=>i<=ns.length) (fun i=>[(5,wAV .u32 ((ns.take i).foldl (fun a n=>a^^^x.rotateRight n) 0)),(10,.lit (.int .i64 i))]) (fun _=>H) (fun i=>ns.length - i) (by kernel_rfl) ?_ 0 (by omega) aa3 rfl
 intro i hi;by_cases hil:i < ns.length
 ·have hx:(ns.map fun n:Nat=>AV.lit (.int .i64 (n:Int))).getD i .any=.lit (.int .i64 ((ns.getD i 0:Nat):Int)):=by simp[List.getD,xq1 hil]
  have hm:=hn _ (dc8 (d:=0) hil);have hs:(ns.take (i+1)).foldl (fun a n=>a^^^x.rotateRight n) 0=(ns.take i).foldl (fun a n=>a^^^x.rotateRight n) 0^^^x.rotateRight (ns.getD i 0):=by
   rw[bn9 hil,bQ8,List.getD,xq1 hil];rfl
  generalize ns.getD i 0=n at*;repeat' first|refine l9 ?_|simp -dsimp -implicitDefEqProofs (disch:=omega) only[go_sem,hx]|refine l7 (em1 x n _ hm.1 hm.2) ?_|refine vcA ?_ ?_|omega|refine aa8 fun _=>?_
  rw[<-hs];refine again (i+1) ?_ ?_ rfl aa3
  ·omega
  ·omega
 ·obtain rfl:i=ns.length:=by omega
  rw[aL1];repeat' first|refine l9 ?_|simp -dsimp -implicitDefEqProofs only[go_sem]|refine vcA ?_ ?_|omega|refine aa8 fun _=>?_
  exact o5 ⟨rfl,rfl⟩
end
section
open Go V
theorem d46(i:Nat)(H:List AObj)(hi:i < 80):o7 Tryz.prog 301 [.lit (.int .i64 (i:Int))] H (fun y H'=>y=wAV .u32 (kOf 32 i)/\H'=H):=by
 have hk: ∀j,j < 80->IntKind.u32.wrap ((bh3.getD j 0/4294967296:Nat):Int)=((kOf 32 j).toNat:Int):=by
  intro j hj;have h1:kOf 32 j=BitVec.ofNat 32 (bh3.getD j 0/4294967296):=rfl;rw[h1,bz7];simp[IntKind.wrap,IntKind.signed,IntKind.bits]
 have h:=hk i hi;refine o8 [] [.tmp 2] 8 Tryz.func301 ?_;repeat' first|simp -dsimp -implicitDefEqProofs (disch:=first|assumption|omega) only[go_sem,h]|refine vcA ?_ ?_|omega
 exact o5 ⟨rfl,rfl⟩
theorem cw9{x:BitVec 32}(a b c:Nat):[a,b,c].foldl (fun o n=>o^^^x.rotateRight n) (0:BitVec 32)=bigT x (a,b,c):=by
 simp[bigT]
theorem bU1{x:BitVec 32}(a b c:Nat):[a,b].foldl (fun o n=>o^^^x.rotateRight n) (0:BitVec 32)^^^(x>>>c)=ba1 x (a,b,c):=by
 simp[ba1]
theorem dN1(x:BitVec 32)(H:List AObj):o7 Tryz.prog 302 [wAV .u32 x] H (fun y H'=>y=wAV .u32 (bigT x (2,13,22))/\H'=H):=by
 have ht:=fun H=>bd3 (o:=.full) x [2,13,22] H (by decide) (by decide)
 rw[cw9] at ht;refine o8 [] [.tmp 2] 6 Tryz.func302 ?_;repeat' first|simp -dsimp -implicitDefEqProofs only[go_sem]|refine l7 (ht _) ?_|fail
 exact o5 ⟨rfl,rfl⟩
theorem dN0(x:BitVec 32)(H:List AObj):o7 Tryz.prog 304 [wAV .u32 x] H (fun y H'=>y=wAV .u32 (bigT x (6,11,25))/\H'=H):=by
 have ht:=fun H=>bd3 (o:=.full) x [6,11,25] H (by decide) (by decide)
 rw[cw9] at ht;refine o8 [] [.tmp 2] 6 Tryz.func304 ?_;repeat' first|simp -dsimp -implicitDefEqProofs only[go_sem]|refine l7 (ht _) ?_|fail
 exact o5 ⟨rfl,rfl⟩
theorem dM9(x:BitVec 32)(H:List AObj):o7 Tryz.prog 305 [wAV .u32 x] H (fun y H'=>y=wAV .u32 (ba1 x (7,18,3))/\H'=H):=by
 have ht:=fun H=>bd3 (o:=.full) x [7,18] H (by decide) (by decide)
 have hs:=bU1 (x:=x) 7 18 3;refine o8 [] [.tmp 2] 9 Tryz.func305 ?_;repeat' first|simp -dsimp -implicitDefEqProofs (disch:=omega) only[go_sem,d30,hs]|refine l7 (ht _) ?_|fail
 exact o5 ⟨rfl,rfl⟩
theorem dM8(x:BitVec 32)(H:List AObj):o7 Tryz.prog 306 [wAV .u32 x] H (fun y H'=>y=wAV .u32 (ba1 x (17,19,10))/\H'=H):=by
 have ht:=fun H=>bd3 (o:=.full) x [17,19] H (by decide) (by decide)
 have hs:=bU1 (x:=x) 17 19 10;refine o8 [] [.tmp 2] 9 Tryz.func306 ?_;repeat' first|simp -dsimp -implicitDefEqProofs (disch:=omega) only[go_sem,dK9,hs]|refine l7 (ht _) ?_|fail
 exact o5 ⟨rfl,rfl⟩
theorem dH4{xs:List AV}{H:List AObj}(hu: ∀y∈xs,y.flat.length=1/\y.okv=true)(hne:xs≠[])(hl:xs.length<=100000):o7 Tryz.prog 420 [.sl .sh 1 xs] H (fun y H'=>y=.sl (.tok H.length) 1 xs/\H'=H++[.grow 1 xs.length none]):=by
 have hpos:=aD7.2 hne;refine o8 [] [.tmp 2] 8 Tryz.func420 ?_;repeat' first|refine l9 ?_|simp -dsimp -implicitDefEqProofs (disch:=omega) only[go_sem,hne]|refine vcA ?_ ?_|omega
 exact aq9 ⟨rfl,rfl⟩
theorem ba2{H:List AObj}{k:Nat}{x:AObj}(h:H[k]?=some x):H.set k x=H:=by
 apply aW9
 intro j;rw[bu3];split
 ·rename_i e
  subst e;rw[if_pos (aa0 h),h]
 ·rfl
theorem br1{H M:List AObj}{k:Nat}{o:AObj}(h:k < H.length):(H.set k o++M)[k]?=some o:=by
 rw[xq4 (by rw[List.length_set];exact h),aA0 h]
theorem bM7{H M:List AObj}{k:Nat}{o x:AObj}(h:k < H.length):(H.set k o++M).set k x=H.set k x++M:=by
 rw[bf8 _ _ (by rw[List.length_set];exact h),List.set_set]
theorem aW2{H₀:List AObj}{k:Nat}{o:AObj}{M:List AObj}{R:AV->List AObj->Prop}{x:AV}(y:AV)(hle:Le x y)(hx:Low H₀.length y)(hcs: ∀sh cs,o=.cells sh cs-> ∀y∈cs,Low H₀.length y)(hr:R y (H₀.set k o))(hn:o.isMo=false:=by rfl):Done H₀ R x (H₀.set k o++M):=by
 unfold Done;refine⟨y,(H₀.set k o++M).take H₀.length,aZ8 hle (xq0 _) hx fun i u hi e=>?_,?_⟩
 ·rw[xq4 (by rw[List.length_set];exact hi)] at e
  rw[bu3] at e;split at e
  ·rename_i hk
   subst hk;rw[if_pos (by exact hi)] at e
   exact .inr (Option.some.inj e▸aA5 hcs hn)
  ·exact .inl e
 ·rw[bL4 (by rw[List.length_set];exact xq0 _),aF0 (by rw[List.length_set];exact xq0 _)]
  exact hr
theorem aS6{H₀:List AObj}{k:Nat}{o:AObj}{M:List AObj}{R:AV->List AObj->Prop}{x:AV}(hx:Low H₀.length x)(hcs: ∀sh cs,o=.cells sh cs-> ∀y∈cs,Low H₀.length y)(hr:R x (H₀.set k o))(hn:o.isMo=false:=by rfl):Done H₀ R x (H₀.set k o++M):=aW2 x (Le.refl x) hx hcs hr hn
def cl9(s:Sha.St 32):List AV:=[wAV .u32 s.a,wAV .u32 s.b,wAV .u32 s.c,wAV .u32 s.d,wAV .u32 s.e,wAV .u32 s.f,wAV .u32 s.g,wAV .u32 s.h,.lit (.int .i64 64),.fn (.func 301) [] [],.fn (.func 302) [] [],.fn (.func 304) [] [],.fn (.func 305) [] [],.fn (.func 306) [] []]
def aG7(s:Sha.St 32):AObj:=.cells (.one 388) (cl9 s)
theorem cR2{m:Nat}{s:Sha.St 32}: ∀sh cs,aG7 s=.cells sh cs-> ∀y∈cs,Low m y:=fun sh cs h y hy=>by
 unfold aG7 cl9 at h;cases h
 simp only[an8,aJ2,or_false] at hy;rcases hy with rfl|rfl|rfl|rfl|rfl|rfl|rfl|rfl|rfl|rfl|rfl|rfl|rfl|rfl
 all_goals first|exact .lit _|exact .fn _ _ _ (fun _ h=>by cases h) (fun _ h=>by cases h)
def aE6:List AV:=[.lit (.int .i64 64),.fn (.func 301) [] [],.fn (.func 302) [] [],.fn (.func 304) [] [],.fn (.func 305) [] [],.fn (.func 306) [] []]
theorem cI0(s:Sha.St 32):aG7 s=.cells (.one 388) (s.list.map (wAV .u32)++aE6):=rfl
def aM4(s t:List (BitVec 32))(i:Nat):List (BitVec 32):=(List.range 8).map fun j=>if j < i then s.getD j 0+t.getD j 0 else s.getD j 0
theorem cq8(s t:List (BitVec 32))(i:Nat):(aM4 s t i).length=8:=by simp[aM4]
theorem dc7(s t:Sha.St 32):aM4 s.list t.list 0=s.list:=rfl
theorem dv4(s t:Sha.St 32):aM4 s.list t.list 8=(Sha.add s t).list:=rfl
theorem dv3{s t:List (BitVec 32)}{i:Nat}(h:i < 8):(aM4 s t i).set i ((aM4 s t i).getD i 0+t.getD i 0)=aM4 s t (i+1):=by
 have hg: ∀i j,(aM4 s t i)[j]?=if j < 8 then some (if j < i then s.getD j 0+t.getD j 0 else s.getD j 0) else none:=fun i j=>by
  unfold aM4;rw[xq7];by_cases h1:j < 8
  ·rw[aO4 h1,if_pos h1]
   rfl
  ·rw[aw1 (by simp;omega),if_neg h1]
   rfl
 apply aW9
 intro j;have hgd:(aM4 s t i).getD i 0=s.getD i 0:=by rw[List.getD,hg,if_pos h,if_neg (by omega)];rfl
 rw[bu3,hg,hg,hgd,cq8];by_cases h1:j < 8
 ·rw[if_pos h1,if_pos h1]
  split
  ·rename_i e
   subst e;rw[if_pos (by omega)]
  ·rename_i e
   by_cases h3:j < i
   ·rw[if_pos h3,if_pos (by omega)]
   ·rw[if_neg h3,if_neg (by omega)]
 ·rw[if_neg h1,if_neg h1,if_neg (by omega)]
theorem dM5(M:List (BitVec 32))(s:Sha.St 32)(i:Nat):ad7.steps M s (i+1)=⟨(ad7.steps M s i).h+bigT (ad7.steps M s i).e (6,11,25)+((ad7.steps M s i).e&&&(ad7.steps M s i).f^^^ ~~~ (ad7.steps M s i).e&&&(ad7.steps M s i).g)+kOf 32 i+M.getD i 0+(bigT (ad7.steps M s i).a (2,13,22)+((ad7.steps M s i).a&&&(ad7.steps M s i).b^^^(ad7.steps M s i).a&&&(ad7.steps M s i).c^^^(ad7.steps M s i).b&&&(ad7.steps M s i).c)),
  (ad7.steps M s i).a,(ad7.steps M s i).b,(ad7.steps M s i).c,(ad7.steps M s i).d+((ad7.steps M s i).h+bigT (ad7.steps M s i).e (6,11,25)+((ad7.steps M s i).e&&&(ad7.steps M s i).f^^^ ~~~ (ad7.steps M s i).e&&&(ad7.steps M s i).g)+kOf 32 i+M.getD i 0),(ad7.steps M s i).e,(ad7.steps M s i).f,(ad7.steps M s i).g⟩:=by
 rw[Sha.steps];generalize ad7.steps M s i=t;rfl
theorem dM0(s:Sha.St 32)(m:List (BitVec 32)):ad7.take s m=Sha.add s (ad7.steps (ad7.sched m 48) s 64):=rfl
theorem d40{k:Nat}{s:Sha.St 32}{H:List AObj}(m:List (BitVec 32))(hk:H[k]?=some (aG7 s))(hm:m.length=16):
  o7 Tryz.prog 377 [.mp k 0,.agg (m.map (wAV .u32))] H (fun x H'=>x=.tup []/\H'=H.set k (aG7 (ad7.take s m))):=by
 have hkl:=aa0 hk;unfold aG7 cl9 at hk;have hc:=fun H=>dH4 (xs:=m.map (wAV .u32)) (H:=H) (fun y hy=>by obtain⟨z,_,rfl⟩:=xq9.1 hy;exact⟨rfl,rfl⟩) (by intro e;have:=congrArg List.length e;simp at this;rw[this] at hm;cases hm) (by simp;omega)
 have hk1: ∀M,(H++M)[k]?=H[k]?:=fun M=>xq4 hkl
 refine o8 [1000005,1000005005015,1000005005032,1000005021015,1000005021032,1000005026015,1000005031015,1000006,1000010,1000010020006,1000017] [] 195 Tryz.func377 ?_;repeat' first|simp -dsimp -implicitDefEqProofs (disch:=(simp only[ll];omega)) only[go_sem,d63,el6,hm]|refine l7 (hc _) ?_|fail
 refine aa7 ab6 mixed [1000005,1000005005015,1000005005032,1000005021015,1000005021032,1000005026015,1000005031015,1000006,1000010,1000010020006,1000017] [0] (fun n:Nat=>n<=48) (fun n=>[(4,.sl (.tok H.length) 1 ((ad7.sched m n).map (wAV .u32))),(5,.lit (.int .i64 ((16+n:Nat):Int)))]) (fun n=>H++[.grow 1 (16+n) none]) (fun n=>48 - n) (by kernel_rfl) ?_ 0 (by omega) aa3 (by simp[hm])
 ·intro n hn
  have hl:=ad7.sched_len m n;rw[hm] at hl;have hs:ad7.sched m (n+1)=ad7.sched m n++[(ad7.sched m n).getD n 0+ba1 ((ad7.sched m n).getD (n+1) 0) (7,18,3)+(ad7.sched m n).getD (n+9) 0+ba1 ((ad7.sched m n).getD (n+14) 0) (17,19,10)]:=by
   show ad7.sched m n++[ad7.next (ad7.sched m n)]=_
   unfold Sha.next;rw[hl,show 16+n - 16=n by omega,show 16+n - 15=n+1 by omega,show 16+n - 7=n+9 by omega,show 16+n - 2=n+14 by omega]
   rfl
  have hM:=fun x=>en7 (K:=.u32) (ad7.sched m n) x
  have z1:(((16+n:Nat):Int) - 16).toNat=n:=by omega
  have z2:(((16+n:Nat):Int) - 15).toNat=n+1:=by omega
  have z3:(((16+n:Nat):Int) - 7).toNat=n+9:=by omega
  have z4:(((16+n:Nat):Int) - 2).toNat=n+14:=by omega
  by_cases h:n < 48
  ·have hc:(((16+n:Nat):Int) < 64)=True:=eq_true (by omega)
   generalize ad7.sched m n=M at*;repeat' first|refine l9 ?_|simp -dsimp -implicitDefEqProofs (disch:=omega) only[go_sem,hk,hk1,hc,z1,z2,z3,z4,bs6,hM]|refine⟨_,_,dM9 _ _,?_⟩|refine⟨_,_,dM8 _ _,?_⟩|refine vcA ?_ ?_|omega
   rw[<-hs];refine again (n+1) ?_ ?_ ?_ aa3
   ·omega
   ·omega
   ·rw[hl]
    rfl
  ·obtain rfl:n=48:=by omega
   have hc:(((16+48:Nat):Int) < 64)=False:=eq_false (by omega)
   have hsl:=fun i=>dM5 (ad7.sched m 48) s i
   have hT:=dM0 s m;rw[hT];generalize ad7.sched m 48=M at*;have hl64:M.length=64:=by omega
   repeat' first|refine l9 ?_|simp -dsimp -implicitDefEqProofs (disch:=omega) only[go_sem,hk,hk1,hc,hl64]
   refine aa7 ab6 mixed [1000005,1000005005015,1000005005032,1000005021015,1000005021032,1000005026015,1000005031015,1000006,1000010,1000010020006,1000017] [0,106,107] (fun i:Nat=>i<=64) (fun i=>[(6,wAV .u32 (ad7.steps M s i).a),(7,wAV .u32 (ad7.steps M s i).b),(8,wAV .u32 (ad7.steps M s i).c),(9,wAV .u32 (ad7.steps M s i).d),(10,wAV .u32 (ad7.steps M s i).e),(11,wAV .u32 (ad7.steps M s i).f),(12,wAV .u32 (ad7.steps M s i).g),(13,wAV .u32 (ad7.steps M s i).h),(108,.lit (.int .i64 i))]) (fun _=>H++[.grow 1 (16+48) none]) (fun i=>64 - i) (by kernel_rfl) ?_ 0 (by omega) aa3 rfl
   intro i hi;by_cases h:i < 64
   ·have hs2:=hsl i
    have hM2:=bs6 (K:=.u32) (m:=M) (i:=i) (by omega)
    generalize hst:ad7.steps M s i=st at*;have hic:((i:Int) < 64)=True:=eq_true (by omega)
    repeat' first|refine l9 ?_|simp -dsimp -implicitDefEqProofs (disch:=omega) only[go_sem,hk,hk1,hM2,hic]|refine⟨_,_,dN0 _ _,?_⟩|refine⟨_,_,d46 i _ (by omega),?_⟩|refine l7 (dN1 _ _) ?_|refine vcA ?_ ?_|omega
    refine again (i+1) ?_ ?_ rfl ?_
    ·omega
    ·omega
    ·rw[hs2]
     exact aa3
   ·obtain rfl:i=64:=by omega
    generalize ad7.steps M s 64=t at*;have hk0:H.set k (.cells (.one 388) ((aM4 s.list t.list 0).map (wAV .u32)++aE6))=H:=by
     rw[dc7];exact ba2 hk
    have hm0: ∀M,H++M=H.set k (.cells (.one 388) ((aM4 s.list t.list 0).map (wAV .u32)++aE6))++M:=fun M=>by rw[hk0]
    repeat' first|refine l9 ?_|simp -dsimp -implicitDefEqProofs only[go_sem]
    refine aa7 ab6 mixed [1000005,1000005005015,1000005005032,1000005021015,1000005021032,1000005026015,1000005031015,1000006,1000010,1000010020006,1000017] [] (fun i:Nat=>i<=8) (fun i=>[(179,.lit (.int .i64 i)),(178,.agg (t.list.map (wAV .u32))),(0,.mp k 0)]) (fun i=>H.set k (.cells (.one 388) ((aM4 s.list t.list i).map (wAV .u32)++aE6))++[.grow 1 64 none]) (fun i=>8 - i) (by kernel_rfl) ?_ 0 (by omega) aa3 (hm0 _)
    intro i hi;have hg: ∀o M,(H.set k o++M)[k]?=some o:=fun o M=>br1 hkl
    have hset: ∀o x M,(H.set k o++M).set k x=H.set k x++M:=fun o x M=>bM7 hkl
    have hL:=cq8 s.list t.list i;have htl:t.list.length=8:=rfl;by_cases h:i < 8
    ·have hic:((i:Int) < 8)=True:=eq_true (by omega)
     have hms:=dv3 (s:=s.list) (t:=t.list) h;have hg1:((aM4 s.list t.list i).map (wAV .u32)++aE6).getD i .any=wAV .u32 ((aM4 s.list t.list i).getD i 0):=by
      rw[b96 (by rw[List.length_map];omega),bs6 (by omega)]
     have hg2:(t.list.map (wAV .u32)).getD i .any=wAV .u32 (t.list.getD i 0):=bs6 (by omega)
     have hs1: ∀x,((aM4 s.list t.list i).map (wAV .u32)++aE6).set i (wAV .u32 x)=((aM4 s.list t.list i).set i x).map (wAV .u32)++aE6:=fun x=>by
      rw[bf8 _ _ (by rw[List.length_map];omega),bz6]
     repeat' first|refine l9 ?_|simp -dsimp -implicitDefEqProofs (disch:=omega) only[go_sem,hg,hset,hic,hL,htl,hg1,hg2,hs1,hms]|refine vcA ?_ ?_|omega
     refine again (i+1) ?_ ?_ ?_ aa3
     ·omega
     ·omega
     ·rfl
    ·obtain rfl:i=8:=by omega
     repeat' first|refine l9 ?_|simp -dsimp -implicitDefEqProofs only[go_sem]
     rw[dv4,<-cI0];exact aS6 (ae2 aa4) cR2 ⟨rfl,rfl⟩
theorem sk1{H M:List AObj}{k:Nat}{o a:AObj}:(H.set k o++(a::M))[H.length]?=some a:=by
 rw[xq5 (by rw[List.length_set];exact xq0 _),List.length_set,ao4];rfl
theorem sk2{H M:List AObj}{k:Nat}{o a b:AObj}:(H.set k o++(a::b::M))[H.length+1]?=some b:=by
 rw[xq5 (by rw[List.length_set];omega),List.length_set,au2];rfl
theorem d45{H M:List AObj}{k:Nat}{o a x:AObj}:(H.set k o++(a::M)).set H.length x=H.set k o++(x::M):=by
 rw[az0 _ _ (by rw[List.length_set];exact xq0 _),List.length_set,ao4];rfl
theorem d44{H M:List AObj}{k:Nat}{o a b x:AObj}:(H.set k o++(a::b::M)).set (H.length+1) x=H.set k o++(a::x::M):=by
 rw[az0 _ _ (by rw[List.length_set];omega),List.length_set,au2];rfl
attribute [go_sem] sk1 sk2 d45 d44
end
section
open Go V
theorem aO2: ∀(zs cs:List AV) (off:Nat),off+zs.length<=cs.length->af4 cs off zs=cs.take off++zs++cs.drop (off+zs.length)
 |[],cs,off,_=>by simp[af4]
 |x::r,cs,off,h=>by
  rw[List.length_cons] at h;rw[af4,aO2 r (cs.set off x) (off+1) (by rw[List.length_set];omega)]
  have h1:(cs.set off x).take (off+1)=cs.take off++[x]:=by
   rw[List.take_set,bn9 (by omega),az0 _ _ (by rw[List.length_take];omega)]
   simp[bL6 (show off<=cs.length by omega)]
  have h2:(cs.set off x).drop (off+1+r.length)=cs.drop (off+1+r.length):=by
   rw[List.drop_set,if_pos (by omega)]
  rw[h1,h2,List.length_cons,show off+(r.length+1)=off+1+r.length by omega]
  simp
def aP7(n8 t:Nat):List UInt8:=(List.range 8).map fun k=>if 7 - k < t then UInt8.ofNat (n8/256^(7 - k)) else 0
def aY8(w:Nat)(b:List UInt8)(t:Nat):List UInt8:=b++128::(List.replicate (at7 w b.length - 8 - (b.length+1)) 0++aP7 (8*b.length) t)
theorem aV1{w n:Nat}(hw:w=32\/w=64):n+9<=at7 w n/\at7 w n<=n+1+w/4+2*w:=by
 unfold at7;rcases hw with rfl|rfl
 ·simp only[Nat.reduceDiv,Nat.reduceMul];omega
 ·simp only[Nat.reduceDiv,Nat.reduceMul];omega
theorem cn1{w:Nat}{b:List UInt8}{t:Nat}(hw:w=32\/w=64):(aY8 w b t).length=at7 w b.length:=by
 have:=aV1 (n:=b.length) hw;unfold aY8 aP7;simp
 omega
theorem cP2(n8:Nat):aP7 n8 0=List.replicate 8 0:=by
 unfold aP7;simp
 rfl
theorem c47{n8 t:Nat}(h:n8/256^t=0):aP7 n8 t=bytesOf 8 n8:=by
 unfold aP7 bytesOf;refine b26 fun k hk=>?_
 have hk8:=bg1.1 hk;split
 ·congr 2
 ·rename_i h1
  have h2:n8/256^(7 - k)=0:=by
   have e:7 - k=t+(7 - k - t):=by omega
   rw[e,Nat.pow_add,<-Nat.div_div_eq_div_mul,h,Nat.zero_div]
  rw[show 8 - 1 - k=7 - k by omega,h2]
  rfl
theorem cn2{w:Nat}{b:List UInt8}{t:Nat}(h:8*b.length/256^t=0):aY8 w b t=padded w b:=by
 unfold aY8 padded;rw[c47 h]
theorem c44{n8 t:Nat}(h:t < 8):(aP7 n8 t).set (7 - t) (UInt8.ofNat (n8/256^t))=aP7 n8 (t+1):=by
 have hl: ∀t,(aP7 n8 t).length=8:=fun t=>by simp[aP7]
 have hg: ∀t j,(aP7 n8 t)[j]?=if j < 8 then some (if 7 - j < t then UInt8.ofNat (n8/256^(7 - j)) else 0) else none:=fun t j=>by
  unfold aP7;rw[xq7];by_cases h1:j < 8
  ·rw[aO4 h1,if_pos h1]
   rfl
  ·rw[aw1 (by simp;omega),if_neg h1]
   rfl
 apply aW9
 intro j;rw[bu3,hg,hg,hl];by_cases h1:j < 8
 ·rw[if_pos h1,if_pos h1]
  split
  ·rename_i e
   rw[if_pos (by omega),if_pos (by omega),show 7 - j=t by omega]
  ·rename_i e
   by_cases h3:7 - j < t
   ·rw[if_pos h3,if_pos (by omega)]
   ·rw[if_neg h3,if_neg (by omega)]
 ·rw[if_neg h1,if_neg h1,if_neg (by omega)]
theorem dq7{w:Nat}{b:List UInt8}{t:Nat}(hw:w=32\/w=64)(h:t < 8):(aY8 w b t).set (at7 w b.length - 1 - t) (UInt8.ofNat (8*b.length/256^t))=aY8 w b (t+1):=by
 have:=aV1 (n:=b.length) hw;unfold aY8;rw[az0 _ _ (by omega),show at7 w b.length - 1 - t - b.length=(at7 w b.length - 2 - t - b.length)+1 by omega,List.set_cons_succ,az0 _ _ (by rw[List.length_replicate];omega),List.length_replicate,
  show at7 w b.length - 2 - t - b.length - (at7 w b.length - 8 - (b.length+1))=7 - t by omega,c44 h]
theorem c90{w:Nat}{b:List UInt8}(hw:w=32\/w=64):(b++List.replicate (at7 w b.length - b.length) 0).set b.length 128=aY8 w b 0:=by
 have:=aV1 (n:=b.length) hw;rw[az0 _ _ (xq0 _),ao4,show at7 w b.length - b.length=(at7 w b.length - 8 - (b.length+1))+8+1 by omega,cM7,List.set_cons_zero]
 unfold aY8;rw[cP2,bG0]
theorem em9{n t:Nat}(h:n/256^t≠0)(hn:n < 18446744073709551616):t < 8:=by
 rcases xq8 t 8 with h1|h1
 ·exact h1
 ·exfalso
  refine h (Nat.div_eq_of_lt (aB2 hn ?_));exact aE0 (by decide:18446744073709551616<=256^8) (bo0 (by decide) h1)
theorem dq5{w:Nat}{n:Nat}(hw:w=32)(h:(n:Int) < 1099511627776):((n:Int)+1+8)+(64 - ((n:Int)+1+8)%64)%64=((at7 w n:Nat):Int):=by
 subst hw;unfold at7;simp only[Nat.reduceDiv,Nat.reduceMul];omega
theorem dG2(n:Nat)(H:List AObj)(h:n<=1000000000):o7 Tryz.prog 378 [.lit (.int .i64 (n:Int)),.lit (.int .i64 32)] H (fun y H'=>y=.lit (.int .i64 ((at7 32 n:Nat):Int))/\H'=H):=by
 have hp:=dq5 (w:=32) (n:=n) rfl (by omega)
 have h1:((n:Int) < 0)=False:=eq_false (by omega)
 have h2:(1099511627776 < (n:Int))=False:=eq_false (by omega)
 refine o8 [] [.tmp 4] 37 Tryz.func378 ?_;repeat' first|refine l9 ?_|simp -dsimp -implicitDefEqProofs (disch:=omega) only[go_sem,h1,h2]
 rw[hp];exact o5 ⟨rfl,rfl⟩
theorem en1{n t:Nat}:n/256^t/256=n/256^(t+1):=by rw[Nat.pow_succ,Nat.div_div_eq_div_mul]
theorem bG6{n:Nat}:IntKind.u8.wrap (n:Int)=((UInt8.ofNat n).toNat:Int):=by
 rw[bq7];simp
theorem dq6{o:Own}(b:List UInt8)(H:List AObj)(h:b.length<=100000000):o7 Tryz.prog 308 [.sl o 1 (b.map o6),.lit (.int .i64 32)] H (fun y H'=>y=.sl .sh 1 ((padded 32 b).map o6)/\H'=H):=by
 have hb:=aV1 (w:=32) (n:=b.length) (.inl rfl);have hP:=fun H=>dG2 b.length H (by omega)
 have hz:=c90 (w:=32) (b:=b) (.inl rfl);have hlen:=fun t=>cn1 (w:=32) (b:=b) (t:=t) (.inl rfl)
 generalize hN:at7 32 b.length=N at*;have hrep:ag7 [AV.lit (.int .u8 0)] N=(List.replicate N (0:UInt8)).map o6:=by rw[bz2,bL3];rfl
 have hcp:af4 ((List.replicate N (0:UInt8)).map o6) 0 (b.map o6)=(b++List.replicate (N - b.length) 0).map o6:=by
  rw[aO2 _ _ _ (by simp;omega)]
  simp
 have hst:((b++List.replicate (N - b.length) (0:UInt8)).map o6).set b.length (.lit (.int .u8 128))=(aY8 32 b 0).map o6:=by
  rw[<-hz,bz6];rfl
 have h0:((b.length:Int)*8)=((8*b.length/256^0:Nat):Int):=by rw[Nat.pow_zero,Nat.div_one];omega
 refine o8 [] [.tmp 4] 39 Tryz.func308 ?_;repeat' first|simp -dsimp -implicitDefEqProofs (disch:=omega) only[go_sem,hrep,hcp,hst,h0]|refine l7 (hP _) ?_|refine vcA ?_ ?_|omega
 refine aa7 ab6 mixed [] [4,5] (fun t:Nat=>t<=8) (fun t=>[(6,.lit (.int .u64 ((8*b.length/256^t:Nat):Int))),(7,.lit (.int .i64 ((N - 1 - t:Nat):Int)))]) (fun t=>H++[.cells (.one 5) ((aY8 32 b t).map o6)]) (fun t=>8*b.length/256^t) (by kernel_rfl) ?_ 0 (by omega) aa3 rfl
 intro t ht;have hl:=hlen t;have hs:=en1 (n:=8*b.length) (t:=t);have hT:=fun h:t < 8=>dq7 (w:=32) (b:=b) (t:=t) (.inl rfl) h
 have hE:=fun h=>cn2 (w:=32) (b:=b) (t:=t) h
 have hlt:=fun h=>em9 (n:=8*b.length) (t:=t) h (by omega)
 rw[hN] at hT;generalize hn:8*b.length/256^t=n at*;generalize hn':8*b.length/256^(t+1)=n' at*;have hnn:n<=800000000:=by rw[<-hn];exact aE0 (Nat.div_le_self _ _) (by omega)
 by_cases h1:n=0
 ·subst h1
  rw[hE rfl];repeat' first|refine l9 ?_|simp -dsimp -implicitDefEqProofs only[go_sem]
  refine cw1 (.sl .sh 1 ((padded 32 b).map o6)) (.msl _ _ _ _ _ (.one 5) ((padded 32 b).map o6) _ (xq0 _) (by simp) (by simp;rw[<-hE rfl,hl]) (fun x hx=>by obtain⟨c,_,rfl⟩:=xq9.1 hx;exact⟨rfl,rfl⟩) (by rw[au8 o6 (fun _=>rfl)];simp) fun j c y e1 e2=>?_) ⟨rfl,rfl⟩
  rw[au8 o6 (fun _=>rfl)] at e2
  rw[Nat.zero_add] at e1;rw[e1] at e2;cases e2
  refine .low _ ?_;obtain⟨c,_,rfl⟩:=xq9.1 (bF9 e1);exact .lit _
 ·have h8:=hlt h1
  have hset:((aY8 32 b t).map o6).set (N - 1 - t) (.lit (.int .u8 (IntKind.u8.wrap (n:Int))))=(aY8 32 b (t+1)).map o6:=by
   rw[<-hT h8,bz6,bG6];rfl
  have hc:(0 < (n:Int))=True:=eq_true (by omega)
  repeat' first|refine l9 ?_|simp -dsimp -implicitDefEqProofs (disch:=omega) only[go_sem,hc,hset,hs]|refine vcA ?_ ?_|omega
  refine again (t+1) ?_ ?_ rfl aa3
  ·have:n'=n/256:=hs.symm
   omega
  ·omega
end
section
namespace V
open Go
variable {ds:List Deferred}
def NC(o:Obj):Prop:= ∀a t f,o≠ .cells a t f
theorem ax4(r:Loop):NC (.loop r):=fun _ _ _ e=>by cases e
theorem aI9(x:Option (List Deferred)):NC (.deferred x):=fun _ _ _ e=>by cases e
section
variable {w:World}{r:Nat}{o o':Obj}
theorem aR0(h:w.heap[r]?=some o)(hn:NC o)(hn':NC o')(a:Addr):(w.putObj r o').cell? a=w.cell? a:=by
 have hr:=(bF8.1 h).1;unfold World.cell?;by_cases e:a.block=r
 ·rw[e,World.putObj_heap_same hr,h]
  cases o' with
  |cells x y z=>exact absurd rfl (hn' x y z)
  |_=>cases o with
   |cells x y z=>exact absurd rfl (hn x y z)
   |_=>rfl
 ·rw[World.putObj_heap_other e]
theorem bV8(h:w.heap[r]?=some o)(hn:NC o)(hn':NC o')(a:Addr):(w.putObj r o').frozen? a=w.frozen? a:=by
 have hr:=(bF8.1 h).1;unfold World.frozen?;by_cases e:a.block=r
 ·rw[e,World.putObj_heap_same hr,h]
  cases o' with
  |cells x y z=>exact absurd rfl (hn' x y z)
  |_=>cases o with
   |cells x y z=>exact absurd rfl (hn x y z)
   |_=>rfl
 ·rw[World.putObj_heap_other e]
theorem aS4(h:w.heap[r]?=some o)(hn:NC o){b:Nat}{arr:Array Value}{T:TypeId}{fr:Nat×Nat}(hb:w.heap[b]?=some (.cells arr T fr)):(w.putObj r o').heap[b]?=some (.cells arr T fr):=by
 have:b≠r:=fun e=>by
  subst e;rw[h] at hb;cases hb
  exact hn _ _ _ rfl
 rw[World.putObj_heap_other this];exact hb
end
theorem Rel.turn{G:Gh}{H H':List AObj}{w w':World}(hc: ∀a,w'.cell? a=w.cell? a)(hH: ∀(k:Nat) o,H[k]?=some o->(∃o',H'[k]?=some o')/\(o.isBlk=true-> ∃o',H'[k]?=some o'/\o'.isBlk=true)/\(∀s n t,o=.grow s n t->H'[k]?=some o)){x:AV}{v:Value}(r:Rel G H w x v):Rel G H' w' x v:=by
 induction r with
 |any v=>exact .any v
 |lit v=>exact .lit v
 |str l=>exact .str l
 |sl o s xs a len cap val hl hcap hs hcc hr hf ha ho ih=>
  exact .sl o s xs a len cap val hl hcap hs (fun j x e=>let ⟨b,off,h1,h2,h3⟩:=hcc j x e;⟨b,off,h1,h2,(hc _).trans h3⟩) ih hf ha (fun k e=>let ⟨n,t,e1,h⟩:=ho k e;⟨n,t,(hH k _ e1).2.2 _ _ _ rfl,h⟩)
 |agg cs arr hl hr ih=>exact .agg cs arr hl ih
 |tup cs arr hl hr ih=>exact .tup cs arr hl ih
 |ip x b off val hcc hr ih=>exact .ip x b off val (fun j y e=>⟨(hcc j y e).1,(hc _).trans (hcc j y e).2⟩) ih
 |mp k off o h1 ho=>obtain⟨o',h2,h3⟩:=(hH k o h1).2.1 ho;exact .mp k off o' h2 h3
 |msl k off len cap o h1 ho hcap=>obtain⟨o',h2,h3⟩:=(hH k o h1).2.1 ho;exact .msl k off len cap o' h2 h3 hcap
 |mrow k len o h1 ho hcap=>obtain⟨o',h2,h3⟩:=(hH k o h1).2.1 ho;exact .mrow k len o' h2 h3 hcap
 |fn f fs cs fa ca hf hc' hrf hrc ih1 ih2=>exact .fn f fs cs fa ca hf hc' ih1 ih2
 |ifc t x v hr ih=>exact .ifc t x v ih
 |err u v=>exact .err u v
 |data x a len cap hr hc' ih=>exact .data x a len cap ih hc'
 |yld k l o ho e=>obtain⟨o',h2⟩:=(hH k o ho).1;exact .yld k l o' h2 e
 |mapp k o h1 ho=>obtain⟨o',h2,h3⟩:=(hH k o h1).2.1 ho;exact .mapp k o' h2 h3
theorem aQ2.turn{G:Gh}{H H':List AObj}{w w':World}(tr: ∀{x v},Rel G H w x v->Rel G H' w' x v)(hH: ∀(k:Nat) o,H[k]?=some o->(∃o',H'[k]?=some o')/\(o.isBlk=true-> ∃o',H'[k]?=some o'/\o'.isBlk=true)/\(∀s n t,o=.grow s n t->H'[k]?=some o)){x:MO}{o:Obj}(h:aQ2 G H w x o):aQ2 G H' w' x o:=by
 cases x with
 |map es c=>
  obtain⟨arr,rfl,hs,hr⟩:=h;exact⟨arr,rfl,hs,fun j e v e1 e2=>⟨(hr j e v e1 e2).1,tr (hr j e v e1 e2).2.1,tr (hr j e v e1 e2).2.2⟩⟩
 |iter m since seen last=>
  obtain⟨rfl,x,hx,hb⟩:=h;exact⟨rfl,(hH m x hx).2.1 hb⟩
theorem dR7{G:Gh}{H:List AObj}{w:World}{r:Loop}(x:MO): ¬aQ2 G H w x (.loop r):=fun h=>by
 cases x with
 |map es c=>obtain⟨_,e,_⟩:=h;cases e
 |iter m since seen last=>cases h.1
theorem cC3{G:Gh}{H:List AObj}{w:World}{d:Option (List Deferred)}(x:MO): ¬aQ2 G H w x (.deferred d):=fun h=>by
 cases x with
 |map es c=>obtain⟨_,e,_⟩:=h;cases e
 |iter m since seen last=>cases h.1
theorem bl2{H:List AObj}: ∀(k:Nat) o,H[k]?=some o->(∃o',H[k]?=some o')/\(o.isBlk=true-> ∃o',H[k]?=some o'/\o'.isBlk=true)/\(∀s n t,o=.grow s n t->H[k]?=some o):=fun _ o h=>⟨⟨o,h⟩,fun hb=>⟨o,h,hb⟩,fun _ _ _ _=>h⟩
theorem bC6{H:List AObj}{k:Nat}{r r':Loop}{E E':Env}(hk:H[k]?=some (.loop r E)): ∀(i:Nat) o,H[i]?=some o->(∃o',(H.set k (.loop r' E'))[i]?=some o')/\(o.isBlk=true-> ∃o',(H.set k (.loop r' E'))[i]?=some o'/\o'.isBlk=true)/\(∀s n t,o=.grow s n t->(H.set k (.loop r' E'))[i]?=some o):=fun i o h=>by
 have hs:(H.set k (AObj.loop r' E'))[k]?=some (.loop r' E'):=aA0 (aa0 hk);by_cases e:i=k
 ·subst e
  rw[hk] at h;cases h
  exact⟨⟨_,hs⟩,fun hb=>(by cases hb),fun s n t e=>(by cases e)⟩
 ·have:(H.set k (.loop r' E'))[i]?=some o:=by rw[ar6 (Ne.symm e)];exact h
  exact⟨⟨o,this⟩,fun hb=>⟨o,this,hb⟩,fun _ _ _ _=>this⟩
theorem HInv.turn{G:Gh}{H:List AObj}{w:World}(hi:HInv G H w){k l:Nat}{r:Loop}{E:Env}(r':Loop)(hk:H[k]?=some (.loop r E))(hl:G.lp k=some l)(ht:r'.tmps=r.tmps):HInv G (H.set k (.loop r' E)) (w.putObj l (.loop r')):=by
 obtain⟨himm,hrec,henv⟩:=hi.tabs.2.2.2 k l r E hl hk;have hkl:=aa0 hk;have hsz:l < w.heap.size:=(bF8.1 hrec).1;have hc:=fun a=>aR0 (o':=.loop r') hrec (ax4 _) (ax4 _) a
 have hf:=fun a=>bV8 (o':=.loop r') hrec (ax4 _) (ax4 _) a
 have tr: ∀{x v},Rel G H w x v->Rel G (H.set k (.loop r' E)) (w.putObj l (.loop r')) x v:=fun h=>h.turn hc (bC6 hk)
 have bk: ∀(i:Nat) o,(∀r E,o≠ .loop r E)->(H.set k (.loop r' E))[i]?=some o->H[i]?=some o:=fun i o ho h=>by
  by_cases e:i=k
  ·subst e
   rw[aA0 hkl] at h;cases h
   exact absurd rfl (ho _ _)
  ·rw[ar6 (Ne.symm e)] at h
   exact h
 refine⟨fun b off e=>by rw[World.putObj_size];exact hi.lt b off e,fun i sh cs e=>?_,fun i s n t e=>?_,fun i j b e1 e2=>?_,⟨⟨⟨fun g j v e=>⟨(hi.tabs.1.1.1 g j v e).1,(hc _).trans (hi.tabs.1.1.1 g j v e).2⟩,fun g t e=>⟨(hi.tabs.1.1.2.1 g t e).1,let ⟨u,v,h⟩:=(hi.tabs.1.1.2.1 g t e).2;⟨u,v,(hc _).trans h⟩⟩,fun g e=>⟨(hi.tabs.1.1.2.2 g e).1,let ⟨n,h⟩:=(hi.tabs.1.1.2.2 g e).2;⟨n,(hc _).trans h⟩⟩⟩,fun i x e=>by
  obtain⟨h1,o,h2,h3⟩:=hi.tabs.1.2 i x (bk i _ (fun _ _ e=>by cases e) e)
  exact⟨h1,o,(World.putObj_heap_other fun e=>h1 0 (by rw[e];exact himm 0)).trans h2,h3.turn tr (bC6 hk)⟩⟩,fun i m e=>by rw[World.putObj_size];exact hi.tabs.2.1 i m e,hi.tabs.2.2.1,fun i m r1 E1 e1 e2=>?_⟩⟩
 ·obtain⟨arr,T,fr,hb,hs,hr,hn,hz,hsh⟩:=hi.cells i sh cs (bk i _ (fun _ _ e=>by cases e) e)
  exact⟨arr,T,fr,aS4 hrec (ax4 _) hb,hs,fun j x v ex ev=>tr (hr j x v ex ev),hn,fun off ho=>(hf _).trans (hz off ho),hsh⟩
 ·obtain⟨h0,h1,h2,hty⟩:=hi.grow i s n t (bk i _ (fun _ _ e=>by cases e) e)
  refine⟨h0,h1,fun hn=>?_,aj1 hty rfl (xq0 _) (fun b arr e fr hb=>⟨arr,aS4 hrec (ax4 _) hb,rfl⟩) (fun b off arr e fr _ _ _ _ hx _=>hx)⟩
  obtain⟨b,off,arr,T,fr,ea,hb,hle,hj⟩:=h2 hn;exact⟨b,off,arr,T,fr,ea,aS4 hrec (ax4 _) hb,hle,fun j h3 h4=>⟨(hj j h3 h4).1,(hf _).trans (hj j h3 h4).2⟩⟩
 ·have hs: ∀i b,site G (H.set k (.loop r' E)) i=some b->site G H i=some b:=fun i b e=>by
   unfold site at e⊢;cases ho:(H.set k (AObj.loop r' E))[i]? with
   |none=>rw[ho] at e;cases e
   |some o=>
    rw[ho] at e;cases o with
    |loop _ _=>cases e
    |gone=>cases e
    |cells _ _=>rw[bk i _ (fun _ _ e=>by cases e) ho];exact e
    |mo _=>rw[bk i _ (fun _ _ e=>by cases e) ho];exact e
    |grow _ _ _=>rw[bk i _ (fun _ _ e=>by cases e) ho];exact e
  exact hi.apart i j b (hs i b e1) (hs j b e2)
 ·by_cases e:i=k
  ·subst e
   rw[hl] at e1;cases e1
   rw[aA0 hkl] at e2;cases e2
   exact⟨himm,World.putObj_heap_same hsz,fun t=>⟨(henv t).1,by rw[ht];exact tr (henv t).2⟩⟩
  ·rw[ar6 (Ne.symm e)] at e2
   obtain⟨h1,h2,h3⟩:=hi.tabs.2.2.2 i m r1 E1 e1 e2;have hne:m≠l:=fun h=>e (hi.tabs.2.2.1 i k l (by rw[<-h];exact e1) hl)
   exact⟨h1,(World.putObj_heap_other hne).trans h2,fun t=>⟨(h3 t).1,tr (h3 t).2⟩⟩
def busy(r:Loop):Loop:={r with state:=.busy}
theorem dy6{r:Loop}{p:Nat}{v:Value}(hp:r.params= #[p]):(r.params.zip #[v]).foldl (fun t (q,x)=>t.setIfInBounds q x) r.tmps=r.tmps.setIfInBounds p v:=by rw[hp];simp
theorem bE8{P:Program}{k n:Nat}{r:Loop}{E env0:Env}{args:List AV}{H B:List AObj}(hk:H[k]?=some (.loop r E))(hst:r.state=.ready)(hpd:r.pending=none)
  (hs0: ∀G w vs,HInv G H w->ax2 G H w args vs->(∀t,Rel G H w (get E t) (r.tmps.getD t undef))->vs.size=r.params.size/\Sat n [] G env0 H {tmps:=(r.params.zip vs).foldl (fun t (q,x)=>t.setIfInBounds q x) r.tmps,defers:=[]} w)
  (h:AW P n r.assign (Ex (fun env1 H1=>AW P n r.body (fun e env2 H2=>e=.normal/\H2=B) env1 (H1.set k (.loop (busy r) E))/\H1[k]?=some (.loop r E)) (fun _ _ _=>False)) env0 H):
  aF9 P k args H (fun x H2=>x=.lit (.bool true)/\H2=B.set k (.loop r E)):=by
 intro ro N G w vs l hi ha hl;obtain⟨himm,hrec,henv⟩:=hi.tabs.2.2.2 k l r E hl hk;obtain⟨hvs,s0⟩:=hs0 G w vs hi ha fun t=>(henv t).2
 refine⟨r.fn,_,r.assign,r.body,run_yield hrec hvs,?_⟩;refine roundIn_of_wpIn trivial ?_;refine wpIn_mono (h (some l) N [] G _ w s0) fun e a1 w1 ⟨G1,env1,H1,s1,st1,q⟩=>?_
 cases e with
 |normal=>
  obtain⟨q,hk1⟩:=q;have hl1:G1.lp k=some l:=by rw[st1.lp];exact hl
  obtain⟨himm1,hrec1,henv1⟩:=s1.inv.tabs.2.2.2 k l r E hl1 hk1;have hsz1:l < w1.heap.size:=(bF8.1 hrec1).1;refine⟨_,run_beginRound hrec1 hst,?_⟩;have hc1:=fun a=>aR0 (o':=.loop (busy r)) hrec1 (ax4 _) (ax4 _) a
  have s2:Sat n [] G1 env1 (H1.set k (.loop (busy r) E)) a1 (w1.putObj l (.loop (busy r))):=⟨s1.size,s1.defers,fun t=>(s1.env t).turn hc1 (bC6 hk1),s1.inv.turn (busy r) hk1 hl1 rfl⟩
  refine wpIn_mono (q (some l) N [] G1 a1 _ s2) fun e a3 w3 ⟨G3,env3,H3,s3,st3,hq⟩=>?_
  obtain⟨rfl,rfl⟩:=hq;have hkb:(H1.set k (AObj.loop (busy r) E))[k]?=some (.loop (busy r) E):=aA0 (aa0 hk1);have hk3:H3[k]?=some (.loop (busy r) E):=by
   have:=st3.obj k;rw[hkb] at this;exact this.1
  have hl3:G3.lp k=some l:=by rw[st3.lp];exact hl1
  obtain⟨himm3,hrec3,henv3⟩:=s3.inv.tabs.2.2.2 k l _ E hl3 hk3;have hsz3:l < w3.heap.size:=(bF8.1 hrec3).1;have hback:({busy r with state:=.ready,pending:=none}:Loop)=r:=by
   obtain⟨a,b,c,d,e,f,g,i⟩:=r;simp only at hst hpd;subst hst hpd;rfl
  have hend:=run_endRound (P:=P) none hrec3;simp only[Option.isNone_none,if_true] at hend;rw[hback] at hend;refine⟨_,_,hend,.bool true,.lit (.bool true),G3,H3.set k (.loop r E),rfl,s3.inv.turn r hk3 hl3 rfl,?_,.lit _,rfl,rfl⟩;have hc3:=fun a=>aR0 (o':=.loop r) hrec3 (ax4 _) (ax4 _) a
  refine⟨?_,?_,?_,?_,fun b off h=>st3.imm _ _ (st1.imm _ _ h),fun b off h=>?_,fun b h=>?_,fun i=>?_⟩
  ·exact st3.os.trans st1.os
  ·exact st3.tape.trans st1.tape
  ·exact st3.output.trans st1.output
  ·have:=st1.size
   have:=st3.size;rw[World.putObj_size] at this⊢;omega
  ·exact(hc3 _).trans ((st3.cell b off (st1.imm _ _ h)).trans ((hc1 _).trans (st1.cell b off h)))
  ·have h3:=st3.whole b fun off=>st1.imm _ _ (h off)
   have h1:=st1.whole b h;by_cases e:b=l
   ·subst e
    rw[World.putObj_heap_same hsz3,<-h1,hrec1]
   ·exact(World.putObj_heap_other e).trans (h3.trans ((World.putObj_heap_other e).trans h1))
  ·have o1:=st1.obj i
   have o3:=st3.obj i;by_cases e:i=k
   ·subst e
    rw[hk] at o1⊢;rw[hkb] at o3;exact⟨aA0 (aa0 hk3),o3.2.1.trans o1.2.1,o3.2.2.trans o1.2.2⟩
   ·rw[ar6 (Ne.symm e)] at o3
    have:=b83 o1 o3;unfold aI8 at this⊢;rw[ar6 (Ne.symm e)];exact this
 |_=>exact q.elim
theorem bz0{P:Program}{k n p:Nat}{r:Loop}{E:Env}{arg:AV}{H B:List AObj}(hk:H[k]?=some (.loop r E))(hst:r.state=.ready)(hpd:r.pending=none)(hp:r.params= #[p])(hn:r.tmps.size=n)(hpn:p < n)
  (h:AW P n r.assign (Ex (fun env1 H1=>AW P n r.body (fun e env2 H2=>e=.normal/\H2=B) env1 (H1.set k (.loop (busy r) E))/\H1[k]?=some (.loop r E)) (fun _ _ _=>False)) ((p,arg)::E) H):
  aF9 P k [arg] H (fun x H2=>x=.lit (.bool true)/\H2=B.set k (.loop r E)):=by
 refine bE8 hk hst hpd (fun G w vs hi ha henv=>?_) h
 obtain⟨v,rfl,hv⟩: ∃v,vs= #[v]/\Rel G H w arg v:=by
  obtain⟨h1,h2⟩:=ha;have:vs.size=1:=h1;refine⟨vs[0],?_,h2 0 arg _ rfl (xq2 (by omega))⟩
  apply Array.ext
  ·simp[this]
  ·intro i h1 h2
   have:i=0:=by omega
   subst this;rfl
 refine⟨by rw[hp];rfl,?_⟩
 rw[dy6 hp];refine⟨by simp[hn],rfl,fun t=>?_,hi⟩
 simp only[get];rw[bw8 (by rw[hn];exact hpn)]
 by_cases e:p=t
 ·simp only[e,if_true];exact hv
 ·simp only[e,if_false];exact henv t
theorem b66{P:Program}{k n p q:Nat}{r:Loop}{E:Env}{arg arg2:AV}{H B:List AObj}(hk:H[k]?=some (.loop r E))(hst:r.state=.ready)(hpd:r.pending=none)(hp:r.params= #[p,q])(hn:r.tmps.size=n)(hpn:p < n)(hqn:q < n)
  (h:AW P n r.assign (Ex (fun env1 H1=>AW P n r.body (fun e env2 H2=>e=.normal/\H2=B) env1 (H1.set k (.loop (busy r) E))/\H1[k]?=some (.loop r E)) (fun _ _ _=>False)) ((q,arg2)::(p,arg)::E) H):
  aF9 P k [arg,arg2] H (fun x H2=>x=.lit (.bool true)/\H2=B.set k (.loop r E)):=by
 refine bE8 hk hst hpd (fun G w vs hi ha henv=>?_) h
 obtain⟨v,u,rfl,hv,hu⟩: ∃v u,vs= #[v,u]/\Rel G H w arg v/\Rel G H w arg2 u:=by
  obtain⟨h1,h2⟩:=ha;have:vs.size=2:=h1;refine⟨vs[0],vs[1],?_,h2 0 arg _ rfl (xq2 (by omega)),h2 1 arg2 _ rfl (xq2 (by omega))⟩
  apply Array.ext
  ·simp[this]
  ·intro i h1 h2
   have:i=0\/i=1:=by omega
   rcases this with rfl|rfl<;>rfl
 refine⟨by rw[hp];rfl,?_⟩
 have hg:(r.params.zip #[v,u]).foldl (fun t (q,x)=>t.setIfInBounds q x) r.tmps=(r.tmps.setIfInBounds p v).setIfInBounds q u:=by rw[hp];simp
 rw[hg];refine⟨by simp[hn],rfl,fun t=>?_,hi⟩
 simp only[get];rw[bw8 (by simp[hn];exact hqn)]
 by_cases e:q=t
 ·simp only[e,if_true];exact hu
 ·simp only[e,if_false]
  rw[bw8 (by rw[hn];exact hpn)]
  by_cases e:p=t
  ·simp only[e,if_true];exact hv
  ·simp only[e,if_false];exact henv t
def aC5(G:Gh)(f:Nat->Option Nat):Gh:={G with lp:=f}
theorem Rel.lp{G:Gh}{H:List AObj}{w:World}{f:Nat->Option Nat}(hf: ∀k,k < H.length->f k=G.lp k){x:AV}{v:Value}(r:Rel G H w x v):Rel (aC5 G f) H w x v:=by
 induction r with
 |any v=>exact .any v
 |lit v=>exact .lit v
 |str l=>exact .str l
 |sl o s xs a len cap val hl hcap hs hcc hr hf ha ho ih=>exact .sl o s xs a len cap val hl hcap hs hcc ih hf ha ho
 |agg cs arr hl hr ih=>exact .agg cs arr hl ih
 |tup cs arr hl hr ih=>exact .tup cs arr hl ih
 |ip x b off val hcc hr ih=>exact .ip x b off val hcc ih
 |mp k off o h1 ho=>exact .mp (G:=aC5 G f) k off o h1 ho
 |msl k off len cap o h1 ho hcap=>exact .msl (G:=aC5 G f) k off len cap o h1 ho hcap
 |mrow k len o h1 ho hcap=>exact .mrow (G:=aC5 G f) k len o h1 ho hcap
 |fn f fs cs fa ca hf hc' hrf hrc ih1 ih2=>exact .fn f fs cs fa ca hf hc' ih1 ih2
 |ifc t x v hr ih=>exact .ifc t x v ih
 |err u v=>exact .err u v
 |data x a len cap hr hc' ih=>exact .data x a len cap ih hc'
 |yld k l o ho e=>exact .yld k l o ho ((hf k (aa0 ho)).trans e)
 |mapp k o h1 ho=>exact .mapp (G:=aC5 G f) k o h1 ho
theorem HInv.lp{G:Gh}{H:List AObj}{w:World}(hi:HInv G H w){f:Nat->Option Nat}(hf: ∀k,k < H.length->f k=G.lp k)(hb: ∀k l,f k=some l->l < w.heap.size)(hj: ∀k k' l,f k=some l->f k'=some l->k=k'):HInv (aC5 G f) H w:=by
 refine⟨hi.lt,fun k sh cs e=>?_,hi.grow,hi.apart,⟨hi.tabs.1.1,fun k x e=>let ⟨h1,o,h2,h3⟩:=hi.tabs.1.2 k x e;⟨h1,o,h2,by
  cases x with
  |map es c=>
   obtain⟨arr,rfl,hs,hr⟩:=h3;exact⟨arr,rfl,hs,fun j e v e1 e2=>⟨(hr j e v e1 e2).1,(hr j e v e1 e2).2.1.lp hf,(hr j e v e1 e2).2.2.lp hf⟩⟩
  |iter m since seen last=>exact h3⟩⟩,hb,hj,fun k l r E e1 e2=>?_⟩
 ·obtain⟨arr,T,fr,h1,hs,hr,hn,hz,hsh⟩:=hi.cells k sh cs e
  exact⟨arr,T,fr,h1,hs,fun j x v ex ev=>(hr j x v ex ev).lp hf,hn,hz,hsh⟩
 ·have e1':f k=some l:=e1
  rw[hf k (aa0 e2)] at e1';obtain⟨h1,h2,h3⟩:=hi.tabs.2.2.2 k l r E e1' e2;exact⟨h1,h2,fun t=>⟨(h3 t).1,(h3 t).2.lp hf⟩⟩
theorem HInv.put{G:Gh}{H:List AObj}{w:World}(hi:HInv G H w){l:Nat}{o o':Obj}(h:w.heap[l]?=some o)(hn:NC o)(hn':NC o')(hl: ∀k,G.lp k≠some l)(hm: ∀x,¬aQ2 G H w x o):HInv G H (w.putObj l o'):=by
 have hc:=fun a=>aR0 (o':=o') h hn hn' a
 have hf:=fun a=>bV8 (o':=o') h hn hn' a
 have tr: ∀{x v},Rel G H w x v->Rel G H (w.putObj l o') x v:=fun h=>h.turn hc bl2
 refine⟨fun b off e=>by rw[World.putObj_size];exact hi.lt b off e,fun i sh cs e=>?_,fun i s n t e=>?_,hi.apart,⟨⟨⟨fun g j v e=>⟨(hi.tabs.1.1.1 g j v e).1,(hc _).trans (hi.tabs.1.1.1 g j v e).2⟩,fun g t e=>⟨(hi.tabs.1.1.2.1 g t e).1,let ⟨u,v,h⟩:=(hi.tabs.1.1.2.1 g t e).2;⟨u,v,(hc _).trans h⟩⟩,fun g e=>⟨(hi.tabs.1.1.2.2 g e).1,let ⟨n,h⟩:=(hi.tabs.1.1.2.2 g e).2;⟨n,(hc _).trans h⟩⟩⟩,fun i x e=>by
  obtain⟨h1,o1,h2,h3⟩:=hi.tabs.1.2 i x e;exact⟨h1,o1,(World.putObj_heap_other fun e=>by rw[e,h] at h2;cases h2;exact hm x h3).trans h2,h3.turn tr bl2⟩⟩,fun i m e=>by rw[World.putObj_size];exact hi.tabs.2.1 i m e,hi.tabs.2.2.1,fun i m r1 E1 e1 e2=>?_⟩⟩
 ·obtain⟨arr,T,fr,hb,hs,hr,hn2,hz,hsh⟩:=hi.cells i sh cs e
  exact⟨arr,T,fr,aS4 h hn hb,hs,fun j x v ex ev=>tr (hr j x v ex ev),hn2,fun off ho=>(hf _).trans (hz off ho),hsh⟩
 ·obtain⟨h0,h1,h2,hty⟩:=hi.grow i s n t e
  refine⟨h0,h1,fun hn2=>?_,aj1 hty rfl (xq0 _) (fun b arr e fr hb=>⟨arr,aS4 h hn hb,rfl⟩) (fun b off arr e fr _ _ _ _ hx _=>hx)⟩
  obtain⟨b,off,arr,T,fr,ea,hb,hle,hj⟩:=h2 hn2;exact⟨b,off,arr,T,fr,ea,aS4 h hn hb,hle,fun j h3 h4=>⟨(hj j h3 h4).1,(hf _).trans (hj j h3 h4).2⟩⟩
 ·obtain⟨h1,h2,h3⟩:=hi.tabs.2.2.2 i m r1 E1 e1 e2
  have hne:m≠l:=fun h=>hl i (by rw[<-h];exact e1)
  exact⟨h1,(World.putObj_heap_other hne).trans h2,fun t=>⟨(h3 t).1,tr (h3 t).2⟩⟩
theorem Step.put{G G':Gh}{H H':List AObj}{w w':World}(st:Step G H w G' H' w'){l:Nat}{o o':Obj}(h:w'.heap[l]?=some o)(hn:NC o)(hn':NC o')(hl: ¬ ∀off,G.imm l off):Step G H w G' H' (w'.putObj l o'):=
 ⟨st.os,st.tape,st.output,by rw[World.putObj_size];exact st.size,st.imm,fun b off e=>(aR0 h hn hn' _).trans (st.cell b off e),fun b e=>(World.putObj_heap_other (fun e'=>by subst e';exact hl e)).trans (st.whole b e),st.obj⟩
theorem bA6{H:List AObj}{x:AObj}: ∀(k:Nat) o,H[k]?=some o->(∃o',(H++[x])[k]?=some o')/\(o.isBlk=true-> ∃o',(H++[x])[k]?=some o'/\o'.isBlk=true)/\(∀s n t,o=.grow s n t->(H++[x])[k]?=some o):=fun k o h=>by
 have:(H++[x])[k]?=some o:=by rw[xq4 (aa0 h)];exact h
 exact⟨⟨o,this⟩,fun hb=>⟨o,this,hb⟩,fun _ _ _ _=>this⟩
theorem HInv.tell{G:Gh}{H:List AObj}{w:World}(hi:HInv G H w){l:Nat}{r:Loop}{E:Env}(hl:G.lp H.length=some l)(himm: ∀off,G.imm l off)(hrec:w.heap[l]?=some (.loop r))(henv: ∀t,Rel G H w (get E t) (r.tmps.getD t undef)):HInv G (H++[.loop r E]) w:=by
 have tr: ∀{x v},Rel G H w x v->Rel G (H++[.loop r E]) w x v:=fun h=>h.turn (fun _=>rfl) bA6
 have bk: ∀(i:Nat) o,(∀r E,o≠ .loop r E)->(H++[.loop r E])[i]?=some o->H[i]?=some o:=fun i o ho h=>by
  rcases xq8 i H.length with hi|hi
  ·rw[xq4 hi] at h;exact h
  ·rw[xq5 hi] at h
   cases hn:i - H.length with
   |zero=>rw[hn] at h;cases h;exact absurd rfl (ho _ _)
   |succ n=>rw[hn] at h;cases h
 refine⟨hi.lt,fun i sh cs e=>?_,fun i s n t e=>hi.grow i s n t (bk i _ (fun _ _ e=>by cases e) e),fun i j b e1 e2=>?_,⟨hi.tabs.1.1,fun i x e=>let ⟨h1,o,h2,h3⟩:=hi.tabs.1.2 i x (bk i _ (fun _ _ e=>by cases e) e);⟨h1,o,h2,h3.turn tr bA6⟩⟩,hi.tabs.2.1,hi.tabs.2.2.1,fun i m r1 E1 e1 e2=>?_⟩
 ·obtain⟨arr,T,fr,hb,hs,hr,hn2,hz,hsh⟩:=hi.cells i sh cs (bk i _ (fun _ _ e=>by cases e) e)
  exact⟨arr,T,fr,hb,hs,fun j x v ex ev=>tr (hr j x v ex ev),hn2,hz,hsh⟩
 ·have hs: ∀i b,site G (H++[.loop r E]) i=some b->site G H i=some b:=fun i b e=>by
   unfold site at e⊢;cases ho:(H++[AObj.loop r E])[i]? with
   |none=>rw[ho] at e;cases e
   |some o=>
    rw[ho] at e;cases o with
    |loop _ _=>cases e
    |gone=>cases e
    |cells _ _=>rw[bk i _ (fun _ _ e=>by cases e) ho];exact e
    |mo _=>rw[bk i _ (fun _ _ e=>by cases e) ho];exact e
    |grow _ _ _=>rw[bk i _ (fun _ _ e=>by cases e) ho];exact e
  exact hi.apart i j b (hs i b e1) (hs j b e2)
 ·rcases xq8 i H.length with hil|hil
  ·rw[xq4 hil] at e2
   obtain⟨h1,h2,h3⟩:=hi.tabs.2.2.2 i m r1 E1 e1 e2;exact⟨h1,h2,fun t=>⟨(h3 t).1,tr (h3 t).2⟩⟩
  ·rw[xq5 hil] at e2
   cases hn:i - H.length with
   |succ n=>rw[hn] at e2;cases e2
   |zero=>
    rw[hn] at e2;cases e2
    obtain rfl:i=H.length:=by omega
    rw[hl] at e1;cases e1
    exact⟨himm,hrec,fun t=>⟨(henv t).low,tr (henv t)⟩⟩
def Marks(G:Gh)(w:World)(b0:Nat):List Deferred->Prop
 |[]=>True
 |d::r=>(∃D,d={target:=.collected D,args:= #[]}/\b0<=D/\(∀off,G.imm D off)/\(∀k,G.lp k≠some D)/\w.heap[D]?=some (.deferred (some []))/\ ∀d'∈r,d'≠d)/\Marks G w b0 r
def ch2(n:Nat)(ds:List Deferred)(G:Gh)(H:List AObj)(w:World)(Q:Exit->Env->List AObj->Prop):Exit->Act->World->Prop:=
 fun e a' w'=> ∃ms G' env' H',Sat n (ms++ds) G' env' H' a' w'/\Step G H w G' H' w'/\Marks G' w' w.heap.size ms/\Q e env' H'
def AWm(P:Program)(n:Nat)(c:Code)(Q:Exit->Env->List AObj->Prop)(env:Env)(H:List AObj):Prop:=
 ∀N ds G a w,Sat n ds G env H a w->c.wpIn (fw none) N P (ch2 n ds G H w Q) a w
section
variable {P:Program}{n:Nat}{Q:Exit->Env->List AObj->Prop}{env:Env}{H:List AObj}
theorem ak0{c:Code}(h:AW P n c Q env H):AWm P n c Q env H:=fun N ds G a w s=>
 wpIn_mono (h none N ds G a w s) fun _ _ _ ⟨G',env',H',s',st,q⟩=>⟨[],G',env',H',s',st,trivial,q⟩
theorem Marks.step{G G':Gh}{H H':List AObj}{w w':World}{b0:Nat}(st:Step G H w G' H' w'): ∀{ms:List Deferred},Marks G w b0 ms->Marks G' w' b0 ms
 |[],_=>trivial
 |d::r,⟨⟨D,h1,h2,h3,h4,h5,h6⟩,hr⟩=>⟨⟨D,h1,h2,fun off=>st.imm _ _ (h3 off),by rw[st.lp];exact h4,(st.whole D h3).trans h5,h6⟩,hr.step st⟩
theorem Marks.lt{G:Gh}{w:World}{b0:Nat}: ∀{ms:List Deferred},Marks G w b0 ms-> ∀d∈ms,∃D,d={target:=.collected D,args:= #[]}/\b0<=D/\D < w.heap.size
 |[],_,d,hd=>by cases hd
 |d::r,⟨⟨D,h1,h2,h3,h4,h5,h6⟩,hr⟩,d',hd=>by
  rcases an8.1 hd with rfl|hd
  ·exact⟨D,h1,h2,(bF8.1 h5).1⟩
  ·exact hr.lt d' hd
theorem Marks.app{G:Gh}{w:World}{b0 b1:Nat}{ms1:List Deferred}(h1:Marks G w b0 ms1)(hlt: ∀d∈ms1,∃D,d={target:=.collected D,args:= #[]}/\D < b1)(hb:b0<=b1): ∀{ms2:List Deferred},Marks G w b1 ms2->Marks G w b0 (ms2++ms1)
 |[],_=>h1
 |d::r,⟨⟨D,e1,e2,e3,e4,e5,e6⟩,hr⟩=>⟨⟨D,e1,by omega,e3,e4,e5,fun d' hd=>by
  rcases aT2.1 hd with hd|hd
  ·exact e6 d' hd
  ·obtain⟨D',e7,e8⟩:=hlt d' hd
   intro e;rw[e7,e1] at e;injection e with e
   injection e with e
   omega⟩,h1.app hlt hb hr⟩
theorem ch2.trans{ms:List Deferred}{ds:List Deferred}{G G':Gh}{H H':List AObj}{w w':World}(hs:Step G H w G' H' w')(hm:Marks G' w' w.heap.size ms){e:Exit}{a:Act}{w'':World}(h:ch2 n (ms++ds) G' H' w' Q e a w''):ch2 n ds G H w Q e a w'':=by
 obtain⟨ms2,G'',env'',H'',s,st,hm2,q⟩:=h;exact⟨ms2++ms,G'',env'',H'',by rw[List.append_assoc];exact s,hs.trans st,(hm.step st).app (fun d hd=>let ⟨D,e1,_,e3⟩:=hm.lt d hd;⟨D,e1,e3⟩) hs.size hm2,q⟩
theorem an5{x y:Code}(h:AWm P n x (Ex (fun env H=>AWm P n y Q env H) Q) env H):AWm P n (.seq x y) Q env H:=fun N ds G a w s=>by
 refine wpIn_seq (wpIn_mono (h N ds G a w s) fun e a' w' ⟨ms,G',env',H',s',st,hm,q⟩=>?_)
 cases e with
 |normal=>exact wpIn_mono (q N (ms++ds) G' a' w' s') fun _ _ _ p=>p.trans st hm
 |_=>exact⟨ms,G',env',H',s',st,hm,q⟩
theorem bn4{id:Nat}{c:Code}(h:AWm P n c (InB id Q) env H):AWm P n (.block id c) Q env H:=fun N ds G a w s=>
 wpIn_block (wpIn_mono (h N ds G a w s) fun e a' w' ⟨ms,G',env',H',s',st,hm,q⟩=>by
  cases e with
  |exit id'=>
   simp only[Exit.inBlock];simp only[InB] at q;split<;>rename_i hid
   ·exact⟨ms,G',env',H',s',st,hm,by simpa [hid] using q⟩
   ·exact⟨ms,G',env',H',s',st,hm,by simpa [hid] using q⟩
  |_=>exact⟨ms,G',env',H',s',st,hm,q⟩)
theorem bn3{g:Operand}{ps:Array Tmp}{assign body:Code}{gf:FuncId}{caps:List AV}{fn:Func}(hg:ev env g=.fn (.func gf) [] caps)(hfn:P.funcs[gf]?=some fn)(hbody:fn.body.isSome=true)(hname:(fn.name== "runtime.NumGoroutine")=false)
  (h: ∀r:Loop,r.state=.ready->r.pending=none->r.params=ps->r.assign=assign->r.body=body->r.tmps.size=n->
   o7 P gf (.yld H.length::caps) (H++[.loop r env]) (fun _ H'=> ∃H2 M,H'=H2++ .loop r env::M/\H2.length=H.length/\(∀(k:Nat) o,H2[k]?=some o->H[k]?=some o\/o.low H.length)/\Q .normal env H2)):
  AWm P n (.rangeFunc g ps assign body) Q env H:=fun N ds G a w s=>by
 have hge:=s.ev g;rw[hg] at hge;generalize hv:a.eval g=gv at hge;cases hge with
 |fn _ _ _ fa lb hf hc hrf hrc=>
 obtain rfl:fa= #[]:=cN6 hf;refine wpIn_rangeFunc fun f0 _=>?_
 obtain⟨rec,hrec⟩: ∃rec:Loop,rec={state:=.ready,pending:=none,fn:=f0,tmps:=a.tmps,params:=ps,assign,body,defers:=w.heap.size}:=⟨_,rfl⟩;obtain⟨W1,hW1⟩: ∃W1,(w.alloc (.deferred (some []))).alloc (.loop rec)=W1:=⟨_,rfl⟩;have hL1:W1.heap[w.heap.size+1]?=some (.loop rec):=by
  rw[<-hW1];have:=World.alloc_heap_new (w.alloc (.deferred (some []))) (.loop rec);rwa [World.size_alloc] at this
 have hK1:W1.heap[w.heap.size]?=some (.deferred (some [])):=by
  rw[<-hW1];exact(RowKit.Below.heap_alloc _ _ _ (by simp)).trans (World.alloc_heap_new w _)
 have hm1:More w W1:=by rw[<-hW1];exact((More.refl w).alloc _).alloc _
 have hsz1:W1.heap.size=w.heap.size+2:=by rw[<-hW1];simp
 let f1:Nat->Option Nat:=fun i=>if i=H.length then some (w.heap.size+1) else if i < H.length then G.lp i else none
 have hf1: ∀k,k < H.length->f1 k=(aF8 G w W1).lp k:=fun k hk=>by
  show (if k=H.length then some (w.heap.size+1) else if k < H.length then G.lp k else none)=G.lp k
  rw[if_neg (by omega),if_pos hk]
 have hfb: ∀k l,f1 k=some l->l < W1.heap.size:=fun k l e=>by
  have e:(if k=H.length then some (w.heap.size+1) else if k < H.length then G.lp k else none)=some l:=e
  split at e
  ·cases e;omega
  ·split at e
   ·have:=s.inv.tabs.2.1 k l e
    omega
   ·cases e
 have hfj: ∀k k' l,f1 k=some l->f1 k'=some l->k=k':=fun k k' l e e'=>by
  have e:(if k=H.length then some (w.heap.size+1) else if k < H.length then G.lp k else none)=some l:=e
  have e':(if k'=H.length then some (w.heap.size+1) else if k' < H.length then G.lp k' else none)=some l:=e'
  split at e
  ·cases e
   split at e'
   ·omega
   ·split at e'
    ·have:=s.inv.tabs.2.1 k' _ e'
     omega
    ·cases e'
  ·split at e
   ·split at e'
    ·cases e'
     have:=s.inv.tabs.2.1 k _ e;omega
    ·split at e'
     ·exact s.inv.tabs.2.2.1 k k' l e e'
     ·cases e'
   ·cases e
 have hi1:HInv (aC5 (aF8 G w W1) f1) H W1:=(hm1.inv s.inv).lp hf1 hfb hfj;have himm: ∀b,w.heap.size<=b->b < W1.heap.size-> ∀off,(aC5 (aF8 G w W1) f1).imm b off:=fun b h1 h2 off=>.inr ⟨h1,h2⟩
 have tr1: ∀{x v},Rel G H w x v->Rel (aC5 (aF8 G w W1) f1) H W1 x v:=fun r=>(r.mono (hm1.step s.inv)).lp hf1
 have hlp:f1 H.length=some (w.heap.size+1):=if_pos rfl;have hi2:HInv (aC5 (aF8 G w W1) f1) (H++[.loop rec env]) W1:=hi1.tell hlp (himm _ (by omega) (by omega)) hL1 (fun t=>by
  rw[hrec];exact tr1 (s.env t))
 have tr2: ∀{x v},Rel G H w x v->Rel (aC5 (aF8 G w W1) f1) (H++[.loop rec env]) W1 x v:=fun r=>(tr1 r).turn (fun _=>rfl) bA6
 have hargs:ax2 (aC5 (aF8 G w W1) f1) (H++[.loop rec env]) W1 (.yld H.length::caps) (#[.func (.yield (w.heap.size+1)) #[] #[]]++lb):=by
  refine⟨by simp[hc];omega,fun j x v ex ev=>?_⟩
  cases j with
  |zero=>
   rw[bu1 (by simp)] at ev
   cases ex
   cases ev
   exact .yld _ _ (.loop rec env) (by simp) hlp
  |succ j=>
   simp only[List.getElem?_cons_succ] at ex;rw[cN5 (by simp)] at ev
   exact tr2 (hrc j x v ex (by simpa using ev))
 have hcall:=(h rec (by rw[hrec]) (by rw[hrec]) (by rw[hrec]) (by rw[hrec]) (by rw[hrec]) (by rw[hrec];exact s.size)) _ W1 _ hi2 hargs
 have hcalls:=hcall.calls hfn hbody hname;have eg: ∀args w,(callFunc gf args).run P w=.ok (.enter gf args) w:=fun args w=>by
  have hb':fn.body≠none:=by intro e;rw[e] at hbody;cases hbody
  have hn':fn.name≠ "runtime.NumGoroutine" :=by simpa using hname
  simp[callFunc,hfn,hb',hn']
 refine⟨w.heap.size+1,[{target:=.collected w.heap.size,args:= #[]}],W1,{target:=.fn (.func gf) lb,args:= #[.func (.yield (w.heap.size+1)) #[] #[]]},W1,gf,
  #[.func (.yield (w.heap.size+1)) #[] #[]]++lb,W1,?_,?_,fun _ _=>trivial,?_,fun e=>?_,?_⟩
 ·rw[<-hW1,hrec];exact run_enterLoop_outer _ _ _ _ _
 ·simp only[resolve,hv]
  simp[go_sem]
 ·simp only[invoke]
  exact eg _ _
 ·simp[fw,Fence.wide] at e
 ·refine bZ7 (Calls.mono hcalls ?_)
  rintro e w3 ⟨v,rfl,x,G3,H3,hi3,st3,hx3,H2,M,rfl,hlen,hlow,hq⟩
  have hst:rec.state=.ready:=by rw[hrec]
  have hpd:rec.pending=none:=by rw[hrec]
  have hlp3:G3.lp H.length=some (w.heap.size+1):=by rw[st3.lp];exact hlp
  have hlpk: ∀k,k < H.length->G3.lp k=G.lp k:=fun k hk=>by rw[st3.lp];exact hf1 k hk
  have hk3:(H2++ .loop rec env::M)[H.length]?=some (.loop rec env):=by
   rw[xq5 (by omega),hlen,ao4];rfl
  obtain⟨himm3,hrec3,_⟩:=hi3.tabs.2.2.2 H.length _ _ _ hlp3 hk3;have htake:(H2++AObj.loop rec env::M).take H.length=H2:=by rw[<-hlen,aQ6]
  have hsz3:=st3.size;refine⟨_,_,run_endLoop hrec3 (by rw[hst];simp),?_⟩
  rw[hpd];have hne: ∀k,G.lp k≠some (w.heap.size+1):=fun k e=>by have:=s.inv.tabs.2.1 k _ e;omega
  have hneD: ∀k,G.lp k≠some w.heap.size:=fun k e=>by have:=s.inv.tabs.2.1 k _ e;omega
  have hc4:=fun x a=>aR0 (o':=.loop x) hrec3 (ax4 _) (ax4 _) a
  have hcut:=hi3.cut H.length (fun k o hk e=>(hlow k o (by rw[xq4 (by omega)] at e;exact e)).elim s.inv.low id)
  rw[htake] at hcut;have hcut2:=hcut.lp (f:=G.lp) (fun k hk=>(hlpk k (by omega)).symm) (fun k l e=>by have:=s.inv.tabs.2.1 k l e;omega) s.inv.tabs.2.2.1
  have tr4: ∀{x v o},Rel G H w x v->Rel (aC5 G3 G.lp) H2 (w3.putObj (w.heap.size+1) (.loop o)) x v:=fun r=>by
   have h3:=((tr2 r).mono st3).cut H.length r.low;rw[htake] at h3;exact(h3.lp (f:=G.lp) (fun k hk=>(hlpk k (by omega)).symm)).turn (hc4 _) bl2
  have hD3:w3.heap[w.heap.size]?=some (.deferred (some [])):=(st3.whole _ (himm _ (xq0 _) (by omega))).trans hK1
  refine⟨[{target:=.collected w.heap.size,args:= #[]}],aC5 G3 G.lp,env,H2,⟨s.size,by rw[<-s.defers],fun t=>tr4 (s.env t),hcut2.put hrec3 (ax4 _) (ax4 _) hne dR7⟩,?_,?_,hq⟩
  ·refine⟨?_,st3.tape.trans hm1.tape,st3.output.trans hm1.output,by rw[World.putObj_size];omega,fun b off e=>st3.imm _ _ (.inl e),fun b off e=>?_,fun b e=>?_,fun k=>?_⟩
   ·exact congrArg (fun o=>(o,G.lp)) (st3.osEq.trans hm1.os)
   ·exact(hc4 _ _).trans ((st3.cell b off (.inl e)).trans (World.cell?_of_block (w:=w) (hm1.old b (s.inv.lt b off e))))
   ·have hlt:=s.inv.lt b 0 (e 0)
    exact(World.putObj_heap_other (by omega)).trans ((st3.whole b fun off=>.inl (e off)).trans (hm1.old b hlt))
   ·have o3:=st3.obj k
    rcases xq8 k H.length with hk|hk
    ·rw[xq4 hk] at o3
     unfold aI8 at o3⊢;rw[xq4 (by omega)] at o3
     exact o3
    ·rw[aw1 hk]
     exact aN5 (aw1 (by omega))
  ·refine⟨⟨w.heap.size,rfl,xq0 _,fun off=>st3.imm _ _ (himm _ (xq0 _) (by omega) off),hneD,(World.putObj_heap_other (by omega)).trans hD3,fun d' hd=>by cases hd⟩,trivial⟩
end
theorem dA8{P:Program}{L:Tab}(hL:ac7 P L){fn:Func}{n:Nat}{rs:List ResultVar}(hrs:fn.results.toList=rs){H H':List AObj}{R:AV->List AObj->Prop}{G G':Gh}{w w':World}{env':Env}{a:Act}(hi:HInv G H w)(s:Sat n ds G' env' H' a w')(st:Step G H w G' H' w')(hfin:Fin L rs H R env' H'):
  ∃v,(results fn a.tmps).run P w'=.ok v w'/\ ∃x G'' H'',HInv G'' H'' w'/\Step G H w G'' H'' w'/\Rel G'' H'' w' x v/\R x H'':=by
 unfold Fin at hfin;split at hfin
 ·rename_i p xs hres
  obtain⟨hp,x,H'',hends,hR⟩:=hfin;obtain⟨us,hrun,hlen,hrel⟩:=b41 (P:=P) hL s rs hres hp;have hres':(results fn a.tmps).run P w'=.ok (if h:us.length=1 then us[0] else .tuple us.toArray) w':=by
   rw[bV2,cN7,hrs];simp only[Sem.run_bind,Sem.run_map];rw[hrun];simp only[Result.andThen_ok,Sem.run_pure,aK9,List.getElem_toArray]
  have hrx:Rel G' H' w' (aO7 xs) (if h:us.length=1 then us[0] else .tuple us.toArray):=by
   unfold aO7;split
   ·have h1:us.length=1:=by simpa using hlen
    rw[dif_pos h1];exact hrel 0 _ _ rfl (by simp[h1])
   ·rename_i hne
    have h1:us.length≠1:=by
     intro h1;rw[hlen] at h1;obtain⟨y,hy⟩:=List.length_eq_one_iff.1 h1;exact hne y hy
    rw[dif_neg h1];exact .tup _ _ (by simpa using hlen) fun j x v e e'=>hrel j x v e (by simpa using e')
  obtain⟨G'',hi'',st'',hrx''⟩:=hends G w G' w' _ hi s.inv st hrx;exact⟨_,hres',x,G'',H'',hi'',st'',hrx'',hR⟩
 ·exact hfin.elim
theorem bK3{P:Program}{F:Fence}{N:Nat}{fn:Func}{n:Nat}{H H':List AObj}{G G':Gh}{w:World}{env':Env}{a:Act}{R:Ending->World->Prop}(hi:HInv G H w)
  (hend: ∀w',Sat n a.defers G' env' H' a w'->Step G H w G' H' w'-> ∃v,(results fn a.tmps).run P w'=.ok v w'/\R (.returned v) w'):
  ∀(ms:List Deferred) (w':World),Sat n a.defers G' env' H' a w'->Step G H w G' H' w'->Marks G' w' w.heap.size ms->LeavesInM F N P fn a.tmps R ms .returning w'
 |[],w',s,st,_=>hend w' s st
 |d::r,w',s,st,⟨⟨D,h1,h2,h3,h4,h5,h6⟩,hr⟩=>by
  have hnD: ¬ ∀off,G.imm D off:=fun e=>by have:=hi.lt D 0 (e 0);omega
  have hc:=fun x=>aR0 (o':=.deferred none) h5 (aI9 _) (aI9 _) x
  refine⟨by simp,.inl ⟨D,w'.putObj D (.deferred none),by rw[h1],run_takeDeferred h5,?_⟩⟩
  refine bK3 hi hend r _ ⟨s.size,s.defers,fun t=>(s.env t).turn hc bl2,s.inv.put h5 (aI9 _) (aI9 _) h4 cC3⟩ (st.put h5 (aI9 _) (aI9 _) hnD) ?_
  have: ∀(ms:List Deferred),(∀d'∈ms,d'≠d)->Marks G' w' w.heap.size ms->Marks G' (w'.putObj D (.deferred none)) w.heap.size ms:=by
   intro ms;induction ms with
   |nil=>intro _ _;trivial
   |cons d2 r2 ih=>
    rintro hne ⟨⟨D2,k1,k2,k3,k4,k5,k6⟩,hr2⟩
    refine⟨⟨D2,k1,k2,k3,k4,?_,k6⟩,ih (fun d' hd=>hne d' (aJ4 _ hd)) hr2⟩
    have:D2≠D:=fun e=>hne d2 (aD9 ..) (by rw[k1,h1,e])
    exact(World.putObj_heap_other this).trans k5
  exact this r h6 hr
theorem aQ5{P:Program}{L:Tab}(hL:ac7 P L){f:FuncId}{fn:Func}{c:Code}{n:Nat}{rs:List ResultVar}{args:List AV}{H:List AObj}{R:AV->List AObj->Prop}(hf:P.funcs[f]?=some fn)(hb:fn.body=some c)(hname:(fn.name== "runtime.NumGoroutine")=false)(hn:fn.ntmps=n)
  (hrs:fn.results.toList=rs) (hargs:args.length<=n) (h:AWm P n c (by5 L rs H R) (aF6 0 args) H):o7 P f args H R:=by
 intro G w vs hi hr;refine .inl ⟨fn,hf,by rw[hb];rfl,hname,?_⟩
 have hs0:Sat n [] G (aF6 0 args) H {tmps:=vs++Array.replicate (fn.ntmps - vs.size) undef,defers:=[]} w:=by
  refine⟨by simp[hr.1];omega,rfl,fun t=>?_,hi⟩
  rw[bO6];simp only[aC0,if_true,aO5];by_cases ht:t < args.length
  ·rw[xq1 ht]
   have hv:t < vs.size:=by rw[hr.1];exact ht
   rw[ap3,bu1 hv,xq2 hv];exact hr.2 t _ _ (xq1 ht) (xq2 hv)
  ·rw[aw1 (by omega)]
   exact .any _
 refine(callsIn_wide (n:=0)).1 (callsIn_of_wp_marks (F:=fw none) hf hb trivial (wpIn_mono (h 0 [] G _ w hs0) fun e a w' hq=>?_))
 obtain⟨ms,G',env',H',s,st,hm,q⟩:=hq;have hd:a.defers=ms:=by rw[s.defers,List.append_nil]
 have key:Fin L rs H R env' H'->LeavesInM (fw none) 0 P fn a.tmps (fun e w'=> ∃v,e=.returned v/\ ∃x G' H',HInv G' H' w'/\Step G H w G' H' w'/\Rel G' H' w' x v/\R x H') a.defers .returning w':=fun hfin=>by
  rw[hd];refine bK3 hi (fun w' s st=>?_) ms w' (by rw[hd,<-List.append_nil ms];exact s) st hm
  obtain⟨v,h1,x,G'',H'',h2⟩:=dA8 hL hrs hi s st hfin;exact⟨v,h1,v,rfl,x,G'',H'',h2⟩
 cases e with
 |normal=>exact key q
 |ret=>exact key q
 |exit _=>exact q.elim
 |goto _=>exact q.elim
 |panic _=>exact q.elim
 |outgrown=>exact q.elim
end V
end
section
open Go V
theorem cM2{xs:List AV}{n:Nat}{H:List AObj}(hn:1<=n)(hn2:n<=1000000):o7 Tryz.prog 253 [.sl .sh 1 xs,.lit (.int .i64 (n:Int))] H (fun y H'=>y=.fn (.func 338) [] [.ip (.sl .sh 1 xs),.ip (.lit (.int .i64 (n:Int)))]/\H'=H):=by
 have h1:((n:Int) < 1)=False:=eq_false (by omega)
 refine o8 [] [.tmp 4] 9 Tryz.func253 ?_;repeat' first|refine l9 ?_|simp -dsimp -implicitDefEqProofs only[go_sem,h1]
 exact o5 ⟨rfl,rfl⟩
theorem dC2{k c n:Nat}(b:List UInt8)(Hs:Nat->List AObj)(hn:1<=n)(hc:b.length=c*n)(hb:b.length<=1000000000)(hlen:(Hs 0).length<=(Hs c).length)
  (hy: ∀i,i < c->aF9 Tryz.prog k [.sl .full 1 (((b.drop (i*n)).take n).map o6)] (Hs i) (fun x H'=>x=.lit (.bool true)/\H'=Hs (i+1))):
  o7 Tryz.prog 338 [.yld k,.ip (.sl .sh 1 (b.map o6)),.ip (.lit (.int .i64 (n:Int)))] (Hs 0) (fun x H'=>x=.tup []/\H'=Hs c):=by
 refine o8 [1000003] [] 31 Tryz.func338 ?_;repeat' simp -dsimp -implicitDefEqProofs only[go_sem]
 refine aa7 ab6 mixed [1000003] [0,1,2] (fun i:Nat=>i<=c) (fun i=>[(4,.lit (.int .i64 ((i*n:Nat):Int)))]) Hs (fun i=>c - i) (by kernel_rfl) ?_ 0 (by omega) aa3 rfl
 intro i hi;by_cases hic:i < c
 ·have h1:(i+1)*n<=c*n:=aG2 n (by omega)
  have h2:(i+1)*n=i*n+n:=by rw[aA1,bt7]
  have hY:=hy i hic;rw[h2] at h1;generalize hin:i*n=a at*;have hlt:((a:Int) < ((b.length:Nat):Int))=True:=eq_true (by omega)
  have hm:min ((n:Int)) (((b.length - a:Nat)):Int)=(n:Int):=by omega
  have hz:((a:Int)+(n:Int)).toNat - a=n:=by omega
  repeat' first|refine l9 ?_|simp -dsimp -implicitDefEqProofs (disch:=first|omega|simp only[ll];omega) only[go_sem,hlt,hm,hz]|refine bj7 (hY) ?_|refine vcA ?_ ?_|omega
  refine again (i+1) ?_ ?_ ?_ aa3
  ·omega
  ·omega
  ·rfl
 ·obtain rfl:i=c:=by omega
  have hlt:(((i*n:Nat):Int) < ((b.length:Nat):Int))=False:=eq_false (by omega)
  repeat' first|refine l9 ?_|simp -dsimp -implicitDefEqProofs only[go_sem,hlt]
  exact aa5 _ (Le.refl _) hlen ⟨rfl,rfl⟩
def aK6(s:Sha.St 32)(b:List UInt8)(i:Nat):Sha.St 32:=((chunks 64 b).take i).foldl (fun s c=>ad7.take s (wordsOf 32 c)) s
theorem cW5{s:Sha.St 32}{b:List UInt8}{i:Nat}(h:i < b.length/64):aK6 s b (i+1)=ad7.take (aK6 s b i) (wordsOf 32 ((b.drop (i*64)).take 64)):=by
 have hl:(chunks 64 b).length=b.length/64:=by simp[chunks]
 unfold aK6;rw[bn9 (by omega),bQ8]
 simp[chunks]
theorem dm9(x:BitVec 32):IntKind.u32.wrap ((x.toNat:Int)*256)=((x<<<8).toNat:Int):=by
 rw[BitVec.toNat_shiftLeft,cd5];simp[IntKind.wrap,IntKind.signed,IntKind.bits]
theorem dL2(x:BitVec 32)(b:UInt8):IntKind.u32.wrap (((BitVec.ofInt IntKind.u32.bits (x.toNat:Int)|||BitVec.ofInt IntKind.u32.bits (b.toNat:Int)).toNat:Nat):Int)=((x|||BitVec.ofNat 32 b.toNat).toNat:Int):=by
 have:(b.toNat:Int)=((BitVec.ofNat 32 b.toNat).toNat:Int):=by
  rw[bz7,bu0 (by have:=b.toNat_lt;omega)]
 rw[this,u32_or]
theorem ee3{P:Program}{n:Nat}{c:Code}{env:Env}{H B:List AObj}(hB:H.length<=B.length)(hlow: ∀(k:Nat) o,B[k]?=some o->H[k]?=some o\/o.low B.length)(h:AW P n c (fun e _ H2=>e=.normal/\ ∃M,H2=B++M) env H):AW P n c (fun e _ H2=>e=.normal/\H2=B) env H:=fun ro N ds G a w s=>by
 refine wpIn_mono (h ro N ds G a w s) fun e a' w' ⟨G',env',H',s',st,he,M,hM⟩=>?_
 subst hM;have hcut:=s'.inv.cut B.length (fun k o hk e=>(hlow k o (by rw[xq4 hk] at e;exact e)).elim (fun h=>AObj.low_mono hB (s.inv.low h)) id)
 rw[aQ6] at hcut;refine⟨G',[],B,⟨s'.size,s'.defers,fun t=>.any _,hcut⟩,?_,he,rfl⟩
 refine⟨st.os,st.tape,st.output,st.size,st.imm,st.cell,st.whole,fun k=>?_⟩
 have o:=st.obj k;rcases xq8 k H.length with hk|hk
 ·unfold aI8 at o⊢
  rw[xq4 (by omega)] at o
  exact o
 ·rw[aw1 hk] at o⊢
  intro r E e;rcases xq8 k B.length with hb|hb
  ·exact o r E (by rw[xq4 hb];exact e)
  ·rw[aw1 hb] at e;cases e
theorem bytes4(x:Nat):bytesOf 4 x=[UInt8.ofNat (x/16777216),UInt8.ofNat (x/65536),UInt8.ofNat (x/256),UInt8.ofNat x]:=by
 have:bytesOf 4 x=[UInt8.ofNat (x/256^3),UInt8.ofNat (x/256^2),UInt8.ofNat (x/256^1),UInt8.ofNat (x/256^0)]:=rfl;rw[this];simp
theorem d89(a:List UInt8)(n:Nat):a.map o6++[.lit (.int .u8 (IntKind.u8.wrap (n:Int)))]=(a++[UInt8.ofNat n]).map o6:=by
 rw[bG6];simp[o6]
theorem c04{blk:List UInt8}{j:Nat}(hb:blk.length=64)(h:j < 64):((wordsOf 32 (blk.take j)).map (wAV .u32)).set (j/4) (wAV .u32 ((wordsOf 32 (blk.take j)).getD (j/4) 0<<<8|||BitVec.ofNat 32 (blk.getD j 0).toNat))=(wordsOf 32 (blk.take (j+1))).map (wAV .u32):=by
 have hl:(blk.take j).length=j:=by rw[List.length_take];omega
 have:=ci2 (w:=32) (l:=blk.take j) (b:=blk.getD j 0) (by decide) (by rw[hl];show j < 16*4;omega)
 rw[hl] at this;rw[<-bz6];congr 1
 rw[bn9 (by omega),show blk[j]'(by omega)=blk.getD j 0 by simp[List.getD,xq1 (show j < blk.length by omega)]]
 exact this.symm
theorem dN4{k:Nat}{s:Sha.St 32}{H:List AObj}{r:Loop}{E:Env}{assign body:Code}(blk:List UInt8)(hkl:k < H.length)(hbl:blk.length=64)(hE:get E 3=.ip (.mp k 0)/\get E 5=.ip (.lit (.int .i64 4)))
  (hr1:r.state=.ready) (hr2:r.pending=none) (hr3:r.params= #[19]) (hr6:r.tmps.size=67) (hr4:r.assign=assign) (hr5:r.body=body)
  (hA:AW Tryz.prog 67 assign (Ex (fun env1 H1=>AW Tryz.prog 67 body (fun e _ H2=>e=.normal/\H2=H.set k (aG7 (ad7.take s (wordsOf 32 blk)))++[.loop (busy r) E]) env1 (H1.set H.length (.loop (busy r) E))/\H1[H.length]?=some (.loop r E)) (fun _ _ _=>False)) ((19,.sl .full 1 (blk.map o6))::E) (H.set k (aG7 s)++[.loop r E])):
  aF9 Tryz.prog H.length [.sl .full 1 (blk.map o6)] (H.set k (aG7 s)++[.loop r E]) (fun x H'=>x=.lit (.bool true)/\H'=H.set k (aG7 (ad7.take s (wordsOf 32 blk)))++[.loop r E]):=by
 have hlen: ∀o,(H.set k o).length=H.length:=fun o=>List.length_set
 have hat: ∀o x,(H.set k o++[x])[H.length]?=some x:=fun o x=>by
  rw[xq5 (by rw[hlen];exact xq0 _),hlen,ao4]
  rfl
 have hst: ∀o x y,(H.set k o++[x]).set H.length y=H.set k o++[y]:=fun o x y=>by
  rw[az0 _ _ (by rw[hlen];exact xq0 _),hlen,ao4]
  rfl
 have:=bz0 (P:=Tryz.prog) (k:=H.length) (n:=67) (p:=19) (r:=r) (E:=E) (arg:=.sl .full 1 (blk.map o6)) (H:=H.set k (aG7 s)++[.loop r E]) (B:=H.set k (aG7 (ad7.take s (wordsOf 32 blk)))++[.loop (busy r) E]) (hat _ _) hr1 hr2 hr3 hr6 (by omega) (by rw[hr4,hr5];exact hA)
 rw[hst] at this;exact this
theorem el7{k:Nat}{s:Sha.St 32}{H:List AObj}(b:List UInt8)(hk:H[k]?=some (aG7 s))(hb:b.length=b.length/64*64)(hb2:b.length<=1000000000):
  o7 Tryz.prog 307 [.mp k 0,.sl .sh 1 (b.map o6),.lit (.int .i64 4)] H (fun x H'=>x=.sl .sh 1 (((aK6 s b (b.length/64)).list.flatMap fun x=>bytesOf 4 x.toNat).map o6)/\H'=H.set k (aG7 (aK6 s b (b.length/64)))):=by
 have hkl:=aa0 hk;refine aQ5 ab6 (rs:=[.tmp 6]) (n:=67) Tryz.func307 rfl rfl rfl rfl (nlb rfl) ?_;refine an5 (ak0 (ad2 ab6 mixed (mu:=[]) _ ?ok ?_));case ok=>kernel_rfl
 repeat' simp -dsimp -implicitDefEqProofs only[go_sem]
 refine an5 ?_;refine an5 (ak0 (ad2 ab6 mixed (mu:=[]) _ ?ok ?_));case ok=>kernel_rfl
 have hch:=fun H=>cM2 (xs:=b.map o6) (n:=64) (H:=H) (by omega) (by omega)
 repeat' first|simp -dsimp -implicitDefEqProofs (disch:=omega) only[go_sem]|refine l7 (hch _) ?_|fail
 refine bn4 ?_;refine bn3 rfl Tryz.func338 rfl rfl ?_;intro r hr1 hr2 hr3 hr4 hr5 hr6;have hs0:aK6 s b 0=s:=rfl;have h0:H.set k (aG7 (aK6 s b 0))=H:=by rw[hs0];exact ba2 hk
 generalize hE:[(18,AV.fn (.func 338) [] [.ip (.sl .sh 1 (b.map o6)),.ip (.lit (.int .i64 64))]),(17,.int .i64 64),(16,.lit (.int .i64 4)),(15,.sl .sh 1 (b.map o6)),(6,.sl .full 0 []),(5,.ip (.lit (.int .i64 4))),(3,.ip (.mp k 0)),(0,.mp k 0),(1,.sl .sh 1 (b.map o6)),(2,.lit (.int .i64 4))]=E;have hE3:get E 3=.ip (.mp k 0):=by rw[<-hE];rfl
 have hE5:get E 5=.ip (.lit (.int .i64 4)):=by rw[<-hE];rfl
 have hE6:get E 6=.sl .full 0 []:=by rw[<-hE];rfl
 have hC:=dC2 (k:=H.length) (c:=b.length/64) (n:=64) b (fun i=>H.set k (aG7 (aK6 s b i))++[.loop r E]) (by omega) hb hb2 (by simp) (fun i hi=>by
  have hbl:((b.drop (i*64)).take 64).length=64:=by rw[List.length_take,List.length_drop];omega
  rw[cW5 hi];generalize (b.drop (i*64)).take 64=blk at*;generalize aK6 s b i=st at*;refine dN4 blk hkl hbl ⟨hE3,hE5⟩ hr1 hr2 hr3 hr6 hr4 hr5 ?_;have hlen: ∀o,(H.set k o).length=H.length:=fun o=>List.length_set
  have hat: ∀o x,(H.set k o++[x])[H.length]?=some x:=fun o x=>by
   rw[xq5 (by rw[hlen];exact xq0 _),hlen,ao4]
   rfl
  have hst: ∀o x y,(H.set k o++[x]).set H.length y=H.set k o++[y]:=fun o x y=>by
   rw[az0 _ _ (by rw[hlen];exact xq0 _),hlen,ao4]
   rfl
  have hnl: ∀m,(AObj.loop (busy r) E).low m:=fun _=>trivial
  generalize AObj.loop (busy r) E=lpb at*;generalize AObj.loop r E=lp at*;subst hE;refine ad2 ab6 mixed (mu:=[]) _ ?ok ?_;case ok=>kernel_rfl
  repeat' simp -dsimp -implicitDefEqProofs only[go_sem]
  all_goals first|exact hat _ _|rw[hst]|skip
  refine ee3 (by simp) (fun j o e=>?_) (ad2 ab6 mixed (mu:=[1000007]) _ ?ok ?_)
  case ok=>kernel_rfl
  ·rcases xq8 j H.length with hj|hj
   ·by_cases hjk:j=k
    ·subst hjk
     rw[xq4 (by rw[hlen];exact hj),aA0 hj] at e
     exact .inr (Option.some.inj e▸aA5 (fun sh cs h=>cR2 sh cs h) rfl)
    ·rw[xq4 (by rw[hlen];exact hj),ar6 (Ne.symm hjk)] at e
     exact .inl (by rw[xq4 (by rw[hlen];exact hj),ar6 (Ne.symm hjk)];exact e)
   ·rw[xq5 (by rw[hlen];exact hj),hlen] at e
    cases hn:j - H.length with
    |zero=>rw[hn] at e;exact .inr (Option.some.inj e▸hnl _)
    |succ n=>rw[hn] at e;cases e
  repeat' simp -dsimp -implicitDefEqProofs only[go_sem]
  refine aa7 ab6 mixed [1000007] [3,5,8,20,21] (fun j:Nat=>j<=64) (fun j=>[(22,.lit (.int .i64 j))]) (fun j=>H.set k (aG7 st)++[lpb,.cells (.one 466) ((wordsOf 32 (blk.take j)).map (wAV .u32))]) (fun j=>64 - j) (by kernel_rfl) ?_ 0 (by omega) aa3 (by rw[an6,cy5,bL3];rfl)
  intro j hj;have hwl:=bJ4 32 (blk.take j);by_cases hjl:j < 64
  ·have hws:=c04 hbl hjl
   have hjc:((j:Int) < 64)=True:=eq_true (by omega)
   have z1:((j:Int)/4).toNat=j/4:=by omega
   have hgw:=bs6 (K:=.u32) (m:=wordsOf 32 (blk.take j)) (i:=j/4) (by omega)
   repeat' first|refine l9 ?_|simp -dsimp -implicitDefEqProofs (disch:=omega) only[go_sem,hjc,hbl,z1,hwl,hgw,dm9,dL2,hws]|refine vcA ?_ ?_|omega
   refine again (j+1) ?_ ?_ ?_ aa3
   ·omega
   ·omega
   ·rfl
  ·obtain rfl:j=64:=by omega
   rw[aF0 (by omega)] at hwl⊢
   repeat' first|refine l9 ?_|simp -dsimp -implicitDefEqProofs (disch:=(simp only[ll];omega)) only[go_sem,hbl,hwl,br1 hkl,bM7 hkl]|refine l7 (d40 (s:=st) (wordsOf 32 blk) (br1 hkl) hwl) ?_|fail
   exact⟨[.cells (.one 466) ((wordsOf 32 blk).map (wAV .u32))],by simp⟩)
 rw[h0] at hC;refine hC.mono fun x H' ⟨_,hH⟩=>⟨H.set k (aG7 (aK6 s b (b.length/64))),[],hH,by simp,fun j o e=>?_,?_⟩
 ·by_cases hjk:j=k
  ·subst hjk
   rw[aA0 hkl] at e;exact .inr (Option.some.inj e▸aA5 (fun sh cs h=>cR2 sh cs h) rfl)
  ·rw[ar6 (Ne.symm hjk)] at e
   exact .inl e
 ·rw[ba7,bb5]
  clear hC h0 hs0 hE3 hE5 hE6;subst hE;generalize aK6 s b (b.length/64)=st at*;have hro:aG7 st=.cells (.one 388) (st.list.map (wAV .u32)++aE6):=cI0 st;have hlw:=fun(m:Nat)=>cR2 (m:=m) (s:=st)
  rw[hro] at hlw⊢;have hsl:st.list.length=8:=rfl;generalize st.list=hl at*;have ht8:(hl.map (wAV .u32)++aE6).take 8=hl.map (wAV .u32):=cd4 (by rw[List.length_map];exact hsl)
  have hat0:(H.set k (.cells (.one 388) (hl.map (wAV .u32)++aE6)))[k]?=some (.cells (.one 388) (hl.map (wAV .u32)++aE6)):=aA0 hkl;have hlen: ∀o,(H.set k o).length=H.length:=fun o=>List.length_set
  generalize hq:(hl.map (wAV .u32)++aE6)=qs at*;have hql:8<=qs.length:=by rw[<-hq,List.length_append,List.length_map];omega
  refine ak0 (ad2 ab6 mixed (mu:=[]) _ ?ok ?_);case ok=>kernel_rfl
  repeat' simp -dsimp -implicitDefEqProofs only[go_sem,hat0,ht8,hql]
  refine bt1 11 1 rfl (by decide) (fun h=>absurd rfl h) ?_
  rw[List.length_set];refine aa7 ab6 mixed [] [5,6] (fun i:Nat=>i<=8) (fun i=>[(47,.agg (hl.map (wAV .u32))),(48,.lit (.int .i64 i)),(11,.sl (.tok H.length) 1 (((hl.take i).flatMap fun x=>bytesOf 4 x.toNat).map o6))]) (fun i=>H.set k (.cells (.one 388) qs)++[.grow 1 (4*i) none]) (fun i=>8 - i) (by kernel_rfl) ?_ 0 (by omega) aa3 rfl
  intro i hi;have hfl: ∀l:List (BitVec 32),(l.flatMap fun x=>bytesOf 4 x.toNat).length=4*l.length:=fun l=>by
   induction l with
   |nil=>rfl
   |cons x r ih=>rw[List.flatMap_cons,List.length_append,ih,bK7,List.length_cons];omega
  by_cases hi8:i < 8
  ·have hic:((i:Int) < 8)=True:=eq_true (by omega)
   have hgx:=bs6 (K:=.u32) (m:=hl) (i:=i) (by omega)
   have hnx:(hl.take (i+1)).flatMap (fun x=>bytesOf 4 x.toNat)=(hl.take i).flatMap (fun x=>bytesOf 4 x.toNat)++bytesOf 4 (hl.getD i 0).toNat:=by
    rw[bn9 (by omega),List.flatMap_append,List.getD,xq1 (by omega)]
    simp
   have hol:=hfl (hl.take i);rw[List.length_take,bL6 (by omega)] at hol
   rw[bytes4] at hnx;generalize (hl.take i).flatMap (fun x=>bytesOf 4 x.toNat)=out at*
   generalize hl.getD i 0=x at*;obtain⟨g,g0,g1,g2,g3,g4,gl⟩: ∃g:Nat->List UInt8,out=g 0/\g 0++[UInt8.ofNat (x.toNat/16777216)]=g 1/\g 1++[UInt8.ofNat (x.toNat/65536)]=g 2/\g 2++[UInt8.ofNat (x.toNat/256)]=g 3/\g 3++[UInt8.ofNat x.toNat]=g 4/\ ∀q,q<=4->(g q).length=4*i+q:=
    ⟨fun q=>out++[UInt8.ofNat (x.toNat/16777216),UInt8.ofNat (x.toNat/65536),UInt8.ofNat (x.toNat/256),UInt8.ofNat x.toNat].take q,by simp,by simp,by simp,by simp,by simp,fun q hq=>by rw[List.length_append,List.length_take,hol];simp only[List.length_cons,List.length_nil];omega⟩
   have hnx4:(hl.take (i+1)).flatMap (fun x=>bytesOf 4 x.toNat)=g 4:=by
    rw[hnx,g0,<-g4,<-g3,<-g2,<-g1];simp
   clear hnx;subst g0;repeat' first|refine l9 ?_|simp -dsimp -implicitDefEqProofs (disch:=omega) only[go_sem,hic,hgx,hsl]|refine vcA ?_ ?_|omega
   refine aa7 ab6 mixed [] [5,6,13,47,48] (fun q:Nat=>q<=4) (fun q=>[(14,.lit (.int .i64 (3 - (q:Int)))),(11,.sl (.tok H.length) 1 ((g q).map o6))]) (fun q=>H.set k (.cells (.one 388) qs)++[.grow 1 (4*i+q) none]) (fun q=>4 - q) (by kernel_rfl) ?_ 0 (by omega) aa3 rfl
   intro q hq4;have hmB:=fun a n=>d89 a n
   have hmB0: ∀a:List UInt8,a.map o6++[.lit (.int .u8 ((x.toNat/16777216:Nat):Int))]=(a++[UInt8.ofNat (x.toNat/16777216)]).map o6:=fun a=>by
    rw[<-d89,IntWalk.u8_in _ (by have:=x.isLt;omega)]
   have hgq:=gl q hq4;have p24:(x.toNat:Int).fdiv 16777216=((x.toNat/16777216:Nat):Int):=bj2 (by decide)
   have p16:(x.toNat:Int).fdiv 65536=((x.toNat/65536:Nat):Int):=bj2 (by decide)
   have p8:(x.toNat:Int).fdiv 256=((x.toNat/256:Nat):Int):=bj2 (by decide)
   rcases(by omega:q=0\/q=1\/q=2\/q=3\/q=4) with rfl|rfl|rfl|rfl|rfl
   ·repeat' first|refine l9 ?_|simp -dsimp -implicitDefEqProofs (disch:=omega) only[go_sem,hmB,hmB0,g1,hgq]|refine vcA ?_ ?_|omega
    refine again (1) ?_ ?_ ?_ aa3
    ·omega
    ·omega
    ·rfl
   ·repeat' first|refine l9 ?_|simp -dsimp -implicitDefEqProofs (disch:=omega) only[go_sem,hmB,hmB0,g2,hgq]|refine vcA ?_ ?_|omega
    refine again (2) ?_ ?_ ?_ aa3
    ·omega
    ·omega
    ·rfl
   ·repeat' first|refine l9 ?_|simp -dsimp -implicitDefEqProofs (disch:=omega) only[go_sem,hmB,hmB0,g3,hgq]|refine vcA ?_ ?_|omega
    refine again (3) ?_ ?_ ?_ aa3
    ·omega
    ·omega
    ·rfl
   ·repeat' first|refine l9 ?_|simp -dsimp -implicitDefEqProofs (disch:=omega) only[go_sem,hmB,hmB0,g4,hgq,Nat.div_one]|refine vcA ?_ ?_|omega
    refine again (4) ?_ ?_ ?_ aa3
    ·omega
    ·omega
    ·rfl
   ·repeat' first|refine l9 ?_|simp -dsimp -implicitDefEqProofs (disch:=omega) only[go_sem]
    rw[<-hnx4];refine again (i+1) ?_ ?_ ?_ aa3
    ·omega
    ·omega
    ·rfl
  ·obtain rfl:i=8:=by omega
   have htk:hl.take 8=hl:=aF0 (by omega)
   rw[htk];repeat' first|refine l9 ?_|simp -dsimp -implicitDefEqProofs only[go_sem]
   exact aW2 (.sl .sh 1 ((hl.flatMap fun x=>bytesOf 4 x.toNat).map o6)) as4 (ac8) (hlw _) ⟨rfl,rfl⟩
def bq0(i:Nat):List (BitVec 32):=(List.range 8).map fun j=>if j < i then hOf 32 j else 0
theorem cx1(i:Nat):(bq0 i).length=8:=by simp[bq0]
theorem dD8{i:Nat}(h:i < 8):(bq0 i).set i (hOf 32 i)=bq0 (i+1):=by
 have hg: ∀i j,(bq0 i)[j]?=if j < 8 then some (if j < i then hOf 32 j else 0) else none:=fun i j=>by
  unfold bq0;rw[xq7];by_cases h1:j < 8
  ·rw[aO4 h1,if_pos h1]
   rfl
  ·rw[aw1 (by simp;omega),if_neg h1]
   rfl
 apply aW9
 intro j;rw[bu3,hg,hg,cx1];by_cases h1:j < 8
 ·rw[if_pos h1,if_pos h1]
  split
  ·rename_i e
   subst e;rw[if_pos (by omega)]
  ·rename_i e
   by_cases h3:j < i
   ·rw[if_pos h3,if_pos (by omega)]
   ·rw[if_neg h3,if_neg (by omega)]
 ·rw[if_neg h1,if_neg h1,if_neg (by omega)]
theorem dU7(i:Nat):IntKind.u32.wrap ((a02.getD i 0/4294967296:Nat):Int)=((hOf 32 i).toNat:Int):=by
 have h1:hOf 32 i=BitVec.ofNat 32 (a02.getD i 0/4294967296):=rfl;rw[h1,bz7];simp[IntKind.wrap,IntKind.signed,IntKind.bits]
theorem do0(b:List UInt8):(aK6 (bJ0 32) (padded 32 b) ((padded 32 b).length/64)).list.flatMap (fun x=>bytesOf 4 x.toNat)=sum256 b:=by
 have hl:(chunks 64 (padded 32 b)).length=(padded 32 b).length/64:=by simp[chunks]
 unfold aK6;rw[<-hl,aL1];rfl
theorem cR9(b:List UInt8):(padded 32 b).length=at7 32 b.length:=by
 have:=cn1 (w:=32) (b:=b) (t:=8*b.length) (.inl rfl);rw[cn2] at this
 ·exact this
 ·exact Nat.div_eq_of_lt (Nat.lt_pow_self (by decide))
theorem cr8{m:Nat}{l:List UInt8}:Low m (.agg (l.map o6)):=.agg _ fun x hx=>by
 obtain⟨c,_,rfl⟩:=xq9.1 hx;exact .lit _
theorem eg0{o o2:Own}(l:List UInt8)(H:List AObj)(hl:l.length<=1000000):o7 Tryz.prog 309 [.sl o 1 [.sl o2 1 (l.map o6)],.sl .full 0 []] H (fun y H'=>y=.sl .sh 1 (l.map o6)/\H'=H):=by
 refine o8 [] [.tmp 4] 92 Tryz.func309 ?_;repeat' first|refine l9 ?_|simp -dsimp -implicitDefEqProofs only[go_sem]|refine vcA ?_ ?_|omega
 all_goals exact aa1 (.sl .sh 1 (l.map o6)) as4 ac8 ⟨rfl,rfl⟩
theorem dF8{o o2:Own}(l:List UInt8)(H:List AObj)(hl:l.length<=1000000):o7 Tryz.prog 225 [.sl o 1 [.sl o2 1 (l.map o6)]] H (fun y H'=>y=.agg ((sum256 l).map o6)/\H'=H):=by
 have hJ:=fun H=>eg0 (o:=o) (o2:=o2) l H hl
 have hP:=fun H=>dq6 (o:=.sh) l H (by omega)
 have hpl:=aV1 (w:=32) (n:=l.length) (.inl rfl);have hpd:=cR9 l;have hp64:(padded 32 l).length=(padded 32 l).length/64*64:=by
  rw[hpd];unfold at7;omega
 have hS:=do0 l;have hsl:=bv1 l;generalize padded 32 l=pd at*;have hr: ∀H:List AObj,∀o1 o2:AObj,(H++[o1,o2])[H.length+1]?=some o2:=fun H o1 o2=>by
  rw[xq5 (by omega),au2]
  rfl
 have hA:=fun(o1:AObj)=>el7 (k:=H.length+1) (s:=bJ0 32) (H:=H++[o1,.cells (.one 388) ((bq0 8).map (wAV .u32)++aE6)]) pd (by rw[hr];rfl) hp64 (by omega)
 rw[hS] at hA;have hset: ∀(H:List AObj) (o1 o2 x:AObj),(H++[o1,o2]).set (H.length+1) x=H++[o1,x]:=fun H o1 o2 x=>by
  rw[az0 _ _ (by omega),au2]
  rfl
 have hft:(aa2 ((sum256 l).map o6)).take 32=(sum256 l).map o6:=by
  rw[au8 o6 (fun _=>rfl),aF0 (by rw[List.length_map];omega)]
 have hat:af4 (List.replicate 32 (AV.lit (.int .u8 0))) 0 ((sum256 l).map o6)=(sum256 l).map o6:=by
  rw[aO2 _ _ _ (by simp;omega)]
  simp[hsl]
 have htk:((sum256 l).map o6).take 32=(sum256 l).map o6:=aF0 (by rw[List.length_map];omega)
 generalize sum256 l=sm at*;generalize aK6 (bJ0 32) pd (pd.length/64)=fs at*;refine o8 [7] [.cell 2 44] 29 Tryz.func225 ?_;repeat' simp -dsimp -implicitDefEqProofs only[go_sem]
 refine aa7 ab6 mixed [7] [0,2,3,8] (fun i:Nat=>i<=8) (fun i=>[(9,.lit (.int .i64 i))]) (fun i=>H++[.cells (.one 44) (List.replicate 32 (.lit (.int .u8 0))),.cells (.one 388) ((bq0 i).map (wAV .u32)++aE6)]) (fun i=>8 - i) (by kernel_rfl) ?_ 0 (by omega) aa3 rfl
 intro i hi;have hbl:=cx1 i;by_cases h:i < 8
 ·have hic:((i:Int) < 8)=True:=eq_true (by omega)
  have hms:=dD8 h;have ho:=dU7 i;have hs1: ∀x,((bq0 i).map (wAV .u32)++aE6).set i (wAV .u32 x)=((bq0 i).set i x).map (wAV .u32)++aE6:=fun x=>by
   rw[bf8 _ _ (by rw[List.length_map];omega),bz6]
  repeat' first|refine l9 ?_|simp -dsimp -implicitDefEqProofs (disch:=first|assumption|omega) only[go_sem,hic,ho,hs1,hms,hbl]|refine vcA ?_ ?_|omega
  refine again (i+1) ?_ ?_ ?_ aa3
  ·omega
  ·omega
  ·rfl
 ·obtain rfl:i=8:=by omega
  have hal:(sm.map o6).all AV.scalar=true:=xq6.2 (bi3 fun _=>rfl)
  repeat' first|refine l9 ?_|simp -dsimp -implicitDefEqProofs (disch:=omega) only[go_sem,hset,hft,hat,htk,hsl,hal]|refine l7 (hJ _) ?_|refine l7 (hP _) ?_|refine l7 (hA _) ?_|fail
  exact aa1 _ (Le.refl _) cr8 ⟨rfl,rfl⟩
end
section
end
section
open Go V
def hexD(c:UInt8):Nat:=(hexV c).getD 0
theorem cC9(l:bytes)(c:UInt8):az8 (l++[c])=az8 l*16+hexD c:=by simp[az8,hexD]
theorem bK6{l:bytes}{i:Nat}(h:i < l.length):az8 (l.take (i+1))=az8 (l.take i)*16+hexD (l.getD i 0):=by rw[take_snoc h,cC9]
theorem dd3: ∀n:Fin 256,be0 (UInt8.ofNat n.val)=true->(48<=n.val/\n.val<=57/\hexD (UInt8.ofNat n.val)=n.val - 48)\/(65<=n.val/\n.val≠95/\97<=(BitVec.ofInt 8 (n.val:Int)|||BitVec.ofInt 8 32).toNat/\(BitVec.ofInt 8 (n.val:Int)|||BitVec.ofInt 8 32).toNat<=102/\hexD (UInt8.ofNat n.val)+87=(BitVec.ofInt 8 (n.val:Int)|||BitVec.ofInt 8 32).toNat):=by decide+kernel
def b54(c:UInt8):Nat:=(BitVec.ofInt 8 (c.toNat:Int)|||BitVec.ofInt 8 32).toNat
theorem b92{c:UInt8}(h:be0 c=true):(48<=c.toNat/\c.toNat<=57/\hexD c=c.toNat - 48)\/(65<=c.toNat/\c.toNat≠95/\97<=b54 c/\b54 c<=102/\hexD c+87=b54 c):=by
 have:=dd3 ⟨c.toNat,c.toNat_lt⟩;simp only[UInt8.ofNat_toNat] at this;exact this h
theorem cI8(c:UInt8):b54 c < 256:=(BitVec.ofInt 8 (c.toNat:Int)|||BitVec.ofInt 8 32).isLt
theorem lower_c(c:UInt8)(H:List AObj):o7 Tryz.prog 458 [.lit (.int .u8 c.toNat)] H (fun x H'=>x=.lit (.int .u8 (b54 c:Nat))/\H'=H):=by
 have:=cI8 c;refine o8 [] [.tmp 2] 5 Tryz.func458 ?_;repeat' simp -dsimp -implicitDefEqProofs only[go_sem]
 refine o5 ⟨int_eq ?_,rfl⟩;show IntKind.u8.wrap ((b54 c:Nat):Int)=_
 rw[IntWalk.u8_in _ (by omega)]
theorem ba8: ∀(l:bytes) (i:Nat),i<=l.length->(∀j,j < l.length->be0 (l.getD j 0)=true)->az8 (l.take i) < 16^i
 |l,0,_,_=>by simp[az8]
 |l,i+1,hi,h=>by
  have h1:=ba8 l i (by omega) h
  have h2:=b92 (h i (by omega))
  rw[bK6 (by omega),Nat.pow_succ]
  have:hexD (l.getD i 0) < 16:=by omega
  omega
theorem cd0(l:bytes)(H:List AObj)(hl:l.length=4)(hd: ∀i,i < l.length->be0 (l.getD i 0)=true):
  o7 Tryz.prog 452 [.str l,.lit (.int .i64 16),.lit (.int .i64 16)] H (fun x H'=>x=.tup [.lit (.int .u64 (az8 l)),.lit .nilIface]/\H'=H):=by
 have hne:l≠[]:=by intro e;subst e;simp at hl
 refine o8 [] [.tmp 6,.tmp 7] 172 Tryz.func452 ?_;repeat' first|refine l9 ?_|simp -dsimp -implicitDefEqProofs (disch:=omega) only[go_sem,hne,aX4]|refine vcA ?_ ?_
 refine aa7 ab6 mixed [] [1,8,9,10,11,99,100] (fun i:Nat=>i<=l.length) (fun i=>[(101,.int .i64 i),(13,.int .u64 (az8 (l.take i))),(12,.bool false)]) (fun _=>H) (fun i=>l.length - i) (by kernel_rfl) ?_ 0 (by omega) aa3 rfl
 rintro i hi
 have hdi:=fun h=>b92 (hd i h)
 have hb:= @bK6 l i;have h4:=ba8 l i hi hd;have h5:(16:Nat)^i<=16^4:=bo0 (by omega) (by omega)
 have h6:=cI8 (l.getD i 0);have h7:i < l.length->az8 (l.take (i+1)) < 16^4:=fun h=>by
  have:=ba8 l (i+1) h hd;have:(16:Nat)^(i+1)<=16^4:=bo0 (by omega) (by omega)
  omega
 have h8:(16:Nat)^4=65536:=rfl;rw[h8] at h5 h7;have h9:az8 (l.take i) < 65536:=by omega
 clear h4 h5 h8;repeat' first|refine l9 ?_|simp -dsimp -implicitDefEqProofs (disch:=omega) only[go_sem,bq7,aX4]|refine l7 (lower_c _ _) ?_|refine vcA ?_ ?_|omega|refine aa8 fun _=>?_
 ·have hb':=hb (by omega)
  refine again (i+1) ?_ ?_ rfl aa3
  ·omega
  ·omega
 ·have hb':=hb (by omega)
  refine again (i+1) ?_ ?_ rfl aa3
  ·omega
  ·omega
 ·obtain rfl:i=l.length:=by omega
  exact o5 ⟨rfl,rfl⟩
theorem cd1(l:bytes)(H:List AObj)(hl:l.length=4)(hd: ∀i,i < l.length->be0 (l.getD i 0)=true):
  o7 Tryz.prog 449 [.str l,.lit (.int .i64 16),.lit (.int .i64 16)] H (fun x H'=>x=.tup [.lit (.int .u64 (az8 l)),.lit .nilIface]/\H'=H):=by
 refine o8 [] [.tmp 6,.tmp 7] 26 Tryz.func449 ?_;repeat' first|refine l9 ?_|simp -dsimp -implicitDefEqProofs only[go_sem]|refine l7 (cd0 l H hl hd) ?_|fail
 exact o5 ⟨rfl,rfl⟩
end
section
open Go V
def bY3:bytes:=[48,49,50,51,52,53,54,55,56,57,97,98,99,100,101,102,65,66,67,68,69,70]
theorem cV8: ∀n:Fin 256,bY3.contains (UInt8.ofNat n.val)=be0 (UInt8.ofNat n.val):=by decide+kernel
theorem b93:bY3.contains=be0:=by
 funext c
 have:=cV8 ⟨c.toNat,c.toNat_lt⟩;simpa only[UInt8.ofNat_toNat] using this
theorem bP7{l:bytes}{p:UInt8->Bool}(h:l.all p=true): ∀i,i < l.length->p (l.getD i 0)=true:=fun i hi=>by
 rw[List.getD,xq1 hi];exact xq6.1 h _ (aT3 hi)
theorem pc{t:bytes}{a b e:Int}(h:a=b):AObj.cells (.one 438) [.str t,.lit (.int .i64 a),.lit (.int .i64 e)]=AObj.cells (.one 438) [.str t,.lit (.int .i64 b),.lit (.int .i64 e)]:=by rw[h]
theorem ci8{k:Nat}{t r:bytes}{e:Int}{H:List AObj}(hk:H[k]?=some (ad4 t r e))(hs:r <:+t)(hl:t.length<=10000):o7 Tryz.prog 443 [.mp k 0] H (fun x H'=>x=.tup [.int .i32 (ah8 r).1,.bool (ah8 r).2.1]/\H'=H.set k (ad4 t (ah8 r).2.2 e)):=by
 have h1:=ay6 hs;have h2:=bM3 hs;unfold ad4 at*;by_cases h4:r.length < 4
 ·have hu:ah8 r=(0,false,r):=if_pos h4
  rw[hu];refine o8 [1000001,1000003,1000008] [.tmp 2,.tmp 3] 58 Tryz.func443 ?_;repeat' first|simp -dsimp -implicitDefEqProofs (disch:=omega) only[go_sem,hk]|refine vcA ?_ ?_|omega|refine aa8 fun _=>?_
  all_goals first|exact o5 ⟨rfl,(az2 hk).symm⟩|omega
 ·have ht:((t.length - r.length:Nat)+4:Int).toNat - (t.length - r.length)=4:=by omega
  by_cases h5:(r.take 4).all be0=true
  ·have hu:ah8 r=((az8 (r.take 4):Int),true,r.drop 4):=by rw[ah8,if_neg h4,if_pos h5]
   have hx:=ba8 (r.take 4) 4 (by rw[List.length_take];omega) (bP7 h5)
   rw[List.take_take,show (16:Nat)^4=65536 from rfl] at hx
   have hx':az8 (r.take 4) < 65536:=hx;rw[hu];refine o8 [1000001,1000003,1000008] [.tmp 2,.tmp 3] 58 Tryz.func443 ?_;repeat' first|refine l9 ?_|simp -dsimp -implicitDefEqProofs (disch:=omega) only[go_sem,hk,h2,ht]|refine l7 (b07 _ bY3 _ (by simp;omega) (by decide) (by decide) (by decide)) ?_|refine l7 (cd1 (r.take 4) _ (by rw[List.length_take];omega) (bP7 h5)) ?_|refine vcA ?_ ?_|omega|refine aa8 fun _=>?_
   ·rename_i h6
    rw[b93,bA4] at h6;exact absurd h5 h6
   ·refine aa5 _ (Le.refl _) ah1 ⟨rfl,?_⟩
    exact congrArg _ (pc (by omega))
  ·have hu:ah8 r=(0,false,r):=by rw[ah8,if_neg h4,if_neg h5]
   rw[hu];refine o8 [1000001,1000003,1000008] [.tmp 2,.tmp 3] 58 Tryz.func443 ?_;repeat' first|refine l9 ?_|simp -dsimp -implicitDefEqProofs (disch:=omega) only[go_sem,hk,h2,ht]|refine l7 (b07 _ bY3 _ (by simp;omega) (by decide) (by decide) (by decide)) ?_|refine vcA ?_ ?_|omega|refine aa8 fun _=>?_
   ·exact o5 ⟨rfl,(az2 hk).symm⟩
   ·rename_i h6
    rw[b93,bA4] at h6;exact absurd h6 h5
theorem dL1(r:bytes):0<=(ah8 r).1/\(ah8 r).1 < 65536:=by
 unfold ah8;split
 ·exact⟨bf9 _,by show (0:Int) < 65536;decide⟩
 ·rename_i h4
  split
  ·rename_i h5
   have hx:=ba8 (r.take 4) 4 (by rw[List.length_take];omega) (bP7 h5)
   rw[List.take_take,show (16:Nat)^4=65536 from rfl] at hx
   have hx':az8 (r.take 4) < 65536:=hx;simp only;omega
  ·exact⟨bf9 _,by show (0:Int) < 65536;decide⟩
theorem aX7{r t:bytes}(h:r <:+t):(ah8 r).2.2 <:+t:=by
 unfold ah8;split
 ·exact h
 ·split
  ·exact as2 h 4
  ·exact h
theorem cu1(r:Int)(H:List AObj):o7 Tryz.prog 444 [.lit (.int .i32 r)] H (fun x H'=>x=.bool (bw7 r)/\H'=H):=by
 refine o8 [] [.tmp 2] 9 Tryz.func444 ?_;repeat' first|refine l9 ?_|simp -dsimp -implicitDefEqProofs only[go_sem]|refine vcA ?_ ?_|refine aa8 fun _=>?_
 all_goals
  refine o5 ⟨ad5 ?_,rfl⟩;unfold bw7;simp_all
  try omega
theorem dy0(h l:Int)(H:List AObj):o7 Tryz.prog 450 [.lit (.int .i32 h),.lit (.int .i32 l)] H (fun x H'=>x=.tup [.int .i32 (joined h l).1,.bool (joined h l).2]/\H'=H):=by
 refine o8 [] [.tmp 4,.tmp 5] 27 Tryz.func450 ?_;repeat' first|refine l9 ?_|simp -dsimp -implicitDefEqProofs (disch:=omega) only[go_sem]|refine vcA ?_ ?_|refine aa8 fun _=>?_
 all_goals
  first
   |(have hj:joined h l=(0,false):=if_pos (by omega)
     exact o5 ⟨by rw[hj],rfl⟩)
   |(have hj:joined h l=(65536+(h - 55296)*1024+(l - 56320),true):=if_neg (by omega)
     exact o5 ⟨by rw[hj],rfl⟩)
theorem dJ5{k:Nat}{t r:bytes}{e h:Int}{H:List AObj}(hk:H[k]?=some (ad4 t r e))(hs:r <:+t)(hl:t.length<=10000):o7 Tryz.prog 445 [.mp k 0,.lit (.int .i32 h)] H (fun x H'=>x=.tup [.int .i32 (aO6 h r).1,.bool (aO6 h r).2.1]/\H'=H.set k (ad4 t (aO6 h r).2.2 e)):=by
 have hkl:=aa0 hk;cases hw:ae8 [92,117] r with
 |none=>
  have hp:aO6 h r=(0,false,r):=by rw[aO6,hw]
  have hc:=ac2 (w:=[92,117]) hk hs hl (by decide)
  rw[hw] at hc;rw[hp];refine o8 [] [.tmp 4,.tmp 5] 31 Tryz.func445 ?_;repeat' first|refine l9 ?_|simp -dsimp -implicitDefEqProofs only[go_sem]|refine l7 (hc) ?_|fail
  exact aa5 _ (Le.refl _) ah1 ⟨rfl,rfl⟩
 |some r2=>
  have hp:aO6 h r=((joined h (ah8 r2).1).1,(ah8 r2).2.1&&(joined h (ah8 r2).1).2,(ah8 r2).2.2):=by rw[aO6,hw]
  have hc:=ac2 (w:=[92,117]) hk hs hl (by decide)
  rw[hw] at hc;rw[hp];refine o8 [] [.tmp 4,.tmp 5] 31 Tryz.func445 ?_;repeat' first|refine l9 ?_|simp -dsimp -implicitDefEqProofs only[go_sem]|refine l7 (hc) ?_|refine l7 (ci8 (hss hkl) (aq4 hs hw) hl) ?_|refine l7 (dy0 _ _ _) ?_|refine vcA ?_ ?_|refine aa8 fun _=>?_
  ·rename_i h1
   exact aa5 _ (Le.refl _) ah1 ⟨by rw[h1,Bool.true_and],rfl⟩
  ·rename_i h1
   exact aa5 _ (Le.refl _) ah1 ⟨by rw[h1,az9],rfl⟩
theorem dM3{h:Int}{r t:bytes}(hs:r <:+t):(aO6 h r).2.2 <:+t:=by
 unfold aO6;split
 ·exact hs
 ·rename_i r2 e
  exact aX7 (aq4 hs e)
theorem dw6{h:Int}{r:bytes}(ok:(aO6 h r).2.1=true):bD3 (aO6 h r).1=true:=by
 unfold aO6 at*;split at ok
 ·cases ok
 ·rename_i r2 e
  simp only[xq3] at ok;have h2:=ok.2;unfold joined at h2⊢;split at h2
  ·cases h2
  ·rename_i hc
   rw[if_neg hc];exact decide_eq_true (by simp only;omega)
def aU3(r:bytes):Int×Bool×bytes:=if(ah8 r).2.1&&bw7 (ah8 r).1 then aO6 (ah8 r).1 (ah8 r).2.2 else ah8 r
theorem dN3{r:bytes}(ok:(aU3 r).2.1=true):bD3 (aU3 r).1=true:=by
 unfold aU3 at*;split at ok
 ·rename_i hc
  rw[if_pos hc];exact dw6 ok
 ·rename_i hc
  rw[if_neg hc];rw[ok,Bool.true_and] at hc;have:=dL1 r;unfold bw7 at hc;exact decide_eq_true (by simp only[decide_eq_true_eq] at hc;omega)
theorem cj9{r t:bytes}(hs:r <:+t):(aU3 r).2.2 <:+t:=by
 unfold aU3;split
 ·exact dM3 (aX7 hs)
 ·exact aX7 hs
theorem aZ7(r:bytes):au9 r=if an9.idxOf (peek r) < 8 then([cv6.getD (an9.idxOf (peek r)) 0],0,r.drop 1) else(match ae8 [117] r with|none=>([],2,r)|some r2=>bx4 (aU3 r2)):=rfl
theorem bD4(c:UInt8):aw2 an9 c=if an9.idxOf c < 8 then((an9.idxOf c:Nat):Int) else -1:=rfl
theorem do2{r:bytes}(h:an9.idxOf (peek r) < 8):r≠[]:=by
 intro e;subst e;revert h;decide
theorem en2{H:List AObj}{k b m:Nat}{x y z:AObj}(h1:k≠b)(h2:k≠m):((H.set b x).set m y).set k z=((H.set k z).set b x).set m y:=by
 rw[List.set_comm _ _ h2.symm,List.set_comm _ _ h1.symm]
theorem cX7{H:List AObj}{k b m:Nat}{x y z x' y' z':AObj}(h1:x=x')(h2:y=y')(h3:z=z'):((H.set k x).set b y).set m z=((H.set k x').set b y').set m z':=by rw[h1,h2,h3]
theorem dW4{u:Int×Bool×bytes}{o r':bytes}(h:bx4 u=(o,0,r')):u.2.1=true/\o=enc1 u.1/\r'=u.2.2:=by
 unfold bx4 at h;split at h
 ·rename_i hu
  simp only[Prod.mk.injEq,true_and] at h;exact⟨hu,h.1.symm,h.2.symm⟩
 ·simp at h
theorem dW5{u:Int×Bool×bytes}{o r':bytes}{e:Int}(h:bx4 u=(o,e,r'))(he:e≠0):u.2.1=false/\e=2/\r'=u.2.2:=by
 unfold bx4 at h;split at h
 ·rename_i hu
  simp only[Prod.mk.injEq] at h;exact absurd h.2.1.symm he
 ·rename_i hu
  simp only[Prod.mk.injEq] at h;exact⟨by simpa using hu,h.2.1.symm,h.2.2.symm⟩
theorem dh5{k b m:Nat}{t r r' bs o:bytes}{a:AV}{H:List AObj}(he:au9 r=(o,0,r'))(hk:H[k]?=some (ad4 t r 0))(hb:H[b]?=some (ap7 343 m a bs))(ha:aD5 b a)(hm:H[m]?=some (ax7 bs.length))(hs:r <:+t)(hl:t.length<=10000)(hbl:bs.length<=50000):
  o7 Tryz.prog 437 [.mp k 0,.mp b 0] H (fun x H'=>x=.tup []/\H'=((H.set k (ad4 t r' 0)).set b (ap7 343 m (.mp b 0) (bs++o))).set m (ax7 (bs++o).length)):=by
 have hkl:=aa0 hk;have hbl':=aa0 hb;have hml:=aa0 hm;have hkb:k≠b:=by intro e;subst e;rw[hk] at hb;simp[ad4,ap7] at hb
 have hkm:k≠m:=by intro e;subst e;rw[hk] at hm;cases hm
 have hbm:b≠m:=by intro e;subst e;rw[hb] at hm;cases hm
 have hbk:=hkb.symm;have hmk:=hkm.symm;have hpk:=at6 hk hs hl;have hsl:=ay6 hs;by_cases hi:an9.idxOf (peek r) < 8
 ·rw[aZ7,if_pos hi] at he
  simp only[Prod.mk.injEq,true_and] at he;obtain⟨rfl,rfl⟩:=he;have hx:aw2 an9 (peek r)=(an9.idxOf (peek r):Nat):=by rw[bD4,if_pos hi]
  have hr1:=aD7.2 (do2 hi);unfold an9 at*;generalize hj:List.idxOf (peek r) [34,92,47,98,102,110,114,116]=j at*;refine o8 [] [] 57 Tryz.func437 ?_;repeat' first|refine l9 ?_|simp -dsimp -implicitDefEqProofs (disch:=first|assumption|omega) only[go_sem,hx,hsn,hk,ad4]|refine l7 (hpk) ?_|refine l7 (al7 _ _ _) ?_|refine l7 (a96 bs9 hb ha hm (by omega)) ?_|refine vcA ?_ ?_|omega
  refine aa5 _ (Le.refl _) (by simp) ⟨rfl,?_⟩
  rw[en2 hkb hkm];exact cX7 (pc (by omega)) rfl (by simp)
 ·rw[aZ7,if_neg hi] at he
  have hx:aw2 an9 (peek r)= -1:=by rw[bD4,if_neg hi]
  cases hw:ae8 [117] r with
  |none=>rw[hw] at he;simp at he
  |some r2=>
   rw[hw] at he;have hc:=ac2 (w:=[117]) hk hs hl (by decide)
   rw[hw] at hc;have hs2:=aq4 hs hw;obtain⟨h1,h2,h3⟩:=dW4 he;have hr:=dN3 h1;have hu:=ci8 (hss hkl) hs2 hl (e:=0);unfold an9 at hx;by_cases hh:((ah8 r2).2.1&&bw7 (ah8 r2).1)=true
   ·have e1:aU3 r2=aO6 (ah8 r2).1 (ah8 r2).2.2:=if_pos hh
    rw[xq3] at hh;have hlo:=dJ5 (h:=(ah8 r2).1) (hss hkl) (aX7 hs2) hl (e:=0);rw[e1] at h1 h2 h3 hr;rw[hh.1] at hu;rw[h1] at hlo;subst h2;subst h3;refine o8 [] [] 57 Tryz.func437 ?_;repeat' first|refine l9 ?_|simp -dsimp -implicitDefEqProofs only[go_sem,hx,hsn,hh.2]|refine l7 (hpk) ?_|refine l7 (al7 _ _ _) ?_|refine l7 (hc) ?_|refine l7 (hu) ?_|refine l7 (cu1 _ _) ?_|refine l7 (hlo) ?_|refine l7 (bK8 bs9 (by rw[hsn hkb];exact hb) ha (by rw[hsn hkm];exact hm) hr (by omega)) ?_|fail
    exact aa5 _ (Le.refl _) (by simp) ⟨rfl,cX7 rfl rfl (by simp)⟩
   ·have e1:aU3 r2=ah8 r2:=if_neg hh
    rw[e1] at h1 h2 h3 hr;rw[h1,Bool.true_and] at hh;rw[h1] at hu;subst h2;subst h3;refine o8 [] [] 57 Tryz.func437 ?_;repeat' first|refine l9 ?_|simp -dsimp -implicitDefEqProofs only[go_sem,hx,hsn,hh]|refine l7 (hpk) ?_|refine l7 (al7 _ _ _) ?_|refine l7 (hc) ?_|refine l7 (hu) ?_|refine l7 (cu1 _ _) ?_|refine l7 (bK8 bs9 (by rw[hsn hkb];exact hb) ha (by rw[hsn hkm];exact hm) hr (by omega)) ?_|fail
    exact aa5 _ (Le.refl _) (by simp) ⟨rfl,cX7 rfl rfl (by simp)⟩
theorem dh6{k b:Nat}{t r r' o:bytes}{e:Int}{H:List AObj}(he:au9 r=(o,e,r'))(hne:e≠0)(hk:H[k]?=some (ad4 t r 0))(hs:r <:+t)(hl:t.length<=10000):
  o7 Tryz.prog 437 [.mp k 0,.mp b 0] H (fun x H'=>x=.tup []/\H'=H.set k (ad4 t r' e)):=by
 have hkl:=aa0 hk;have hpk:=at6 hk hs hl;by_cases hi:an9.idxOf (peek r) < 8
 ·rw[aZ7,if_pos hi] at he
  simp only[Prod.mk.injEq] at he;exact absurd he.2.1.symm hne
 ·rw[aZ7,if_neg hi] at he
  have hx:aw2 an9 (peek r)= -1:=by rw[bD4,if_neg hi]
  have hc:=ac2 (w:=[117]) hk hs hl (by decide)
  cases hw:ae8 [117] r with
  |none=>
   rw[hw] at he hc;simp only[Prod.mk.injEq] at he;obtain⟨_,rfl,rfl⟩:=he;unfold an9 at hx;refine o8 [] [] 57 Tryz.func437 ?_;repeat' first|refine l9 ?_|simp -dsimp -implicitDefEqProofs only[go_sem,hx,hsn]|refine l7 (hpk) ?_|refine l7 (al7 _ _ _) ?_|refine l7 (hc) ?_|refine l7 (aj9 (hss hkl)) ?_|fail
   exact aa5 _ (Le.refl _) ah1 ⟨rfl,rfl⟩
  |some r2=>
   rw[hw] at he hc;have hs2:=aq4 hs hw;obtain⟨h1,h2,h3⟩:=dW5 he hne;subst h2;have hu:=ci8 (hss hkl) hs2 hl (e:=0);unfold an9 at hx;by_cases hh:((ah8 r2).2.1&&bw7 (ah8 r2).1)=true
   ·have e1:aU3 r2=aO6 (ah8 r2).1 (ah8 r2).2.2:=if_pos hh
    rw[xq3] at hh;have hlo:=dJ5 (h:=(ah8 r2).1) (hss hkl) (aX7 hs2) hl (e:=0);rw[e1] at h1 h3;rw[hh.1] at hu;rw[h1] at hlo;subst h3;refine o8 [] [] 57 Tryz.func437 ?_;repeat' first|refine l9 ?_|simp -dsimp -implicitDefEqProofs only[go_sem,hx,hsn,hh.2]|refine l7 (hpk) ?_|refine l7 (al7 _ _ _) ?_|refine l7 (hc) ?_|refine l7 (hu) ?_|refine l7 (cu1 _ _) ?_|refine l7 (hlo) ?_|refine l7 (aj9 (hss hkl)) ?_|fail
    exact aa5 _ (Le.refl _) ah1 ⟨rfl,rfl⟩
   ·have e1:aU3 r2=ah8 r2:=if_neg hh
    rw[e1] at h1 h3;rw[h1] at hu;subst h3;refine o8 [] [] 57 Tryz.func437 ?_;repeat' first|refine l9 ?_|simp -dsimp -implicitDefEqProofs only[go_sem,hx,hsn]|refine l7 (hpk) ?_|refine l7 (al7 _ _ _) ?_|refine l7 (hc) ?_|refine l7 (hu) ?_|refine l7 (aj9 (hss hkl)) ?_|fail
    exact aa5 _ (Le.refl _) ah1 ⟨rfl,rfl⟩
end
section
open Go V
theorem dv7{m:Nat}{x:AV}(h:Low m x:=by(first|(first|exact .lit _|exact .str _|exact .any|exact ac8|exact ad1|exact .mp _ _ (by omega)|exact .msl _ _ _ _ (by omega)|exact ac1 (fun k e=>by cases e)|exact ab1 _|exact ae4|exact ae7|exact af2|exact af1 _|exact ab5|exact ab2)|(refine ae2 ?_;repeat(first|exact aa4|(refine o9 ?_ ?_;focus(first|exact .lit _|exact .str _|exact .any|exact ac8|exact ad1|exact .mp _ _ (by omega)|exact .msl _ _ _ _ (by omega)|exact ac1 (fun k e=>by cases e)|exact ab1 _|exact ae4|exact ae7|exact af2|exact af1 _|exact ab5|exact ab2))))|(refine am9 ?_;repeat(first|exact aa4|(refine o9 ?_ ?_;focus(first|exact .lit _|exact .str _|exact .any|exact ac8|exact ad1|exact .mp _ _ (by omega)|exact .msl _ _ _ _ (by omega)|exact ac1 (fun k e=>by cases e)|exact ab1 _|exact ae4|exact ae7|exact af2|exact af1 _|exact ab5|exact ab2)))))):Low m x:=h
def bw1(f:JV->Nat)(l:List JV)(i:Nat):Nat:=((l.take i).map f).foldl max 0
theorem cU6{f:JV->Nat}{l:List JV}{i:Nat}(h:i < l.length):bw1 f l (i+1)=max (bw1 f l i) (f (l.getD i aa9)):=by
 unfold bw1;rw[b23,xq1 h,List.getD,xq1 h,aJ3,bQ8];rfl
theorem dc9{f:JV->Nat}{l:List JV}:bw1 f l l.length=(l.map f).foldl max 0:=by unfold bw1;rw[aL1]
theorem bj1{m:Nat}: ∀(l:List Nat) (a:Nat),a<=m->(∀x∈l,x<=m)->l.foldl max a<=m
 |[],a,h,_=>h
 |b::l,a,h,k=>bj1 l (max a b) (Nat.max_le.2 ⟨h,k b (aD9 ..)⟩) fun x hx=>k x (aJ4 _ hx)
theorem cw4: ∀(d:Nat) (v:JV),aE9 d v<=d
 |0,v=>by simp[aE9]
 |d+1,v=>by
  rw[aE9];split
  ·have:=bj1 (m:=d) (v.items.map (aE9 d)) 0 (aC0 _) fun x hx=>by
    obtain⟨y,_,rfl⟩:=xq9.1 hx;exact cw4 d y
   omega
  ·omega
theorem dv6(d:Nat)(l:List JV)(i:Nat):bw1 (aE9 d) l i<=d:=bj1 _ _ (aC0 _) fun x hx=>by
 obtain⟨y,_,rfl⟩:=xq9.1 hx;exact cw4 d y
theorem eb9: ∀(d:Nat) (v:JV) (w:Int) (H:List AObj),w=(d:Int)->d<=13->am5 v<=40000->o7 Tryz.prog 239 [jAV v,.lit (.int .i64 w)] H (fun x H'=>x=.int .i64 (aE9 d v:Nat)/\H'=H):=by
 intro d;induction d with
 |zero=>
  intro v w H hw hd hs;subst hw;refine o8 [] [.tmp 4] 36 Tryz.func239 ?_;repeat' first|refine l9 ?_|simp -dsimp -implicitDefEqProofs only[go_sem]
  exact o5 ⟨rfl,rfl⟩
 |succ d ih=>
  intro v w H hw hd hs;subst hw;have h2:=bd5 v;have h3: ∀i,i < v.items.length->am5 (v.items.getD i aa9)<=40000:=fun i hi=>by have:=bA8 (v:=v) (ag9 (d:=aa9) hi);omega
  refine o8 [] [.tmp 4] 36 Tryz.func239 ?_;repeat' first|refine l9 ?_|simp -dsimp -implicitDefEqProofs (disch:=omega) only[go_sem]|refine vcA ?_ ?_|omega|refine aa8 fun _=>?_
  ·rename_i h4 h5 h6
   exact o5 ⟨by rw[aE9,if_neg (by omega)];rfl,rfl⟩
  all_goals
   have hk:v.kind=5\/v.kind=6:=by omega
   refine aa7 ab6 mixed [] [1,4,21,22] (fun i:Nat=>i<=v.items.length) (fun i=>[(23,.int .i64 i),(5,.int .i64 (bw1 (aE9 d) v.items i:Nat))]) (fun _=>H) (fun i=>v.items.length - i) (by kernel_rfl) ?_ 0 (by omega) aa3 rfl
   rintro i hi
   have h4:=h3 i;have h5:=dv6 d v.items i;have h6:= @cU6 (aE9 d) v.items i;repeat' first|refine l9 ?_|simp -dsimp -implicitDefEqProofs (disch:=first|omega|simp only[ll];omega) only[go_sem]|refine l7 (ih _ _ _ (by omega) (by omega) (h4 (by omega))) ?_|refine vcA ?_ ?_|omega|refine aa8 fun _=>?_
   ·have h7:=h6 (by omega)
    refine aw0 (i+1) ?_ ?_ (by repeat(first|exact ae1|(refine ad3 ?_ ?_;focus exact dv7))) aa3
    ·omega
    ·omega
   ·obtain rfl:i=v.items.length:=by omega
    refine o5 ⟨int_eq ?_,rfl⟩;rw[aE9,if_pos hk,<-dc9];omega
theorem bN9{v:JV}{s:bytes}(hk:v.kind=6):(aZ0 v.names s < 0->aR3 v s=none)/\(0<=aZ0 v.names s->(v.items.length:Int)<=aZ0 v.names s->aR3 v s=none)/\(0<=aZ0 v.names s->aZ0 v.names s < (v.items.length:Int)->aR3 v s=some (v.items.getD (aZ0 v.names s).toNat aa9)):=by
 unfold aR3 aZ0;rw[if_pos hk];cases h:v.names.findIdx? (fun n=>n==s) with
 |none=>exact⟨fun _=>rfl,fun h=>absurd h (by decide),fun h=>absurd h (by decide)⟩
 |some i=>
  refine⟨fun h=>absurd h (by simp only;omega),fun _ h=>?_,fun _ h=>?_⟩
  ·simp only at h⊢
   exact aw1 (by omega)
  ·simp only at h⊢
   rw[Int.toNat_natCast,List.getD,xq1 (by omega)]
   rfl
def a81(v:JV)(s:bytes):AV:=.tup [jAV ((aR3 v s).getD aa9),.bool (aR3 v s).isSome]
theorem by4(v:JV)(s:bytes)(H:List AObj)(h1:v.names.length<=100000)(h2:v.items.length<=100000):o7 Tryz.prog 149 [jAV v,.str s] H (fun x H'=>x=a81 v s/\H'=H):=by
 refine o8 [] [.cell 4 35,.tmp 5] 30 Tryz.func149 ?_;repeat' first|refine l9 ?_|simp -dsimp -implicitDefEqProofs (disch:=first|omega|simp only[ll];omega) only[go_sem]|refine l7 (cL8 v.names s _ (by omega)) ?_|refine vcA ?_ ?_|omega|refine aa8 fun _=>?_
 ·rename_i h3
  refine aa1 (.tup [jAV aa9,.bool false]) (ba6 (.cons cV0 (.cons (Le.refl _) .nil))) (ae2 (o9 (ab1 _) (o9 (.lit _) aa4))) ⟨?_,rfl⟩;rw[a81,aR3,if_neg h3];rfl
 ·rename_i h3 h4
  refine aa1 (.tup [jAV aa9,.bool false]) (ba6 (.cons cV0 (.cons (Le.refl _) .nil))) (ae2 (o9 (ab1 _) (o9 (.lit _) aa4))) ⟨?_,rfl⟩;rw[a81,(bN9 h3).1 h4];rfl
 ·rename_i h3 h4 h5
  refine aa1 (.tup [jAV aa9,.bool false]) (ba6 (.cons cV0 (.cons (Le.refl _) .nil))) (ae2 (o9 (ab1 _) (o9 (.lit _) aa4))) ⟨?_,rfl⟩;rw[a81,(bN9 h3).2.1 h4 h5];rfl
 ·rename_i h3 h4 h5
  refine aa1 _ (Le.refl _) (ae2 (o9 (ab1 _) (o9 (.lit _) aa4))) ⟨?_,rfl⟩;rw[a81,(bN9 h3).2.2 h4 h5];rfl
theorem eg3(v:JV)(H:List AObj)(hs:am5 v<=40000):o7 Tryz.prog 151 [jAV v] H (fun x H'=>x=.int .i64 (aE9 13 v:Nat)/\H'=H):=by
 refine o8 [] [.tmp 2] 5 Tryz.func151 ?_;repeat' first|simp -dsimp -implicitDefEqProofs only[go_sem]|refine l7 (eb9 13 v _ _ (by omega) (by omega) hs) ?_|fail
 exact o5 ⟨rfl,rfl⟩
end
section
open Go V
theorem bA7{c:UInt8}{r:bytes}(h0:c≠0):ae8 [c] r=if peek r=c then some (r.drop 1) else none:=by
 cases r with
 |nil=>
  rw[if_neg (by intro e;exact h0 e.symm)]
  rfl
 |cons a r=>
  show ae8 [c] (a::r)=if a=c then some r else none
  by_cases h:a=c
  ·subst h;simp[ae8]
  ·rw[if_neg h,ae8,if_neg]
   simp[Ne.symm h]
theorem bx5(r:bytes):(au9 r).2.2.length<=r.length/\(au9 r).1.length<=4:=by
 rw[aZ7];have hu: ∀s:bytes,(ah8 s).2.2.length<=s.length:=fun s=>(aX7 (aJ1 s)).length_le
 split
 ·simp
 ·cases hw:ae8 [117] r with
  |none=>simp
  |some r2=>
   have h1:=bh0 hw;have h2:=(cj9 (aJ1 r2)).length_le;simp only[bx4];split
   ·have:=cv9 (aU3 r2).1
    simp only;omega
   ·simp only[List.length_nil]
    omega
theorem bG8{r t:bytes}(h:r <:+t):(au9 r).2.2 <:+t:=by
 rw[aZ7];split
 ·exact as2 h 1
 ·cases hw:ae8 [117] r with
  |none=>exact h
  |some r2=>
   have h1:=cj9 (aq4 h hw);simp only[bx4];split
   ·exact h1
   ·exact h1
theorem aU7(p:bytes->bytes->bytes×bytes×Int->Prop)(h1: ∀r o,(peek r).toNat < 32->p r o ([],r,2))(h2: ∀r o,peek r=34->p r o (o,r.drop 1,0))
  (h3: ∀r o,peek r=92->(au9 (r.drop 1)).2.1≠0->p r o ([],(au9 (r.drop 1)).2.2,(au9 (r.drop 1)).2.1)) (h4: ∀r o x,peek r=92->(au9 (r.drop 1)).2.1=0->p (au9 (r.drop 1)).2.2 (o++(au9 (r.drop 1)).1) x->p r o x)
  (h5: ∀r o x,32<=(peek r).toNat->peek r≠34->peek r≠92->p (r.drop 1) (o++[peek r]) x->p r o x): ∀n r o,r.length < n->p r o (ak2 n r o)
 |0,r,o,h=>by omega
 |n+1,r,o,h=>by
  rw[ak2];have hpos: ¬(peek r).toNat < 32->1<=r.length:=fun hp=>by
   cases r with
   |nil=>exact absurd (by decide) hp
   |cons c r=>simp
  by_cases c1:(peek r).toNat < 32
  ·rw[if_pos c1];exact h1 r o c1
  ·rw[if_neg c1]
   have hr:=hpos c1;by_cases c2:peek r=34
   ·rw[if_pos c2];exact h2 r o c2
   ·rw[if_neg c2]
    by_cases c3:peek r=92
    ·rw[if_pos c3]
     by_cases c4:(au9 (r.drop 1)).2.1≠0
     ·rw[if_pos c4];exact h3 r o c3 c4
     ·rw[if_neg c4]
      have:=(bx5 (r.drop 1)).1;rw[List.length_drop] at this;exact h4 r o _ c3 (by simpa using c4) (aU7 p h1 h2 h3 h4 h5 n _ _ (by omega))
    ·rw[if_neg c3]
     exact h5 r o _ (by omega) c2 c3 (aU7 p h1 h2 h3 h4 h5 n _ _ (by rw[List.length_drop];omega))
theorem dB2(r:bytes):(au9 r).2.1=0\/(au9 r).2.1=2:=by
 rw[aZ7];split
 ·exact .inl rfl
 ·cases ae8 [117] r with
  |none=>exact .inr rfl
  |some r2=>
   simp only[bx4];split
   ·exact .inl rfl
   ·exact .inr rfl
theorem cm1(n:Nat)(r o:bytes)(h:r.length < n):(ak2 n r o).2.1 <:+r/\((ak2 n r o).2.2=0\/(ak2 n r o).2.2=2/\(ak2 n r o).1=[]):=by
 refine aU7 (fun r _ x=>x.2.1 <:+r/\(x.2.2=0\/x.2.2=2/\x.1=[])) ?_ ?_ ?_ ?_ ?_ n r o h
 ·intro r o _;exact⟨aJ1 _,.inr ⟨rfl,rfl⟩⟩
 ·intro r o _;exact⟨b21 1 r,.inl rfl⟩
 ·intro r o _ h;exact⟨(bG8 (aJ1 _)).trans (b21 1 r),.inr ⟨(dB2 _).resolve_left h,rfl⟩⟩
 ·intro r o x _ _ h;exact⟨h.1.trans ((bG8 (aJ1 _)).trans (b21 1 r)),h.2⟩
 ·intro r o x _ _ _ h;exact⟨h.1.trans (b21 1 r),h.2⟩
theorem by7(n m:Nat)(r o:bytes)(h:r.length < n)(k:r.length < m):ak2 n r o=ak2 m r o:=by
 have:=aU7 (fun r o x=> ∀m,r.length < m->x=ak2 m r o) ?_ ?_ ?_ ?_ ?_ n r o h
 ·exact this m k
 ·intro r o h1 m hm
  cases m with
  |zero=>omega
  |succ m=>rw[ak2,if_pos h1]
 ·intro r o h1 m hm
  cases m with
  |zero=>omega
  |succ m=>rw[ak2,if_neg (by rw[h1];decide),if_pos h1]
 ·intro r o h1 h2 m hm
  cases m with
  |zero=>omega
  |succ m=>rw[ak2,if_neg (by rw[h1];decide),if_neg (by rw[h1];decide),if_pos h1,if_pos h2]
 ·intro r o x h1 h2 h3 m hm
  cases m with
  |zero=>omega
  |succ m=>
   have hr:1<=r.length:=by cases r with|nil=>exact absurd h1 (by decide)|cons c r=>simp
   have:=(bx5 (r.drop 1)).1;rw[List.length_drop] at this;rw[ak2,if_neg (by rw[h1];decide),if_neg (by rw[h1];decide),if_pos h1,if_neg (by rw[h2];decide)]
   exact h3 m (by omega)
 ·intro r o x h1 h2 h3 h4 m hm
  cases m with
  |zero=>omega
  |succ m=>
   have hr:1<=r.length:=by cases r with|nil=>exact absurd h1 (by decide)|cons c r=>simp
   rw[ak2,if_neg (by omega),if_neg h2,if_neg h3]
   exact h4 m (by rw[List.length_drop];omega)
def ar1(r o:bytes):bytes×bytes×Int:=ak2 (r.length+1) r o
theorem cB4{r o:bytes}(h:(peek r).toNat < 32):ar1 r o=([],r,2):=by rw[ar1,ak2,if_pos h]
theorem cA9{r o:bytes}(h:peek r=34):ar1 r o=(o,r.drop 1,0):=by rw[ar1,ak2,if_neg (by rw[h];decide),if_pos h]
theorem aR1{r:bytes}(h:peek r≠0):1<=r.length:=by cases r with|nil=>exact absurd rfl h|cons c r=>simp
theorem cB5{r o:bytes}(h:peek r=92)(e:(au9 (r.drop 1)).2.1≠0):ar1 r o=([],(au9 (r.drop 1)).2.2,(au9 (r.drop 1)).2.1):=by
 rw[ar1,ak2,if_neg (by rw[h];decide),if_neg (by rw[h];decide),if_pos h,if_pos e]
theorem cA8{r o:bytes}(h:peek r=92)(e:(au9 (r.drop 1)).2.1=0):ar1 r o=ar1 (au9 (r.drop 1)).2.2 (o++(au9 (r.drop 1)).1):=by
 have hr:=aR1 (r:=r) (by rw[h];decide)
 have:=(bx5 (r.drop 1)).1;rw[List.length_drop] at this;rw[ar1,ak2,if_neg (by rw[h];decide),if_neg (by rw[h];decide),if_pos h,if_neg (by rw[e];decide),ar1]
 exact by7 _ _ _ _ (by omega) (by omega)
theorem cA7{r o:bytes}(h1:32<=(peek r).toNat)(h2:peek r≠34)(h3:peek r≠92):ar1 r o=ar1 (r.drop 1) (o++[peek r]):=by
 have hr:=aR1 (r:=r) (by intro e;rw[e] at h1;revert h1;decide)
 rw[ar1,ak2,if_neg (by omega),if_neg h2,if_neg h3,ar1]
 exact by7 _ _ _ _ (by rw[List.length_drop];omega) (by omega)
theorem bv6(r:bytes):ag0 r=if peek r=34 then ar1 (r.drop 1) [] else([],r,2):=by
 rw[ag0,bA7 (by decide)]
 split<;>rename_i h
 ·split at h
  ·cases h
  ·rename_i h2;rw[if_neg h2]
 ·split at h
  ·rename_i h2;cases h;rw[if_pos h2];rfl
  ·cases h
theorem cR3(r:bytes):(ag0 r).2.1 <:+r/\((ag0 r).2.2=0\/(ag0 r).2.2=2/\(ag0 r).1=[]):=by
 rw[bv6];split
 ·have:=cm1 ((r.drop 1).length+1) (r.drop 1) [] (by omega)
  exact⟨this.1.trans (b21 1 r),this.2⟩
 ·exact⟨aJ1 _,.inr ⟨rfl,rfl⟩⟩
section
variable {H M:List AObj}{k:Nat}{o x:AObj}
theorem aa6(h:k < H.length):(H.set k o++M)[k]?=some o:=by rw[xq4 (by rw[List.length_set];exact h)];exact hss h
theorem ai6:(H.set k o++M)[H.length]?=M[0]?:=by rw[xq5 (by rw[List.length_set];exact xq0 _),List.length_set,ao4]
theorem aE3:(H.set k o++M)[H.length+1]?=M[1]?:=by rw[xq5 (by rw[List.length_set];omega),List.length_set,au2]
theorem ak8:(H.set k o++M).set H.length x=H.set k o++M.set 0 x:=by rw[az0 _ _ (by rw[List.length_set];exact xq0 _),List.length_set,ao4]
theorem aJ5:(H.set k o++M).set (H.length+1) x=H.set k o++M.set 1 x:=by rw[az0 _ _ (by rw[List.length_set];omega),List.length_set,au2]
theorem ak1(h:k < H.length):(H.set k o++M).set k x=H.set k x++M:=by rw[bf8 _ _ (by rw[List.length_set];exact h),List.set_set]
theorem len2{a b:AObj}:(H.set k o++[a,b]).length=H.length+2:=by simp
end
structure QS where
 r:bytes
 o:bytes
 a:AV
 e:Int
def cf5(t:bytes)(H:List AObj)(k:Nat)(y:QS):List AObj:=H.set k (ad4 t y.r y.e)++[ap7 343 (H.length+1) y.a y.o,ax7 y.o.length]
theorem ae5{H₀:List AObj}{k:Nat}{o:AObj}{M:List AObj}{R:AV->List AObj->Prop}{x:AV}(hx:Low H₀.length x)(hlow:o=o)(hcs: ∀sh cs,o=.cells sh cs-> ∀y∈cs,Low H₀.length y)(hr:R x (H₀.set k o))(hn:o.isMo=false:=by rfl):Done H₀ R x (H₀.set k o++M):=by
 unfold Done;refine⟨x,(H₀.set k o++M).take H₀.length,aZ8 (Le.refl x) (xq0 _) hx fun i u hi e=>?_,?_⟩
 ·rw[xq4 (by rw[List.length_set];exact hi)] at e
  rcases af6 e with⟨_,e'⟩|⟨_,e',_⟩
  ·exact .inl e'
  ·exact .inr (e'▸aA5 hcs hn)
 ·rw[bL4 (by rw[List.length_set];exact xq0 _),aF0 (by rw[List.length_set];exact xq0 _)]
  exact hr
theorem ag1{t r:bytes}{e:Int}{m:Nat}: ∀sh cs,ad4 t r e=.cells sh cs-> ∀y∈cs,Low m y:=fun sh cs h y hy=>by
 unfold ad4 at h;cases h
 simp only[an8,aJ2,or_false] at hy;rcases hy with rfl|rfl|rfl
 ·exact .str _
 ·exact .lit _
 ·exact .lit _
theorem cm0{k:Nat}{t r:bytes}{H:List AObj}(hk:H[k]?=some (ad4 t r 0))(hs:r <:+t)(hl:t.length<=10000):
  o7 Tryz.prog 409 [.mp k 0] H (fun x H'=>x=.str (ag0 r).1/\H'=H.set k (ad4 t (ag0 r).2.1 (ag0 r).2.2)):=by
 have hkl:=aa0 hk;have hc:=ac2 (w:=[34]) (H:=H++[ap7 343 (H.length+1) (.lit (.pointer none)) [],ax7 0]) (by rw[af7 hkl];exact hk) hs hl (by decide)
 rw[bA7 (by decide)] at hc
 have hrl:=ay6 hs;by_cases h34:peek r=34
 ·rw[if_pos h34] at hc
  have hq:ag0 r=ar1 (r.drop 1) []:=by rw[bv6,if_pos h34]
  rw[hq];generalize hqq:ar1 (r.drop 1) []=q;have hr1:=aR1 (r:=r) (by rw[h34];decide)
  refine o8 [3000003005] [.tmp 2] 50 Tryz.func409 ?_;repeat' first|refine l9 ?_|simp -dsimp -implicitDefEqProofs (disch:=assumption) only[go_sem]|refine l7 (hc) ?_|fail
  refine aa7 ab6 mixed [3000003005] [0,3] (fun y:QS=>y.r <:+t/\y.o.length+4*y.r.length<=4*t.length/\aD5 H.length y.a/\((y.e=0/\ar1 y.r y.o=q)\/(y.e≠0/\q=([],y.r,y.e)))) (fun _=>[]) (cf5 t H k) (fun y=>if y.e=0 then y.r.length+1 else 0) (by kernel_rfl) ?_ ⟨r.drop 1,[],.lit (.pointer none),0⟩ ⟨as2 hs 1,by simp;omega,b65,.inl ⟨rfl,hqq⟩⟩ aa3 rfl
  rintro⟨r',o,a,e⟩ ⟨hs',hol,ha,hst⟩
  dsimp only at hs' hol ha hst⊢;have hrl':=ay6 hs';unfold cf5;dsimp only;rcases hst with⟨rfl,hq'⟩|⟨he,rfl⟩
  ·have hpk:=at6 (H:=H.set k (ad4 t r' 0)++[ap7 343 (H.length+1) a o,ax7 o.length]) (aa6 hkl) hs' hl
   have hc1:=ac2 (w:=[34]) (H:=H.set k (ad4 t r' 0)++[ap7 343 (H.length+1) a o,ax7 o.length]) (aa6 hkl) hs' hl (by decide)
   have hc2:=ac2 (w:=[92]) (H:=H.set k (ad4 t r' 0)++[ap7 343 (H.length+1) a o,ax7 o.length]) (aa6 hkl) hs' hl (by decide)
   rw[bA7 (by decide)] at hc1 hc2
   by_cases c1:(peek r').toNat < 32
   ·rw[cB4 c1] at hq'
    subst hq';repeat' first|refine l9 ?_|simp -dsimp -implicitDefEqProofs only[go_sem,aa6 hkl,ak1 hkl,ad4]|refine l7 (hpk) ?_|refine l7 (aj9 (aa6 hkl)) ?_|refine vcA ?_ ?_|omega|refine aa8 fun _=>?_
    refine again (⟨r',o,a,2⟩) ?_ ?_ ?_ aa3
    ·simp
    ·exact⟨hs',hol,ha,.inr ⟨by simp,rfl⟩⟩
    ·rfl
   ·by_cases c2:peek r'=34
    ·rw[cA9 c2] at hq'
     subst hq';rw[if_pos c2] at hc1;repeat' first|refine l9 ?_|simp -dsimp -implicitDefEqProofs only[go_sem,aa6 hkl,ak1 hkl]|refine l7 (hpk) ?_|refine l7 (hc1) ?_|refine l7 (bQ0 ai6 aE3 (by omega)) ?_|refine vcA ?_ ?_|omega|refine aa8 fun _=>?_
     exact ae5 (.str _) rfl ag1 ⟨rfl,rfl⟩
    ·have hr1:=aR1 (r:=r') (by intro e;rw[e] at c1;exact c1 (by decide))
     rw[if_neg c2] at hc1;by_cases c3:peek r'=92
     ·rw[if_pos c3] at hc2
      have hs3:r'.drop 1 <:+t:=as2 hs' 1;have hel:=bx5 (r'.drop 1);rw[List.length_drop] at hel;by_cases c4:(au9 (r'.drop 1)).2.1=0
      ·rw[cA8 c3 c4] at hq'
       have hs4:=bG8 hs3;obtain⟨⟨o4,e4,r4⟩,he4⟩: ∃x,au9 (r'.drop 1)=x:=⟨_,rfl⟩;rw[he4] at c4 hq' hs4 hel;dsimp only at c4 hq' hs4 hel;subst c4;repeat' first|refine l9 ?_|simp -dsimp -implicitDefEqProofs only[go_sem,aa6 hkl,ak1 hkl,ai6,aE3,ak8,aJ5]|refine l7 (hpk) ?_|refine l7 (hc1) ?_|refine l7 (hc2) ?_|refine l7 (dh5 (a:=a) (bs:=o) he4 (aa6 hkl) ai6 ha aE3 hs3 hl (by omega)) ?_|refine vcA ?_ ?_|omega|refine aa8 fun _=>?_
       refine again (⟨r4,o++o4,.mp H.length 0,0⟩) ?_ ?_ ?_ aa3
       ·simp;omega
       ·refine⟨hs4,?_,an4,.inl ⟨rfl,hq'⟩⟩
        simp only[List.length_append];omega
       ·simp
      ·rw[cB5 c3 c4] at hq'
       subst hq';have hs4:=bG8 hs3;obtain⟨⟨o4,e4,r4⟩,he4⟩: ∃x,au9 (r'.drop 1)=x:=⟨_,rfl⟩;rw[he4] at c4 hs4 hel;simp only[he4];dsimp only at c4 hs4 hel;repeat' first|refine l9 ?_|simp -dsimp -implicitDefEqProofs only[go_sem,aa6 hkl,ak1 hkl,ai6,aE3,ak8,aJ5]|refine l7 (hpk) ?_|refine l7 (hc1) ?_|refine l7 (hc2) ?_|refine l7 (dh6 (b:=H.length) he4 c4 (aa6 hkl) hs3 hl) ?_|refine vcA ?_ ?_|omega|refine aa8 fun _=>?_
       refine again (⟨r4,o,a,e4⟩) ?_ ?_ ?_ aa3
       ·simp[c4]
       ·refine⟨hs4,?_,ha,.inr ⟨c4,by rw[he4]⟩⟩
        dsimp only;omega
       ·rfl
     ·rw[cA7 (by omega) c2 c3] at hq'
      rw[if_neg c3] at hc2;repeat' first|refine l9 ?_|simp -dsimp -implicitDefEqProofs (disch:=omega) only[go_sem,aa6 hkl,ak1 hkl,ai6,aE3,ak8,aJ5,ad4]|refine l7 (hpk) ?_|refine l7 (hc1) ?_|refine l7 (hc2) ?_|refine l7 (a96 bs9 ai6 ha aE3 (by omega)) ?_|refine vcA ?_ ?_|omega|refine aa8 fun _=>?_
      refine again (⟨r'.drop 1,o++[peek r'],.mp H.length 0,0⟩) ?_ ?_ ?_ aa3
      ·simp;omega
      ·refine⟨as2 hs' 1,?_,an4,.inl ⟨rfl,hq'⟩⟩
       simp only[List.length_append,List.length_drop,List.length_cons,List.length_nil];omega
      ·show _=H.set k (ad4 t (r'.drop 1) 0)++[ap7 343 (H.length+1) (.mp H.length 0) (o++[peek r']),ax7 (o++[peek r']).length]
       rw[show ad4 t (r'.drop 1) 0=_ from(pc (t:=t) (e:=0) (a:=((t.length - r'.length:Nat):Int)+1) (by rw[List.length_drop];omega)).symm]
       simp
  ·repeat' first|refine l9 ?_|simp -dsimp -implicitDefEqProofs only[go_sem,aa6 hkl,ak1 hkl,ad4]|refine vcA ?_ ?_|omega|refine aa8 fun _=>?_
   exact ae5 (.str _) rfl ag1 ⟨rfl,rfl⟩
 ·rw[if_neg h34] at hc
  have hq:ag0 r=([],r,2):=by rw[bv6,if_neg h34]
  rw[hq];refine o8 [3000003005] [.tmp 2] 50 Tryz.func409 ?_;repeat' first|refine l9 ?_|simp -dsimp -implicitDefEqProofs (disch:=assumption) only[go_sem,aa6 hkl,ak1 hkl]|refine l7 (hc) ?_|refine l7 (aj9 (aa6 hkl)) ?_|fail
  refine aa7 ab6 mixed [3000003005] [0,3] (fun _:Unit=>True) (fun _=>[]) (fun _=>cf5 t H k ⟨r,[],.lit (.pointer none),2⟩) (fun _=>0) (by kernel_rfl) ?_ () trivial aa3 rfl
  rintro _ _
  unfold cf5;dsimp only;repeat' first|refine l9 ?_|simp -dsimp -implicitDefEqProofs only[go_sem,aa6 hkl,ak1 hkl,ad4]
  exact ae5 (.str _) rfl ag1 ⟨rfl,rfl⟩
end
section
namespace V
open Go
theorem ei8{G:Gh}{H:List AObj}{w:World}(hi:HInv G H w){k i s z:Nat}{sh:Shape}{cs:List AV}(hk:H[k]?=some (.cells sh cs))(hci:cs[i]?=some (.sl .full z []))(hs:0 < s):
  ∃G',HInv G' (H.set k (.cells sh (cs.set i (.sl (.tok H.length) s [])))++[.grow s 0 none]) w/\Step G H w G' (H.set k (.cells sh (cs.set i (.sl (.tok H.length) s [])))++[.grow s 0 none]) w:=by
 have hkl:=aa0 hk;obtain⟨arr,T,fr,hb,hsz,hr,hf1,hf2,hsh⟩:=hi.cells k sh cs hk;have hil:=aa0 hci;obtain⟨v,hv⟩: ∃v,arr[i]?=some v:=⟨_,xq2 (by omega)⟩
 have r:=hr i _ v hci hv;have r0:=r;cases r with
 |sl _ _ _ ad len cap val hl hcap hs' hc hr' hf ha ho=>
  obtain⟨hi1,st1,r1⟩:=b52 none hi r0 hs (fun h=>absurd rfl h) (fun h=>absurd rfl h)
  have hk1:(H++[AObj.grow s ([]:List AV).length none])[k]?=some (.cells sh cs):=by rw[xq4 hkl];exact hk
  have hrel:aH5 (az5 G H.length ad cap) (H++[AObj.grow s ([]:List AV).length none]) w (cs.set i (.sl (.tok H.length) s [])) arr:=by
   refine⟨by rw[List.length_set];exact hsz,fun j x u e1 e2=>?_⟩
   rcases af6 e1 with⟨_,e1'⟩|⟨rfl,e1',_⟩
   ·exact(hr j x u e1' e2).mono st1
   ·subst e1'
    rw[hv] at e2;cases e2
    exact r1
  have hown:(az5 G H.length ad cap).own k=G.own k:=by simp[az5];intro e;omega
  obtain⟨hi2,st2⟩:=b40 hi1 hk1 (sh':=sh) (cs':=cs.set i (.sl (.tok H.length) s [])) hb hrel (by rw[List.length_set];exact aI5 hown hsh)
  have hset:(H++[AObj.grow s ([]:List AV).length none]).set k (.cells sh (cs.set i (.sl (.tok H.length) s [])))=H.set k (.cells sh (cs.set i (.sl (.tok H.length) s [])))++[.grow s 0 none]:=bf8 _ _ hkl;rw[hset] at hi2 st2;exact⟨_,hi2,st1.trans st2⟩
theorem bP5{P:Program}{n:Nat}{c:Code}{Q:Exit->Env->List AObj->Prop}{env:Env}{H:List AObj}(k i s:Nat){z:Nat}{sh:Shape}{cs:List AV}(hk:H[k]?=some (.cells sh cs))(hci:cs[i]?=some (.sl .full z []))(hs:0 < s)
  (h:AW P n c Q env (H.set k (.cells sh (cs.set i (.sl (.tok H.length) s [])))++[.grow s 0 none])):AW P n c Q env H:=by
 intro ro N ds G a w sat;obtain⟨G',hi,st⟩:=ei8 sat.inv hk hci hs;exact wpIn_mono (h ro N ds G' a w ⟨sat.size,sat.defers,fun u=>(sat.env u).mono st,hi⟩) fun _ _ _ p=>p.trans st
theorem dx6{xs ys:List AV}(h:LeAll xs ys){j:Nat}{y:AV}(e:ys[j]?=some y): ∃x,xs[j]?=some x/\Le x y:=h.get.2 j y e
theorem leC{G:Gh}{H:List AObj}{w:World}(hi:HInv G H w){k:Nat}{sh:Shape}{cs cs':List AV}(hk:H[k]?=some (.cells sh cs))(hle:LeAll cs cs'):HInv G (H.set k (.cells sh cs')) w/\Step G H w G (H.set k (.cells sh cs')) w:=by
 obtain⟨arr,T,fr,hb,hsz,hr,hf1,hf2,hsh⟩:=hi.cells k sh cs hk;have hl:=hle.get.1;have hrel:aH5 G H w cs' arr:=⟨by omega,fun j x u e1 e2=>by
  obtain⟨z,hz,hzx⟩:=dx6 hle e1;exact hzx _ _ _ _ (hr j z u hz e2)⟩
 exact b40 hi hk (sh':=sh) (cs':=cs') hb hrel (by rw[<-hl];exact hsh)
theorem cx3{P:Program}{n:Nat}{c:Code}{Q:Exit->Env->List AObj->Prop}{env:Env}{H:List AObj}(k:Nat){sh:Shape}{cs cs':List AV}(hk:H[k]?=some (.cells sh cs))(hle:LeAll cs cs')
  (h:AW P n c Q env (H.set k (.cells sh cs'))):AW P n c Q env H:=by
 intro ro N ds G a w sat;obtain⟨hi,st⟩:=leC sat.inv hk hle;exact wpIn_mono (h ro N ds G a w ⟨sat.size,sat.defers,fun u=>(sat.env u).mono st,hi⟩) fun _ _ _ p=>p.trans st
theorem cQ2{H₀ H' M:List AObj}{env env':Env}(h:aK8 env env')(hlen:H₀.length<=H'.length)(hl:bk6 H'.length env')(hobj: ∀(k:Nat) (o:AObj),H'[k]?=some o->H₀[k]?=some o\/o.low H'.length):Shift H₀ env (H'++M) env' H':=fun G₀ w₀ G w vs h0 hi hs r=>by
 have htk:(H'++M).take H'.length=H':=aQ6;have hc:=hi.cut H'.length fun k o hk e=>(hobj k o (by rw[xq4 hk] at e;exact e)).elim (fun h=>AObj.low_mono hlen (h0.low h)) id
 have hs':=hs.cut (m:=H'.length) hlen;rw[htk] at hc hs';refine⟨G,hc,hs',fun t=>?_⟩
 have:=(h t _ _ _ _ (r t)).cut H'.length (hl t);rwa [htk] at this
theorem ak5{α:Type}{I:α->Prop}{E:α->Env}{Hf:α->List AObj}{m:α->Nat}{x:α}{env:Env}{H:List AObj}(mm:Nat)(M:List AObj)(y:α)(hm:m y < m x)(hI:I y)(hH:H=Hf y++M)(h1:(Hf y).length=mm)(h2:(Hf x).length<=mm)(hL:bk6 mm (E y))
  (hobj: ∀(k:Nat) (o:AObj),(Hf y)[k]?=some o->(Hf x)[k]?=some o\/o.low mm) (hE:aK8 env (E y)):bn7 I E Hf m x env H:=by
 subst hH;subst h1;exact cF4 y hm hI (cQ2 hE h2 hL hobj)
theorem dt7{H L L':List AObj}{m:Nat}(h: ∀o∈L',o.low m): ∀(k:Nat) (o:AObj),(H++L')[k]?=some o->(H++L)[k]?=some o\/o.low m:=fun k o e=>by
 by_cases hk:k < H.length
 ·rw[xq4 hk] at e
  exact .inl (by rw[xq4 hk];exact e)
 ·rw[xq5 (by omega)] at e
  exact .inr (h _ (bF9 e))
theorem aF4{H L L':List AObj}{m:Nat}(h: ∀o∈L',∀(sh:Shape) (cs:List AV),o=.cells sh cs-> ∀z∈cs,Low m z)(hn:L'.all (!·.isMo)=true:=by rfl): ∀(k:Nat) (o:AObj),(H++L')[k]?=some o->(H++L)[k]?=some o\/o.low m:=
 dt7 fun o ho=>aA5 (h o ho) (by simpa using xq6.1 hn o ho)
end V
end
section
open Go V
def cg6(H:List AObj)(a:AV)(o:bytes):List AObj:=H++[ap7 343 (H.length+1) a o,ax7 o.length]
end
section
open Go V
end
section
open Go V
end
section
namespace W64
open Go V
end W64
end
section
namespace W64
open Go V
attribute [go_sem] sk1 sk2 d45 d44
end W64
end
section
namespace W64
open Go V
end W64
end
section
namespace W64
open Go V
end W64
end
section
namespace W64
open Go V
end W64
end
section
open Go V
theorem dU2(s:bytes)(H:List AObj):o7 Tryz.prog 356 [.str s] H (fun x H'=>x=.bool false/\H'=H):=by
 refine o8 [] [.tmp 2] 6 Tryz.func356 ?_;repeat' simp -dsimp -implicitDefEqProofs only[go_sem]
 exact o5 ⟨rfl,rfl⟩
theorem dU1(s:bytes)(H:List AObj):o7 Tryz.prog 315 [.str s] H (fun x H'=>x=.bool false/\H'=H):=by
 refine o8 [] [.tmp 2] 6 Tryz.func315 ?_;repeat' simp -dsimp -implicitDefEqProofs only[go_sem]
 exact o5 ⟨rfl,rfl⟩
theorem ef8(a b:bytes)(H:List AObj):o7 Tryz.prog 275 [.str a,.str b] H (fun x H'=>x=.bool (af8 a b)/\H'=H):=by
 refine o8 [] [.tmp 4] 17 Tryz.func275 ?_;repeat' first|refine l9 ?_|simp -dsimp -implicitDefEqProofs only[go_sem]|refine l7 (dU2 _ _) ?_|fail
 all_goals exact o5 ⟨rfl,rfl⟩
theorem cu5{α:Type}{l:List α}{i:Nat}{d x:α}(h:l[i]?=some x):l.getD i d=x:=by rw[List.getD,h];rfl
theorem aZ2{α:Type}{l:List α}{i:Nat}(d:α)(h:i < l.length):l[i]?=some (l.getD i d):=by rw[List.getD,xq1 h];rfl
theorem bQ2{o:Own}(ns:List bytes)(s:bytes)(H:List AObj)(hl:ns.length<=100000)(hsrt:srt ns=true):o7 Tryz.prog 234 [.sl o 1 (ns.map .str),.str s] H (fun x H'=>x=.tup [.int .i64 (pos ns s),.bool (decide (ns[pos ns s]?=some s))]/\H'=H):=by
 refine o8 [] [.tmp 4,.tmp 5] 54 Tryz.func234 ?_;repeat' simp -dsimp -implicitDefEqProofs only[go_sem]
 refine aa7 ab6 mixed [] [0,1,4,5,6] (fun p:Nat×Nat=>p.1<=p.2/\p.2<=ns.length/\(∀j,j < p.1->af8 (ns.getD j []) s=true)/\(p.2 < ns.length->af8 (ns.getD p.2 []) s=false)) (fun p=>[(7,.int .i64 p.1),(8,.int .i64 p.2)]) (fun _=>H) (fun p=>p.2 - p.1) (by kernel_rfl) ?_ (0,ns.length) ⟨by simp,by simp,fun j hj=>by omega,fun h=>by omega⟩ aa3 rfl
 rintro⟨i,j⟩ ⟨h1,h2,h3,h4⟩
 dsimp only at h1 h2 h3 h4⊢;repeat' first|refine l9 ?_|simp -dsimp -implicitDefEqProofs (disch:=omega) only[go_sem]|refine l7 (ef8 _ _ _) ?_|refine l7 (dU1 _ _) ?_|refine vcA ?_ ?_|omega|refine aa8 fun _=>?_
 ·rename_i e1 e2
  rw[show (((i:Int)+(j:Int))/2).toNat=(i+j)/2 by omega] at e2
  refine again (((i+j)/2+1,j)) ?_ ?_ rfl aa3
  ·dsimp only;omega
  ·dsimp only
   refine⟨by omega,h2,fun m hm=>?_,h4⟩
   rcases xq8 m ((i+j)/2) with h|h
   ·exact aO9 (ck7 hsrt h (aZ2 [] (by omega)) (aZ2 [] (by omega))) e2
   ·obtain rfl:m=(i+j)/2:=by omega
    exact e2
 ·rename_i e1 e2
  rw[show (((i:Int)+(j:Int))/2).toNat=(i+j)/2 by omega] at e2
  refine again ((i,(i+j)/2)) ?_ ?_ rfl aa3
  ·dsimp only;omega
  ·dsimp only
   exact⟨by omega,by omega,h3,fun _=>e2⟩
 all_goals
  obtain rfl:i=j:=by omega
  have hp:pos ns s=i:=cR7 h2 (fun m a hm ha=>by rw[<-cu5 (d:=[]) ha];exact h3 m hm) (fun a ha=>by rw[<-cu5 (d:=[]) ha];exact h4 (aa0 ha))
  rw[hp]
 ·have e3:ns.getD i []=s:=by assumption
  have:(decide (ns[i]?=some s))=true:=decide_eq_true (by rw[aZ2 [] (by omega),e3])
  rw[this];exact o5 ⟨rfl,rfl⟩
 ·have e3: ¬ns.getD i []=s:=by assumption
  have:(decide (ns[i]?=some s))=false:=decide_eq_false (by rw[aZ2 [] (by omega)];exact fun e=>e3 (Option.some.inj e))
  rw[this];exact o5 ⟨rfl,rfl⟩
 ·have:(decide (ns[i]?=some s))=false:=decide_eq_false (by rw[aw1 (by omega)];simp)
  rw[this];exact o5 ⟨rfl,rfl⟩
end
end Go.Proofs.YtdkpdjfimckdgaaGreatDoor
