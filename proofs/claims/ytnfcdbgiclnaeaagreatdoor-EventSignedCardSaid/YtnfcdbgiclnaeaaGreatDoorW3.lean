/- The rules by which a verification condition is worked out. -/
import Derived.Test.YtnfcdbgiclnaeaaGreatDoorW2
import Derived.IntWalk
import Derived.Test.YtnfcdbgiclnaeaaGreatDoorChecked
import Derived.Deep.DeepHandedRow
import Derived.Lib.LaidTab
import Derived.Lib.LaidU8
import Derived.ChangeSame
import Derived.ChangeStays
import Derived.ChangeMaps5
import Derived.OpenShut
import Derived.Laws.Externs
import Derived.Lib.Overlaps
import Derived.Lib.ValidLaws
import Derived.Lib.MapLaws
import Derived.Lib.ValidAsc
import Derived.Lib.EndianMore
import Derived.Sort.Walk0
import Derived.Test.YtnfcdbgiclnaeaaGreatDoorW1
set_option linter.unusedVariables false
set_option linter.unusedSimpArgs false
set_option maxRecDepth 10000
set_option maxHeartbeats 4000000
namespace Go.Proofs.YtnfcdbgiclnaeaaGreatDoor
section
namespace V
open Go
variable {ds:List Deferred}
section
variable {P:Program}{L:Tab}{mu:List Nat}{n:Nat}{Q:Exit->Env->List AObj->Prop}{env:Env}{H:List AObj}{all rest:List Oper}{K:Env->List AObj->Prop}{J:AV->List AObj->Prop}{D:AV->Prop}
def cv7(b:Option Nat)(t:TypeId)(zs:List AV)(H:List AObj)(K:AV->List AObj->Prop)[Tag K]:Prop:=
 match b with
 |none=>K (.mp H.length 0) (H++[.cells (.one t) zs])
 |some u=>K (.mp H.length 0) (H++[.cells (.one t) (au5 (H.length+1) zs),.grow 1 0 (some u)])
theorem dG6{t:TypeId}{zs:List AV}:cv7 none t zs H J=J (.mp H.length 0) (H++[.cells (.one t) zs]):=rfl
theorem dG5{u t:Nat}{zs:List AV}:cv7 (some u) t zs H J=J (.mp H.length 0) (H++[.cells (.one t) (au5 (H.length+1) zs),.grow 1 0 (some u)]):=rfl
theorem el1:vcC P L mu n .skip Q env H=Q .normal env H:=rfl
theorem er5{x y:Code}:vcC P L mu n (.seq x y) Q env H=vcC P L mu n x (Ex (fun env H=>vcC P L mu n y Q env H) Q) env H:=rfl
theorem el6{c:Operand}{x y:Code}:vcC P L mu n (.cond c x y) Q env H=c30 (ev env c) (vcC P L mu n x Q env H) (vcC P L mu n y Q env H):=rfl
theorem d62{id:Nat}{c:Code}:vcC P L mu n (.block id c) Q env H=vcC P L mu n c (InB id Q) env H:=rfl
theorem el4{id:Nat}:vcC P L mu n (.exit id) Q env H=Q (.exit id) env H:=rfl
theorem er6:vcC P L mu n .ret Q env H=Q .ret env H:=rfl
theorem dN4{id:Nat}{ops:List Oper}:vcC P L mu n (.region id ops.toArray false) Q env H=aB9 P L mu ops ops env H (Q .normal):=by show aB9 P L mu ops.toArray.toList ops.toArray.toList env H (Q .normal)=_;simp
theorem el5{id:Nat}{ops:List Oper}:vcC P L mu n (.region id ops.toArray true) Q env H=if mu.contains (1000000+id) then ap7 P L mu id ops 0 ops env H [] [] (Q .normal) else av5 P L ops ops env H (Q .normal):=by show (if mu.contains (1000000+id) then ap7 P L mu id ops.toArray.toList 0 ops.toArray.toList env H [] [] (Q .normal) else av5 P L ops.toArray.toList ops.toArray.toList env H (Q .normal))=_;simp
theorem el3{c:Code}:vcC P L mu n (.loop c) Q env H=AW P n (.loop c) Q env H:=rfl
theorem bL9:Ex K Q .normal env H=K env H:=rfl
theorem d47{id:Nat}:Ex K Q (.exit id) env H=Q (.exit id) env H:=rfl
theorem ek2:Ex K Q .ret env H=Q .ret env H:=rfl
theorem bL3{id:Nat}:InB id Q .normal env H=Q .normal env H:=rfl
theorem d25{id id':Nat}:InB id Q (.exit id') env H=if id'=id then Q .normal env H else Q (.exit id') env H:=rfl
theorem ei0{id:Nat}:InB id Q .ret env H=Q .ret env H:=rfl
theorem es6{rs:List ResultVar}{H₀:List AObj}{R:AV->List AObj->Prop}:bF8 L rs H₀ R .ret env H=Fin L rs H₀ R env H:=rfl
theorem dO9{rs:List ResultVar}{H₀:List AObj}{R:AV->List AObj->Prop}:bF8 L rs H₀ R .normal env H=Fin L rs H₀ R env H:=rfl
theorem eq0:aB9 P L mu all [] env H K=K env H:=rfl
theorem ee4{d:Option Tmp}{op:Op}{ty:TypeId}{pos:String}{af:Array Edge}:aB9 P L mu all (⟨d,op,ty,pos,af,none⟩::rest) env H K=ab7 P L mu ⟨d,op,ty,pos,af,none⟩ env H fun v H'=>aB9 P L mu all rest (put d v env) H' K:=rfl
theorem dY3{d:Option Tmp}{op:Op}{ty:TypeId}{pos:String}{af:Array Edge}{j:Nat}{b:Bool}:aB9 P L mu all (⟨d,op,ty,pos,af,some (j,b)⟩::rest) env H K=
  ax8 (aq6 all env j) b (ab7 P L mu ⟨d,op,ty,pos,af,some (j,b)⟩ (known1 all j b env) H fun v H'=>aB9 P L mu all rest (put d v (known1 all j b env)) H' K) (aB9 P L mu all rest (put d (.lit undef) (known1 all j (!b) env)) H K) (aB9 P L mu all rest (put d (.lit undef) env) H K):=rfl
theorem er4:av5 P L all [] env H K=K env H:=rfl
theorem ek7{d:Option Tmp}{op:Op}{ty:TypeId}{pos:String}{af:Array Edge}:av5 P L all (⟨d,op,ty,pos,af,none⟩::rest) env H K=aw7 P L ⟨d,op,ty,pos,af,none⟩ env H fun v=>av5 P L all rest (put d v env) H K:=rfl
theorem d53{d:Option Tmp}{op:Op}{ty:TypeId}{pos:String}{af:Array Edge}{j:Nat}{b:Bool}:av5 P L all (⟨d,op,ty,pos,af,some (j,b)⟩::rest) env H K=
  ax8 (aq6 all env j) b (aw7 P L ⟨d,op,ty,pos,af,some (j,b)⟩ (known1 all j b env) H fun v=>av5 P L all rest (put d v (known1 all j b env)) H K) (av5 P L all rest (put d (.lit undef) (known1 all j (!b) env)) H K) (av5 P L all rest (put d (.lit undef) env) H K):=rfl
theorem d30{d:Tmp}{op:Op}{ty:TypeId}{pos:String}{af:Array Edge}{g:Option (Nat×Bool)}:aq6 (⟨some d,op,ty,pos,af,g⟩::rest) env 0=get env d:=rfl
theorem d31{o:Oper}{j:Nat}:aq6 (o::rest) env (j+1)=aq6 rest env j:=rfl
section
variable {d:Option Tmp}{ty:TypeId}{pos:String}{af:Array Edge}{g:Option (Nat×Bool)}
theorem dW8{x:Operand}:ab7 P L mu ⟨d,.move x,ty,pos,af,g⟩ env H J=lift (bi3 (ev env x)) J H:=rfl
theorem dm2{x:Operand}:ab7 P L mu ⟨d,.assign x,ty,pos,af,g⟩ env H J=lift (bi3 (ev env x)) J H:=rfl
theorem dW7{a b c:Operand}:ab7 P L mu ⟨d,.pick a b c,ty,pos,af,g⟩ env H J=lift (bP6 (ev env a) (ev env b) (ev env c)) J H:=rfl
theorem ed3{op:BinOp}{t t':TypeId}{x y:Operand}:ab7 P L mu ⟨d,.binOp op t x y t',ty,pos,af,g⟩ env H J=if aE4 y then b50 L op t (ev env x) H J else lift (bJ0 L op t (isConst y) (ev env x) (ev env y)) J H:=rfl
theorem ep8{op:UnOp}{t:TypeId}{x:Operand}:ab7 P L mu ⟨d,.unOp op t x,ty,pos,af,g⟩ env H J=lift (cA5 op (ev env x)) J H:=rfl
theorem dX0{s t:TypeId}{x:Operand}:ab7 P L mu ⟨d,.convert s t x,ty,pos,af,g⟩ env H J=if mu.contains (d.getD 0) then bu8 L s t (ev env x) H J else lift (bw2 P L H s t (ev env x)) J H:=rfl
theorem c98{x:Operand}{i:Nat}:ab7 P L mu ⟨d,.extract x i,ty,pos,af,g⟩ env H J=lift (bn5 (ev env x) i) J H:=rfl
theorem cC4{t:TypeId}{x i:Operand}:ab7 P L mu ⟨d,.indexAddr t x i,ty,pos,af,g⟩ env H J=lift (aI8 L t (ev env x) (ev env i)) J H:=rfl
theorem dD3{t:TypeId}{x i:Operand}:ab7 P L mu ⟨d,.index t x i,ty,pos,af,g⟩ env H J=lift (bw0 L t (ev env x) (ev env i)) J H:=rfl
theorem dW9{t:TypeId}{x:Operand}:ab7 P L mu ⟨d,.load t x,ty,pos,af,g⟩ env H J=lift (aR9 L H t (ev env x)) J H:=rfl
theorem dD2{t:TypeId}{x:Operand}{lo hi mx:Option Operand}:ab7 P L mu ⟨d,.slice t x lo hi mx,ty,pos,af,g⟩ env H J=lift (bn4 L t (ev env x) (evO env lo) (evO env hi) (evO env mx)) J H:=rfl
theorem cC5{t:TypeId}{x:Operand}{f:Nat}:ab7 P L mu ⟨d,.fieldAddr t x f,ty,pos,af,g⟩ env H J=lift (aI9 L t (ev env x) f) J H:=rfl
theorem dD4{t:TypeId}{x:Operand}{f:Nat}:ab7 P L mu ⟨d,.field t x f,ty,pos,af,g⟩ env H J=lift (bw1 L t (ev env x) f) J H:=rfl
theorem dD7{t:TypeId}{ps:Array (Nat×Operand)}:ab7 P L mu ⟨d,.build t ps,ty,pos,af,g⟩ env H J=lift (bw3 L t (ai6 env ps)) J H:=rfl
theorem cs8{t:TypeId}{len:Nat}{ps:Array (Nat×Operand)}:ab7 P L mu ⟨d,.buildSlice t len ps,ty,pos,af,g⟩ env H J=if mu.contains (d.getD 0) then bm1 L t len (ai6 env ps) H J else if len=0/\ps.size≠0 then False else lift (aK2 L t len (ai6 env ps)) J H:=rfl
theorem ed2{t:TypeId}{x:Operand}:ab7 P L mu ⟨d,.box t x,ty,pos,af,g⟩ env H J=if mu.contains (d.getD 0) then c27 t (ev env x) H J else lift (c83 (ev env x)) J H:=rfl
theorem cC6{t:TypeId}:ab7 P L mu ⟨d,.alloc t,ty,pos,af,g⟩ env H J=(known (L t)=true/\cv7 (cw4 mu (d.getD 0)) t (L t).zero H J):=by unfold ab7 cv7;rfl
theorem dD1{t:TypeId}{a x:Operand}:ab7 P L mu ⟨d,.store t a x,ty,pos,af,g⟩ env H J=bj6 L t (ev env a) (ev env x) H J:=rfl
theorem dD5{f:Operand}{az:Array Operand}{ts:Array TypeId}:ab7 P L mu ⟨d,.call ⟨.value f,az,ts⟩,ty,pos,af,g⟩ env H J=aW2 P (ev env f) (az.toList.map (ev env)) H J:=rfl
theorem dD6{b:Builtin}{az:Array Operand}{ts:Array TypeId}:ab7 P L mu ⟨d,.call ⟨.builtin b,az,ts⟩,ty,pos,af,g⟩ env H J=ag2 (mu.contains (d.getD 0)) L b (az.toList.map (ev env)) ts.toList H J:=rfl
theorem cO5{x:Operand}:ab7 P L mu ⟨d,.nilCheck x,ty,pos,af,g⟩ env H J=lift (ci7 (ev env x)) J H:=rfl
theorem cO6{f:Fn}{fs cs:Array Operand}:ab7 P L mu ⟨d,.makeFunc f fs cs,ty,pos,af,g⟩ env H J=lift (bi3 (.fn f (fs.toList.map (ev env)) (cs.toList.map (ev env)))) J H:=rfl
theorem cC3{t:TypeId}{x y:Operand}:ab7 P L mu ⟨d,.makeSlice t x y,ty,pos,af,g⟩ env H J=bu6 L t (ev env x) (ev env y) H J:=rfl
theorem dD0{t:TypeId}{x:Operand}:ab7 P L mu ⟨d,.sliceToArrayPointer t x,ty,pos,af,g⟩ env H J=lift (bn3 L t (ev env x)) J H:=rfl
theorem dY1{x:Operand}:aw7 P L ⟨d,.move x,ty,pos,af,g⟩ env H D=av2 (bi3 (ev env x)) D:=rfl
theorem dY0{a b c:Operand}:aw7 P L ⟨d,.pick a b c,ty,pos,af,g⟩ env H D=av2 (bP6 (ev env a) (ev env b) (ev env c)) D:=rfl
theorem ee2{op:BinOp}{t t':TypeId}{x y:Operand}:aw7 P L ⟨d,.binOp op t x y t',ty,pos,af,g⟩ env H D=av2 (if aE4 y then none else bJ0 L op t (isConst y) (ev env x) (ev env y)) D:=rfl
theorem cD3{t:TypeId}{x i:Operand}:aw7 P L ⟨d,.indexAddr t x i,ty,pos,af,g⟩ env H D=av2 (aI8 L t (ev env x) (ev env i)) D:=rfl
theorem dY2{t:TypeId}{x:Operand}:aw7 P L ⟨d,.load t x,ty,pos,af,g⟩ env H D=av2 (aR9 L H t (ev env x)) D:=rfl
theorem dF1{t:TypeId}{x:Operand}{lo hi mx:Option Operand}:aw7 P L ⟨d,.slice t x lo hi mx,ty,pos,af,g⟩ env H D=av2 (bn4 L t (ev env x) (evO env lo) (evO env hi) (evO env mx)) D:=rfl
theorem cD4{t:TypeId}{x:Operand}{f:Nat}:aw7 P L ⟨d,.fieldAddr t x f,ty,pos,af,g⟩ env H D=av2 (aI9 L t (ev env x) f) D:=rfl
theorem dF0{t:TypeId}{x:Operand}:aw7 P L ⟨d,.sliceToArrayPointer t x,ty,pos,af,g⟩ env H D=av2 (bn3 L t (ev env x)) D:=rfl
theorem dF2{f:Operand}{az:Array Operand}{ts:Array TypeId}:aw7 P L ⟨d,.call ⟨.value f,az,ts⟩,ty,pos,af,g⟩ env H D=bO7 P (ev env f) (az.toList.map (ev env)) H D:=rfl
theorem dF3{b:Builtin}{az:Array Operand}{ts:Array TypeId}:aw7 P L ⟨d,.call ⟨.builtin b,az,ts⟩,ty,pos,af,g⟩ env H D=bh5 L H b (az.toList.map (ev env)) ts.toList D:=rfl
end
theorem d57{f:FuncId}{fs cs args:List AV}:aW2 P (.fn (.func f) fs cs) args H J=o9 P f (fs++args++cs) H J:=rfl
theorem dN2{k:Nat}{args:List AV}:aW2 P (.yld k) args H J=aV6 P k args H J:=rfl
theorem dN3{f:FuncId}{args:List AV}:aW2 P (.fn (.func f) [] []) args H J=o9 P f args H J:=by show o9 P f ([]++args++[]) H J=_;simp
theorem dv3{f:FuncId}{args:List AV}:bO7 P (.fn (.func f) [] []) args H D= ∃z,o9 P f args H (fun x H'=>x=z/\H'=H)/\aQ2 (D z):=by show (∃z,o9 P f ([]++args++[]) H (fun x H'=>x=z/\H'=H)/\D z)=_;simp[a98]
section
variable {d:Option Tmp}{ty:TypeId}{pos:String}{af:Array Edge}{g:Option (Nat×Bool)}
theorem dX7{x:Operand}:aj0 P L mu ⟨d,.move x,ty,pos,af,g⟩ env H J=ab7 P L mu ⟨d,.move x,ty,pos,af,g⟩ env H J:=rfl
theorem dn2{x:Operand}:aj0 P L mu ⟨d,.assign x,ty,pos,af,g⟩ env H J=ab7 P L mu ⟨d,.assign x,ty,pos,af,g⟩ env H J:=rfl
theorem dX6{a b c:Operand}:aj0 P L mu ⟨d,.pick a b c,ty,pos,af,g⟩ env H J=ab7 P L mu ⟨d,.pick a b c,ty,pos,af,g⟩ env H J:=rfl
theorem dX5{op:UnOp}{t:TypeId}{x:Operand}:aj0 P L mu ⟨d,.unOp op t x,ty,pos,af,g⟩ env H J=ab7 P L mu ⟨d,.unOp op t x,ty,pos,af,g⟩ env H J:=rfl
theorem da1{s t:TypeId}{x:Operand}:aj0 P L mu ⟨d,.convert s t x,ty,pos,af,g⟩ env H J=ab7 P L mu ⟨d,.convert s t x,ty,pos,af,g⟩ env H J:=rfl
theorem da0{x:Operand}{i:Nat}:aj0 P L mu ⟨d,.extract x i,ty,pos,af,g⟩ env H J=ab7 P L mu ⟨d,.extract x i,ty,pos,af,g⟩ env H J:=rfl
theorem cD0{t:TypeId}{x i:Operand}:aj0 P L mu ⟨d,.indexAddr t x i,ty,pos,af,g⟩ env H J=ab7 P L mu ⟨d,.indexAddr t x i,ty,pos,af,g⟩ env H J:=rfl
theorem dE4{t:TypeId}{x i:Operand}:aj0 P L mu ⟨d,.index t x i,ty,pos,af,g⟩ env H J=ab7 P L mu ⟨d,.index t x i,ty,pos,af,g⟩ env H J:=rfl
theorem dX8{t:TypeId}{x:Operand}:aj0 P L mu ⟨d,.load t x,ty,pos,af,g⟩ env H J=ab7 P L mu ⟨d,.load t x,ty,pos,af,g⟩ env H J:=rfl
theorem dE3{t:TypeId}{x:Operand}{lo hi mx:Option Operand}:aj0 P L mu ⟨d,.slice t x lo hi mx,ty,pos,af,g⟩ env H J=ab7 P L mu ⟨d,.slice t x lo hi mx,ty,pos,af,g⟩ env H J:=rfl
theorem cD1{t:TypeId}{x:Operand}{f:Nat}:aj0 P L mu ⟨d,.fieldAddr t x f,ty,pos,af,g⟩ env H J=ab7 P L mu ⟨d,.fieldAddr t x f,ty,pos,af,g⟩ env H J:=rfl
theorem dE5{t:TypeId}{x:Operand}{f:Nat}:aj0 P L mu ⟨d,.field t x f,ty,pos,af,g⟩ env H J=ab7 P L mu ⟨d,.field t x f,ty,pos,af,g⟩ env H J:=rfl
theorem dE7{t:TypeId}{ps:Array (Nat×Operand)}:aj0 P L mu ⟨d,.build t ps,ty,pos,af,g⟩ env H J=ab7 P L mu ⟨d,.build t ps,ty,pos,af,g⟩ env H J:=rfl
theorem cs9{t:TypeId}{len:Nat}{ps:Array (Nat×Operand)}:aj0 P L mu ⟨d,.buildSlice t len ps,ty,pos,af,g⟩ env H J=ab7 P L mu ⟨d,.buildSlice t len ps,ty,pos,af,g⟩ env H J:=rfl
theorem dE9{t:TypeId}:aj0 P L mu ⟨d,.alloc t,ty,pos,af,g⟩ env H J=ab7 P L mu ⟨d,.alloc t,ty,pos,af,g⟩ env H J:=rfl
theorem dE2{t:TypeId}{a x:Operand}:aj0 P L mu ⟨d,.store t a x,ty,pos,af,g⟩ env H J=ab7 P L mu ⟨d,.store t a x,ty,pos,af,g⟩ env H J:=rfl
theorem cO7{x:Operand}:aj0 P L mu ⟨d,.nilCheck x,ty,pos,af,g⟩ env H J=ab7 P L mu ⟨d,.nilCheck x,ty,pos,af,g⟩ env H J:=rfl
theorem dE1{t:TypeId}{x:Operand}:aj0 P L mu ⟨d,.sliceToArrayPointer t x,ty,pos,af,g⟩ env H J=ab7 P L mu ⟨d,.sliceToArrayPointer t x,ty,pos,af,g⟩ env H J:=rfl
theorem dE8{op:BinOp}{t t':TypeId}{x y:Operand}:aj0 P L mu ⟨d,.binOp op t x y t',ty,pos,af,g⟩ env H J=if aE4 y then False else lift (bJ0 L op t (isConst y) (ev env x) (ev env y)) J H:=by unfold aj0;simp only[ab7];split<;>simp_all
theorem dE6{f:FuncId}{az:Array Operand}{ts:Array TypeId}:aj0 P L mu ⟨d,.call ⟨.value (.func f),az,ts⟩,ty,pos,af,g⟩ env H J= ∃z H',o9 P f (az.toList.map (ev env)) H (fun x H''=>x=z/\H''=H')/\aQ2 (J z H'):=by simp only[aj0,ab7,a98];congr;funext z;congr;funext H';rw[show ev env (.func f)=.fn (.func f) [] [] from rfl,dN3]
theorem ee1{az:Array Operand}{ts:Array TypeId}:aj0 P L mu ⟨d,.call ⟨.builtin .len,az,ts⟩,ty,pos,af,g⟩ env H J=ag2 (mu.contains (d.getD 0)) L .len (az.toList.map (ev env)) ts.toList H J:=rfl
theorem ee0{az:Array Operand}{ts:Array TypeId}:aj0 P L mu ⟨d,.call ⟨.builtin .min,az,ts⟩,ty,pos,af,g⟩ env H J=ag2 (mu.contains (d.getD 0)) L .min (az.toList.map (ev env)) ts.toList H J:=rfl
theorem dX9{az:Array Operand}{ts:Array TypeId}:aj0 P L mu ⟨d,.call ⟨.builtin .copy,az,ts⟩,ty,pos,af,g⟩ env H J=ag2 (mu.contains (d.getD 0)) L .copy (az.toList.map (ev env)) ts.toList H J:=rfl
theorem cC9{az:Array Operand}{ts:Array TypeId}:aj0 P L mu ⟨d,.call ⟨.builtin .unsafeSliceData,az,ts⟩,ty,pos,af,g⟩ env H J=ag2 (mu.contains (d.getD 0)) L .unsafeSliceData (az.toList.map (ev env)) ts.toList H J:=rfl
theorem dn1{az:Array Operand}{ts:Array TypeId}:aj0 P L mu ⟨d,.call ⟨.builtin .unsafeString,az,ts⟩,ty,pos,af,g⟩ env H J=ag2 (mu.contains (d.getD 0)) L .unsafeString (az.toList.map (ev env)) ts.toList H J:=rfl
theorem dn3{x y:Operand}{t t':TypeId}:aj0 P L mu ⟨d,.call ⟨.builtin .append,#[x,y],#[t,t']⟩,ty,pos,af,g⟩ env H J=(b97 [ev env x]/\bp8 (mu.contains (d.getD 0)) L t t' (ev env x) (ev env y) H J):=by unfold aj0;simp only[ab7,ag2];simp only[List.map];congr 1;unfold b97;cases ev env x<;>rfl
section
variable {rid i:Nat}{z:AV}{H':List AObj}{hist:List (Nat×List AObj)}{rs:List (Nat×Oper×Env×AV)}{k:List (Nat×List AObj)->List (Nat×Oper×Env×AV)->Prop}
theorem dY6{x:Operand}:ah6 P L mu rid i ⟨d,.move x,ty,pos,af,g⟩ env H z H' hist rs k=k hist rs:=rfl
theorem dn8{x:Operand}:ah6 P L mu rid i ⟨d,.assign x,ty,pos,af,g⟩ env H z H' hist rs k=k hist rs:=rfl
theorem dY5{a b c:Operand}:ah6 P L mu rid i ⟨d,.pick a b c,ty,pos,af,g⟩ env H z H' hist rs k=k hist rs:=rfl
theorem dY4{op:UnOp}{t:TypeId}{x:Operand}:ah6 P L mu rid i ⟨d,.unOp op t x,ty,pos,af,g⟩ env H z H' hist rs k=k hist rs:=rfl
theorem da4{x:Operand}{j:Nat}:ah6 P L mu rid i ⟨d,.extract x j,ty,pos,af,g⟩ env H z H' hist rs k=k hist rs:=rfl
theorem cD7{t:TypeId}{x y:Operand}:ah6 P L mu rid i ⟨d,.indexAddr t x y,ty,pos,af,g⟩ env H z H' hist rs k=k hist rs:=rfl
theorem dF7{t:TypeId}{x y:Operand}:ah6 P L mu rid i ⟨d,.index t x y,ty,pos,af,g⟩ env H z H' hist rs k=k hist rs:=rfl
theorem dF6{t:TypeId}{x:Operand}{lo hi mx:Option Operand}:ah6 P L mu rid i ⟨d,.slice t x lo hi mx,ty,pos,af,g⟩ env H z H' hist rs k=k hist rs:=rfl
theorem cD8{t:TypeId}{x:Operand}{f:Nat}:ah6 P L mu rid i ⟨d,.fieldAddr t x f,ty,pos,af,g⟩ env H z H' hist rs k=k hist rs:=rfl
theorem dF8{t:TypeId}{x:Operand}{f:Nat}:ah6 P L mu rid i ⟨d,.field t x f,ty,pos,af,g⟩ env H z H' hist rs k=k hist rs:=rfl
theorem dG0{t:TypeId}{ps:Array (Nat×Operand)}:ah6 P L mu rid i ⟨d,.build t ps,ty,pos,af,g⟩ env H z H' hist rs k=k hist rs:=rfl
theorem cO8{x:Operand}:ah6 P L mu rid i ⟨d,.nilCheck x,ty,pos,af,g⟩ env H z H' hist rs k=k hist rs:=rfl
theorem dF4{t:TypeId}{x:Operand}:ah6 P L mu rid i ⟨d,.sliceToArrayPointer t x,ty,pos,af,g⟩ env H z H' hist rs k=k hist rs:=rfl
theorem ee6{az:Array Operand}{ts:Array TypeId}:ah6 P L mu rid i ⟨d,.call ⟨.builtin .len,az,ts⟩,ty,pos,af,g⟩ env H z H' hist rs k=k hist rs:=rfl
theorem ee5{az:Array Operand}{ts:Array TypeId}:ah6 P L mu rid i ⟨d,.call ⟨.builtin .min,az,ts⟩,ty,pos,af,g⟩ env H z H' hist rs k=k hist rs:=rfl
theorem dF5{t:TypeId}{a x:Operand}:ah6 P L mu rid i ⟨d,.store t a x,ty,pos,af,g⟩ env H z H' hist rs k=(aq3 P L mu rid i H' rs/\k ((i,H)::hist) rs):=rfl
theorem dG1{t:TypeId}:ah6 P L mu rid i ⟨d,.alloc t,ty,pos,af,g⟩ env H z H' hist rs k=(aq3 P L mu rid i H' rs/\k ((i,H)::hist) rs):=rfl
theorem dn9{az:Array Operand}{ts:Array TypeId}:ah6 P L mu rid i ⟨d,.call ⟨.builtin .append,az,ts⟩,ty,pos,af,g⟩ env H z H' hist rs k=(aq3 P L mu rid i H' rs/\k ((i,H)::hist) rs):=rfl
theorem dY8{az:Array Operand}{ts:Array TypeId}:ah6 P L mu rid i ⟨d,.call ⟨.builtin .copy,az,ts⟩,ty,pos,af,g⟩ env H z H' hist rs k=(aq3 P L mu rid i H' rs/\k ((i,H)::hist) rs):=rfl
theorem dY7{t:TypeId}{x:Operand}:ah6 P L mu rid i ⟨d,.load t x,ty,pos,af,g⟩ env H z H' hist rs k=(H'=H/\aA9 P L mu rid i ⟨d,.load t x,ty,pos,af,g⟩ env z hist/\k hist ((i,⟨d,.load t x,ty,pos,af,g⟩,env,z)::rs)):=rfl
theorem ct2{t:TypeId}{len:Nat}{ps:Array (Nat×Operand)}:ah6 P L mu rid i ⟨d,.buildSlice t len ps,ty,pos,af,g⟩ env H z H' hist rs k=if mu.contains (d.getD 0) then(aq3 P L mu rid i H' rs/\k ((i,H)::hist) rs) else(H'=H/\aA9 P L mu rid i ⟨d,.buildSlice t len ps,ty,pos,af,g⟩ env z hist/\k hist ((i,⟨d,.buildSlice t len ps,ty,pos,af,g⟩,env,z)::rs)):=by unfold ah6 ah0 av6;cases h:mu.contains (d.getD 0)<;>simp[h]
theorem da5{s t:TypeId}{x:Operand}:ah6 P L mu rid i ⟨d,.convert s t x,ty,pos,af,g⟩ env H z H' hist rs k=if mu.contains (d.getD 0) then(aq3 P L mu rid i H' rs/\k ((i,H)::hist) rs) else(H'=H/\aA9 P L mu rid i ⟨d,.convert s t x,ty,pos,af,g⟩ env z hist/\k hist ((i,⟨d,.convert s t x,ty,pos,af,g⟩,env,z)::rs)):=by unfold ah6 ah0 av6;cases h:mu.contains (d.getD 0)<;>simp[h]
theorem dF9{f:Operand}{az:Array Operand}{ts:Array TypeId}:ah6 P L mu rid i ⟨d,.call ⟨.value f,az,ts⟩,ty,pos,af,g⟩ env H z H' hist rs k=if mu.contains (2000000+d.getD 0) then(H'=H/\aA9 P L mu rid i ⟨d,.call ⟨.value f,az,ts⟩,ty,pos,af,g⟩ env z hist/\k hist ((i,⟨d,.call ⟨.value f,az,ts⟩,ty,pos,af,g⟩,env,z)::rs)) else(aq3 P L mu rid i H' rs/\k ((i,H)::hist) rs):=by unfold ah6 ah0 av6;cases h:mu.contains (2000000+d.getD 0)<;>simp[h]
theorem cD6{az:Array Operand}{ts:Array TypeId}:ah6 P L mu rid i ⟨d,.call ⟨.builtin .unsafeSliceData,az,ts⟩,ty,pos,af,g⟩ env H z H' hist rs k=(H'=H/\aA9 P L mu rid i ⟨d,.call ⟨.builtin .unsafeSliceData,az,ts⟩,ty,pos,af,g⟩ env z hist/\k hist ((i,⟨d,.call ⟨.builtin .unsafeSliceData,az,ts⟩,ty,pos,af,g⟩,env,z)::rs)):=rfl
theorem dn7{az:Array Operand}{ts:Array TypeId}:ah6 P L mu rid i ⟨d,.call ⟨.builtin .unsafeString,az,ts⟩,ty,pos,af,g⟩ env H z H' hist rs k=(H'=H/\aA9 P L mu rid i ⟨d,.call ⟨.builtin .unsafeString,az,ts⟩,ty,pos,af,g⟩ env z hist/\k hist ((i,⟨d,.call ⟨.builtin .unsafeString,az,ts⟩,ty,pos,af,g⟩,env,z)::rs)):=rfl
theorem ea6{j:Nat}:aq3 P L mu rid j H' []=True:=rfl
theorem dV0{j:Nat}{o:Oper}{r:List (Nat×Oper×Env×AV)}:aq3 P L mu rid j H' ((i,o,env,z)::r)=if mu.contains (1000000000000+(rid*1000+i)*1000+j) then ab7 P L mu o env H' (fun x H''=>x=z/\H''=H')/\aq3 P L mu rid j H' r else aq3 P L mu rid j H' r:=by rw[<-cU0];rfl
theorem d94{o:Oper}:aA9 P L mu rid i o env z []=True:=rfl
theorem dT7{j:Nat}{o:Oper}{r:List (Nat×List AObj)}:aA9 P L mu rid i o env z ((j,H)::r)=if mu.contains (1000000000000+(rid*1000+i)*1000+j) then ab7 P L mu o env H (fun x H''=>x=z/\H''=H)/\aA9 P L mu rid i o env z r else aA9 P L mu rid i o env z r:=by rw[<-cU0];rfl
theorem ek9:ap7 P L mu rid all i [] env H hist rs K=K env H:=rfl
theorem d56{op:Op}:ap7 P L mu rid all i (⟨d,op,ty,pos,af,none⟩::rest) env H hist rs K=aj0 P L mu ⟨d,op,ty,pos,af,none⟩ env H fun v H'=>ah6 P L mu rid i ⟨d,op,ty,pos,af,none⟩ env H v H' hist rs fun hist' rs'=>ap7 P L mu rid all (i+1) rest (put d v env) H' hist' rs' K:=rfl
theorem dN1{op:Op}{j:Nat}{b:Bool}:ap7 P L mu rid all i (⟨d,op,ty,pos,af,some (j,b)⟩::rest) env H hist rs K=
  ax8 (aq6 all env j) b (aj0 P L mu ⟨d,op,ty,pos,af,some (j,b)⟩ (known1 all j b env) H fun v H'=>ah6 P L mu rid i ⟨d,op,ty,pos,af,some (j,b)⟩ (known1 all j b env) H v H' hist rs fun hist' rs'=>ap7 P L mu rid all (i+1) rest (put d v (known1 all j b env)) H' hist' rs' K) (ap7 P L mu rid all (i+1) rest (put d (.lit undef) (known1 all j (!b) env)) H hist rs K) (ap7 P L mu rid all (i+1) rest (put d (.lit undef) env) H hist rs K):=rfl
end
end
theorem et0{m:Bool}{x:AV}{t:TypeId}:ag2 m L .len [x] [t] H J=lift (bP7 L t x) J H:=rfl
theorem et1{m:Bool}{x:AV}{t:TypeId}:ag2 m L .cap [x] [t] H J=lift (ci8 L t x) J H:=rfl
theorem es8{m:Bool}{x y:AV}{t t':TypeId}:ag2 m L .min [x,y] [t,t'] H J=lift (aN2 false x y) J H:=rfl
theorem es9{m:Bool}{x y:AV}{t t':TypeId}:ag2 m L .max [x,y] [t,t'] H J=lift (aN2 true x y) J H:=rfl
theorem em2{m:Bool}{x y:AV}{t t':TypeId}:ag2 m L .copy [x,y] [t,t'] H J=bu7 L t x y H J:=rfl
theorem cQ5{m:Bool}{x:AV}{t:TypeId}:ag2 m L .unsafeSliceData [x] [t] H J=lift (aO8 H x) J H:=rfl
theorem dO8{m:Bool}{x y:AV}{t t':TypeId}:ag2 m L .unsafeString [.data x,y] [t,t'] H J=lift (a14 L H t (.data x) y) J H:=rfl
theorem dP0{m:Bool}{x y:AV}{t t':TypeId}:ag2 m L .append [x,y] [t,t'] H J=bp8 m L t t' x y H J:=rfl
theorem et2{m:Bool}{o:Own}{s:Nat}{xs:List AV}{y:AV}{t t':TypeId}:bp8 m L t t' (.sl o s xs) y H J=if m then aT7 L t t' (.sl o s xs) y H J else bm2 L t t' (.sl o s xs) y H J:=rfl
theorem d73{m:Bool}{k n:Nat}{y:AV}{t t':TypeId}:bp8 m L t t' (.mrow k n) y H J=aT6 L t t' (.mrow k n) y H J:=rfl
theorem em9{m:Bool}{k off n c:Nat}{y:AV}{t t':TypeId}:bp8 m L t t' (.msl k off n c) y H J=be5 L t t' (.msl k off n c) y H J:=rfl
theorem ef4{t:Tmp}:aE4 (.tmp t)=false:=rfl
theorem ef8{k:IntKind}{i:Int}:aE4 (.const (.int k i))=false:=rfl
theorem ef5{s:ByteArray}:aE4 (.const (.string s))=false:=rfl
theorem ef6{a:Option Addr}:aE4 (.const (.pointer a))=false:=rfl
theorem ef7:aE4 (.const (.slice none 0 0))=true:=rfl
theorem em1{x:AV}{t:TypeId}:bh5 L H .len [x] [t] D=av2 (bP7 L t x) D:=rfl
theorem d16{d:Tmp}{op:Op}{ty:TypeId}{pos:String}{af:Array Edge}{g:Option (Nat×Bool)}{b:Bool}:known1 (⟨some d,op,ty,pos,af,g⟩::rest) 0 b env=(d,.lit (.bool b))::env:=rfl
theorem d17{o:Oper}{j:Nat}{b:Bool}:known1 (o::rest) (j+1) b env=known1 rest j b env:=rfl
theorem dB2{d:Tmp}{v:AV}:put (some d) v env=(d,v)::env:=rfl
theorem dB3{v:AV}:put none v env=env:=rfl
theorem ek3{t:Tmp}:ev env (.tmp t)=get env t:=rfl
theorem dL6{v:Value}:ev env (.const v)=aH2 v:=rfl
theorem du2{g:Nat}:ev env (.global g)=ah8 g:=rfl
theorem d48{f:FuncId}:ev env (.func f)=.fn (.func f) [] []:=rfl
theorem a99{k t:Nat}{v:AV}:get ((k,v)::env) t=if k=t then v else get env t:=rfl
theorem ds7{k t:Nat}{v:AV}:get ((k,v)::env) t=if k=t then v else get env t:=rfl
theorem cW5{t:Nat}:get [] t=.any:=rfl
theorem of_int{k:IntKind}{i:Int}:aH2 (.int k i)=.lit (.int k i):=rfl
theorem of_bool{b:Bool}:aH2 (.bool b)=.lit (.bool b):=rfl
theorem ed8{a:List UInt8}:aH2 (.string ⟨a.toArray⟩)=.str a:=rfl
theorem of_nil:aH2 (.slice none 0 0)=.sl .full 0 []:=rfl
theorem ed9{a:Option Addr}:aH2 (.pointer a)=.lit (.pointer a):=rfl
theorem dn0:aH2 .nilIface=.lit .nilIface:=rfl
theorem dE0:aH2 .nilFunc=.lit .nilFunc:=rfl
theorem a19{α:Type}{f:α->AV}{l:List α}(h: ∀x,(f x).scalar=true):ones (l.map f):=fun y hy=>by
 obtain⟨x,_,rfl⟩:=xq9.1 hy;exact h x
theorem b95{l:List UInt8}:ones (l.map o8)=True:=eq_true (a19 fun _=>rfl)
theorem db8{α:Type}{k:IntKind}{f:α->Int}{l:List α}:bx7 k (l.map fun x=>.lit (.int k (f x)))=True:=eq_true (by unfold bx7;simp[intOf])
theorem cG3{l:List UInt8}:bx7 .u8 (l.map o8)=True:=db8
theorem dc0{l:List UInt8}:(l.map o8).map intOf=l.map fun b=>(b.toNat:Int):=by simp[intOf,o8]
theorem dJ1{l m:List UInt8}:(l.map (fun b=>(b.toNat:Int))=m.map fun b=>(b.toNat:Int))=(l=m):=by
 refine propext ⟨fun h=>?_,fun h=>by rw[h]⟩
 have h2:=congrArg (List.map fun z:Int=>UInt8.ofNat z.toNat) h
 have e:((fun z:Int=>UInt8.ofNat z.toNat)∘fun b:UInt8=>(b.toNat:Int))=id:=by
  funext b
  simp
 rwa [aS8,aS8,e,List.map_id,List.map_id] at h2
theorem cw8{zs:List AV}{n:Nat}:ag4 zs n=(List.range n).map fun i=>zs.getD (i%zs.length) .any:=rfl
theorem bl2{z:AV}{n:Nat}:ag4 [z] n=List.replicate n z:=by
 unfold ag4;refine aV9 fun i=>?_
 rw[ak6,b44];by_cases h:i < n
 ·rw[aM3 h,if_pos h]
  simp[Nat.mod_one]
 ·rw[av9 (by simpa using h),if_neg h]
  rfl
theorem flat_agg{cs:List AV}:(AV.agg cs).flat=cs:=rfl
theorem flat_lit{v:Value}:(AV.lit v).flat=[.lit v]:=rfl
theorem dK8{l:List UInt8}:(AV.str l).flat=[.str l]:=rfl
theorem d41{o:Own}{s:Nat}{xs:List AV}:(AV.sl o s xs).flat=[.sl o s xs]:=rfl
theorem d42{k off:Nat}:(AV.mp k off).flat=[.mp k off]:=rfl
theorem dt6{k n:Nat}:(AV.mrow k n).flat=[.mrow k n]:=rfl
theorem d43{f:Fn}{fs cs:List AV}:(AV.fn f fs cs).flat=[.fn f fs cs]:=rfl
theorem dX3{cs:List AV}:(AV.agg cs).okv=cs.all AV.scalar:=rfl
theorem dX2{v:Value}:(AV.lit v).okv=v.oneCell':=rfl
theorem dX1{l:List UInt8}:(AV.str l).okv=true:=rfl
theorem ed5{o:Own}{s:Nat}{xs:List AV}:(AV.sl o s xs).okv=true:=rfl
theorem ed6{k off:Nat}:(AV.mp k off).okv=true:=rfl
theorem dD9{k n:Nat}:(AV.mrow k n).okv=true:=rfl
theorem ed7{f:Fn}{fs cs:List AV}:(AV.fn f fs cs).okv=true:=rfl
def Done(H₀:List AObj)(R:AV->List AObj->Prop)(x:AV)(H:List AObj)[Tag R][Tag H₀]:Prop:=
 ∃y H',Ends H₀ x H y H'/\R y H'
def ej1(q:Option (Prop×List AV))(H₀:List AObj)(R:AV->List AObj->Prop)(H:List AObj)[Tag R][Tag H₀]:Prop:=
 match q with
 |some (p,xs)=>p/\Done H₀ R (aQ6 xs) H
 |none=>False
theorem ej0{rs:List ResultVar}{H₀:List AObj}{R:AV->List AObj->Prop}:Fin L rs H₀ R env H=ej1 (aG8 L env H rs) H₀ R H:=rfl
theorem dt9{p:Prop}{xs:List AV}{H₀:List AObj}{R:AV->List AObj->Prop}:ej1 (some (p,xs)) H₀ R H=(p/\Done H₀ R (aQ6 xs) H):=rfl
theorem ec3:aG8 L env H []=some (True,[]):=rfl
def cz8(q:Option (Prop×AV))(r:Option (Prop×List AV)):Option (Prop×List AV):=
 match q,r with
 |some (p,x),some (q,xs)=>some (p/\q,x::xs)
 |_,_=>none
theorem dV4{r:ResultVar}{rs:List ResultVar}:aG8 L env H (r::rs)=cz8 (bv7 L env H r) (aG8 L env H rs):=by
 unfold cz8;rw[aG8]<;>cases bv7 L env H r<;>cases aG8 L env H rs<;>rfl
theorem cO1{p q:Prop}{x:AV}{xs:List AV}:cz8 (some (p,x)) (some (q,xs))=some (p/\q,x::xs):=rfl
theorem ep4{t:Tmp}:bv7 L env H (.tmp t)=some (True,get env t):=rfl
theorem ec6{a:Tmp}{t:TypeId}:bv7 L env H (.cell a t)=aR9 L H t (get env a):=rfl
theorem ec1{x:AV}:aQ6 [x]=x:=rfl
theorem ec0{x y:AV}{r:List AV}:aQ6 (x::y::r)=.tup (x::y::r):=rfl
theorem ec2:aQ6 []=.tup []:=rfl
theorem du9{H₀ H H':List AObj}{R:AV->List AObj->Prop}{x y:AV}(h:Ends H₀ x H y H')(hr:R y H'):Done H₀ R x H:=⟨y,H',h,hr⟩
theorem ad7{H₀:List AObj}{R:AV->List AObj->Prop}{x:AV}(y:AV)(hx:Le x y)(hl:H₀.length<=H.length)(hr:R y H):Done H₀ R x H:=⟨y,H,d50 hx,hr⟩
theorem y5{H₀:List AObj}{R:AV->List AObj->Prop}{x:AV}(hr:R x H₀):Done H₀ R x H₀:=ad7 x (Le.refl x) (xq0 _) hr
theorem aa3{H₀ M:List AObj}{R:AV->List AObj->Prop}{x:AV}(y:AV)(hx:Le x y)(hl:Low H₀.length y)(hr:R y H₀):Done H₀ R x (H₀++M):=by
 refine⟨y,(H₀++M).take H₀.length,bo5 hx (xq0 _) hl fun k sh cs hk e=>.inl ?_,by rw[aZ2];exact hr⟩
 rwa [xq4 hk] at e
theorem bo6{H₀ M:List AObj}{R:AV->List AObj->Prop}{x:AV}(y:AV)(f:Frz H₀.length (H₀++M) x y)(hr:R y H₀):Done H₀ R x (H₀++M):=by
 refine⟨y,(H₀++M).take H₀.length,dL9 (Le.refl x) (xq0 _) f fun k sh cs hk e=>.inl ?_,by rw[aZ2];exact hr⟩
 rwa [xq4 hk] at e
theorem ao0{H₀:List AObj}{o:AObj}{R:AV->List AObj->Prop}{x:AV}(hl:Low H₀.length x)(hr:R x H₀):Done H₀ R x (H₀++[o]):=aa3 x (Le.refl x) hl hr
attribute [irreducible] Done
end
def aG1(env env':Env):Prop:= ∀t,Le (get env t) (get env' t)
theorem du5{env:Env}:aG1 env []:=fun t=>Le.any _
theorem dd5{env r:Env}{k:Nat}{v:AV}(h:Le (get env k) v)(hr:aG1 env r):aG1 env ((k,v)::r):=fun t=>by
 rw[a99];split
 ·rename_i e;subst e;exact h
 ·exact hr t
theorem eq4{x y:AV}(h:x=y):Le x y:=h▸Le.refl x
theorem dc9{l:List UInt8}{i:Nat}(h:i < l.length):(l.map o8).getD i .any=.lit (.int .u8 (l.getD i 0).toNat):=by
 simp[List.getD,xq1 h,o8]
theorem dO2(b:UInt8):IntKind.i64.wrap (b.toNat:Int)=(b.toNat:Int):=IntWalk.i64_in _ (by have:=b.toNat_lt;omega)
theorem dO0(b:UInt8):IntKind.u32.wrap (b.toNat:Int)=(b.toNat:Int):=IntWalk.u32_in _ (by have:=b.toNat_lt;omega)
theorem dN9(b:UInt8):IntKind.u64.wrap (b.toNat:Int)=(b.toNat:Int):=IntWalk.u64_in _ (by have:=b.toNat_lt;omega)
theorem cK0{P:Program}{k:Nat}{args:List AV}{H H₁:List AObj}{z:AV}{K:AV->List AObj->Prop}(h:aV6 P k args H (fun x H'=>x=z/\H'=H₁))(kk:K z H₁):aV6 P k args H K:=fun ro N G w vs l hi ha hl=>by
 obtain⟨fn,tmps,assign,body,h1,h2⟩:=h ro N G w vs l hi ha hl;refine⟨fn,tmps,assign,body,h1,h2.mono ?_⟩;rintro e w' ⟨v,x,G',H',h3,h4,h5,h6,rfl,rfl⟩
 exact⟨v,x,G',H',h3,h4,h5,h6,kk⟩
theorem o5{P:Program}{f:FuncId}{args:List AV}{H H₁:List AObj}{z:AV}{K:AV->List AObj->Prop}(h:o9 P f args H (fun x H'=>x=z/\H'=H₁))(k:K z H₁):o9 P f args H K:=
 h.mono fun _ _ ⟨e,e'⟩=>by subst e;subst e';exact k
theorem dH2{a b:Nat}(h:a<=b):min a b=a:=bl4 h
theorem an0{n:Nat}{k:Int}(h:0<=k):(n:Int).fdiv k=((n/k.toNat:Nat):Int):=by
 rw[Int.fdiv_eq_ediv_of_nonneg _ h,Int.natCast_ediv,Int.toNat_of_nonneg h]
theorem dL2{a k:Int}(h:0<=k):a.fdiv k=a/k:=Int.fdiv_eq_ediv_of_nonneg _ h
theorem dz6{a k:Int}(h:0<=a):a.tdiv k=a/k:=Int.tdiv_eq_ediv_of_nonneg h
theorem dz5{a k:Int}(h:0<=a):a.tmod k=a%k:=Int.tmod_eq_emod_of_nonneg h
theorem bg2{k:Nat}{m:Nat}{a:Int}(h:0<=a)(h2:a < 2^k)(hm:m<=k):((BitVec.ofInt k a&&&BitVec.ofInt k (2^m - 1)).toNat:Int)=a%2^m:=by
 obtain⟨n,rfl⟩:=cZ8 h;have hn:n < 2^k:=by exact_mod_cast h2
 have hp:(2:Int)^m - 1=((2^m - 1:Nat):Int):=by
  have h0:0 < 2^m:=Nat.two_pow_pos m;have h1:((2^m:Nat):Int)=(2:Int)^m:=by simp
  rw[<-h1];omega
 have hle:2^m<=2^k:=cf9 (by decide) hm
 have h0:0 < 2^m:=Nat.two_pow_pos m;rw[hp,cu9,cZ7,cZ7,aA8,aA8,aA7 hn,aA7 (by omega),cu8]
 exact_mod_cast rfl
theorem u8_and(m:Nat){a:Int}(h:0<=a/\a < 256)(hm:m<=8):((BitVec.ofInt 8 a&&&BitVec.ofInt 8 (2^m - 1)).toNat:Int)=a%2^m:=bg2 h.1 h.2 hm
theorem u8_and15{a:Int}(h:0<=a/\a < 256):((BitVec.ofInt IntKind.u8.bits a&&&BitVec.ofInt IntKind.u8.bits 15).toNat:Int)=a%16:=u8_and 4 h (by decide)
theorem u8_and7{a:Int}(h:0<=a/\a < 256):((BitVec.ofInt IntKind.u8.bits a&&&BitVec.ofInt IntKind.u8.bits 7).toNat:Int)=a%8:=u8_and 3 h (by decide)
theorem dU0(a:Int):IntKind.u8.wrap a=a%256:=by
 simp[IntKind.wrap,IntKind.signed,IntKind.bits]
theorem d63(b:UInt8):((b.toNat:Int) < 256)=True:=eq_true (by have:=b.toNat_lt;omega)
theorem dO1(b:UInt8):(b.toNat < 256)=True:=eq_true (by have:=b.toNat_lt;omega)
theorem d64(n:Nat):(0<=(n:Int))=True:=eq_true (by omega)
def ba1:List AV:=bm7.map an8
def aO3:List AV:=aM7.map an8
theorem cc7:ba1=(List.range 256).map fun c=>.lit (.int .u8 (Lib.firstT c)):=by
 unfold ba1 bm7;rw[aS8];rfl
theorem cP9:ba1.length=256:=by rw[cc7];simp
theorem dK9(b:UInt8):ba1.getD b.toNat .any=.lit (.int .u8 (Lib.firstT b.toNat)):=by
 have:=b.toNat_lt;rw[cc7,List.getD,ak6,aM3 (by omega)]
 rfl
theorem cK8:aO3.length=32:=by unfold aO3;rw[List.length_map];decide
theorem dx3{i:Nat}(h:i < 16):(aO3.drop (i*2)).take 2=[.lit (.int .u8 (Lib.accLo i)),.lit (.int .u8 (Lib.accHi i))]:=by
 unfold aO3;match i,h with
 |0,_=>rfl
 |1,_=>rfl
 |2,_=>rfl
 |3,_=>rfl
 |4,_=>rfl
 |5,_=>rfl
 |6,_=>rfl
 |7,_=>rfl
 |8,_=>rfl
 |9,_=>rfl
 |10,_=>rfl
 |11,_=>rfl
 |12,_=>rfl
 |13,_=>rfl
 |14,_=>rfl
 |15,_=>rfl
 |_+16,h=>omega
theorem dc8{g:Nat}(h:aQ1 g=bm7)(hi:aY1 g=none):ah8 g=.ip (.agg ba1):=by
 unfold ah8;rw[hi];simp only;rw[h,if_neg (by decide)]
 rfl
theorem cP5{g:Nat}(h:aQ1 g=aM7)(hi:aY1 g=none):ah8 g=.ip (.agg aO3):=by
 unfold ah8;rw[hi];simp only;rw[h,if_neg (by decide)]
 rfl
def a18:List AV:=bm6.map an8
theorem dc6{g:Nat}(h:aQ1 g=bm6)(hi:aY1 g=none):ah8 g=.ip (.agg a18):=by
 unfold ah8;rw[hi];simp only;rw[h,if_neg (by decide)]
 rfl
theorem bU2:a18.length=20:=by unfold a18;rw[List.length_map];decide
theorem dB7{i:Nat}(h:i < 20):a18.getD i .any=.lit (.int .u64 ((10^i:Nat):Int)):=by
 unfold a18 bm6;rw[aS8,List.getD,ak6,aM3 (by omega)]
 rfl
def a07:List AV:=a03.map an8
def aF7:List AV:=aT8.map an8
def a06:List AV:=a02.map an8
theorem dc5{g:Nat}(h:aQ1 g=a03)(hi:aY1 g=none):ah8 g=.ip (.agg a07):=by
 unfold ah8;rw[hi];simp only;rw[h,if_neg (by decide)]
 rfl
theorem cP4{g:Nat}(h:aQ1 g=aT8)(hi:aY1 g=none):ah8 g=.ip (.agg aF7):=by
 unfold ah8;rw[hi];simp only;rw[h,if_neg (by decide)]
 rfl
theorem dc4{g:Nat}(h:aQ1 g=a02)(hi:aY1 g=none):ah8 g=.ip (.agg a06):=by
 unfold ah8;rw[hi];simp only;rw[h,if_neg (by decide)]
 rfl
def aP1(l:List Nat):List AV:=l.map fun n=>.lit (.int .u64 ((BitVec.ofNat 64 n).toNat:Int))
theorem dK1{g:Nat}(h:aQ1 g=cy3)(hi:aY1 g=none):ah8 g=.ip (.agg (aP1 cC7)):=by
 unfold ah8;rw[hi];simp only;rw[h,if_neg (by decide)]
 rfl
theorem ds5{g:Nat}(h:aQ1 g=ch7)(hi:aY1 g=none):ah8 g=.ip (.agg (aP1 bQ3)):=by
 unfold ah8;rw[hi];simp only;rw[h,if_neg (by decide)]
 rfl
theorem dc7{g:Nat}(h:aQ1 g=bW5)(hi:aY1 g=none):ah8 g=.ip (.agg (aP1 bn6)):=by
 unfold ah8;rw[hi];simp only;rw[h,if_neg (by decide)]
 rfl
theorem ds4{g:Nat}(h:aQ1 g=ch2)(hi:aY1 g=none):ah8 g=.ip (.agg (aP1 bO9)):=by
 unfold ah8;rw[hi];simp only;rw[h,if_neg (by decide)]
 rfl
theorem cO0:a07.length=80:=by unfold a07 a03;rw[List.length_map,List.length_map];decide
theorem cJ7:aF7.length=8:=by unfold aF7 aT8;rw[List.length_map,List.length_map];decide
theorem cN4:a06.length=256:=by unfold a06 a02;rw[List.length_map,List.length_map,List.length_range]
theorem dA8{i:Nat}(h:i < 80):a07.getD i .any=.lit (.int .u64 ((be9.getD i 0:Nat):Int)):=by
 have:i < be9.length:=h;unfold a07 a03;simp[List.getD,xq1 this,an8]
theorem dv9{i:Nat}(h:i < 8):aF7.getD i .any=.lit (.int .u64 ((ba6.getD i 0:Nat):Int)):=by
 have:i < ba6.length:=h;unfold aF7 aT8;simp[List.getD,xq1 this,an8]
theorem dA2{i:Nat}(h:i < 256):a06.getD i .any=.lit (.int .u8 ((bI2 i:Nat):Int)):=by
 unfold a06 a02;simp[List.getD,ak6,aM3 h,an8]
attribute [irreducible] ba1 aO3 a18 a07 aF7 a06
theorem dd6{l:List UInt8}{n:Nat}:(l.map o8).drop n=(l.drop n).map o8:=List.map_drop.symm
theorem c44{l:List UInt8}{n:Nat}:(l.map o8).take n=(l.take n).map o8:=cf8.symm
theorem take_len{α:Type}{l:List α}{n:Nat}(h:l.length<=n):l.take n=l:=ak5 h
theorem dw3{l m:List UInt8}:l.map o8++m.map o8=(l++m).map o8:=b46.symm
theorem db9{l:List UInt8}:isBytes (l.map o8)=True:=eq_true (bV0 l)
theorem cq1{l m:List AV}{i:Nat}(h:i < l.length):(l++m).getD i .any=l.getD i .any:=by
 simp[List.getD,xq4 h]
theorem aP6{H M:List AObj}:(H++M)[H.length]?=M[0]?:=by rw[xq7 (xq0 _),ao8]
theorem az9{H M:List AObj}{k:Nat}:(H++M)[H.length+k]?=M[k]?:=by rw[xq7 (by omega),aI1]
theorem bf3{H M:List AObj}{o:AObj}:(H++M).set H.length o=H++M.set 0 o:=by rw[az4 _ _ (xq0 _),ao8]
theorem aY0{H M:List AObj}{o:AObj}{k:Nat}:(H++M).set (H.length+k) o=H++M.set k o:=by rw[az4 _ _ (by omega),aI1]
theorem ei3{H M:List AObj}{k:Nat}(h:k < H.length):(H++M)[k]?=H[k]?:=xq4 h
theorem aC5{o:Own}{s:Nat}{xs:List AV}:Le (.sl o s xs) (.sl .sh s xs):=fun _ _ _ _ h=>by
 cases h with
 |sl _ _ _ a len cap val hl hcap hs hc hr hf ha ho=>exact .sl .sh s xs a len cap val hl hcap hs hc hr (fun e=>by cases e) ha (fun k e=>by cases e)
theorem ad5{a b:Bool}(h:a=b):AV.lit (.bool a)=AV.lit (.bool b):=by rw[h]
theorem int_eq{k:IntKind}{a b:Int}(h:a=b):AV.lit (.int k a)=AV.lit (.int k b):=by rw[h]
def bp5(m:Nat)(env:Env):Prop:= ∀t,Low m (get env t)
theorem af9{m:Nat}:bp5 m []:=fun t=>.any
theorem af1{m:Nat}{r:Env}{k:Nat}{v:AV}(h:Low m v)(hr:bp5 m r):bp5 m ((k,v)::r):=fun t=>by
 rw[a99];split
 ·exact h
 ·exact hr t
theorem bd3{m:Nat}{xs:List AV}{o:Own}{s:Nat}(h: ∀x∈xs,∃v,x=.lit v)(ho: ∀k,o=.tok k->k < m):Low m (.sl o s xs):=by
 refine .sl _ _ _ ho fun x hx=>?_
 unfold aa0 at hx;obtain⟨y,hy,hxy⟩:=bW3.1 hx;obtain⟨v,rfl⟩:=h y hy;simp only[AV.flat,b43] at hxy;subst hxy;exact .lit _
theorem ae4{m s:Nat}{l:List UInt8}:Low m (.sl .sh s (l.map o8)):=bd3 (fun x hx=>by
 obtain⟨b,_,rfl⟩:=xq9.1 hx;exact⟨_,rfl⟩) (fun k e=>by cases e)
theorem ag3{m s:Nat}{l:List Int}:Low m (.sl .sh s (l.map eb9)):=bd3 (fun x hx=>by
 obtain⟨b,_,rfl⟩:=xq9.1 hx;exact⟨_,rfl⟩) (fun k e=>by cases e)
def Shift(H₀:List AObj)(env:Env)(H:List AObj)(env':Env)(H':List AObj):Prop:=
 ∀G₀ w₀ G w (vs:Nat->Value),HInv G₀ H₀ w₀->HInv G H w->Step G₀ H₀ w₀ G H w->(∀t,Rel G H w (get env t) (vs t))-> ∃G',HInv G' H' w/\Step G₀ H₀ w₀ G' H' w/\ ∀t,Rel G' H' w (get env' t) (vs t)
theorem dA4{H₀ H:List AObj}{env env':Env}(h:aG1 env env'):Shift H₀ env H env' H:=fun _ _ G w vs _ hi hs r=>⟨G,hi,hs,fun t=>h t _ _ _ _ (r t)⟩
theorem dj6{H₀ M:List AObj}{env env':Env}(h:aG1 env env')(hl:bp5 H₀.length env'):Shift H₀ env (H₀++M) env' H₀:=fun G₀ w₀ G w vs h0 hi hs r=>by
 have htk:(H₀++M).take H₀.length=H₀:=aZ2;have hc:=hi.cut H₀.length fun k sh cs hk e y hy=>by
  rw[xq4 hk] at e;obtain⟨arr,T,fr,hb',hsz,hr',_⟩:=h0.cells k sh cs e;obtain⟨j,hj⟩:=ar7.1 hy;have hja:j < arr.size:=aC9 (y9 hj) hsz;exact(hr' j y _ hj (xq2 hja)).low
 have hs':=hs.cut (m:=H₀.length) (xq0 _);rw[htk] at hc hs';refine⟨G,hc,hs',fun t=>?_⟩
 have:=(h t _ _ _ _ (r t)).cut H₀.length (hl t);rwa [htk] at this
def be3{α:Type}(I:α->Prop)(E:α->Env)(Hf:α->List AObj)(m:α->Nat)(x:α)(env:Env)(H:List AObj)[Tag I][Tag E][Tag Hf][Tag m]:Prop:= ∃y,m y < m x/\I y/\Shift (Hf x) env H (E y) (Hf y)
theorem again{α:Type}{I:α->Prop}{E:α->Env}{Hf:α->List AObj}{m:α->Nat}{x:α}{env:Env}{H:List AObj}(y:α)(hm:m y < m x)(hI:I y)(hH:H=Hf y)(hE:aG1 env (E y)):be3 I E Hf m x env H:=⟨y,hm,hI,hH▸dA4 hE⟩
theorem aV4{α:Type}{I:α->Prop}{E:α->Env}{H₀:List AObj}{m:α->Nat}{x:α}{env:Env}{M:List AObj}(y:α)(hm:m y < m x)(hI:I y)(hL:bp5 H₀.length (E y))(hE:aG1 env (E y)):be3 I E (fun _=>H₀) m x env (H₀++M):=
 ⟨y,hm,hI,dj6 hE hL⟩
theorem cR0{α:Type}{I:α->Prop}{E:α->Env}{Hf:α->List AObj}{m:α->Nat}{x:α}{env:Env}{H:List AObj}(y:α)(hm:m y < m x)(hI:I y)(hS:Shift (Hf x) env H (E y) (Hf y)):be3 I E Hf m x env H:=⟨y,hm,hI,hS⟩
attribute [irreducible] be3
theorem Sat.le{n:Nat}{G:Gh}{env env':Env}{H:List AObj}{a:Act}{w:World}(s:Sat n ds G env H a w)(h:aG1 env env'):Sat n ds G env' H a w:=
 ⟨s.size,s.defers,fun t=>h t G H w _ (s.env t),s.inv⟩
theorem bO5{P:Program}{L:Tab}(hL:ac6 P L)(hmx:P.follows .mixedOrders=true)(mu:List Nat){n:Nat}{c:Code}{Q:Exit->Env->List AObj->Prop}{env:Env}{H:List AObj}{α:Type}(I:α->Prop)(E:α->Env)(Hf:α->List AObj)(m:α->Nat)(hok:okC mu n c=true)
  (round: ∀x,I x->vcC P L mu n c (Ex (fun env H=>be3 I E Hf m x env H) Q) (E x) (Hf x)) (x:α) (hx:I x) (hE:aG1 env (E x)) (hH:H=Hf x):AW P n (.loop c) Q env H:=by
 intro ro N ds G a w s;subst hH;refine b47 (fun k a' w'=> ∃y G',m y=k/\I y/\Sat n ds G' (E y) (Hf y) a' w'/\Step G (Hf x) w G' (Hf y) w') (fun k a' w' ⟨y,G',hk,hy,s',stp⟩=>?_) (m x) a w ⟨x,G,rfl,hx,s.le hE,.refl _ _ _⟩
 refine wpIn_mono (ai8 hL hmx c hok (round y hy) ro N ds G' a' w' s') fun e a'' w'' ⟨G'',env'',H'',s'',stp',q⟩=>?_
 cases e with
 |normal=>
  unfold Ex be3 at q;obtain⟨z,h1,h2,h3⟩:=q;obtain⟨G3,hi3,st3,hr3⟩:=h3 G' w' G'' w'' (fun t=>a''.tmps.getD t undef) s'.inv s''.inv stp' s''.env
  exact⟨m z,hk▸h1,z,G3,rfl,h2,⟨s''.size,s''.defers,hr3,hi3⟩,stp.trans st3⟩
 |_=>exact⟨G'',env'',H'',s'',stp.trans stp',q⟩
def kept(env:Env):List Nat->Env
 |[]=>[]
 |t::r=>(t,get env t)::kept env r
theorem dI7{env:Env}:kept env []=[]:=rfl
theorem dq1{env:Env}{t:Nat}{r:List Nat}:kept env (t::r)=(t,get env t)::kept env r:=rfl
theorem aa5{P:Program}{L:Tab}(hL:ac6 P L)(hmx:P.follows .mixedOrders=true)(mu ks:List Nat){n:Nat}{c:Code}{Q:Exit->Env->List AObj->Prop}{env:Env}{H:List AObj}{α:Type}(I:α->Prop)(E:α->Env)(Hf:α->List AObj)(m:α->Nat)(hok:okC mu n c=true)
  (round: ∀x,I x->vcC P L mu n c (Ex (fun env' H=>be3 I (fun y=>E y++kept env ks) Hf m x env' H) Q) (E x++kept env ks) (Hf x)) (x:α) (hx:I x) (hE:aG1 env (E x++kept env ks)) (hH:H=Hf x):AW P n (.loop c) Q env H:=
 bO5 hL hmx mu I (fun y=>E y++kept env ks) Hf m hok round x hx hE hH
theorem by7{P:Program}{n:Nat}{c:Code}{Q:Exit->Env->List AObj->Prop}{env:Env}{H:List AObj}(t s:Nat){z:Nat}{xs:List AV}(ht:get env t=.sl .full z xs)(hs:0 < s)(hz:xs≠[]->z=s)
  (h:AW P n c Q ((t,.sl (.tok H.length) s xs)::env) (H++[.grow s xs.length none])):AW P n c Q env H:=by
 intro ro N ds G a w sat;have r:=sat.env t;rw[ht] at r;generalize hv:a.tmps.getD t undef=v at r;have r0:=r;cases r with
 |sl _ _ _ ad len cap val hl hcap hs' hc hr hf ha ho=>
  obtain⟨hi,st,hr'⟩:=cE4 none sat.inv r0 hs hz (fun h=>absurd rfl h)
  refine wpIn_mono (h ro N ds _ a w ⟨sat.size,sat.defers,fun u=>?_,hi⟩) fun _ _ _ p=>p.trans st
  rw[a99];split
  ·rename_i e
   subst e;rw[hv];exact hr'
  ·exact(sat.env u).mono st
theorem am9{o:Own}{s t:Nat}:Le (.sl o s []) (.sl .sh t []):=fun _ _ _ _ h=>by
 cases h with
 |sl _ _ _ a len cap val hl hcap hs hc hr hf ha ho=>exact .sl .sh t [] a len cap val hl hcap (fun x hx=>by cases hx) hc hr (fun e=>by cases e) ha (fun k e=>by cases e)
theorem aI0{H₀ M:List AObj}{R:AV->List AObj->Prop}{x:AV}(hr:R x (H₀++M)):Done H₀ R x (H₀++M):=ad7 x (Le.refl x) (by simp) hr
def bN9(m:Nat)(xs:List AV):Prop:= ∀x∈xs,Low m x
theorem ab6{m:Nat}:bN9 m []:=fun x hx=>by cases hx
theorem aa2{m:Nat}{x:AV}{xs:List AV}(h:Low m x)(k:bN9 m xs):bN9 m (x::xs):=fun y hy=>by
 rcases ai9.1 hy with rfl|hy
 ·exact h
 ·exact k y hy
theorem ag8{m:Nat}{xs:List AV}(h:bN9 m xs):Low m (.tup xs):=.tup _ h
theorem ay0{m:Nat}{xs:List AV}(h:bN9 m xs):Low m (.agg xs):=.agg _ h
theorem ae6{m s:Nat}{o:Own}(ho: ∀k,o=.tok k->k < m):Low m (.sl o s []):=.sl _ _ _ ho fun x hx=>by simp[aa0] at hx
inductive LeAll:List AV->List AV->Prop
 |nil:LeAll [] []
 |cons {x y:AV} {xs ys:List AV} (h:Le x y) (k:LeAll xs ys):LeAll (x::xs) (y::ys)
theorem LeAll.get{xs ys:List AV}(h:LeAll xs ys):xs.length=ys.length/\ ∀(j:Nat) y,ys[j]?=some y-> ∃x,xs[j]?=some x/\Le x y:=by
 induction h with
 |nil=>exact⟨rfl,fun j y e=>by simp at e⟩
 |cons h _ ih=>
  refine⟨by simp[ih.1],fun j y e=>?_⟩
  cases j with
  |zero=>simp at e;subst e;exact⟨_,rfl,h⟩
  |succ j=>simpa using ih.2 j y (by simpa using e)
theorem aH4{xs ys:List AV}(h:LeAll xs ys):Le (.tup xs) (.tup ys):=fun _ _ _ _ r=>by
 obtain⟨hl,hg⟩:=h.get;cases r with
 |tup _ arr hs hr=>
  refine .tup _ _ (hs.trans hl) fun j z v e e'=>?_
  obtain⟨x,hx,hle⟩:=hg j z e;exact hle _ _ _ _ (hr j x v hx e')
theorem ca6{xs ys:List AV}(h:LeAll xs ys):Le (.agg xs) (.agg ys):=fun _ _ _ _ r=>by
 obtain⟨hl,hg⟩:=h.get;cases r with
 |agg _ arr hs hr=>
  refine .agg _ _ (hs.trans hl) fun j z v e e'=>?_
  obtain⟨x,hx,hle⟩:=hg j z e;exact hle _ _ _ _ (hr j x v hx e')
theorem dM3{H₀ M:List AObj}{R:AV->List AObj->Prop}{v:Value}(hr:R (.lit v) H₀):Done H₀ R (.lit v) (H₀++M):=aa3 _ (Le.refl _) (.lit _) hr
theorem cX3{H₀:List AObj}{R:AV->List AObj->Prop}{x:AV}(y:AV)(h:Le x y)(hr:R y H₀):Done H₀ R x H₀:=ad7 y h (xq0 _) hr
end V
end
section
namespace V
open Go
attribute [go_sem ↓] el1
attribute [go_sem ↓] er5
attribute [go_sem ↓] el6
attribute [go_sem ↓] d62
attribute [go_sem ↓] el4
attribute [go_sem ↓] er6
attribute [go_sem ↓] dN4
attribute [go_sem ↓] el5
attribute [go_sem ↓] el3
attribute [go_sem ↓] bL9
attribute [go_sem ↓] d47
attribute [go_sem ↓] ek2
attribute [go_sem ↓] bL3
attribute [go_sem ↓] d25
attribute [go_sem ↓] ei0
attribute [go_sem ↓] es6
attribute [go_sem ↓] dO9
attribute [go_sem ↓] eq0
attribute [go_sem ↓] ee4
attribute [go_sem ↓] dY3
attribute [go_sem ↓] er4
attribute [go_sem ↓] ek7
attribute [go_sem ↓] d53
attribute [go_sem ↓] d30
attribute [go_sem ↓] d31
attribute [go_sem ↓] d16
attribute [go_sem ↓] d17
attribute [go_sem ↓] dW8
attribute [go_sem ↓] dm2
attribute [go_sem ↓] dW7
attribute [go_sem ↓] ed3
attribute [go_sem ↓] ep8
attribute [go_sem ↓] dX0
attribute [go_sem ↓] c98
attribute [go_sem ↓] cC4
attribute [go_sem ↓] dD3
attribute [go_sem ↓] dW9
attribute [go_sem ↓] dD2
attribute [go_sem ↓] cC5
attribute [go_sem ↓] dD4
attribute [go_sem ↓] dD7
attribute [go_sem ↓] cs8
attribute [go_sem ↓] ed2
attribute [go_sem ↓] cC6
attribute [go_sem ↓] dD1
attribute [go_sem ↓] dD5
attribute [go_sem ↓] dD6
attribute [go_sem ↓] dY1
attribute [go_sem ↓] dY0
attribute [go_sem ↓] ee2
attribute [go_sem ↓] cD3
attribute [go_sem ↓] dY2
attribute [go_sem ↓] dF1
attribute [go_sem ↓] cD4
attribute [go_sem ↓] dF2
attribute [go_sem ↓] dF3
attribute [go_sem ↓] dN2
attribute [go_sem ↓] d57
attribute [go_sem ↓] dv3
attribute [go_sem ↓] et0
attribute [go_sem ↓] dP0
attribute [go_sem ↓] em1
attribute [go_sem ↓] dB2
attribute [go_sem ↓] dB3
attribute [go_sem ↓] ek3
attribute [go_sem ↓] dL6
attribute [go_sem ↓] d48
attribute [go_sem ↓] a99
attribute [go_sem ↓] dp3
attribute [go_sem ↓] dp4
attribute [go_sem ↓] db4
attribute [go_sem ↓] du2
attribute [go_sem ↓] dX7
attribute [go_sem ↓] dn2
attribute [go_sem ↓] dX6
attribute [go_sem ↓] dX5
attribute [go_sem ↓] da1
attribute [go_sem ↓] da0
attribute [go_sem ↓] cD0
attribute [go_sem ↓] dE4
attribute [go_sem ↓] dX8
attribute [go_sem ↓] dE3
attribute [go_sem ↓] cD1
attribute [go_sem ↓] dE5
attribute [go_sem ↓] dE7
attribute [go_sem ↓] cs9
attribute [go_sem ↓] dE9
attribute [go_sem ↓] dE2
attribute [go_sem ↓] cO7
attribute [go_sem ↓] dE1
attribute [go_sem ↓] dE8
attribute [go_sem ↓] dE6
attribute [go_sem ↓] ee1
attribute [go_sem ↓] ee0
attribute [go_sem ↓] dX9
attribute [go_sem ↓] dn3
attribute [go_sem ↓] dY6
attribute [go_sem ↓] dn8
attribute [go_sem ↓] dY5
attribute [go_sem ↓] dY4
attribute [go_sem ↓] da4
attribute [go_sem ↓] cD7
attribute [go_sem ↓] dF7
attribute [go_sem ↓] dF6
attribute [go_sem ↓] cD8
attribute [go_sem ↓] dF8
attribute [go_sem ↓] dG0
attribute [go_sem ↓] cO8
attribute [go_sem ↓] dF4
attribute [go_sem ↓] ee6
attribute [go_sem ↓] ee5
attribute [go_sem ↓] dF5
attribute [go_sem ↓] dG1
attribute [go_sem ↓] dn9
attribute [go_sem ↓] dY8
attribute [go_sem ↓] dY7
attribute [go_sem ↓] ct2
attribute [go_sem ↓] da5
attribute [go_sem ↓] dF9
attribute [go_sem ↓] cC9 dn1 cD6 dn7 cQ5 dO8
attribute [go_sem ↓] cC3
attribute [go_sem] aO8 a14 bu6
attribute [go_sem ↓] ea6 dV0 d94 dT7
attribute [go_sem ↓] cO5 cO6 dD0 dF0 dG6 dG5 et1 es8 es9 em2 et2 d73 em9
attribute [go_sem] ef4 ef8 ef5 ef6 ef7 ed9 dn0 dE0
attribute [go_sem] bn3 cK6 b95 cG3 dc0 dJ1 aT7 aT6 be5 bu7 bS4 b50 ci7 aN2 ci8 au5 cw4 b97 c43 dm8 dm7 AObj.cells.injEq Shape.one.injEq
attribute [go_sem ↓] ek9
attribute [go_sem ↓] d56
attribute [go_sem ↓] dN1
attribute [go_sem ↓] dq1
attribute [go_sem 100] dL2
attribute [go_sem] dz6 dz5 u8_and15 u8_and7
attribute [go_sem] aK1 isConst
attribute [go_sem] aP6 az9 bf3 aY0 ei3 dI7 ej0 dt9 ec3 dV4 cO1 ep4 ec6 ec1 ec0 ec2 ds7 cW5 of_int of_bool ed8 of_nil dg8 undef dg9 c33
attribute [go_sem] dg7 decide_eq_true_eq decide_eq_false_iff_not Bool.not_eq_true' Bool.not_eq_false' Decidable.not_not Int.not_lt Int.not_le aH5 bi3 bP6 cA5 qUn bP7 cA6 bn5 c83 bJ0 cV5 cb6 bD4 b59 bS7 aI8
attribute [go_sem] bw0 aR9 dm9 aX2 aA4 bn4 aC2 evO aI9 bw1 cv9 bw3 aK2 ai6 av4 af0 a09 flat_agg flat_lit dK8 d41 d42 dt6 d43 dX3 dX2 dX1 ed5 ed6 dD9 ed7 AV.scalar Value.oneCell' TK.agg known aT9
attribute [go_sem] dw3 bM5 Array.size_empty Option.some.injEq AObj.grow.injEq dd6 c44 take_len List.drop_drop List.length_drop List.length_take dH2 an0 List.getD_cons_zero List.getD_cons_succ
attribute [go_sem 100] cw8
attribute [go_sem] bU2 cO0 cJ7 cN4 dA8 dv9 dA2
attribute [go_sem] List.set_cons_zero List.set_cons_succ Int.cast_ofNat_Int List.nil_append List.append_nil List.cons_append d63 dO1 d64 cP9 dK9 cK8 db9 bt0 dc9 dO2 dO0 dN9
attribute [go_sem] List.length_map List.length_append List.length_replicate List.append_assoc IntWalk.i64_in IntWalk.i32_in IntWalk.u8_in IntWalk.u32_in IntWalk.u64_in bm2 bj6 c27 bw2 List.contains_nil List.contains_cons Option.getD_some Option.getD_none Bool.or_false Bool.false_or Bool.or_true Bool.true_or beq_self_eq_true bh9 bN3
attribute [go_sem] Option.map_some Option.map_none Option.isSome_some Option.isSome_none List.map_cons List.map_nil List.toList_toArray List.getElem?_cons_zero List.getElem?_cons_succ List.all_cons List.all_nil Bool.and_self Bool.and_true Bool.true_and Bool.not_true Bool.not_false true_and and_true false_and and_false ne_eq not_true_eq_false not_false_eq_true if_true if_false
attribute [go_sem] Bool.false_eq_true forall_const eq_self decide_true decide_false true_implies implies_true false_implies ite_self Nat.zero_add Nat.mul_one List.drop_zero Int.toNat_natCast Int.toNat_zero Int.toNat_one List.length_cons List.length_nil List.range_succ List.range_zero
theorem vcI{p q a b:Prop}[Tag a][Tag b](h:p->a)(k:q->b):(p->aQ2 a)/\(q->aQ2 b):=⟨fun x=>o6 (h x),fun x=>o6 (k x)⟩
theorem ll1{α β:Type}{f:α->β}{l:List α}:(l.map f).length=l.length:=List.length_map f
theorem ll2{α:Type}{l m:List α}:(l++m).length=l.length+m.length:=List.length_append
theorem ll3{α:Type}{a:α}{l:List α}:(a::l).length=l.length+1:=rfl
theorem ll4{α:Type}:([]:List α).length=0:=rfl
theorem ll5{α:Type}{n:Nat}{a:α}:(List.replicate n a).length=n:=List.length_replicate
theorem ll6{α:Type}{n:Nat}{l:List α}:(l.drop n).length=l.length - n:=List.length_drop
theorem ll7{α:Type}{n:Nat}{l:List α}:(l.take n).length=min n l.length:=List.length_take
theorem ll8{α:Type}{n:Nat}{l:List α}{a:α}:(l.set n a).length=l.length:=List.length_set
theorem ll:(∀{α β:Type} {f:α->β} {l:List α},(l.map f).length=l.length)/\(∀{α:Type} {l m:List α},(l++m).length=l.length+m.length)/\(∀{α:Type} {a:α} {l:List α},(a::l).length=l.length+1)/\(∀{α:Type},([]:List α).length=0)/\(∀{α:Type} {n:Nat} {a:α},(List.replicate n a).length=n)/\(∀{α:Type} {n:Nat} {l:List α},(l.drop n).length=l.length - n)/\(∀{α:Type} {n:Nat} {l:List α},(l.take n).length=min n l.length)/\(∀{α:Type} {n:Nat} {l:List α} {a:α},(l.set n a).length=l.length):=⟨ll1,ll2,ll3,ll4,ll5,ll6,ll7,ll8⟩
theorem vcJ{p q a b:Prop}[Tag a][Tag b](h:p->a)(k:q->b):(p->aQ2 a)/\(q->aQ2 b):=vcI h k
theorem vcA{p q:Prop}(h:p)(k:q):p/\q:=⟨h,k⟩
theorem y8{a b:Env}(h:aG1 a b:=by repeat(first|exact du5|(refine dd5 ?_ ?_;focus(first|exact Le.refl _|exact Le.any _|exact aC5|exact am9|(refine aH4 ?_;repeat(first|exact LeAll.nil|(refine LeAll.cons ?_ ?_;focus(first|exact Le.refl _|exact Le.any _|exact aC5|exact am9))))|(refine ca6 ?_;repeat(first|exact LeAll.nil|(refine LeAll.cons ?_ ?_;focus(first|exact Le.refl _|exact Le.any _|exact aC5|exact am9))))|(refine eq4 ?_;simp -implicitDefEqProofs (disch:=omega) only[a99,cW5,if_true,if_false,↓reduceIte,Nat.reduceEqDiff,eq_self,IntWalk.i64_in,IntWalk.i32_in,IntWalk.u8_in,IntWalk.u32_in,IntWalk.u64_in,reduceCtorEq];try (first|rfl|(refine int_eq ?_;omega))))))):aG1 a b:=h
attribute [go_sem] Nat.reducePow Int.reducePow Nat.reduceDiv Nat.reduceBEq Nat.reduceEqDiff Nat.reduceLT Nat.reduceLeDiff Nat.reduceAdd Nat.reduceSub Nat.reduceMul Nat.reduceMod Int.reduceToNat Int.reduceNeg Int.reduceAdd Int.reduceSub Int.reduceMul Int.reduceDiv Int.reduceMod Int.reduceLT Int.reduceLE Int.reduceEq reduceCtorEq
attribute [go_sem ↓] reduceIte
end V
end
section
namespace V
open Go
def tbl:List LT:=[
 am8,
 ⟨.one,1,8,[.lit .nilFunc]⟩,
 ⟨.int .i64,1,8,[.lit (.int .i64 0)]⟩,
 ⟨.int .i64,1,8,[.lit (.int .i64 0)]⟩,
 ⟨.bool,1,1,[.lit (.bool false)]⟩,
 ⟨.int .u8,1,1,[.lit (.int .u8 0)]⟩,
 ⟨.int .u8,1,1,[.lit (.int .u8 0)]⟩,
 ⟨.struct [(0,2),(1,3),(2,4),(3,6)],4,24,[.lit (.int .i64 0),.lit (.int .i64 0),.lit (.bool false),.lit (.int .u8 0)]⟩,
 ⟨.struct [(0,2),(1,3),(2,4),(3,6)],4,24,[.lit (.int .i64 0),.lit (.int .i64 0),.lit (.bool false),.lit (.int .u8 0)]⟩,
 ⟨.str,1,16,[.str []]⟩,
 ⟨.str,1,16,[.str []]⟩,
 ⟨.str,1,16,[.str []]⟩,
 ⟨.int .u64,1,8,[.lit (.int .u64 0)]⟩,
 ⟨.struct [(0,9),(1,12)],2,24,[.str [],.lit (.int .u64 0)]⟩,
 ⟨.struct [(0,9),(1,12)],2,24,[.str [],.lit (.int .u64 0)]⟩,
 ⟨.ptr 293,1,8,[.lit (.pointer none)]⟩,
 ⟨.ptr 296,1,8,[.lit (.pointer none)]⟩,
 ⟨.ptr 303,1,8,[.lit (.pointer none)]⟩,
 ⟨.struct [(0,17)],1,8,[.lit (.pointer none)]⟩,
 ⟨.struct [(0,17)],1,8,[.lit (.pointer none)]⟩,
 ⟨.iface,1,16,[.lit .nilIface]⟩,
 ⟨.int .i32,1,4,[.lit (.int .i32 0)]⟩,
 ⟨.slice 9,1,24,[.sl .full 0 []]⟩,
 ⟨.slice 25,1,24,[.sl .full 0 []]⟩,
 ⟨.struct [(0,3),(1,3),(2,9),(3,22),(4,23)],5,80,[.lit (.int .i64 0),.lit (.int .i64 0),.str [],.sl .full 0 [],.sl .full 0 []]⟩,
 ⟨.struct [(0,3),(1,3),(2,9),(3,22),(4,23)],5,80,[.lit (.int .i64 0),.lit (.int .i64 0),.str [],.sl .full 0 [],.sl .full 0 []]⟩,
 ⟨.struct [(0,9),(1,9),(2,9),(3,9),(4,4),(5,9),(6,25),(11,22),(12,22),(13,3),(14,3),(15,9),(16,25)],21,328,[.str [],.str [],.str [],.str [],.lit (.bool false),.str [],.lit (.int .i64 0),.lit (.int .i64 0),.str [],.sl .full 0 [],.sl .full 0 [],.sl .full 0 [],.sl .full 0 [],.lit (.int .i64 0),.lit (.int .i64 0),.str [],.lit (.int .i64 0),.lit (.int .i64 0),.str [],.sl .full 0 [],.sl .full 0 []]⟩,
 ⟨.struct [(0,9),(1,9),(2,9),(3,9),(4,4),(5,9),(6,25),(11,22),(12,22),(13,3),(14,3),(15,9),(16,25)],21,328,[.str [],.str [],.str [],.str [],.lit (.bool false),.str [],.lit (.int .i64 0),.lit (.int .i64 0),.str [],.sl .full 0 [],.sl .full 0 [],.sl .full 0 [],.sl .full 0 [],.lit (.int .i64 0),.lit (.int .i64 0),.str [],.lit (.int .i64 0),.lit (.int .i64 0),.str [],.sl .full 0 [],.sl .full 0 []]⟩,
 ⟨.arr 32 5,32,32,List.replicate 32 (.lit (.int .u8 0))⟩,
 ⟨.struct [(0,9),(1,9),(2,28)],34,64,[.str [],.str [],.lit (.int .u8 0),.lit (.int .u8 0),.lit (.int .u8 0),.lit (.int .u8 0),.lit (.int .u8 0),.lit (.int .u8 0),.lit (.int .u8 0),.lit (.int .u8 0),.lit (.int .u8 0),.lit (.int .u8 0),.lit (.int .u8 0),.lit (.int .u8 0),.lit (.int .u8 0),.lit (.int .u8 0),.lit (.int .u8 0),.lit (.int .u8 0),.lit (.int .u8 0),.lit (.int .u8 0),.lit (.int .u8 0),.lit (.int .u8 0),.lit (.int .u8 0),.lit (.int .u8 0),.lit (.int .u8 0),.lit (.int .u8 0),.lit (.int .u8 0),.lit (.int .u8 0),.lit (.int .u8 0),.lit (.int .u8 0),.lit (.int .u8 0),.lit (.int .u8 0),.lit (.int .u8 0),.lit (.int .u8 0)]⟩,
 ⟨.struct [(0,9),(1,9),(2,28)],34,64,[.str [],.str [],.lit (.int .u8 0),.lit (.int .u8 0),.lit (.int .u8 0),.lit (.int .u8 0),.lit (.int .u8 0),.lit (.int .u8 0),.lit (.int .u8 0),.lit (.int .u8 0),.lit (.int .u8 0),.lit (.int .u8 0),.lit (.int .u8 0),.lit (.int .u8 0),.lit (.int .u8 0),.lit (.int .u8 0),.lit (.int .u8 0),.lit (.int .u8 0),.lit (.int .u8 0),.lit (.int .u8 0),.lit (.int .u8 0),.lit (.int .u8 0),.lit (.int .u8 0),.lit (.int .u8 0),.lit (.int .u8 0),.lit (.int .u8 0),.lit (.int .u8 0),.lit (.int .u8 0),.lit (.int .u8 0),.lit (.int .u8 0),.lit (.int .u8 0),.lit (.int .u8 0),.lit (.int .u8 0),.lit (.int .u8 0)]⟩,
 ⟨.one,1,8,[.lit .nilFunc]⟩,
 ⟨.one,1,8,[.lit .nilFunc]⟩,
 ⟨.int .i64,1,8,[.lit (.int .i64 0)]⟩,
 am8,
 ⟨.one,1,8,[.lit .nilFunc]⟩,
 ⟨.one,1,8,[.lit .nilFunc]⟩,
 ⟨.one,1,8,[.lit .nilFunc]⟩,
 am8,
 ⟨.one,1,8,[.lit .nilFunc]⟩,
 ⟨.one,1,8,[.lit .nilFunc]⟩,
 ⟨.one,1,8,[.lit .nilFunc]⟩,
 ⟨.one,1,8,[.lit .nilFunc]⟩,
 ⟨.one,1,8,[.lit .nilFunc]⟩,
 ⟨.one,1,8,[.lit .nilFunc]⟩,
 ⟨.one,1,8,[.lit .nilFunc]⟩,
 ⟨.struct [(0,25)],5,80,[.lit (.int .i64 0),.lit (.int .i64 0),.str [],.sl .full 0 [],.sl .full 0 []]⟩,
 ⟨.struct [(0,25)],5,80,[.lit (.int .i64 0),.lit (.int .i64 0),.str [],.sl .full 0 [],.sl .full 0 []]⟩,
 ⟨.one,1,8,[.lit .nilFunc]⟩,
 ⟨.one,1,8,[.lit .nilFunc]⟩,
 am8,
 ⟨.one,1,8,[.lit .nilFunc]⟩,
 ⟨.one,1,8,[.lit .nilFunc]⟩,
 ⟨.one,1,8,[.lit .nilFunc]⟩,
 ⟨.slice 5,1,24,[.sl .full 0 []]⟩,
 ⟨.struct [(0,28),(32,54)],33,56,[.lit (.int .u8 0),.lit (.int .u8 0),.lit (.int .u8 0),.lit (.int .u8 0),.lit (.int .u8 0),.lit (.int .u8 0),.lit (.int .u8 0),.lit (.int .u8 0),.lit (.int .u8 0),.lit (.int .u8 0),.lit (.int .u8 0),.lit (.int .u8 0),.lit (.int .u8 0),.lit (.int .u8 0),.lit (.int .u8 0),.lit (.int .u8 0),.lit (.int .u8 0),.lit (.int .u8 0),.lit (.int .u8 0),.lit (.int .u8 0),.lit (.int .u8 0),.lit (.int .u8 0),.lit (.int .u8 0),.lit (.int .u8 0),.lit (.int .u8 0),.lit (.int .u8 0),.lit (.int .u8 0),.lit (.int .u8 0),.lit (.int .u8 0),.lit (.int .u8 0),.lit (.int .u8 0),.lit (.int .u8 0),.sl .full 0 []]⟩,
 ⟨.struct [(0,28),(32,54)],33,56,[.lit (.int .u8 0),.lit (.int .u8 0),.lit (.int .u8 0),.lit (.int .u8 0),.lit (.int .u8 0),.lit (.int .u8 0),.lit (.int .u8 0),.lit (.int .u8 0),.lit (.int .u8 0),.lit (.int .u8 0),.lit (.int .u8 0),.lit (.int .u8 0),.lit (.int .u8 0),.lit (.int .u8 0),.lit (.int .u8 0),.lit (.int .u8 0),.lit (.int .u8 0),.lit (.int .u8 0),.lit (.int .u8 0),.lit (.int .u8 0),.lit (.int .u8 0),.lit (.int .u8 0),.lit (.int .u8 0),.lit (.int .u8 0),.lit (.int .u8 0),.lit (.int .u8 0),.lit (.int .u8 0),.lit (.int .u8 0),.lit (.int .u8 0),.lit (.int .u8 0),.lit (.int .u8 0),.lit (.int .u8 0),.sl .full 0 []]⟩,
 ⟨.one,1,8,[.lit .nilFunc]⟩,
 ⟨.one,1,8,[.lit .nilFunc]⟩,
 am8,
 ⟨.one,1,8,[.lit .nilFunc]⟩,
 ⟨.one,1,8,[.lit .nilFunc]⟩,
 ⟨.one,1,8,[.lit .nilFunc]⟩,
 ⟨.one,1,8,[.lit .nilFunc]⟩,
 ⟨.one,1,8,[.lit .nilFunc]⟩,
 ⟨.one,1,8,[.lit .nilFunc]⟩,
 ⟨.one,1,8,[.lit .nilFunc]⟩,
 ⟨.one,1,8,[.lit .nilFunc]⟩,
 am8,
 ⟨.one,1,8,[.lit .nilFunc]⟩,
 ⟨.one,1,8,[.lit .nilFunc]⟩,
 ⟨.one,1,8,[.lit .nilFunc]⟩,
 ⟨.one,1,8,[.lit .nilFunc]⟩,
 ⟨.slice 76,1,24,[.sl .full 0 []]⟩,
 ⟨.one,1,8,[.lit .nilFunc]⟩,
 ⟨.struct [(0,9),(1,25)],6,96,[.str [],.lit (.int .i64 0),.lit (.int .i64 0),.str [],.sl .full 0 [],.sl .full 0 []]⟩,
 ⟨.struct [(0,9),(1,25)],6,96,[.str [],.lit (.int .i64 0),.lit (.int .i64 0),.str [],.sl .full 0 [],.sl .full 0 []]⟩,
 ⟨.one,1,8,[.lit .nilFunc]⟩,
 ⟨.one,1,8,[.lit .nilFunc]⟩,
 am8,
 ⟨.one,1,8,[.lit .nilFunc]⟩,
 ⟨.one,1,8,[.lit .nilFunc]⟩,
 ⟨.one,1,8,[.lit .nilFunc]⟩,
 ⟨.ptr 85,1,8,[.lit (.pointer none)]⟩,
 ⟨.struct [(0,25),(5,25),(10,54)],11,184,[.lit (.int .i64 0),.lit (.int .i64 0),.str [],.sl .full 0 [],.sl .full 0 [],.lit (.int .i64 0),.lit (.int .i64 0),.str [],.sl .full 0 [],.sl .full 0 [],.sl .full 0 []]⟩,
 ⟨.struct [(0,25),(5,25),(10,54)],11,184,[.lit (.int .i64 0),.lit (.int .i64 0),.str [],.sl .full 0 [],.sl .full 0 [],.lit (.int .i64 0),.lit (.int .i64 0),.str [],.sl .full 0 [],.sl .full 0 [],.sl .full 0 []]⟩,
 am8,
 ⟨.one,1,8,[.lit .nilFunc]⟩,
 ⟨.one,1,8,[.lit .nilFunc]⟩,
 ⟨.one,1,8,[.lit .nilFunc]⟩,
 ⟨.one,1,8,[.lit .nilFunc]⟩,
 ⟨.arr 64 5,64,64,List.replicate 64 (.lit (.int .u8 0))⟩,
 ⟨.int .u64,1,8,[.lit (.int .u64 0)]⟩,
 ⟨.arr 5 92,5,40,[.lit (.int .u64 0),.lit (.int .u64 0),.lit (.int .u64 0),.lit (.int .u64 0),.lit (.int .u64 0)]⟩,
 ⟨.arr 5 92,5,40,[.lit (.int .u64 0),.lit (.int .u64 0),.lit (.int .u64 0),.lit (.int .u64 0),.lit (.int .u64 0)]⟩,
 ⟨.struct [(0,94),(5,94),(10,94)],15,120,List.replicate 15 (.lit (.int .u64 0))⟩,
 ⟨.struct [(0,94),(5,94),(10,94)],15,120,List.replicate 15 (.lit (.int .u64 0))⟩,
 ⟨.struct [(0,96),(15,94)],20,160,List.replicate 20 (.lit (.int .u64 0))⟩,
 ⟨.struct [(0,96),(15,94)],20,160,List.replicate 20 (.lit (.int .u64 0))⟩,
 ⟨.one,1,8,[.lit .nilFunc]⟩,
 ⟨.one,1,8,[.lit .nilFunc]⟩,
 ⟨.one,1,8,[.lit .nilFunc]⟩,
 ⟨.one,1,8,[.lit .nilFunc]⟩,
 ⟨.one,1,8,[.lit .nilFunc]⟩,
 ⟨.one,1,8,[.lit .nilFunc]⟩,
 ⟨.one,1,8,[.lit .nilFunc]⟩,
 am8,
 ⟨.one,1,8,[.lit .nilFunc]⟩,
 ⟨.one,1,8,[.lit .nilFunc]⟩,
 ⟨.one,1,8,[.lit .nilFunc]⟩,
 ⟨.one,1,8,[.lit .nilFunc]⟩,
 ⟨.one,1,8,[.lit .nilFunc]⟩,
 ⟨.one,1,8,[.lit .nilFunc]⟩,
 ⟨.one,1,8,[.lit .nilFunc]⟩,
 ⟨.one,1,8,[.lit .nilFunc]⟩,
 ⟨.one,1,8,[.lit .nilFunc]⟩,
 ⟨.one,1,8,[.lit .nilFunc]⟩,
 ⟨.one,1,8,[.lit .nilFunc]⟩,
 ⟨.str,1,16,[.str []]⟩,
 ⟨.one,1,8,[.lit .nilFunc]⟩,
 ⟨.one,1,8,[.lit .nilFunc]⟩,
 ⟨.one,1,8,[.lit .nilFunc]⟩,
 ⟨.one,1,8,[.lit .nilFunc]⟩,
 ⟨.one,1,8,[.lit .nilFunc]⟩,
 ⟨.one,1,8,[.lit .nilFunc]⟩,
 ⟨.one,1,8,[.lit .nilFunc]⟩,
 ⟨.one,1,8,[.lit .nilFunc]⟩,
 ⟨.slice 54,1,24,[.sl .full 0 []]⟩,
 ⟨.ptr 136,1,8,[.lit (.pointer none)]⟩,
 ⟨.arr 8 92,8,64,[.lit (.int .u64 0),.lit (.int .u64 0),.lit (.int .u64 0),.lit (.int .u64 0),.lit (.int .u64 0),.lit (.int .u64 0),.lit (.int .u64 0),.lit (.int .u64 0)]⟩,
 ⟨.arr 80 92,80,640,List.replicate 80 (.lit (.int .u64 0))⟩,
 ⟨.one,1,8,[.lit .nilFunc]⟩,
 ⟨.one,1,8,[.lit .nilFunc]⟩,
 ⟨.one,1,8,[.lit .nilFunc]⟩,
 ⟨.int .u64,1,8,[.lit (.int .u64 0)]⟩,
 ⟨.struct [(0,129),(8,3),(9,131),(10,133),(11,133),(12,133),(13,133)],14,112,[.lit (.int .u64 0),.lit (.int .u64 0),.lit (.int .u64 0),.lit (.int .u64 0),.lit (.int .u64 0),.lit (.int .u64 0),.lit (.int .u64 0),.lit (.int .u64 0),.lit (.int .i64 0),.lit .nilFunc,.lit .nilFunc,.lit .nilFunc,.lit .nilFunc,.lit .nilFunc]⟩,
 ⟨.struct [(0,129),(8,3),(9,131),(10,133),(11,133),(12,133),(13,133)],14,112,[.lit (.int .u64 0),.lit (.int .u64 0),.lit (.int .u64 0),.lit (.int .u64 0),.lit (.int .u64 0),.lit (.int .u64 0),.lit (.int .u64 0),.lit (.int .u64 0),.lit (.int .i64 0),.lit .nilFunc,.lit .nilFunc,.lit .nilFunc,.lit .nilFunc,.lit .nilFunc]⟩,
 ⟨.one,1,8,[.lit .nilFunc]⟩,
 ⟨.one,1,8,[.lit .nilFunc]⟩,
 ⟨.ptr 141,1,8,[.lit (.pointer none)]⟩,
 ⟨.struct [(0,139),(1,54)],2,32,[.lit (.pointer none),.sl .full 0 []]⟩,
 ⟨.struct [(0,139),(1,54)],2,32,[.lit (.pointer none),.sl .full 0 []]⟩,
 ⟨.struct [(0,141)],2,32,[.lit (.pointer none),.sl .full 0 []]⟩,
 ⟨.struct [(0,141)],2,32,[.lit (.pointer none),.sl .full 0 []]⟩,
 ⟨.one,1,8,[.lit .nilFunc]⟩,
 ⟨.one,1,8,[.lit .nilFunc]⟩,
 ⟨.one,1,8,[.lit .nilFunc]⟩,
 ⟨.one,1,8,[.lit .nilFunc]⟩,
 ⟨.struct [(0,9),(1,3)],2,24,[.str [],.lit (.int .i64 0)]⟩,
 ⟨.struct [(0,9),(1,3)],2,24,[.str [],.lit (.int .i64 0)]⟩,
 ⟨.one,1,8,[.lit .nilFunc]⟩,
 ⟨.one,1,8,[.lit .nilFunc]⟩,
 ⟨.one,1,8,[.lit .nilFunc]⟩,
 ⟨.arr 256 5,256,256,List.replicate 256 (.lit (.int .u8 0))⟩,
 ⟨.struct [(0,5),(1,5)],2,2,[.lit (.int .u8 0),.lit (.int .u8 0)]⟩,
 ⟨.struct [(0,5),(1,5)],2,2,[.lit (.int .u8 0),.lit (.int .u8 0)]⟩,
 ⟨.arr 16 155,32,32,List.replicate 32 (.lit (.int .u8 0))⟩,
 am8,
 ⟨.one,1,8,[.lit .nilFunc]⟩,
 ⟨.one,1,8,[.lit .nilFunc]⟩,
 am8,
 ⟨.one,1,8,[.lit .nilFunc]⟩,
 ⟨.one,1,8,[.lit .nilFunc]⟩,
 ⟨.one,1,8,[.lit .nilFunc]⟩,
 ⟨.one,1,8,[.lit .nilFunc]⟩,
 ⟨.one,1,8,[.lit .nilFunc]⟩,
 ⟨.one,1,8,[.lit .nilFunc]⟩,
 ⟨.one,1,8,[.lit .nilFunc]⟩,
 ⟨.one,1,8,[.lit .nilFunc]⟩,
 ⟨.one,1,8,[.lit .nilFunc]⟩,
 ⟨.arr 3 5,3,3,[.lit (.int .u8 0),.lit (.int .u8 0),.lit (.int .u8 0)]⟩,
 ⟨.arr 4 92,4,32,[.lit (.int .u64 0),.lit (.int .u64 0),.lit (.int .u64 0),.lit (.int .u64 0)]⟩,
 ⟨.arr 4 92,4,32,[.lit (.int .u64 0),.lit (.int .u64 0),.lit (.int .u64 0),.lit (.int .u64 0)]⟩,
 am8,
 ⟨.one,1,8,[.lit .nilFunc]⟩,
 ⟨.one,1,8,[.lit .nilFunc]⟩,
 ⟨.one,1,8,[.lit .nilFunc]⟩,
 ⟨.slice 98,1,24,[.sl .full 0 []]⟩,
 ⟨.one,1,8,[.lit .nilFunc]⟩,
 ⟨.one,1,8,[.lit .nilFunc]⟩,
 ⟨.one,1,8,[.lit .nilFunc]⟩,
 ⟨.one,1,8,[.lit .nilFunc]⟩,
 ⟨.struct [(0,92),(1,92)],2,16,[.lit (.int .u64 0),.lit (.int .u64 0)]⟩,
 ⟨.struct [(0,92),(1,92)],2,16,[.lit (.int .u64 0),.lit (.int .u64 0)]⟩,
 ⟨.arr 5 183,10,80,List.replicate 10 (.lit (.int .u64 0))⟩,
 ⟨.one,1,8,[.lit .nilFunc]⟩,
 am8,
 ⟨.one,1,8,[.lit .nilFunc]⟩,
 ⟨.slice 3,1,24,[.sl .full 0 []]⟩,
 ⟨.one,1,8,[.lit .nilFunc]⟩,
 ⟨.one,1,8,[.lit .nilFunc]⟩,
 ⟨.one,1,8,[.lit .nilFunc]⟩,
 ⟨.one,1,8,[.lit .nilFunc]⟩,
 ⟨.arr 16 92,16,128,List.replicate 16 (.lit (.int .u64 0))⟩,
 ⟨.one,1,8,[.lit .nilFunc]⟩,
 ⟨.one,1,8,[.lit .nilFunc]⟩,
 ⟨.one,1,8,[.lit .nilFunc]⟩,
 ⟨.ptr 143,1,8,[.lit (.pointer none)]⟩,
 ⟨.iface,1,16,[.lit .nilIface]⟩,
 ⟨.iface,1,16,[.lit .nilIface]⟩,
 am8,
 ⟨.one,1,8,[.lit .nilFunc]⟩,
 ⟨.one,1,8,[.lit .nilFunc]⟩,
 ⟨.one,1,8,[.lit .nilFunc]⟩,
 ⟨.one,1,8,[.lit .nilFunc]⟩,
 ⟨.ptr 5,1,8,[.lit (.pointer none)]⟩,
 ⟨.one,1,8,[.lit .nilFunc]⟩,
 ⟨.one,1,8,[.lit .nilFunc]⟩,
 ⟨.one,1,8,[.lit .nilFunc]⟩,
 ⟨.one,1,8,[.lit .nilFunc]⟩,
 ⟨.one,1,8,[.lit .nilFunc]⟩,
 ⟨.one,1,8,[.lit .nilFunc]⟩,
 ⟨.arr 8 92,8,64,[.lit (.int .u64 0),.lit (.int .u64 0),.lit (.int .u64 0),.lit (.int .u64 0),.lit (.int .u64 0),.lit (.int .u64 0),.lit (.int .u64 0),.lit (.int .u64 0)]⟩,
 ⟨.one,1,8,[.lit .nilFunc]⟩,
 ⟨.one,1,8,[.lit .nilFunc]⟩,
 am8,
 ⟨.one,1,8,[.lit .nilFunc]⟩,
 ⟨.ptr 224,1,8,[.lit (.pointer none)]⟩,
 ⟨.int .u32,1,4,[.lit (.int .u32 0)]⟩,
 ⟨.one,1,8,[.lit .nilFunc]⟩,
 ⟨.one,1,8,[.lit .nilFunc]⟩,
 ⟨.one,1,8,[.lit .nilFunc]⟩,
 ⟨.arr 8 218,8,32,[.lit (.int .u32 0),.lit (.int .u32 0),.lit (.int .u32 0),.lit (.int .u32 0),.lit (.int .u32 0),.lit (.int .u32 0),.lit (.int .u32 0),.lit (.int .u32 0)]⟩,
 ⟨.struct [(0,222),(8,3),(9,219),(10,221),(11,221),(12,221),(13,221)],14,80,[.lit (.int .u32 0),.lit (.int .u32 0),.lit (.int .u32 0),.lit (.int .u32 0),.lit (.int .u32 0),.lit (.int .u32 0),.lit (.int .u32 0),.lit (.int .u32 0),.lit (.int .i64 0),.lit .nilFunc,.lit .nilFunc,.lit .nilFunc,.lit .nilFunc,.lit .nilFunc]⟩,
 ⟨.struct [(0,222),(8,3),(9,219),(10,221),(11,221),(12,221),(13,221)],14,80,[.lit (.int .u32 0),.lit (.int .u32 0),.lit (.int .u32 0),.lit (.int .u32 0),.lit (.int .u32 0),.lit (.int .u32 0),.lit (.int .u32 0),.lit (.int .u32 0),.lit (.int .i64 0),.lit .nilFunc,.lit .nilFunc,.lit .nilFunc,.lit .nilFunc,.lit .nilFunc]⟩,
 ⟨.slice 227,1,24,[.sl .full 0 []]⟩,
 ⟨.struct [(0,3),(1,3)],2,16,[.lit (.int .i64 0),.lit (.int .i64 0)]⟩,
 ⟨.struct [(0,3),(1,3)],2,16,[.lit (.int .i64 0),.lit (.int .i64 0)]⟩,
 ⟨.one,1,8,[.lit .nilFunc]⟩,
 ⟨.ptr 252,1,8,[.lit (.pointer none)]⟩,
 ⟨.one,1,8,[.lit .nilFunc]⟩,
 ⟨.slice 28,1,24,[.sl .full 0 []]⟩,
 am8,
 ⟨.one,1,8,[.lit .nilFunc]⟩,
 ⟨.ptr 183,1,8,[.lit (.pointer none)]⟩,
 ⟨.slice 92,1,24,[.sl .full 0 []]⟩,
 ⟨.one,1,8,[.lit .nilFunc]⟩,
 ⟨.one,1,8,[.lit .nilFunc]⟩,
 ⟨.arr 256 4,256,256,List.replicate 256 (.lit (.bool false))⟩,
 ⟨.arr 256 4,256,256,List.replicate 256 (.lit (.bool false))⟩,
 am8,
 ⟨.one,1,8,[.lit .nilFunc]⟩,
 ⟨.one,1,8,[.lit .nilFunc]⟩,
 ⟨.ptr 239,1,8,[.lit (.pointer none)]⟩,
 am8,
 ⟨.one,1,8,[.lit .nilFunc]⟩,
 ⟨.one,1,8,[.lit .nilFunc]⟩,
 ⟨.arr 16 218,16,64,List.replicate 16 (.lit (.int .u32 0))⟩,
 ⟨.one,1,8,[.lit .nilFunc]⟩,
 ⟨.slice 255,1,24,[.sl .full 0 []]⟩,
 ⟨.slice 258,1,24,[.sl .full 0 []]⟩,
 ⟨.struct [(0,249),(1,250),(2,3)],3,56,[.sl .full 0 [],.sl .full 0 [],.lit (.int .i64 0)]⟩,
 ⟨.struct [(0,249),(1,250),(2,3)],3,56,[.sl .full 0 [],.sl .full 0 [],.lit (.int .i64 0)]⟩,
 ⟨.int .u16,1,2,[.lit (.int .u16 0)]⟩,
 ⟨.struct [(0,253),(1,253),(2,253)],3,6,[.lit (.int .u16 0),.lit (.int .u16 0),.lit (.int .u16 0)]⟩,
 ⟨.struct [(0,253),(1,253),(2,253)],3,6,[.lit (.int .u16 0),.lit (.int .u16 0),.lit (.int .u16 0)]⟩,
 ⟨.one,1,8,[.lit .nilFunc]⟩,
 ⟨.struct [(0,218),(1,218),(2,218)],3,12,[.lit (.int .u32 0),.lit (.int .u32 0),.lit (.int .u32 0)]⟩,
 ⟨.struct [(0,218),(1,218),(2,218)],3,12,[.lit (.int .u32 0),.lit (.int .u32 0),.lit (.int .u32 0)]⟩,
 ⟨.one,1,8,[.lit .nilFunc]⟩,
 ⟨.one,1,8,[.lit .nilFunc]⟩,
 am8,
 ⟨.one,1,8,[.lit .nilFunc]⟩,
 ⟨.one,1,8,[.lit .nilFunc]⟩,
 ⟨.uptr,1,8,[.lit (.pointer none)]⟩,
 ⟨.one,1,8,[.lit .nilFunc]⟩,
 ⟨.one,1,8,[.lit .nilFunc]⟩,
 ⟨.one,1,8,[.lit .nilFunc]⟩,
 am8,
 ⟨.one,1,8,[.lit .nilFunc]⟩,
 ⟨.one,1,8,[.lit .nilFunc]⟩,
 am8,
 ⟨.one,1,8,[.lit .nilFunc]⟩,
 ⟨.one,1,8,[.lit .nilFunc]⟩,
 ⟨.one,1,8,[.lit .nilFunc]⟩,
 ⟨.arr 2 92,2,16,[.lit (.int .u64 0),.lit (.int .u64 0)]⟩,
 ⟨.slice 218,1,24,[.sl .full 0 []]⟩,
 ⟨.one,1,8,[.lit .nilFunc]⟩,
 ⟨.ptr 255,1,8,[.lit (.pointer none)]⟩,
 ⟨.ptr 258,1,8,[.lit (.pointer none)]⟩,
 ⟨.arr 24 5,24,24,List.replicate 24 (.lit (.int .u8 0))⟩,
 ⟨.one,1,8,[.lit .nilFunc]⟩,
 ⟨.one,1,8,[.lit .nilFunc]⟩,
 am8,
 ⟨.one,1,8,[.lit .nilFunc]⟩,
 ⟨.one,1,8,[.lit .nilFunc]⟩,
 ⟨.one,1,8,[.lit .nilFunc]⟩,
 ⟨.arr 20 92,20,160,List.replicate 20 (.lit (.int .u64 0))⟩,
 ⟨.arr 65 5,65,65,List.replicate 65 (.lit (.int .u8 0))⟩,
 ⟨.one,1,8,[.lit .nilFunc]⟩,
 ⟨.one,1,8,[.lit .nilFunc]⟩,
 ⟨.one,1,8,[.lit .nilFunc]⟩,
 ⟨.struct [(0,17),(1,17),(2,17),(3,9)],4,40,[.lit (.pointer none),.lit (.pointer none),.lit (.pointer none),.str []]⟩,
 ⟨.struct [(0,17),(1,17),(2,17),(3,9)],4,40,[.lit (.pointer none),.lit (.pointer none),.lit (.pointer none),.str []]⟩,
 ⟨.arr 0 16,0,0,[]⟩,
 ⟨.struct [(0,294)],0,0,[]⟩,
 ⟨.struct [(0,294)],0,0,[]⟩,
 ⟨.int .u8,1,1,[.lit (.int .u8 0)]⟩,
 ⟨.int .u8,1,1,[.lit (.int .u8 0)]⟩,
 ⟨.one,1,8,[.lit .nilFunc]⟩,
 ⟨.int .i32,1,4,[.lit (.int .i32 0)]⟩,
 ⟨.int .i32,1,4,[.lit (.int .i32 0)]⟩,
 ⟨.struct [(0,12),(1,12),(2,218),(3,297),(4,5),(5,5),(6,298),(7,299),(8,205),(9,300),(10,301)],11,48,[.lit (.int .u64 0),.lit (.int .u64 0),.lit (.int .u32 0),.lit (.int .u8 0),.lit (.int .u8 0),.lit (.int .u8 0),.lit (.int .u8 0),.lit .nilFunc,.lit (.pointer none),.lit (.int .i32 0),.lit (.int .i32 0)]⟩,
 ⟨.struct [(0,12),(1,12),(2,218),(3,297),(4,5),(5,5),(6,298),(7,299),(8,205),(9,300),(10,301)],11,48,[.lit (.int .u64 0),.lit (.int .u64 0),.lit (.int .u32 0),.lit (.int .u8 0),.lit (.int .u8 0),.lit (.int .u8 0),.lit (.int .u8 0),.lit .nilFunc,.lit (.pointer none),.lit (.int .i32 0),.lit (.int .i32 0)]⟩]
def L:Tab:=c47 tbl
set_option maxRecDepth 100000 in
theorem aa7:ac6 Tryz.prog L:=dz9 (by kernel_rfl)
theorem mixed:Tryz.prog.follows .mixedOrders=true:=by kernel_rfl
@[go_sem] theorem ew3:ah8 0=.ip (.agg aF7):=cP4 rfl rfl
@[go_sem] theorem ew2:ah8 1=.ip (.agg a07):=dc5 rfl rfl
@[go_sem] theorem ew1:ah8 2=.ip (.agg ba1):=dc8 rfl rfl
@[go_sem] theorem ew0:ah8 3=.ip (.agg aO3):=cP5 rfl rfl
@[go_sem] theorem ev9:ah8 4=.ip (.agg a06):=dc4 rfl rfl
@[go_sem] theorem ev7:ah8 5=.ip (.agg (aP1 bn6)):=dc7 rfl rfl
@[go_sem] theorem ev6:ah8 6=.ip (.agg (aP1 cC7)):=dK1 rfl rfl
@[go_sem] theorem ev5:ah8 8=.ip (.agg (aP1 bQ3)):=ds5 rfl rfl
@[go_sem] theorem eu0:ah8 10=.ip (.agg (aP1 bO9)):=ds4 rfl rfl
@[go_sem] theorem L_2:L 2=⟨.int .i64,1,8,[.lit (.int .i64 0)]⟩:=rfl
@[go_sem] theorem L_3:L 3=⟨.int .i64,1,8,[.lit (.int .i64 0)]⟩:=rfl
@[go_sem] theorem L_4:L 4=⟨.bool,1,1,[.lit (.bool false)]⟩:=rfl
@[go_sem] theorem L_5:L 5=⟨.int .u8,1,1,[.lit (.int .u8 0)]⟩:=rfl
@[go_sem] theorem L_9:L 9=⟨.str,1,16,[.str []]⟩:=rfl
@[go_sem] theorem eD0:L 21=⟨.int .i32,1,4,[.lit (.int .i32 0)]⟩:=rfl
@[go_sem] theorem eC9:L 22=⟨.slice 9,1,24,[.sl .full 0 []]⟩:=rfl
@[go_sem] theorem eC8:L 23=⟨.slice 25,1,24,[.sl .full 0 []]⟩:=rfl
@[go_sem] theorem eC7:L 25=⟨.struct [(0,3),(1,3),(2,9),(3,22),(4,23)],5,80,[.lit (.int .i64 0),.lit (.int .i64 0),.str [],.sl .full 0 [],.sl .full 0 []]⟩:=rfl
@[go_sem] theorem eC6:L 27=⟨.struct [(0,9),(1,9),(2,9),(3,9),(4,4),(5,9),(6,25),(11,22),(12,22),(13,3),(14,3),(15,9),(16,25)],21,328,[.str [],.str [],.str [],.str [],.lit (.bool false),.str [],.lit (.int .i64 0),.lit (.int .i64 0),.str [],.sl .full 0 [],.sl .full 0 [],.sl .full 0 [],.sl .full 0 [],.lit (.int .i64 0),.lit (.int .i64 0),.str [],.lit (.int .i64 0),.lit (.int .i64 0),.str [],.sl .full 0 [],.sl .full 0 []]⟩:=rfl
@[go_sem] theorem eC5:L 28=⟨.arr 32 5,32,32,List.replicate 32 (.lit (.int .u8 0))⟩:=rfl
@[go_sem] theorem eC4:L 30=⟨.struct [(0,9),(1,9),(2,28)],34,64,[.str [],.str [],.lit (.int .u8 0),.lit (.int .u8 0),.lit (.int .u8 0),.lit (.int .u8 0),.lit (.int .u8 0),.lit (.int .u8 0),.lit (.int .u8 0),.lit (.int .u8 0),.lit (.int .u8 0),.lit (.int .u8 0),.lit (.int .u8 0),.lit (.int .u8 0),.lit (.int .u8 0),.lit (.int .u8 0),.lit (.int .u8 0),.lit (.int .u8 0),.lit (.int .u8 0),.lit (.int .u8 0),.lit (.int .u8 0),.lit (.int .u8 0),.lit (.int .u8 0),.lit (.int .u8 0),.lit (.int .u8 0),.lit (.int .u8 0),.lit (.int .u8 0),.lit (.int .u8 0),.lit (.int .u8 0),.lit (.int .u8 0),.lit (.int .u8 0),.lit (.int .u8 0),.lit (.int .u8 0),.lit (.int .u8 0)]⟩:=rfl
@[go_sem] theorem eC3:L 47=⟨.struct [(0,25)],5,80,[.lit (.int .i64 0),.lit (.int .i64 0),.str [],.sl .full 0 [],.sl .full 0 []]⟩:=rfl
@[go_sem] theorem eC2:L 53=⟨.one,1,8,[.lit .nilFunc]⟩:=rfl
@[go_sem] theorem eC1:L 54=⟨.slice 5,1,24,[.sl .full 0 []]⟩:=rfl
@[go_sem] theorem eC0:L 56=⟨.struct [(0,28),(32,54)],33,56,[.lit (.int .u8 0),.lit (.int .u8 0),.lit (.int .u8 0),.lit (.int .u8 0),.lit (.int .u8 0),.lit (.int .u8 0),.lit (.int .u8 0),.lit (.int .u8 0),.lit (.int .u8 0),.lit (.int .u8 0),.lit (.int .u8 0),.lit (.int .u8 0),.lit (.int .u8 0),.lit (.int .u8 0),.lit (.int .u8 0),.lit (.int .u8 0),.lit (.int .u8 0),.lit (.int .u8 0),.lit (.int .u8 0),.lit (.int .u8 0),.lit (.int .u8 0),.lit (.int .u8 0),.lit (.int .u8 0),.lit (.int .u8 0),.lit (.int .u8 0),.lit (.int .u8 0),.lit (.int .u8 0),.lit (.int .u8 0),.lit (.int .u8 0),.lit (.int .u8 0),.lit (.int .u8 0),.lit (.int .u8 0),.sl .full 0 []]⟩:=rfl
@[go_sem] theorem eB9:L 73=⟨.slice 76,1,24,[.sl .full 0 []]⟩:=rfl
@[go_sem] theorem eB8:L 76=⟨.struct [(0,9),(1,25)],6,96,[.str [],.lit (.int .i64 0),.lit (.int .i64 0),.str [],.sl .full 0 [],.sl .full 0 []]⟩:=rfl
@[go_sem] theorem eB7:L 85=⟨.struct [(0,25),(5,25),(10,54)],11,184,[.lit (.int .i64 0),.lit (.int .i64 0),.str [],.sl .full 0 [],.sl .full 0 [],.lit (.int .i64 0),.lit (.int .i64 0),.str [],.sl .full 0 [],.sl .full 0 [],.sl .full 0 []]⟩:=rfl
@[go_sem] theorem eB6:L 91=⟨.arr 64 5,64,64,List.replicate 64 (.lit (.int .u8 0))⟩:=rfl
@[go_sem] theorem eB5:L 92=⟨.int .u64,1,8,[.lit (.int .u64 0)]⟩:=rfl
@[go_sem] theorem eB4:L 93=⟨.arr 5 92,5,40,[.lit (.int .u64 0),.lit (.int .u64 0),.lit (.int .u64 0),.lit (.int .u64 0),.lit (.int .u64 0)]⟩:=rfl
@[go_sem] theorem eB3:L 94=⟨.arr 5 92,5,40,[.lit (.int .u64 0),.lit (.int .u64 0),.lit (.int .u64 0),.lit (.int .u64 0),.lit (.int .u64 0)]⟩:=rfl
@[go_sem] theorem eB2:L 96=⟨.struct [(0,94),(5,94),(10,94)],15,120,List.replicate 15 (.lit (.int .u64 0))⟩:=rfl
@[go_sem] theorem eB1:L 98=⟨.struct [(0,96),(15,94)],20,160,List.replicate 20 (.lit (.int .u64 0))⟩:=rfl
@[go_sem] theorem eB0:L 118=⟨.str,1,16,[.str []]⟩:=rfl
@[go_sem] theorem eA9:L 127=⟨.slice 54,1,24,[.sl .full 0 []]⟩:=rfl
@[go_sem] theorem eA8:L 128=⟨.ptr 136,1,8,[.lit (.pointer none)]⟩:=rfl
@[go_sem] theorem eA7:L 129=⟨.arr 8 92,8,64,[.lit (.int .u64 0),.lit (.int .u64 0),.lit (.int .u64 0),.lit (.int .u64 0),.lit (.int .u64 0),.lit (.int .u64 0),.lit (.int .u64 0),.lit (.int .u64 0)]⟩:=rfl
@[go_sem] theorem eA6:L 130=⟨.arr 80 92,80,640,List.replicate 80 (.lit (.int .u64 0))⟩:=rfl
@[go_sem] theorem eA5:L 131=⟨.one,1,8,[.lit .nilFunc]⟩:=rfl
@[go_sem] theorem eA4:L 133=⟨.one,1,8,[.lit .nilFunc]⟩:=rfl
@[go_sem] theorem eA3:L 134=⟨.int .u64,1,8,[.lit (.int .u64 0)]⟩:=rfl
@[go_sem] theorem eA2:L 136=⟨.struct [(0,129),(8,3),(9,131),(10,133),(11,133),(12,133),(13,133)],14,112,[.lit (.int .u64 0),.lit (.int .u64 0),.lit (.int .u64 0),.lit (.int .u64 0),.lit (.int .u64 0),.lit (.int .u64 0),.lit (.int .u64 0),.lit (.int .u64 0),.lit (.int .i64 0),.lit .nilFunc,.lit .nilFunc,.lit .nilFunc,.lit .nilFunc,.lit .nilFunc]⟩:=rfl
@[go_sem] theorem eA1:L 139=⟨.ptr 141,1,8,[.lit (.pointer none)]⟩:=rfl
@[go_sem] theorem eA0:L 141=⟨.struct [(0,139),(1,54)],2,32,[.lit (.pointer none),.sl .full 0 []]⟩:=rfl
@[go_sem] theorem ez9:L 143=⟨.struct [(0,141)],2,32,[.lit (.pointer none),.sl .full 0 []]⟩:=rfl
@[go_sem] theorem ez8:L 149=⟨.struct [(0,9),(1,3)],2,24,[.str [],.lit (.int .i64 0)]⟩:=rfl
@[go_sem] theorem ez7:L 153=⟨.arr 256 5,256,256,List.replicate 256 (.lit (.int .u8 0))⟩:=rfl
@[go_sem] theorem ez6:L 155=⟨.struct [(0,5),(1,5)],2,2,[.lit (.int .u8 0),.lit (.int .u8 0)]⟩:=rfl
@[go_sem] theorem ez5:L 156=⟨.arr 16 155,32,32,List.replicate 32 (.lit (.int .u8 0))⟩:=rfl
@[go_sem] theorem ez4:L 170=⟨.arr 3 5,3,3,[.lit (.int .u8 0),.lit (.int .u8 0),.lit (.int .u8 0)]⟩:=rfl
@[go_sem] theorem ez3:L 171=⟨.arr 4 92,4,32,[.lit (.int .u64 0),.lit (.int .u64 0),.lit (.int .u64 0),.lit (.int .u64 0)]⟩:=rfl
@[go_sem] theorem ez2:L 172=⟨.arr 4 92,4,32,[.lit (.int .u64 0),.lit (.int .u64 0),.lit (.int .u64 0),.lit (.int .u64 0)]⟩:=rfl
@[go_sem] theorem ez1:L 177=⟨.slice 98,1,24,[.sl .full 0 []]⟩:=rfl
@[go_sem] theorem ez0:L 183=⟨.struct [(0,92),(1,92)],2,16,[.lit (.int .u64 0),.lit (.int .u64 0)]⟩:=rfl
@[go_sem] theorem ey9:L 184=⟨.arr 5 183,10,80,List.replicate 10 (.lit (.int .u64 0))⟩:=rfl
@[go_sem] theorem ey8:L 188=⟨.slice 3,1,24,[.sl .full 0 []]⟩:=rfl
@[go_sem] theorem ey7:L 193=⟨.arr 16 92,16,128,List.replicate 16 (.lit (.int .u64 0))⟩:=rfl
@[go_sem] theorem ey6:L 205=⟨.ptr 5,1,8,[.lit (.pointer none)]⟩:=rfl
@[go_sem] theorem ey5:L 212=⟨.arr 8 92,8,64,[.lit (.int .u64 0),.lit (.int .u64 0),.lit (.int .u64 0),.lit (.int .u64 0),.lit (.int .u64 0),.lit (.int .u64 0),.lit (.int .u64 0),.lit (.int .u64 0)]⟩:=rfl
@[go_sem] theorem ey4:L 217=⟨.ptr 224,1,8,[.lit (.pointer none)]⟩:=rfl
@[go_sem] theorem ey3:L 218=⟨.int .u32,1,4,[.lit (.int .u32 0)]⟩:=rfl
@[go_sem] theorem ey2:L 219=⟨.one,1,8,[.lit .nilFunc]⟩:=rfl
@[go_sem] theorem ey1:L 221=⟨.one,1,8,[.lit .nilFunc]⟩:=rfl
@[go_sem] theorem ey0:L 222=⟨.arr 8 218,8,32,[.lit (.int .u32 0),.lit (.int .u32 0),.lit (.int .u32 0),.lit (.int .u32 0),.lit (.int .u32 0),.lit (.int .u32 0),.lit (.int .u32 0),.lit (.int .u32 0)]⟩:=rfl
@[go_sem] theorem ex9:L 224=⟨.struct [(0,222),(8,3),(9,219),(10,221),(11,221),(12,221),(13,221)],14,80,[.lit (.int .u32 0),.lit (.int .u32 0),.lit (.int .u32 0),.lit (.int .u32 0),.lit (.int .u32 0),.lit (.int .u32 0),.lit (.int .u32 0),.lit (.int .u32 0),.lit (.int .i64 0),.lit .nilFunc,.lit .nilFunc,.lit .nilFunc,.lit .nilFunc,.lit .nilFunc]⟩:=rfl
@[go_sem] theorem ex8:L 231=⟨.slice 28,1,24,[.sl .full 0 []]⟩:=rfl
@[go_sem] theorem ex7:L 235=⟨.slice 92,1,24,[.sl .full 0 []]⟩:=rfl
@[go_sem] theorem ex6:L 239=⟨.arr 256 4,256,256,List.replicate 256 (.lit (.bool false))⟩:=rfl
@[go_sem] theorem ex5:L 247=⟨.arr 16 218,16,64,List.replicate 16 (.lit (.int .u32 0))⟩:=rfl
@[go_sem] theorem ex4:L 264=⟨.uptr,1,8,[.lit (.pointer none)]⟩:=rfl
@[go_sem] theorem ex3:L 275=⟨.arr 2 92,2,16,[.lit (.int .u64 0),.lit (.int .u64 0)]⟩:=rfl
@[go_sem] theorem ex2:L 276=⟨.slice 218,1,24,[.sl .full 0 []]⟩:=rfl
@[go_sem] theorem ex1:L 280=⟨.arr 24 5,24,24,List.replicate 24 (.lit (.int .u8 0))⟩:=rfl
@[go_sem] theorem ex0:L 287=⟨.arr 20 92,20,160,List.replicate 20 (.lit (.int .u64 0))⟩:=rfl
theorem y7(mu:List Nat)(rs:List ResultVar)(n:Nat){f:FuncId}{fn:Func}{c:Code}{args:List AV}{H:List AObj}{R:AV->List AObj->Prop}(hf:Tryz.prog.funcs[f]?=some fn)(hb:fn.body=some c)(hname:(fn.name== "runtime.NumGoroutine")=false)(hn:fn.ntmps=n)(hrs:fn.results.toList=rs)(hargs:args.length<=n)(ho:okC mu n c=true)(h:vcC Tryz.prog L mu n c (bF8 L rs H R) (aH5 0 args) H):o9 Tryz.prog f args H R:=dx4 aa7 mixed mu hf hb hname hn hrs hargs ho h
end V
end
section
namespace V
open Go Go.ChangeShapes Go.WideShapes Go.RowKit
def G₀(W:World):Gh:={imm:=fun b _=>b < W.heap.size,blk:=fun _=>0,own:=fun _=>(none,0),lp:=fun _=>none}
def cw5(W:World):Prop:=(∀g j v,(aQ1 g)[j]?=some v->W.cell? ⟨g,j,none⟩=some v)/\(∀g t,aY1 g=some t-> ∃t v,W.cell? ⟨g,0,none⟩=some (.iface t v))/\ ∀g,dJ8 g=true-> ∃n,W.cell? ⟨g,0,none⟩=some (.int .i64 n)
theorem ev4{W:World}(h:cw5 W):HInv (G₀ W) [] W:=by
 have lt: ∀g j v,W.cell? ⟨g,j,none⟩=some v->g < W.heap.size:=fun g j v this=>by
  rcases am5 g W.heap.size with hl|hl
  ·exact hl
  ·simp[World.cell?,bH4 hl] at this
 exact⟨fun b off h=>h,fun k sh cs e=>by simp at e,fun k s n t e=>by simp at e,fun k k' b e=>by simp[site] at e,⟨⟨fun g j v e=>⟨lt g j v (h.1 g j v e),h.1 g j v e⟩,
  fun g t e=>let ⟨u,v,hv⟩:=h.2.1 g t e;⟨lt g 0 _ hv,u,v,hv⟩,fun g e=>let ⟨n,hn⟩:=h.2.2 g e;⟨lt g 0 _ hn,n,hn⟩⟩,⟨fun k l e=>(by cases e),fun k k' l e=>(by cases e),fun k l r E e=>(by cases e)⟩⟩⟩
theorem dp8{P:Program}{f:FuncId}{fn:Func}{W:World}{xs:List AV}{args:Array Value}(hf:P.funcs[f]?=some fn)(hb:fn.body.isSome=true)(hn:(fn.name== "runtime.NumGoroutine")=false)(ht:cw5 W)(hr:av8 (G₀ W) [] W xs args)
  (hA:o9 P f xs [] (fun x H'=>x=.bool true/\H'=[])):Calls P f args W fun e W'=>e=.returned (.bool true)/\Below W.heap.size W W':=by
 refine((hA (G₀ W) W args (ev4 ht) hr).calls hf hb hn).mono ?_;rintro e w' ⟨v,rfl,x,G',H',hi,hs,hx,rfl,rfl⟩
 have:=ab1 hx;subst this;exact⟨rfl,hs.osEq,hs.tape,hs.output,hs.size,fun b hb=>hs.whole b fun off=>hb⟩
theorem cm0{P:Program}{f:FuncId}{fn:Func}{args:List AV}{H:List AObj}{R:AV->List AObj->Prop}(hf:P.funcs[f]?=some fn)(hb:fn.body.isSome=true)(hn:(fn.name== "runtime.NumGoroutine")=false)
  (h: ∀G w vs,HInv G H w->av8 G H w args vs->Calls P f vs w fun e w'=> ∃v x,e=.returned v/\More w w'/\(∀G',HInv G' H w'->Step G H w G' H w'->Rel G' H w' x v)/\R x H):o9 P f args H R:=fun G w vs hi ha=>
 .inl ⟨fn,hf,hb,hn,(h G w vs hi ha).mono fun _ _ ⟨v,x,e,hm,hx,r⟩=>⟨v,e,x,_,H,hm.inv hi,hm.step hi,hx _ (hm.inv hi) (hm.step hi),r⟩⟩
section
variable {H:Type}{enc:TypeId×Value->H}{P:Program}{W W':World}
theorem trod_below(K:Kids P (· < P.types.size))(hsz: ∀{t e:TypeId},t < P.types.size->P.underlying t=some (.slice e)->0 < P.cellsOf e)(hb:Below W.heap.size W W'){sp:Nat->Bool}:
  ∀{ts:List TypeId} {vs:List Value} {ds:List (DataW H)} {ps:List MemPlace},(∀t∈ts,t < P.types.size)->DataW.TrodAll enc P W 0 (fun _=>true) true ts vs ds ps->(∀p∈ps,sp p.block=true)->DataW.TrodAll enc P W' 0 sp true ts vs ds ps
 |[],vs,ds,ps,_,h,_=>by
  obtain⟨rfl,rfl,rfl⟩:=trodAll_nil h;exact trodAll_mk0
 |t::ts,vs,ds,ps,hT,h,hs=>by
  obtain⟨v,vs1,d,ds1,a,b,rfl,rfl,rfl,⟨n,h1⟩,h2⟩:=trodAll_cons h;refine⟨a,b,⟨n,DataW.trod_stays K hsz (fun h=>by cases h) (hT t (ax1 ..)) h1 (fun p hp=>hb.same (DataW.trod_lt n t _ _ h1 p hp)) fun p hp=>hs p (cZ6 _ hp)⟩,?_,rfl⟩
  exact trod_below K hsz hb (fun t ht=>hT t (aC8 _ ht)) h2 fun p hp=>hs p (List.mem_append_right _ hp)
theorem dI3(K:Kids P (· < P.types.size))(hsz: ∀{t e:TypeId},t < P.types.size->P.underlying t=some (.slice e)->0 < P.cellsOf e){f:Func}{s:ChangeSpec}{apart fresh handsOn again:Bool}{args:Array Value}{ds gs:List (DataW H)}{before:List MemPlace}
  (hT: ∀t∈f.params.toList,t < P.types.size) {tb:TypeId} (hres:f.resultTypes= #[tb]) (htb:P.underlying tb=some .bool) (hv:s.vars=[])
  (hspec: ∀ds:List (DataW H),ds.length=f.params.size->s.fn H ds={results:=[.lit (.bool true)],args:=ds})
  (hW:DataW.Whole enc P f.params.toList s.vars apart W args.toList ds gs before) (hb:Below W.heap.size W W'):s.post enc P f apart fresh handsOn again W args (.bool true) W':=by
 have hW':=hW;obtain⟨p,q,hA,hV,rfl,hfz,hnd⟩:=hW;rw[hv] at hV;obtain⟨rfl,rfl⟩:=trodVars_none hV;have hlen: ∀{ts:List TypeId} {vs:List Value} {ds:List (DataW H)} {ps:List MemPlace},DataW.TrodAll enc P W 0 (fun _=>true) true ts vs ds ps->ds.length=ts.length:=by
  intro ts;induction ts with
  |nil=>intro vs ds ps h;obtain⟨_,rfl,_⟩:=trodAll_nil h;rfl
  |cons t ts ih=>
   intro vs ds ps h;obtain⟨v,vs1,d,ds1,a,b,rfl,rfl,rfl,_,h2⟩:=trodAll_cons h;simp[ih h2]
 have hs:=hspec (ds++[]) (by rw[List.append_nil,hlen hA];simp)
 have hold: ∀p'∈p++[],(fun b=>decide (b < W.heap.size)) p'.block=true:=fun p' hp=>by simpa using hW'.lt p' hp
 have hres': ∀(b:Nat) (sp:Nat->Bool) (hd:Bool),DataW.TrodAll enc P W' b sp hd f.resultTypes.toList ((Value.bool true).resultList f.resultTypes.size) (s.fn H (ds++[])).results []:=fun b sp hd=>by
  rw[hs,hres];exact trodAll_mk1 (shut_bool htb true)
 have hargs: ∀sp:Nat->Bool,(∀p'∈p,sp p'.block=true)->DataW.TrodAll enc P W' 0 sp true f.params.toList args.toList (s.fn H (ds++[])).args p:=fun sp hsp=>by
  rw[hs,List.append_nil];exact trod_below K hsz hb hT hA hsp
 have hvars: ∀sp:Nat->Bool,DataW.TrodVars enc P W' sp s.vars (s.fn H (ds++[])).vars []:=fun sp=>by
  rw[hs,hv];rfl
 refine⟨ds,[],p++[],[],p,[],hW',hres' _ _ _,hargs _ (fun p' hp=>hold p' (cZ6 _ hp)),hvars _,World.keptBut_mono (fun p' hp=>⟨hp,?_⟩) (hb.frame (· ∈p++[])),fun _=>?_⟩
 ·exact Or.inr (by simpa using hp)
 ·refine⟨fun j t r h1 h2=>?_,_,_,([]++p)++[],⟨[]++p,[],trodAll_append (hargs _ (fun _ _=>rfl)) (hres' _ _ _),hvars _,rfl,?_,?_⟩,?_⟩
  ·rw[hres] at h1 h2
   match j,h1,h2 with
   |0,h1,h2=>
    simp at h1
    have:r=.bool true:=by simpa [Value.resultList] using h2.symm
    subst h1;subst this;exact okWide_bool_mk htb true
   |j+1,h1,_=>simp at h1
  ·intro b off hp
   have hlt:b < W.heap.size:=hW'.lt (.cell b off) (by simpa using hp)
   rw[hb.frozen (p:=⟨b,off,none⟩) hlt];exact hfz b off (by simpa using hp)
  ·intro ha
   have:=hnd ha;simpa using this
  ·intro p' hp _
   simpa using hp
end
end V
end
section
namespace V
open Go Go.ChangeShapes Go.WideShapes Go.RowKit
theorem cc5{s:Nat}(hs:0 < s): ∀{xs:List AV},(∀x∈xs,x.flat.length=s)-> ∀{j:Nat} {y:AV},(aa0 xs)[j]?=some y-> ∃x,xs[j/s]?=some x/\x.flat[j%s]?=some y
 |[],_,j,y,h=>by simp[aa0] at h
 |x::xs,hx,j,y,h=>by
  rw[an4] at h;have hl:=hx x (ax1 ..);by_cases hj:j < s
  ·rw[xq4 (by omega)] at h
   rw[b42 hj,aA7 hj];exact⟨x,rfl,h⟩
  ·rw[xq7 (by omega),hl] at h
   obtain⟨z,h1,h2⟩:=cc5 hs (fun x hx'=>hx x (aC8 _ hx')) h
   refine⟨z,?_,?_⟩
   ·rw[show j/s=(j - s)/s+1 by rw[<-Nat.sub_add_cancel (Nat.le_of_not_lt hj),Nat.add_div_right _ hs];simp]
    simpa using h1
   ·rw[show j%s=(j - s)%s by rw[<-Nat.sub_add_cancel (Nat.le_of_not_lt hj),Nat.add_mod_right];simp]
    exact h2
def bF6(w:World)(x:AV)(cs:List Value):Prop:=x.okv=true/\x.flat.length=cs.length/\ ∀(j:Nat) y c,x.flat[j]?=some y->cs[j]?=some c->Rel (G₀ w) [] w y c
theorem bn2{w:World}{x:AV}{c:Value}(hx:x.flat=[x])(ho:x.okv=true)(h:Rel (G₀ w) [] w x c):bF6 w x [c]:=by
 refine⟨ho,by rw[hx];rfl,fun j y d e e'=>?_⟩
 rw[hx] at e;cases j with
 |zero=>simp at e e';subst e;subst e';exact h
 |succ j=>simp at e
section
variable {H:Type}{enc:TypeId×Value->H}{P:Program}{w:World}
def aA1{α:Type}(enc:TypeId×Value->H)(P:Program)(w:World)(n:Nat)(t:TypeId)(f:α->AV)(p:α->Prop):Prop:=
 ∀(m:Nat) cs x,m<=n->DataW.trod enc P w 0 (fun _=>true) true m t cs=some x-> ∃v:α,p v/\bF6 w (f v) cs
theorem aA1.mono{α:Type}{n m:Nat}{t:TypeId}{f:α->AV}{p:α->Prop}(h:aA1 enc P w n t f p)(hm:m<=n):aA1 enc P w m t f p:=fun k cs x hk hx=>h k cs x (by omega) hx
theorem aA1.zero{α:Type}{t:TypeId}{f:α->AV}{p:α->Prop}:aA1 enc P w 0 t f p:=fun m cs x hm hx=>by
 obtain rfl:m=0:=by omega
 simp[DataW.trod] at hx
theorem aA1.imp{α β:Type}{n:Nat}{t:TypeId}{f:α->AV}{p:α->Prop}{g:β->AV}{q:β->Prop}(h:aA1 enc P w n t f p)(k: ∀v,p v-> ∃u,q u/\g u=f v):aA1 enc P w n t g q:=fun m cs x hm hx=>by
 obtain⟨v,hv,hr⟩:=h m cs x hm hx;obtain⟨u,hu,e⟩:=k v hv;exact⟨u,hu,e▸hr⟩
theorem c97{t:TypeId}(n:Nat)(ht:P.underlying t=some .bool):aA1 enc P w n t (fun b:Bool=>.lit (.bool b)) (fun _=>True):=fun m cs x _ hx=>by
 obtain⟨b,rfl,_⟩:=DataW.trod_bool ht hx;exact⟨b,trivial,bn2 rfl rfl (.lit _)⟩
theorem bf1{t:TypeId}{k:IntKind}(n:Nat)(ht:P.underlying t=some (.int k)):aA1 enc P w n t (fun i:Int=>.lit (.int k i)) (fun i=>k.min<=i/\i<=k.max):=fun m cs x _ hx=>by
 obtain⟨i,rfl,_,hw⟩:=DataW.trod_int ht hx;refine⟨i,?_,bn2 rfl rfl (.lit _)⟩;simp only[Lit.wf,xq3,decide_eq_true_eq] at hw;exact hw
theorem an7{t:TypeId}(n:Nat)(ht:P.underlying t=some .string):aA1 enc P w n t AV.str (fun l=>l.length<=9223372036854775807):=fun m cs x _ hx=>by
 obtain⟨s,rfl,_,hw⟩:=DataW.trod_string ht hx;refine⟨s.data.toList,?_,bn2 rfl rfl ?_⟩
 ·have:s.data.toList.length=s.size:=c08
  show s.data.toList.length<=_
  rw[this];unfold maxLen at hw;omega
 ·have:s=⟨s.data.toList.toArray⟩:=by simp
  conv=>rhs;rw[this]
  exact .str _
theorem add_add(a:Addr)(i j:Nat):(a.add i).add j=a.add (i+j):=by
 unfold Addr.add;by_cases hi:i=0<;>by_cases hj:j=0<;>simp[hi,hj,aZ7]
theorem bc8{α:Type}{t e:TypeId}{s n:Nat}{f:α->AV}{p:α->Prop}(ht:P.underlying t=some (.slice e))(hc:P.cellsOf e=s)(hs:0 < s)(h:aA1 enc P w n e f p):
  aA1 enc P w (n+1) t (fun l:List α=>.sl .sh s (l.map f)) (fun l=>l.length<=9223372036854775807/\ ∀v∈l,p v):=fun m cs x hm hx=>by
 rcases DataW.trod_slice ht hx with⟨rfl,_⟩|⟨a,len,cap,elems,rest,k,hk,rfl,_,hb,hl,hcap,hlen,hel,_,_⟩
 ·refine⟨[],⟨by simp,fun v hv=>by cases hv⟩,bn2 rfl rfl ?_⟩
  exact .sl .sh s [] none 0 0 (fun _=>undef) rfl (xq0 _) (fun x hx=>by cases hx) (fun j x e=>by simp[aa0] at e) (fun j x e=>by simp[aa0] at e) (fun e=>by cases e) (fun h=>absurd h (by omega)) (fun k e=>by cases e)
 ·subst hc
  have each: ∀i,i < len-> ∃v:α,p v/\ ∃cs',w.cells? 0 (a.add (i*P.cellsOf e)) (P.cellsOf e)=some cs'/\bF6 w (f v) cs':=fun i hi=>by
   have:=hel i hi;rw[xq1 (by omega),Option.bind_eq_some_iff] at this
   obtain⟨cs',h1,h2⟩:=this;obtain⟨v,hv,hr⟩:=h k cs' _ (by omega) h2
   exact⟨v,hv,cs',h1,hr⟩
  obtain⟨g,hg⟩: ∃g:Nat->Option α,∀i,i < len-> ∃v,g i=some v/\p v/\ ∃cs',w.cells? 0 (a.add (i*P.cellsOf e)) (P.cellsOf e)=some cs'/\bF6 w (f v) cs':=by
   refine⟨fun i=>if hi:i < len then some (Classical.choose (each i hi)) else none,fun i hi=>?_⟩
   simp only[dif_pos hi];exact⟨_,rfl,Classical.choose_spec (each i hi)⟩
  have hget: ∀(n:Nat),n<=len->((List.range n).filterMap g).length=n/\ ∀i,i < n->((List.range n).filterMap g)[i]?=g i:=by
   intro n;induction n with
   |zero=>intro _;exact⟨rfl,fun i hi=>absurd hi (by omega)⟩
   |succ n ih=>
    intro hn;obtain⟨h1,h2⟩:=ih (by omega)
    obtain⟨v,hv,_⟩:=hg n (by omega)
    rw[List.range_succ,List.filterMap_append];have e1:List.filterMap g [n]=[v]:=by simp[hv]
    rw[e1];refine⟨by simp[h1],fun i hi=>?_⟩
    by_cases hin:i < n
    ·rw[xq4 (by omega)];exact h2 i hin
    ·obtain rfl:i=n:=by omega
     rw[xq7 (by omega),h1,ao8,hv]
     rfl
  obtain⟨l,hll,hlg⟩: ∃l:List α,l.length=len/\ ∀i,i < len->l[i]?=g i:=⟨_,hget len (xq0 _)⟩;have hat: ∀i v,l[i]?=some v->i < len/\p v/\ ∃cs',w.cells? 0 (a.add (i*P.cellsOf e)) (P.cellsOf e)=some cs'/\bF6 w (f v) cs':=fun i v hv=>by
   have hi:i < len:=by have:=y9 hv;omega
   rw[hlg i hi] at hv;obtain⟨v',h1,h2⟩:=hg i hi;rw[h1] at hv;cases hv
   exact⟨hi,h2⟩
  have huni: ∀y∈l.map f,y.flat.length=P.cellsOf e/\y.okv=true:=fun y hy=>by
   obtain⟨v,hv,rfl⟩:=xq9.1 hy;obtain⟨i,hi⟩:=List.getElem?_of_mem hv;obtain⟨_,_,cs',h1,h2,h3,_⟩:=hat i v hi;exact⟨by rw[h3];exact(World.cells?_some h1).2.1,h2⟩
  have hmax:len<=9223372036854775807:=by unfold maxLen at hcap;omega
  refine⟨l,⟨by rw[hll];exact hmax,fun v hv=>?_⟩,bn2 rfl rfl ?_⟩
  ·obtain⟨i,hi⟩:=List.getElem?_of_mem hv
   exact(hat i v hi).2.1
  ·by_cases h0:len=0
   ·have hnil:l=[]:=aZ5 (by omega)
    rw[hnil];exact .sl .sh _ [] _ _ _ (fun _=>undef) (by simp[h0]) hl (fun x hx=>by cases hx) (fun j x e=>by simp[aa0] at e) (fun j x e=>by simp[aa0] at e) (fun e=>by cases e) (fun h=>absurd h (by omega)) (fun k e=>by cases e)
   ·have hcellat: ∀(j:Nat) y,(aa0 (l.map f))[j]?=some y-> ∃u,w.cell? (a.add j)=some u/\Rel (G₀ w) [] w y u:=fun j y hj=>by
     obtain⟨z,h1,h2⟩:=cc5 hs (fun y hy=>(huni y hy).1) hj
     rw[ak6,c22] at h1;obtain⟨v,hv,rfl⟩:=h1;obtain⟨hi,_,cs',hc',_,hl',hr⟩:=hat _ v hv;obtain⟨_,hn',hcell⟩:=World.cells?_some hc';have hlt:j%P.cellsOf e < P.cellsOf e:=cg3 _ hs;have:=hcell (j%P.cellsOf e) hlt;rw[xq1 (by omega)] at this
     refine⟨_,?_,hr _ _ _ h2 (xq1 (by omega))⟩
     rw[<-this,add_add,bW0,Nat.div_add_mod]
    have hlen0:0 < (aa0 (l.map f)).length:=by
     rw[ah2 fun y hy=>(huni y hy).1,List.length_map,hll]
     exact Nat.mul_pos (by omega) hs
    obtain⟨u,hu,_⟩:=hcellat 0 _ (xq1 hlen0);obtain⟨b,off,rfl⟩: ∃b off,a=⟨b,off,none⟩:=by
     obtain⟨b,off,sp⟩:=a;cases sp with
     |none=>exact⟨b,off,rfl⟩
     |some k=>
      simp only[Addr.add,if_true,World.cell?] at hu;split at hu<;>simp at hu
    refine bq4 (by simp[hll]) hl huni fun j y hj=>?_
    obtain⟨u,hu,hr⟩:=hcellat j y hj;have hadd:(Addr.mk b off none).add j=⟨b,off+j,none⟩:=by
     unfold Addr.add;split
     ·rename_i e;subst e;rfl
     ·rfl
    rw[hadd] at hu;refine⟨?_,u,hu,hr⟩;show b < w.heap.size
    rcases am5 b w.heap.size with hlt|hlt
    ·exact hlt
    ·simp[World.cell?,bH4 hlt] at hu
theorem bt1{w:World}{x:AV}{v:Value}{xs:List AV}{vs:List Value}(h:Rel (G₀ w) [] w x v)(k:av8 (G₀ w) [] w xs vs.toArray):av8 (G₀ w) [] w (x::xs) (v::vs).toArray:=⟨by simpa using k.1,fun j y u e e'=>by
 cases j with
 |zero=>simp at e e';subst e;subst e';exact h
 |succ j=>exact k.2 j y u (by simpa using e) (by simpa using e')⟩
theorem c78{w:World}:av8 (G₀ w) [] w [] ([]:List Value).toArray:=⟨rfl,fun j y u e e'=>by simp at e⟩
theorem b78{w:World}{xs:List AV}{cs:Array Value}(h:bF6 w (.agg xs) (Value.agg cs).cells.toList):Rel (G₀ w) [] w (.agg xs) (.agg cs):=
 .agg _ _ (by have:=h.2.1;simpa [AV.flat,Value.cells] using this.symm) fun j x v e e'=>h.2.2 j x v e (by simpa [Value.cells] using e')
end
theorem dC8{H:Type}{enc:TypeId×Value->H}{P:Program}{w:World}{t:TypeId}(n:Nat)(ht:P.underlying t=some (.int .u8)):aA1 enc P w n t o8 (fun _=>True):=
 (bf1 n ht).imp fun i hi=>by
  have h1:(0:Int)<=i:=hi.1;have h2:i<=255:=hi.2;refine⟨UInt8.ofNat i.toNat,trivial,?_⟩;have:(UInt8.ofNat i.toNat).toNat=i.toNat:=by simp;omega
  show AV.lit (.int .u8 ((UInt8.ofNat i.toNat).toNat:Int))=_
  rw[this,Int.toNat_of_nonneg h1]
end V
end
section
namespace V
open Go
inductive Frz1(H:List AObj)(k:Nat):AV->AV->Prop
 |keep (x:AV):Frz1 H k x x
 |any (x:AV):Frz1 H k x .any
 |row (len s:Nat) (sh:Shape) (cs xs:List AV) (ho:H[k]?=some (.cells sh cs)) (hx:xs.length=len) (hs: ∀x∈xs,x.flat.length=s/\x.okv=true) (hl:(aa0 xs).length<=cs.length)
   (h: ∀(j:Nat) c y,cs[j]?=some c->(aa0 xs)[j]?=some y->Frz1 H k c y):Frz1 H k (.mrow k len) (.sl .sh s xs)
 |msl (off len cap s:Nat) (sh:Shape) (cs xs:List AV) (ho:H[k]?=some (.cells sh cs)) (hx:xs.length=len) (hs: ∀x∈xs,x.flat.length=s/\x.okv=true) (hl:off+(aa0 xs).length<=cs.length)
   (h: ∀(j:Nat) c y,cs[off+j]?=some c->(aa0 xs)[j]?=some y->Frz1 H k c y):Frz1 H k (.msl k off len cap) (.sl .sh s xs)
 |mp (off:Nat) (sh:Shape) (cs:List AV) (x:AV) (ho:H[k]?=some (.cells sh cs)) (hl:off+x.flat.length<=cs.length)
   (h: ∀(j:Nat) c y,cs[off+j]?=some c->x.flat[j]?=some y->Frz1 H k c y):Frz1 H k (.mp k off) (.ip x)
 |agg (cs ds:List AV) (hl:ds.length=cs.length) (h: ∀(j:Nat) c d,cs[j]?=some c->ds[j]?=some d->Frz1 H k c d):Frz1 H k (.agg cs) (.agg ds)
 |tup (cs ds:List AV) (hl:ds.length=cs.length) (h: ∀(j:Nat) c d,cs[j]?=some c->ds[j]?=some d->Frz1 H k c d):Frz1 H k (.tup cs) (.tup ds)
 |ifc (t:TypeId) (x y:AV) (h:Frz1 H k x y):Frz1 H k (.ifc t x) (.ifc t y)
def cI1(G:Gh)(k:Nat):Gh:={G with imm:=fun b off=>G.imm b off\/b=G.blk k}
theorem bR9{G:Gh}{H:List AObj}{w:World}(hi:HInv G H w){k:Nat}{sh:Shape}{cs:List AV}(hk:H[k]?=some (.cells sh cs)):HInv (cI1 G k) (H.set k .gone) w/\Step G H w (cI1 G k) (H.set k .gone) w:=by
 obtain⟨hi1,st1⟩:=b75 hi hk;have st2:Step G (H.set k .gone) w (cI1 G k) (H.set k .gone) w:=⟨rfl,rfl,rfl,xq0 _,fun _ _ h=>.inl h,fun _ _ _=>rfl,fun _ _=>rfl,fun i=>by
  cases e:(H.set k AObj.gone)[i]? with
  |none=>exact bk0 e
  |some o=>
   cases o with
   |cells t c=>exact⟨⟨_,e,rfl⟩,rfl,rfl⟩
   |gone=>exact⟨e,rfl,rfl⟩
   |loop r E=>exact⟨e,rfl,rfl⟩
   |grow s n t=>exact⟨n,e,xq0 _,fun _=>rfl⟩⟩
 have hsk:site G H k=some (G.blk k):=bA7 hi hk;refine⟨⟨fun b off h=>?_,fun i sh1 c ei=>?_,fun i s n t ei=>?_,hi1.apart,hi1.tabs.step st2⟩,st1.trans st2⟩
 ·rcases h with h|h
  ·exact hi.lt b off h
  ·have h:b=G.blk k:=h
   rw[h];exact hi.site_lt hsk
 ·obtain⟨arr,T,fr,hb,hs,hr,hf1,hf2⟩:=hi1.cells i sh1 c ei
  refine⟨arr,T,fr,hb,hs,fun j x v ex ev=>(hr j x v ex ev).mono st2,fun off h=>?_,hf2⟩
  rcases h with h|h
  ·exact hf1 off h
  ·have h:G.blk i=G.blk k:=h
   rcases an9 ei with⟨hik,ei'⟩|⟨_,ei',_⟩
   ·exact hik (hi.apart i k (G.blk k) (by simp[site,ei',h]) hsk)
   ·cases ei'
 ·rcases an9 ei with⟨hik,ei'⟩|⟨_,ei',_⟩
  ·obtain⟨h0,h1,h2,h3⟩:=hi1.grow i s n t ei
   have hne: ∀b off,(G.own i).1=some ⟨b,off,none⟩->(n < (G.own i).2\/t.isSome=true/\0 < (G.own i).2)->b≠G.blk k:=fun b off ea hc e=>by
    refine hik (hi.apart i k (G.blk k) ?_ hsk);unfold site;rw[ei',show G.own i=(some ⟨b,off,none⟩,(G.own i).2) by rw[<-ea]]
    simp only;rw[if_pos hc,e]
   refine⟨h0,h1,fun hn=>?_,an6 h3 rfl (xq0 _) (fun b arr e fr hb=>⟨arr,hb,rfl⟩) fun b off arr e fr hb ea hc ht hx _=>?_⟩
   ·obtain⟨b,off,arr,T,fr,ea,hb,hsz,hj⟩:=h2 hn
    refine⟨b,off,arr,T,fr,ea,hb,hsz,fun j h4 h5=>⟨?_,(hj j h4 h5).2⟩⟩
    rintro(h|h)
    ·exact(hj j h4 h5).1 h
    ·exact hne b off ea (.inl hn) h
   ·rcases hx with hx|hx
    ·exact hx
    ·exact absurd hx (hne b 0 ea (.inr ⟨ht,hc⟩))
  ·cases ei'
theorem cl0{G:Gh}{H:List AObj}{w:World}(hi:HInv G H w){k:Nat}{sh:Shape}{cs:List AV}(hk:H[k]?=some (.cells sh cs)){x y:AV}(f:Frz1 H k x y): ∀v,Rel G H w x v->Rel (cI1 G k) (H.set k .gone) w y v:=by
 obtain⟨_,st⟩:=bR9 hi hk;have cell: ∀sh cs,H[k]?=some (.cells sh cs)-> ∃arr:Array Value,cs.length<=arr.size/\(∀(j:Nat) x v,cs[j]?=some x->arr[j]?=some v->Rel G H w x v)/\ ∀j,(cI1 G k).imm (G.blk k) j/\w.cell? ⟨G.blk k,j,none⟩=arr[j]?:=fun sh cs ho=>by
  obtain⟨arr,T,fr,hb,hsz,hr,_⟩:=hi.cells k sh cs ho;exact⟨arr,hsz,hr,fun j=>⟨.inr rfl,aw6 hb⟩⟩
 induction f with
 |keep x=>intro v r;exact r.mono st
 |any x=>intro v r;exact .any v
 |row len s sh cs xs ho hx hs hl h ih=>
  intro v r;obtain⟨arr,hsz,hr,hc⟩:=cell _ cs ho;cases r with
  |mrow _ _ o h1 h2 hcap=>
   refine .sl .sh s xs _ _ _ (fun j=>(arr[j]?).getD undef) hx.symm hcap hs (fun j y e=>?_) (fun j y e=>?_) (fun e=>by cases e) (fun _=>rfl) (fun k e=>by cases e)
   ·have hj:=y9 e
    have ha:arr[j]?=some (arr[j]'(by omega)):=xq2 _
    refine⟨G.blk k,0,rfl,?_,?_⟩
    ·rw[Nat.zero_add];exact(hc j).1
    ·rw[Nat.zero_add,(hc j).2,ha];rfl
   ·have hj:=y9 e
    have ha:arr[j]?=some (arr[j]'(by omega)):=xq2 _
    have hcj:cs[j]?=some (cs[j]'(by omega)):=xq1 _
    have:=ih j _ y hcj e _ (hr j _ _ hcj ha);rw[ha];exact this
 |msl off len cap s sh cs xs ho hx hs hl h ih=>
  intro v r;obtain⟨arr,hsz,hr,hc⟩:=cell _ cs ho;cases r with
  |msl _ _ _ _ o h1 h2 hcap=>
   refine .sl .sh s xs _ _ _ (fun j=>(arr[off+j]?).getD undef) hx.symm hcap hs (fun j y e=>?_) (fun j y e=>?_) (fun e=>by cases e) (fun _=>rfl) (fun k e=>by cases e)
   ·have hj:=y9 e
    have ha:arr[off+j]?=some (arr[off+j]'(by omega)):=xq2 _
    refine⟨G.blk k,off,rfl,(hc _).1,?_⟩;rw[(hc _).2,ha];rfl
   ·have hj:=y9 e
    have ha:arr[off+j]?=some (arr[off+j]'(by omega)):=xq2 _
    have hcj:cs[off+j]?=some (cs[off+j]'(by omega)):=xq1 _
    have:=ih j _ y hcj e _ (hr _ _ _ hcj ha);rw[ha];exact this
 |mp off sh cs x ho hl h ih=>
  intro v r;obtain⟨arr,hsz,hr,hc⟩:=cell _ cs ho;cases r with
  |mp _ _ o h1 h2=>
   refine .ip x _ _ (fun j=>(arr[off+j]?).getD undef) (fun j y e=>?_) (fun j y e=>?_)
   ·have hj:=y9 e
    have ha:arr[off+j]?=some (arr[off+j]'(by omega)):=xq2 _
    refine⟨(hc _).1,?_⟩;rw[(hc _).2,ha];rfl
   ·have hj:=y9 e
    have ha:arr[off+j]?=some (arr[off+j]'(by omega)):=xq2 _
    have hcj:cs[off+j]?=some (cs[off+j]'(by omega)):=xq1 _
    have:=ih j _ y hcj e _ (hr _ _ _ hcj ha);rw[ha];exact this
 |agg cs ds hl h ih=>
  intro v r;cases r with
  |agg _ arr ha hr=>
   refine .agg ds arr (ha.trans hl.symm) fun j y u e e'=>?_
   have hj:=y9 e;have hcj:cs[j]?=some (cs[j]'(by omega)):=xq1 _
   exact ih j _ y hcj e _ (hr j _ u hcj e')
 |tup cs ds hl h ih=>
  intro v r;cases r with
  |tup _ arr ha hr=>
   refine .tup ds arr (ha.trans hl.symm) fun j y u e e'=>?_
   have hj:=y9 e;have hcj:cs[j]?=some (cs[j]'(by omega)):=xq1 _
   exact ih j _ y hcj e _ (hr j _ u hcj e')
 |ifc t x y h ih=>
  intro v r;cases r with
  |ifc _ _ u hr=>exact .ifc t y u (ih u hr)
theorem dM0{H₀ H:List AObj}{x x' y:AV}{k:Nat}{sh:Shape}{cs:List AV}(hle:Le x x')(hk:H[k]?=some (.cells sh cs))(f:Frz1 H k x' y):Ends H₀ x H y (H.set k .gone):=fun G₀ w₀ G w v h0 hi hs r=>by
 obtain⟨hi',st⟩:=bR9 hi hk;exact⟨_,hi',hs.trans st,cl0 hi hk f v (hle _ _ _ _ r)⟩
theorem em7{P:Program}{n:Nat}{c:Code}{Q:Exit->Env->List AObj->Prop}{env env':Env}{H:List AObj}{k:Nat}{sh:Shape}{cs:List AV}(hk:H[k]?=some (.cells sh cs))(hf: ∀t,Frz1 H k (get env t) (get env' t))
  (h:AW P n c Q env' (H.set k .gone)):AW P n c Q env H:=fun ro N ds G a w s=>by
 obtain⟨hi',st⟩:=bR9 s.inv hk;exact wpIn_mono (h ro N ds _ a w ⟨s.size,s.defers,fun t=>cl0 s.inv hk (hf t) _ (s.env t),hi'⟩) fun _ _ _ p=>p.trans st
theorem ci5{G:Gh}{H:List AObj}{w:World}(hi:HInv G H w){k:Nat}{sh:Shape}{cs:List AV}(hk:H[k]?=some (.cells sh cs)){cs':List AV}{sh':Shape}{arr:Array Value}{T:TypeId}{fr:Nat×Nat}
  (hb:w.heap[G.blk k]?=some (.cells arr T fr)) (hr:aM0 G H w cs' arr) (hsh:aU2 G k sh' cs'.length T arr.size fr):
  HInv G (H.set k (.cells sh' cs')) w/\Step G H w G (H.set k (.cells sh' cs')) w:=by
 have hkl:=y9 hk;obtain⟨arr0,T0,fr0,hb0,hs0,hr0,hf1,hf2,_⟩:=hi.cells k sh cs hk;rw[hb] at hb0;cases hb0
 have st:Step G H w G (H.set k (.cells sh' cs')) w:=by
  refine⟨rfl,rfl,rfl,xq0 _,fun _ _ h=>h,fun _ _ _=>rfl,fun _ _=>rfl,fun i=>?_⟩
  cases ei:H[i]? with
  |none=>exact bJ8 ei
  |some o=>
   by_cases hik:i=k
   ·subst hik
    rw[hk] at ei;cases ei
    exact⟨⟨_,by simp[hkl];rfl,rfl⟩,rfl,rfl⟩
   ·have ea:(H.set k (.cells sh' cs'))[i]?=some o:=by rw[ar5 (fun h=>hik h.symm)];exact ei
    cases o with
    |cells t c=>exact⟨⟨_,ea,rfl⟩,rfl,rfl⟩
    |gone=>exact⟨ea,rfl,rfl⟩
    |loop r E=>exact⟨ea,rfl,rfl⟩
    |grow s n t=>exact⟨n,ea,xq0 _,fun _=>rfl⟩
 refine⟨⟨hi.lt,fun i sh1 c ei=>?_,fun i s n t ei=>?_,fun i j b e1 e2=>?_,hi.tabs.step st⟩,st⟩
 ·rcases an9 ei with⟨hik,ei'⟩|⟨rfl,ei',_⟩
  ·obtain⟨arr1,T1,fr1,hb1,hs1,hr1,hg⟩:=hi.cells i sh1 c ei'
   exact⟨arr1,T1,fr1,hb1,hs1,fun j x v ex ev=>(hr1 j x v ex ev).mono st,hg⟩
  ·cases ei'
   exact⟨arr,T,fr,hb,hr.1,fun j x v ex ev=>(hr.2 j x v ex ev).mono st,hf1,hf2,hsh⟩
 ·rcases an9 ei with⟨hik,ei'⟩|⟨_,ei',_⟩
  ·exact hi.grow i s n t ei'
  ·cases ei'
 ·have hs: ∀i b,site G (H.set k (.cells sh' cs')) i=some b->site G H i=some b:=fun i b e=>by
   unfold site at e⊢;cases ei:(H.set k (AObj.cells sh' cs'))[i]? with
   |none=>rw[ei] at e;cases e
   |some o=>
    rw[ei] at e;rcases an9 ei with⟨_,ei'⟩|⟨rfl,ei',_⟩
    ·rw[ei'];exact e
    ·subst ei';rw[hk];exact e
  exact hi.apart i j b (hs i b e1) (hs j b e2)
theorem open_row{G:Gh}{H:List AObj}{w:World}(hi:HInv G H w){k n s:Nat}{cs:List AV}(hk:H[k]?=some (.cells (.prow s) cs))(hl:cs.length=n*s){v:Value}(r:Rel G H w (.mrow k n) v):
  ∃T cap,n<=cap/\HInv G (H.set k (.cells (.one T) (cs++List.replicate ((cap - n)*s) .any))) w/\Step G H w G (H.set k (.cells (.one T) (cs++List.replicate ((cap - n)*s) .any))) w/\Rel G (H.set k (.cells (.one T) (cs++List.replicate ((cap - n)*s) .any))) w (.msl k 0 n cap) v:=by
 have hkl:=y9 hk;obtain⟨arr,T,fr,hb,hsz,hr,hf1,hf2,hf3⟩:=hi.cells k _ cs hk;have hasz:arr.size=(G.own k).2*s:=hf3.2.1;cases r with
 |mrow _ _ o0 hk0 hb0 hcap=>
 have hsz':(cs++List.replicate (((G.own k).2 - n)*s) AV.any).length=arr.size:=by
  rw[List.length_append,List.length_replicate,hl,hasz,<-aC7];congr 1
  omega
 have hrel:aM0 G H w (cs++List.replicate (((G.own k).2 - n)*s) .any) arr:=by
  refine⟨aZ3 hsz',fun j x v e1 e2=>?_⟩
  by_cases hj:j < cs.length
  ·rw[xq4 hj] at e1
   exact hr j x v e1 e2
  ·rw[xq7 (by omega),b44] at e1
   split at e1
   ·cases e1;exact .any _
   ·cases e1
 obtain⟨hi',st⟩:=ci5 hi hk hb hrel (sh':=.one T) ⟨rfl,hsz'.symm,hf3.2.2⟩;exact⟨T,(G.own k).2,hcap,hi',st,.msl k 0 n _ _ (by simp[hkl];rfl) rfl hcap⟩
theorem bV5{P:Program}{f:FuncId}{xs1 bs:List AV}{H:List AObj}{R:AV->List AObj->Prop}{k n s:Nat}{cs:List AV}(hk:H[k]?=some (.cells (.prow s) cs))(hl:cs.length=n*s)
  (h: ∀T cap,n<=cap->o9 P f (xs1++ .msl k 0 n cap::bs) (H.set k (.cells (.one T) (cs++List.replicate ((cap - n)*s) .any))) R):o9 P f (xs1++ .mrow k n::bs) H R:=fun G w vs hi ha=>by
 obtain⟨v,hv⟩: ∃v,vs[xs1.length]?=some v:=⟨_,xq2 (by rw[ha.1];simp)⟩
 obtain⟨T,cap,hc,hi',st,r⟩:=open_row hi hk hl (ha.2 xs1.length _ v (by simp) hv)
 refine(h T cap hc G w vs hi' ⟨by rw[ha.1];simp,fun j y u ey ev=>?_⟩).mono ?_
 ·rcases Nat.lt_trichotomy j xs1.length with hj|rfl|hj
  ·rw[xq4 hj] at ey
   exact(ha.2 j y u (by rw[xq4 hj];exact ey) ev).mono st
  ·rw[xq7 (xq0 _),ao8] at ey
   simp at ey
   subst ey;rw[hv] at ev;cases ev
   exact r
  ·obtain⟨i,rfl⟩: ∃i,j=xs1.length+(i+1):=⟨j - xs1.length - 1,by omega⟩
   rw[xq7 (by omega),aI1,List.getElem?_cons_succ] at ey
   exact(ha.2 _ y u (by rw[xq7 (by omega),aI1,List.getElem?_cons_succ];exact ey) ev).mono st
 ·rintro v w' ⟨x,G',H',h1,h2,h3,h4⟩
  exact⟨x,G',H',h1,st.trans h2,h3,h4⟩
theorem aO0{H₀ H H':List AObj}{R:AV->List AObj->Prop}{x y:AV}{k:Nat}{sh:Shape}{cs:List AV}(hk:H[k]?=some (.cells sh cs))(f:Frz1 H k x y)(hr:Done H₀ R y (H.set k .gone)):Done H₀ R x H:=by
 unfold Done at hr⊢;obtain⟨z,H'',he,hR⟩:=hr;exact⟨z,H'',cd0 (dM0 (Le.refl x) hk f) he,hR⟩
end V
end
section
namespace V
open Go
section
variable {H M:List AObj}{o:AObj}{n k i:Nat}
theorem hg0(h:n=H.length):(H++M)[n]?=M[0]?:=by subst h;exact aP6
theorem hg1(h:n=H.length+1):(H++M)[n]?=M[1]?:=by subst h;exact az9
theorem hg2(h:n=H.length+2):(H++M)[n]?=M[2]?:=by subst h;exact az9
theorem hs0(h:n=H.length):(H++M).set n o=H++M.set 0 o:=by subst h;exact bf3
theorem hs1(h:n=H.length+1):(H++M).set n o=H++M.set 1 o:=by subst h;exact aY0
theorem hs2(h:n=H.length+2):(H++M).set n o=H++M.set 2 o:=by subst h;exact aY0
theorem hss(h:k < H.length):(H.set k o)[k]?=some o:=by simp[h]
theorem hsn(h:k≠i):(H.set k o)[i]?=H[i]?:=ar5 h
theorem dA5(h:H[k]?=some o):H.set k o=H:=by
 refine aV9 fun i=>?_
 rw[aZ4];split
 ·rename_i e;subst e;split
  ·exact h.symm
  ·rename_i hl;rw[av9 (by omega)]
 ·rfl
end
attribute [go_sem] List.set_set hss List.length_set
theorem ay9{P:Program}{f:FuncId}{fn:Func}{e:Array Value->Sem Value}{args:List AV}{H:List AObj}{R:AV->List AObj->Prop}(hf:P.funcs[f]?=some fn)(hname:(fn.name== "runtime.NumGoroutine")=false)(hb:fn.body.isNone=true)(hn:Extern.findNext fn=none)(he:Extern.find fn=some e)
  (h: ∀G w vs,HInv G H w->av8 G H w args vs-> ∃v w' x G' H',(e vs).run P w=.ok v w'/\HInv G' H' w'/\Step G H w G' H' w'/\Rel G' H' w' x v/\R x H'):o9 P f args H R:=fun G w vs hi ha=>by
 obtain⟨v,w',x,G',H',hr,h1,h2,h3,h4⟩:=h G w vs hi ha;refine .inr ⟨v,w',?_,x,G',H',h1,h2,h3,h4⟩;rw[run_callFunc_extern hf hname hb hn he,hr];rfl
theorem cA1{G:Gh}{H:List AObj}{w:World}{x:AV}{vs:Array Value}(h:av8 G H w [x] vs): ∃v,vs= #[v]/\Rel G H w x v:=by
 obtain⟨hs,hr⟩:=h;obtain⟨l⟩:=vs;match l,hs with
 |[v],_=>exact⟨v,rfl,hr 0 x v rfl rfl⟩
theorem bX5{G:Gh}{H:List AObj}{w:World}{x y:AV}{vs:Array Value}(h:av8 G H w [x,y] vs): ∃v u,vs= #[v,u]/\Rel G H w x v/\Rel G H w y u:=by
 obtain⟨hs,hr⟩:=h;obtain⟨l⟩:=vs;match l,hs with
 |[v,u],_=>exact⟨v,u,rfl,hr 0 x v rfl rfl,hr 1 y u rfl rfl⟩
theorem df7(x:AV)(H:List AObj):o9 Tryz.prog 228 [x] H (fun y H'=>y=x/\H'=H):=
 ay9 (e:=Extern.AbiNoEscape.same) Tryz.func228 (by kernel_rfl) (by kernel_rfl) (by kernel_rfl) (by kernel_rfl) fun G w vs hi ha=>by
  obtain⟨v,rfl,hv⟩:=cA1 ha;exact⟨v,w,x,G,H,Lib.run_noEscape w v,hi,.refl _ _ _,hv,rfl,rfl⟩
def aD1(l:List UInt8)(c:UInt8):Int:=if l.idxOf c < l.length then(l.idxOf c:Nat) else -1
theorem firstIdx_eq(l:List UInt8)(c:UInt8):firstIdx ⟨l.toArray⟩ c=aD1 l c:=by
 have hsz:(ByteArray.mk l.toArray).size=l.length:=by simp[ByteArray.size]
 have hget: ∀i,i < l.length->(ByteArray.mk l.toArray)[i]! =l.getD i 0:=fun i hi=>by
  rw[getElem!_pos (ByteArray.mk l.toArray) i (by rw[hsz];exact hi)]
  simp[List.getD,hi]
  rfl
 unfold firstIdx aD1;rw[hsz];by_cases h:l.idxOf c < l.length
 ·rw[if_pos h]
  have:(List.range l.length).find? (fun i=>(ByteArray.mk l.toArray)[i]! ==c)=some (l.idxOf c):=by
   rw[List.find?_eq_some_iff_getElem];refine⟨?_,l.idxOf c,by simpa using h,by simp,fun j hj=>?_⟩
   ·rw[hget _ h,List.getD,xq1 h]
    simp[cu7 h]
   ·rw[List.getElem_range,hget j (by omega),List.getD,xq1 (by omega)]
    have:=List.not_of_lt_findIdx (xs:=l) (p:=(· ==c)) hj;simpa using this
  rw[this]
 ·rw[if_neg h]
  have hn:c∉l:=fun hc=>h (b41 hc)
  have:(List.range l.length).find? (fun i=>(ByteArray.mk l.toArray)[i]! ==c)=none:=by
   rw[List.find?_eq_none];intro i hi;rw[aZ8] at hi;rw[hget i hi,List.getD,xq1 hi];simp only[Option.getD_some,beq_iff_eq];intro e;exact hn (e▸aM4 hi)
  rw[this]
theorem bT3(l:List UInt8)(c:UInt8)(H:List AObj):o9 Tryz.prog 218 [.str l,o8 c] H (fun y H'=>y=.int .i64 (aD1 l c)/\H'=H):=
 ay9 (e:=Extern.BytealgIndexByte.indexByte) Tryz.func218 (by kernel_rfl) (by kernel_rfl) (by kernel_rfl) (by kernel_rfl) fun G w vs hi ha=>by
  obtain⟨v,u,rfl,hv,hu⟩:=bX5 ha;rw[ap5 hv,ab1 hu];refine⟨_,w,_,G,H,run_indexByte_string _ _ w,hi,.refl _ _ _,.lit _,?_,rfl⟩;have:((c.toNat:Int).toNat).toUInt8=c:=by simp
  rw[this,firstIdx_eq]
end V
end
section
open Go V
def aL1(b:UInt8):UInt8:=if 65<=b.toNat/\b.toNat<=90 then b+32 else b
def aK7(l:List UInt8):Bool:=l.all fun c=>decide (32<=c.toNat/\c.toNat<=126)
theorem take_snoc{l:List UInt8}{i:Nat}(h:i < l.length):l.take (i+1)=l.take i++[l.getD i 0]:=by
 rw[b40];simp[List.getD,xq1 h]
theorem cb5{l:List UInt8}{i:Nat}(hi:i<=l.length)(h:i < l.length)(hp:aK7 (l.take i)=true):aK7 l=(decide (32<=(l.getD i 0).toNat/\(l.getD i 0).toNat<=126)&&aK7 (l.drop (i+1))):=by
 have e:l=l.take i++(l.getD i 0::l.drop (i+1)):=by
  rw[show l.getD i 0=l[i] by simp[List.getD,xq1 h],<-bs7 h,bG7]
 conv=>lhs;rw[e]
 unfold aK7 at*;rw[List.all_append,hp,List.all_cons,Bool.true_and]
theorem cR3(l:List UInt8)(H:List AObj)(hl:l.length<=5000):o9 Tryz.prog 69 [.str l] H (fun x H'=>x=.bool (aK7 l)/\H'=H):=by
 refine y7 [] [.tmp 2] 20 Tryz.func69 rfl rfl rfl rfl (nlb rfl) (by kernel_rfl) ?_
 repeat' first|refine o6 ?_|simp -dsimp -implicitDefEqProofs (disch:=first|assumption|omega|simp only[ll];omega) only[go_sem]|refine vcJ ?_ ?_<;>intro _|refine vcA ?_ ?_;focus(repeat'(first|omega|assumption|refine vcA ?_ ?_);done)|omega|refine o7 (fun _=>?_)
 refine bO5 aa7 mixed [] (fun i:Nat=>i<=l.length/\aK7 (l.take i)=true) (fun i=>[(6,.int .i64 i),(5,.int .i64 l.length),(0,.str l)]) (fun _=>H) (fun i=>l.length - i) (by kernel_rfl) ?_ 0 ⟨by omega,rfl⟩ y8 rfl
 intro i ⟨hi,hp⟩;repeat' first|refine o6 ?_|simp -dsimp -implicitDefEqProofs (disch:=first|assumption|omega|simp only[ll];omega) only[go_sem]|refine vcJ ?_ ?_<;>intro _|refine vcA ?_ ?_;focus(repeat'(first|omega|assumption|refine vcA ?_ ?_);done)|omega|refine o7 (fun _=>?_)
 ·refine y5 ⟨ad5 ?_,rfl⟩
  rw[cb5 hi (by omega) hp,decide_eq_false (by omega),aC6]
 ·refine y5 ⟨ad5 ?_,rfl⟩
  rw[cb5 hi (by omega) hp,decide_eq_false (by omega),aC6]
 ·refine again (i+1) ?_ ?_ rfl y8
  ·omega
  ·refine⟨by omega,?_⟩
   rw[take_snoc (by omega),aK7,List.all_append,<-aK7,hp,List.all_cons,List.all_nil,decide_eq_true (by omega)]
   rfl
 ·refine y5 ⟨ad5 ?_,rfl⟩
  have:i=l.length:=by omega
  subst this;rw[aZ6] at hp;rw[hp]
end
section
open Go V
end
section
namespace V
open Go
theorem cy9{H:List AObj}{k m:Nat}{a b c:AObj}(h:k≠m):((H.set k a).set m b).set k c=(H.set k c).set m b:=by
 rw[List.set_comm _ _ (Ne.symm h),List.set_set]
def aB7(T:TypeId)(m:Nat)(a:AV)(bs:List UInt8):AObj:=.cells (.one T) [a,.sl (.tok m) 1 (bs.map o8)]
def aL2(n:Nat):AObj:=.grow 1 n (some 5)
def aJ5(k:Nat)(a:AV):Prop:=a=.lit (.pointer none)\/a=.mp k 0
theorem ae1{k:Nat}:aJ5 k (.mp k 0):=.inr rfl
theorem cY1{k:Nat}:aJ5 k (.lit (.pointer none)):=.inl rfl
def bT(T:TypeId):Prop:=liesAt Tryz.prog Tryz.prog.depth T (2/Tryz.prog.cellsOf T) 0 141 1=true
theorem d69:bT 141:=by unfold bT;kernel_rfl
theorem cF1(c:UInt8):[AV.lit (.int .u8 (c.toNat:Int))]=[c].map o8:=rfl
theorem bV3{T k m:Nat}{a:AV}{bs:List UInt8}{H:List AObj}(hT:bT T)(hk:H[k]?=some (aB7 T m a bs))(ha:aJ5 k a):
  o9 Tryz.prog 203 [.mp k 0] H (fun x H'=>x=.tup []/\H'=H.set k (aB7 T m (.mp k 0) bs)):=by
 unfold aB7 bT at*;have hkl:=y9 hk;rcases ha with rfl|rfl
 ·refine y7 [] [] 20 Tryz.func203 rfl rfl rfl rfl (nlb rfl) (by kernel_rfl) ?_
  repeat' first|refine o6 ?_|simp -dsimp -implicitDefEqProofs (disch:=first|assumption|omega|simp only[ll];omega) only[go_sem,hk,hT]|refine o5 (df7 _ _) ?_|refine vcJ ?_ ?_<;>intro _|refine vcA ?_ ?_;focus(repeat'(first|omega|assumption|refine vcA ?_ ?_);done)|omega|refine o7 (fun _=>?_)
  exact ad7 _ (Le.refl _) (by simp) ⟨rfl,rfl⟩
 ·refine y7 [] [] 20 Tryz.func203 rfl rfl rfl rfl (nlb rfl) (by kernel_rfl) ?_
  repeat' first|refine o6 ?_|simp -dsimp -implicitDefEqProofs (disch:=first|assumption|omega|simp only[ll];omega) only[go_sem,hk,hT]|refine vcJ ?_ ?_<;>intro _|refine vcA ?_ ?_;focus(repeat'(first|omega|assumption|refine vcA ?_ ?_);done)|omega|refine o7 (fun _=>?_)
  exact ad7 _ (Le.refl _) (by simp) ⟨rfl,(dA5 hk).symm⟩
theorem bV6{T k m:Nat}{a:AV}{bs:List UInt8}{c:UInt8}{H:List AObj}(hT:bT T)(hk:H[k]?=some (aB7 T m a bs))(ha:aJ5 k a)(hm:H[m]?=some (aL2 bs.length))(hl:bs.length<=100000000):
  o9 Tryz.prog 183 [.mp k 0,.lit (.int .u8 c.toNat)] H (fun x H'=>x=.lit .nilIface/\H'=(H.set k (aB7 T m (.mp k 0) (bs++[c]))).set m (aL2 (bs++[c]).length)):=by
 have hkl:=y9 hk;have hml:=y9 hm;have hkm:k≠m:=by intro e;subst e;rw[hk] at hm;cases hm
 have hmk:=hkm.symm;refine y7 [] [.tmp 4] 17 Tryz.func183 rfl rfl rfl rfl (nlb rfl) (by kernel_rfl) ?_
 repeat' first|refine o6 ?_|simp -dsimp -implicitDefEqProofs (disch:=first|assumption|omega|simp only[ll];omega) only[go_sem,hsn,hm]|refine o5 (bV3 hT hk ha) ?_|refine vcJ ?_ ?_<;>intro _|refine vcA ?_ ?_;focus(repeat'(first|omega|assumption|refine vcA ?_ ?_);done)|omega|refine o7 (fun _=>?_)
 all_goals unfold aB7 aL2 at*
 all_goals repeat' first|refine o6 ?_|simp -dsimp -implicitDefEqProofs (disch:=first|assumption|omega|simp only[ll];omega) only[go_sem,hsn,hm,ar5 hkm,ar5 hmk,cF1,cy9 hkm]|refine vcJ ?_ ?_<;>intro _|refine vcA ?_ ?_;focus(repeat'(first|omega|assumption|refine vcA ?_ ?_);done)|omega|refine o7 (fun _=>?_)
 all_goals exact ad7 _ (Le.refl _) (by simp) ⟨rfl,by simp⟩
theorem ct5{T k m:Nat}{a:AV}{bs l:List UInt8}{H:List AObj}(hT:bT T)(hk:H[k]?=some (aB7 T m a bs))(ha:aJ5 k a)(hm:H[m]?=some (aL2 bs.length))(hl:bs.length<=100000000)(hl2:l.length<=100000000):
  o9 Tryz.prog 167 [.mp k 0,.str l] H (fun x H'=>x=.tup [.int .i64 l.length,.lit .nilIface]/\H'=(H.set k (aB7 T m (.mp k 0) (bs++l))).set m (aL2 (bs++l).length)):=by
 have hkl:=y9 hk;have hml:=y9 hm;have hkm:k≠m:=by intro e;subst e;rw[hk] at hm;cases hm
 have hmk:=hkm.symm;refine y7 [] [.tmp 4,.tmp 5] 19 Tryz.func167 rfl rfl rfl rfl (nlb rfl) (by kernel_rfl) ?_
 repeat' first|refine o6 ?_|simp -dsimp -implicitDefEqProofs (disch:=first|assumption|omega|simp only[ll];omega) only[go_sem,hsn,hm]|refine o5 (bV3 hT hk ha) ?_|refine vcJ ?_ ?_<;>intro _|refine vcA ?_ ?_;focus(repeat'(first|omega|assumption|refine vcA ?_ ?_);done)|omega|refine o7 (fun _=>?_)
 all_goals unfold aB7 aL2 at*
 all_goals repeat' first|refine o6 ?_|simp -dsimp -implicitDefEqProofs (disch:=first|assumption|omega|simp only[ll];omega) only[go_sem,hsn,hm,ar5 hkm,ar5 hmk,cF1,cy9 hkm]|refine vcJ ?_ ?_<;>intro _|refine vcA ?_ ?_;focus(repeat'(first|omega|assumption|refine vcA ?_ ?_);done)|omega|refine o7 (fun _=>?_)
 all_goals exact ad7 _ (Le.refl _) (by simp) ⟨rfl,by simp⟩
theorem df8{T k m:Nat}{a:AV}{bs:List UInt8}{H:List AObj}(hk:H[k]?=some (aB7 T m a bs)):
  o9 Tryz.prog 116 [.mp k 0] H (fun x H'=>x=.int .i64 bs.length/\H'=H):=by
 unfold aB7 at*;refine y7 [] [.tmp 2] 8 Tryz.func116 rfl rfl rfl rfl (nlb rfl) (by kernel_rfl) ?_
 repeat' first|refine o6 ?_|simp -dsimp -implicitDefEqProofs (disch:=first|assumption|omega|simp only[ll];omega) only[go_sem,hk]|refine vcJ ?_ ?_<;>intro _|refine vcA ?_ ?_;focus(repeat'(first|omega|assumption|refine vcA ?_ ?_);done)|omega|refine o7 (fun _=>?_)
 exact y5 ⟨rfl,rfl⟩
theorem cL0{T k m:Nat}{a:AV}{bs:List UInt8}{H:List AObj}(hk:H[k]?=some (aB7 T m a bs))(hm:H[m]?=some (aL2 bs.length))(hl:bs.length<=100000000):
  o9 Tryz.prog 117 [.mp k 0] H (fun x H'=>x=.str bs/\H'=H):=by
 unfold aB7 aL2 at*;refine y7 [1000001] [.tmp 2] 14 Tryz.func117 rfl rfl rfl rfl (nlb rfl) (by kernel_rfl) ?_
 repeat' first|refine o6 ?_|simp -dsimp -implicitDefEqProofs (disch:=first|assumption|omega|simp only[ll];omega) only[go_sem,hk,hm]|refine vcJ ?_ ?_<;>intro _|refine vcA ?_ ?_;focus(repeat'(first|omega|assumption|refine vcA ?_ ?_);done)|omega|refine o7 (fun _=>?_)
 exact y5 ⟨rfl,rfl⟩
end V
end
section
open Go V
theorem aX1(w l:List UInt8):w.isPrefixOf l=decide (w.length<=l.length/\l.take w.length=w):=by
 rw[cf7,List.isPrefixOf_iff_prefix,decide_eq_true_eq,List.prefix_iff_eq_take];constructor
 ·intro h
  refine⟨?_,h.symm⟩;have:=congrArg List.length h;rw[List.length_take] at this;omega
 ·rintro⟨_,h⟩
  exact h.symm
theorem cR5(l w:List UInt8)(H:List AObj)(hl:l.length<=100000000):o9 Tryz.prog 172 [.str l,.str w] H (fun x H'=>x=.bool (w.isPrefixOf l)/\H'=H):=by
 refine y7 [] [.tmp 4] 18 Tryz.func172 rfl rfl rfl rfl (nlb rfl) (by kernel_rfl) ?_
 repeat' first|refine o6 ?_|simp -dsimp -implicitDefEqProofs (disch:=first|assumption|omega|simp only[ll];omega) only[go_sem]|refine vcJ ?_ ?_<;>intro _|refine vcA ?_ ?_;focus(repeat'(first|omega|assumption|refine vcA ?_ ?_);done)|omega|refine o7 (fun _=>?_)
 ·rename_i h
  refine y5 ⟨ad5 ?_,rfl⟩;rw[aX1,decide_eq_decide];constructor
  ·intro h2;exact⟨by omega,h2⟩
  ·intro h2;exact h2.2
 ·rename_i h
  refine y5 ⟨ad5 ?_,rfl⟩;rw[aX1,decide_eq_false];omega
theorem cR6(l w:List UInt8)(H:List AObj)(hl:l.length<=100000000):o9 Tryz.prog 123 [.str l,.str w] H (fun x H'=>x=.bool (w.isPrefixOf l)/\H'=H):=by
 refine y7 [] [.tmp 4] 8 Tryz.func123 rfl rfl rfl rfl (nlb rfl) (by kernel_rfl) ?_
 repeat' first|refine o6 ?_|simp -dsimp -implicitDefEqProofs (disch:=first|assumption|omega|simp only[ll];omega) only[go_sem]|refine o5 (cR5 _ _ _ hl) ?_|refine vcJ ?_ ?_<;>intro _|refine vcA ?_ ?_;focus(repeat'(first|omega|assumption|refine vcA ?_ ?_);done)|omega|refine o7 (fun _=>?_)
 exact y5 ⟨rfl,rfl⟩
theorem bV7(l:List UInt8)(c:UInt8)(H:List AObj):o9 Tryz.prog 184 [.str l,.lit (.int .u8 c.toNat)] H (fun x H'=>x=.int .i64 (aD1 l c)/\H'=H):=by
 refine y7 [] [.tmp 4] 8 Tryz.func184 rfl rfl rfl rfl (nlb rfl) (by kernel_rfl) ?_
 repeat' first|refine o6 ?_|simp -dsimp -implicitDefEqProofs (disch:=first|assumption|omega|simp only[ll];omega) only[go_sem]|refine o5 (bT3 _ _ _) ?_|refine vcJ ?_ ?_<;>intro _|refine vcA ?_ ?_;focus(repeat'(first|omega|assumption|refine vcA ?_ ?_);done)|omega|refine o7 (fun _=>?_)
 exact y5 ⟨rfl,rfl⟩
theorem aK9(l:List UInt8)(c:UInt8)(H:List AObj):o9 Tryz.prog 140 [.str l,.lit (.int .u8 c.toNat)] H (fun x H'=>x=.int .i64 (aD1 l c)/\H'=H):=by
 refine y7 [] [.tmp 4] 8 Tryz.func140 rfl rfl rfl rfl (nlb rfl) (by kernel_rfl) ?_
 repeat' first|refine o6 ?_|simp -dsimp -implicitDefEqProofs (disch:=first|assumption|omega|simp only[ll];omega) only[go_sem]|refine o5 (bV7 _ _ _) ?_|refine vcJ ?_ ?_<;>intro _|refine vcA ?_ ?_;focus(repeat'(first|omega|assumption|refine vcA ?_ ?_);done)|omega|refine o7 (fun _=>?_)
 exact y5 ⟨rfl,rfl⟩
end
section
open Go
end
section
namespace V
open Go
theorem bq7{w x:Nat}(hx:x < 2^w):(BitVec.ofInt w (x:Int)).toNat=x:=by
 rw[cZ7,aA8,aA7 hx]
theorem ce0{w x y:Nat}(hx:x < 2^w)(hy:y < 2^w):(BitVec.ofInt w (x:Int)|||BitVec.ofInt w (y:Int)).toNat=x|||y:=by
 rw[BitVec.toNat_or,bq7 hx,bq7 hy]
theorem dv7{w x y:Nat}(hx:x < 2^w)(hy:y < 2^w):(BitVec.ofInt w (x:Int)&&&BitVec.ofInt w (y:Int)).toNat=x&&&y:=by
 rw[cu9,bq7 hx,bq7 hy]
theorem aW0{x:Nat}(hx:x < 2^64):IntKind.u64.wrap (x:Int)=x:=IntWalk.u64_in _ (by omega)
theorem cx1{x:Nat}(hx:x < 2^32):IntKind.u32.wrap (x:Int)=x:=IntWalk.u32_in _ (by omega)
theorem bb7{x:Nat}(hx:x < 2^8):IntKind.u8.wrap (x:Int)=x:=IntWalk.u8_in _ (by omega)
theorem bJ4{x y:Nat}(hx:x < 2^64)(hy:y < 2^64):IntKind.u64.wrap ((BitVec.ofInt IntKind.u64.bits (x:Int)|||BitVec.ofInt IntKind.u64.bits (y:Int)).toNat:Int)=((x|||y:Nat):Int):=by
 show IntKind.u64.wrap ((BitVec.ofInt 64 (x:Int)|||BitVec.ofInt 64 (y:Int)).toNat:Int)=_
 rw[ce0 hx hy,aW0 (bV9 hx hy)]
theorem d75{x y:Nat}(hx:x < 2^64)(hy:y < 2^64):IntKind.u64.wrap ((BitVec.ofInt IntKind.u64.bits (x:Int)&&&BitVec.ofInt IntKind.u64.bits (y:Int)).toNat:Int)=((x&&&y:Nat):Int):=by
 show IntKind.u64.wrap ((BitVec.ofInt 64 (x:Int)&&&BitVec.ofInt 64 (y:Int)).toNat:Int)=_
 rw[dv7 hx hy,aW0 (Nat.and_lt_two_pow _ hy)]
end V
end
section
open Go V
theorem cj7{m:Nat}{x:AV}(h:Low m x:=by(first|(first|exact .lit _|exact .str _|exact .any|exact ae4|exact ag3|exact .mp _ _ (by omega)|exact .msl _ _ _ _ (by omega)|exact ae6 (fun k e=>by cases e)|exact ad4 _|exact ai5|exact ai4|exact al2|exact al1 _)|(refine ag8 ?_;repeat(first|exact ab6|(refine aa2 ?_ ?_;focus(first|exact .lit _|exact .str _|exact .any|exact ae4|exact ag3|exact .mp _ _ (by omega)|exact .msl _ _ _ _ (by omega)|exact ae6 (fun k e=>by cases e)|exact ad4 _|exact ai5|exact ai4|exact al2|exact al1 _))))|(refine ay0 ?_;repeat(first|exact ab6|(refine aa2 ?_ ?_;focus(first|exact .lit _|exact .str _|exact .any|exact ae4|exact ag3|exact .mp _ _ (by omega)|exact .msl _ _ _ _ (by omega)|exact ae6 (fun k e=>by cases e)|exact ad4 _|exact ai5|exact ai4|exact al2|exact al1 _)))))):Low m x:=h
theorem a94{xs ys:List UInt8}{b:UInt8}{k:Nat}{c:Int}(hy:xs++[b]=ys)(hc:c=2^k)(hx:8*xs.length=k)(hk:k<=56):IntKind.u64.wrap ((BitVec.ofInt IntKind.u64.bits ((Lib.leNat xs:Nat):Int)|||BitVec.ofInt IntKind.u64.bits (IntKind.u64.wrap ((b.toNat:Int)*c))).toNat:Int)=((Lib.leNat ys:Nat):Int):=by
 subst hy;subst hc;have hb:=b.toNat_lt;have hlt:Lib.leNat xs < 2^k:=by
  have:=Lib.leNat_lt xs;rwa [show (256:Nat)=2^8 from rfl,<-Nat.pow_mul,hx] at this
 have hp:(2:Nat)^k<=2^56:=cf9 (by omega) hk
 have h1:b.toNat*2^k < 2^64:=by
  have:b.toNat*2^k<=255*2^56:=Nat.mul_le_mul (by omega) hp
  omega
 have h2:(b.toNat:Int)*2^k=((b.toNat*2^k:Nat):Int):=by simp
 rw[h2,aW0 h1,bJ4 (by omega) h1,Lib.leNat_append,show (256:Nat)=2^8 from rfl,<-Nat.pow_mul,hx]
 congr 1
 have:=b39 hlt b.toNat;rw[Nat.or_comm,bW0,<-this];simp[Lib.leNat]
 omega
theorem dp7(b:UInt8):(b.toNat:Int)=((Lib.leNat [b]:Nat):Int):=by simp[Lib.leNat]
theorem ea3{l:List UInt8}(h:8<=l.length):l.take 8=[l.getD 0 0,l.getD 1 0,l.getD 2 0,l.getD 3 0,l.getD 4 0,l.getD 5 0,l.getD 6 0,l.getD 7 0]:=by
 match l,h with
 |a0::a1::a2::a3::a4::a5::a6::a7::r,_=>simp
theorem bu4{o:Own}(l:List UInt8)(H:List AObj)(hl:8<=l.length):o9 Tryz.prog 128 [.sl o 1 (l.map o8)] H (fun x H'=>x=.int .u64 (Lib.leNat (l.take 8))/\H'=H):=by
 refine y7 [1000001,1000002] [.tmp 2] 71 Tryz.func128 rfl rfl rfl rfl (nlb rfl) (by kernel_rfl) ?_
 repeat' first|refine o6 ?_|simp -dsimp -implicitDefEqProofs (disch:=first|assumption|omega|simp only[ll];omega) only[go_sem]|refine vcJ ?_ ?_<;>intro _|refine vcA ?_ ?_;focus(repeat'(first|omega|assumption|refine vcA ?_ ?_);done)|omega|refine o7 (fun _=>?_)
 refine y5 ⟨?_,rfl⟩;rw[dp7 (l.getD 0 0),a94 (xs:=[l.getD 0 0]) (ys:=[l.getD 0 0,l.getD 1 0]) (b:=l.getD 1 0) (k:=8) (c:=256) rfl (by decide) rfl (by decide),a94 (xs:=[l.getD 0 0,l.getD 1 0]) (ys:=[l.getD 0 0,l.getD 1 0,l.getD 2 0]) (b:=l.getD 2 0) (k:=16) (c:=65536) rfl (by decide) rfl (by decide),a94 (xs:=[l.getD 0 0,l.getD 1 0,l.getD 2 0]) (ys:=[l.getD 0 0,l.getD 1 0,l.getD 2 0,l.getD 3 0]) (b:=l.getD 3 0) (k:=24) (c:=16777216) rfl (by decide) rfl (by decide),a94 (xs:=[l.getD 0 0,l.getD 1 0,l.getD 2 0,l.getD 3 0]) (ys:=[l.getD 0 0,l.getD 1 0,l.getD 2 0,l.getD 3 0,l.getD 4 0]) (b:=l.getD 4 0) (k:=32) (c:=4294967296) rfl (by decide) rfl (by decide),a94 (xs:=[l.getD 0 0,l.getD 1 0,l.getD 2 0,l.getD 3 0,l.getD 4 0]) (ys:=[l.getD 0 0,l.getD 1 0,l.getD 2 0,l.getD 3 0,l.getD 4 0,l.getD 5 0]) (b:=l.getD 5 0) (k:=40) (c:=1099511627776) rfl (by decide) rfl (by decide),a94 (xs:=[l.getD 0 0,l.getD 1 0,l.getD 2 0,l.getD 3 0,l.getD 4 0,l.getD 5 0]) (ys:=[l.getD 0 0,l.getD 1 0,l.getD 2 0,l.getD 3 0,l.getD 4 0,l.getD 5 0,l.getD 6 0]) (b:=l.getD 6 0) (k:=48) (c:=281474976710656) rfl (by decide) rfl (by decide),a94 (xs:=[l.getD 0 0,l.getD 1 0,l.getD 2 0,l.getD 3 0,l.getD 4 0,l.getD 5 0,l.getD 6 0]) (ys:=[l.getD 0 0,l.getD 1 0,l.getD 2 0,l.getD 3 0,l.getD 4 0,l.getD 5 0,l.getD 6 0,l.getD 7 0]) (b:=l.getD 7 0) (k:=56) (c:=72057594037927936) rfl (by decide) rfl (by decide),ea3 hl]
theorem and7{x:Nat}(h:x < 256):IntKind.u8.wrap ((BitVec.ofInt IntKind.u8.bits (x:Int)&&&BitVec.ofInt IntKind.u8.bits 7).toNat:Int)=((x%8:Nat):Int):=by
 show IntKind.u8.wrap ((BitVec.ofInt 8 (x:Int)&&&BitVec.ofInt 8 ((7:Nat):Int)).toNat:Int)=_
 rw[dv7 (by omega) (by decide),show (7:Nat)=2^3 - 1 from rfl,cu8,bb7 (by omega)]
theorem bf5(n:Nat):Lib.firstT n < 256:=by unfold Lib.firstT;(repeat' split)<;>omega
theorem df1(n:Nat):IntKind.u8.wrap ((BitVec.ofInt IntKind.u8.bits ((Lib.firstT n:Nat):Int)&&&BitVec.ofInt IntKind.u8.bits 7).toNat:Int)=((Lib.firstT n%8:Nat):Int):=and7 (bf5 n)
theorem dt8(n:Nat):(Lib.firstT n/16 < 16)=True:=eq_true (by have:=bf5 n;omega)
theorem dd3(n:Nat):(((Lib.firstT n/16:Nat):Int) < 16)=True:=eq_true (by have:=bf5 n;omega)
theorem cK7(n:Nat):(aO3.drop (Lib.firstT n/16*2)).take 2=[.lit (.int .u8 (Lib.accLo (Lib.firstT n/16))),.lit (.int .u8 (Lib.accHi (Lib.firstT n/16)))]:=dx3 (by have:=bf5 n;omega)
theorem al8{m:List UInt8}(h0:0 < (m.length:Int))(h1:128<=((m.getD 0 0).toNat:Int))(h:(Lib.firstT (m.getD 0 0).toNat%8=2/\(m.length < 2\/(m.getD 1 0).toNat < Lib.accLo (Lib.firstT (m.getD 0 0).toNat/16)\/Lib.accHi (Lib.firstT (m.getD 0 0).toNat/16) < (m.getD 1 0).toNat))\/
  (Lib.firstT (m.getD 0 0).toNat%8=3/\(m.length < 3\/(m.getD 1 0).toNat < Lib.accLo (Lib.firstT (m.getD 0 0).toNat/16)\/Lib.accHi (Lib.firstT (m.getD 0 0).toNat/16) < (m.getD 1 0).toNat\/(m.getD 2 0).toNat < 128\/191 < (m.getD 2 0).toNat))\/
  (Lib.firstT (m.getD 0 0).toNat%8=4/\(m.length < 4\/(m.getD 1 0).toNat < Lib.accLo (Lib.firstT (m.getD 0 0).toNat/16)\/Lib.accHi (Lib.firstT (m.getD 0 0).toNat/16) < (m.getD 1 0).toNat\/(m.getD 2 0).toNat < 128\/191 < (m.getD 2 0).toNat\/(m.getD 3 0).toNat < 128\/191 < (m.getD 3 0).toNat))\/
  (Lib.firstT (m.getD 0 0).toNat%8≠2/\Lib.firstT (m.getD 0 0).toNat%8≠3/\Lib.firstT (m.getD 0 0).toNat%8≠4)):Lib.validD m=false:=by
 rw[Lib.validD_lead m (aS7.1 (by omega)) (by omega),Lib.checkN]
 rcases h with⟨h,h'⟩|⟨h,h'⟩|⟨h,h'⟩|⟨h,h',h''⟩
 ·rw[if_pos h,if_pos h']
 ·rw[if_neg (by omega),if_pos h,if_pos h']
 ·rw[if_neg (by omega),if_neg (by omega),if_pos h,if_pos h']
 ·rw[if_neg h,if_neg h',if_neg h'']
theorem bK8{m:List UInt8}{k:Nat}(hk:k=Lib.firstT (m.getD 0 0).toNat%8)(h0:k<=m.length)(h1:128<=((m.getD 0 0).toNat:Int))(h2:Lib.accLo (Lib.firstT (m.getD 0 0).toNat/16)<=(m.getD 1 0).toNat)(h3:(m.getD 1 0).toNat<=Lib.accHi (Lib.firstT (m.getD 0 0).toNat/16))
  (h:k=2\/(k=3/\128<=(m.getD 2 0).toNat/\(m.getD 2 0).toNat<=191)\/(k=4/\128<=(m.getD 2 0).toNat/\(m.getD 2 0).toNat<=191/\128<=(m.getD 3 0).toNat/\(m.getD 3 0).toNat<=191)):Lib.validD (m.drop k)=Lib.validD m:=by
 rw[Lib.validD_lead m (aS7.1 (by omega)) (by omega),Lib.checkN]
 rcases h with h|⟨h,h'⟩|⟨h,h'⟩
 ·rw[if_pos (by omega),if_neg (by omega),h]
 ·rw[if_neg (by omega),if_pos (by omega),if_neg (by omega),h]
 ·rw[if_neg (by omega),if_neg (by omega),if_pos (by omega),if_neg (by omega),h]
theorem skip{m:List UInt8}{n k:Nat}(h: ∀b∈(m.drop n).take k,b.toNat < 128){x:Bool}(hx:Lib.validD (m.drop n)=x):Lib.validD (m.drop (n+k))=x:=by
 rw[<-hx,Lib.validD_ascii k _ h,List.drop_drop]
theorem b65{m:List UInt8}(h0:0 < (m.length:Int))(h:((m.getD 0 0).toNat:Int) < 128){x:Bool}(hx:Lib.validD m=x):Lib.validD (m.drop 1)=x:=by
 refine skip (n:=0) (k:=1) ?_ hx;match m,h0,h with
 |a::r,_,h=>
  intro b hb;simp at hb
  subst hb;simp at h
  omega
theorem lt8(w:List UInt8):Lib.leNat (w.take 8) < 2^64:=by
 have h1:=Lib.leNat_lt (w.take 8);have h2:(w.take 8).length<=8:=List.length_take_le ..;exact aC9 h1 (show 256^(w.take 8).length<=256^8 from cf9 (by omega) h2)
theorem bK1{x:Nat}(hx:x < 2^64)(h:IntKind.u64.wrap ((BitVec.ofInt IntKind.u64.bits (x:Int)&&&BitVec.ofInt IntKind.u64.bits 9259542123273814144).toNat:Int)=0):x&&&Lib.maskN 8=0:=by
 have e:(9259542123273814144:Int)=((9259542123273814144:Nat):Int):=rfl;rw[e,d75 hx (by decide)] at h
 rw[Lib.maskN8];omega
theorem bp3{w:List UInt8}(hw:8<=w.length)(h:Lib.leNat (w.take 8)&&&Lib.maskN 8=0): ∀b∈w.take 8,b.toNat < 128:=by
 refine(Lib.leNat_mask (w.take 8)).1 ?_;rwa [show (w.take 8).length=8 by rw[List.length_take];omega]
theorem dP2{w:List UInt8}(hw:8<=w.length)(h:IntKind.u64.wrap ((BitVec.ofInt IntKind.u64.bits ((Lib.leNat (w.take 8):Nat):Int)&&&BitVec.ofInt IntKind.u64.bits 9259542123273814144).toNat:Int)=0): ∀b∈w.take 8,b.toNat < 128:=
 bp3 hw (bK1 (lt8 w) h)
theorem ew8{w v:List UInt8}(hw:8<=w.length)(hv:8<=v.length)(h:IntKind.u64.wrap ((BitVec.ofInt IntKind.u64.bits (IntKind.u64.wrap ((BitVec.ofInt IntKind.u64.bits ((Lib.leNat (w.take 8):Nat):Int)|||BitVec.ofInt IntKind.u64.bits ((Lib.leNat (v.take 8):Nat):Int)).toNat:Int))&&&BitVec.ofInt IntKind.u64.bits 9259542123273814144).toNat:Int)=0):
  (∀b∈w.take 8,b.toNat < 128)/\(∀b∈v.take 8,b.toNat < 128):=by
 rw[bJ4 (lt8 w) (lt8 v)] at h;have:=bK1 (bV9 (lt8 w) (lt8 v)) h;rw[Lib.or_mask] at this;exact⟨bp3 hw this.1,bp3 hv this.2⟩
theorem ew7{w v u t:List UInt8}(hw:8<=w.length)(hv:8<=v.length)(hu:8<=u.length)(ht:8<=t.length)(h:IntKind.u64.wrap ((BitVec.ofInt IntKind.u64.bits (IntKind.u64.wrap ((BitVec.ofInt IntKind.u64.bits (IntKind.u64.wrap ((BitVec.ofInt IntKind.u64.bits ((Lib.leNat (w.take 8):Nat):Int)|||BitVec.ofInt IntKind.u64.bits ((Lib.leNat (v.take 8):Nat):Int)).toNat:Int))|||BitVec.ofInt IntKind.u64.bits (IntKind.u64.wrap ((BitVec.ofInt IntKind.u64.bits ((Lib.leNat (u.take 8):Nat):Int)|||BitVec.ofInt IntKind.u64.bits ((Lib.leNat (t.take 8):Nat):Int)).toNat:Int))).toNat:Int))&&&BitVec.ofInt IntKind.u64.bits 9259542123273814144).toNat:Int)=0):
  (∀b∈w.take 8,b.toNat < 128)/\(∀b∈v.take 8,b.toNat < 128)/\(∀b∈u.take 8,b.toNat < 128)/\(∀b∈t.take 8,b.toNat < 128):=by
 have l1:=bV9 (lt8 w) (lt8 v);have l2:=bV9 (lt8 u) (lt8 t);rw[bJ4 (lt8 w) (lt8 v),bJ4 (lt8 u) (lt8 t),bJ4 l1 l2] at h;have:=bK1 (bV9 l1 l2) h;rw[Lib.or_mask,Lib.or_mask,Lib.or_mask] at this;exact⟨bp3 hw this.1.1,bp3 hv this.1.2,bp3 hu this.2.1,bp3 ht this.2.2⟩
theorem d79{o:Own}(l:List UInt8)(H:List AObj)(hl:l.length<=100000):o9 Tryz.prog 71 [.sl o 1 (l.map o8)] H (fun x H'=>x=.bool (Lib.validD l)/\H'=H):=by
 refine y7 [1000008,1000010,1000018,1000022,1000026] [.tmp 2] 188 Tryz.func71 rfl rfl rfl rfl (nlb rfl) (by kernel_rfl) ?_
 repeat' first|refine o6 ?_|simp -dsimp -implicitDefEqProofs (disch:=first|assumption|omega|simp only[ll];omega) only[go_sem]|refine vcJ ?_ ?_<;>intro _|refine vcA ?_ ?_;focus(repeat'(first|omega|assumption|refine vcA ?_ ?_);done)|omega|refine o7 (fun _=>?_)
 refine bO5 aa7 mixed [] (fun m:List UInt8=>m.length<=l.length/\Lib.validD m=Lib.validD l) (fun m=>[(0,.sl .sh 1 (m.map o8))]) (fun _=>H) (fun m=>m.length) (by kernel_rfl) ?_ l ⟨xq0 _,rfl⟩ y8 rfl
 intro m ⟨hm,hv⟩;have hF:=bf5 (m.getD 0 0).toNat;repeat' first|refine o6 ?_|simp -dsimp -implicitDefEqProofs (disch:=first|assumption|omega|simp only[ll];omega) only[go_sem,df1,dt8,dd3,cK7]|refine o5 (bu4 _ _ ?_) ?_|refine⟨_,bu4 _ _ ?_,?_⟩|refine⟨_,_,bu4 _ _ ?_,?_⟩|refine vcJ ?_ ?_<;>intro _|refine vcA ?_ ?_;focus(repeat'(first|omega|assumption|refine vcA ?_ ?_);done)|omega|refine o7 (fun _=>?_)
 ·rename_i h1 h2 h3 h4 h5 h6
  have v1:=b65 h1 h2 hv;have v9:=skip (dP2 (by rw[List.length_drop];omega) h4) v1
  have a2:=ew8 (w:=m.drop 9) (v:=m.drop 17) (by rw[List.length_drop];omega) (by rw[List.length_drop];omega) h6
  have v17:=skip a2.1 v9;have v25:=skip a2.2 v17;refine bO5 aa7 mixed [] (fun q:List UInt8=>q.length < m.length/\Lib.validD q=Lib.validD l) (fun q=>[(0,.sl .sh 1 (q.map o8))]) (fun _=>H) (fun q=>q.length) (by kernel_rfl) ?_ (m.drop 25) ⟨by rw[List.length_drop];omega,v25⟩ y8 rfl
  intro q ⟨hq,hvq⟩;repeat' first|refine o6 ?_|simp -dsimp -implicitDefEqProofs (disch:=first|assumption|omega|simp only[ll];omega) only[go_sem]|refine o5 (bu4 _ _ ?_) ?_|refine⟨_,bu4 _ _ ?_,?_⟩|refine⟨_,_,bu4 _ _ ?_,?_⟩|refine vcJ ?_ ?_<;>intro _|refine vcA ?_ ?_;focus(repeat'(first|omega|assumption|refine vcA ?_ ?_);done)|omega|refine o7 (fun _=>?_)
  ·rename_i k1 k2
   have a4:=ew7 (w:=q) (v:=q.drop 8) (u:=q.drop 16) (t:=q.drop 24) (by omega) (by rw[List.length_drop];omega) (by rw[List.length_drop];omega) (by rw[List.length_drop];omega) k2
   refine again (q.drop 32) ?_ ?_ rfl y8
   ·simp only[List.length_drop];omega
   ·exact⟨by simp only[List.length_drop];omega,skip (n:=24) a4.2.2.2 (skip (n:=16) a4.2.2.1 (skip (n:=8) a4.2.1 (skip (n:=0) a4.1 hvq)))⟩
  ·refine again (q) ?_ ?_ rfl y8
   ·omega
   ·exact⟨by omega,hvq⟩
  ·refine again (q) ?_ ?_ rfl y8
   ·omega
   ·exact⟨by omega,hvq⟩
 ·rename_i h1 h2 h3 h4 h5 h6
  have v1:=b65 h1 h2 hv;refine again (m.drop 9) ?_ ?_ rfl y8
  ·simp only[List.length_drop];omega
  ·exact⟨by simp only[List.length_drop];omega,skip (dP2 (by rw[List.length_drop];omega) h4) v1⟩
 ·rename_i h1 h2 h3 h4 h5
  have v1:=b65 h1 h2 hv;refine again (m.drop 9) ?_ ?_ rfl y8
  ·simp only[List.length_drop];omega
  ·exact⟨by simp only[List.length_drop];omega,skip (dP2 (by rw[List.length_drop];omega) h4) v1⟩
 ·rename_i h1 h2 h3 h4
  refine again (m.drop 1) ?_ ?_ rfl y8
  ·simp only[List.length_drop];omega
  ·exact⟨by simp only[List.length_drop];omega,b65 h1 h2 hv⟩
 ·rename_i h1 h2 h3
  refine again (m.drop 1) ?_ ?_ rfl y8
  ·simp only[List.length_drop];omega
  ·exact⟨by simp only[List.length_drop];omega,b65 h1 h2 hv⟩
 ·exact ao0 (.lit _) ⟨ad5 (by rw[<-hv,al8 (by omega) (by omega) (by omega)]),rfl⟩
 ·exact ao0 (.lit _) ⟨ad5 (by rw[<-hv,al8 (by omega) (by omega) (by omega)]),rfl⟩
 ·exact ao0 (.lit _) ⟨ad5 (by rw[<-hv,al8 (by omega) (by omega) (by omega)]),rfl⟩
 ·refine aV4 (m.drop 2) ?_ ?_ (by repeat(first|exact af9|(refine af1 ?_ ?_;focus exact cj7))) y8
  ·simp only[List.length_drop];omega
  ·exact⟨by simp only[List.length_drop];omega,(bK8 (by omega) (by omega) (by omega) (by omega) (by omega) (by omega)).trans hv⟩
 ·exact ao0 (.lit _) ⟨ad5 (by rw[<-hv,al8 (by omega) (by omega) (by omega)]),rfl⟩
 ·exact ao0 (.lit _) ⟨ad5 (by rw[<-hv,al8 (by omega) (by omega) (by omega)]),rfl⟩
 ·exact ao0 (.lit _) ⟨ad5 (by rw[<-hv,al8 (by omega) (by omega) (by omega)]),rfl⟩
 ·exact ao0 (.lit _) ⟨ad5 (by rw[<-hv,al8 (by omega) (by omega) (by omega)]),rfl⟩
 ·exact ao0 (.lit _) ⟨ad5 (by rw[<-hv,al8 (by omega) (by omega) (by omega)]),rfl⟩
 ·refine aV4 (m.drop 3) ?_ ?_ (by repeat(first|exact af9|(refine af1 ?_ ?_;focus exact cj7))) y8
  ·simp only[List.length_drop];omega
  ·exact⟨by simp only[List.length_drop];omega,(bK8 (by omega) (by omega) (by omega) (by omega) (by omega) (by omega)).trans hv⟩
 ·exact ao0 (.lit _) ⟨ad5 (by rw[<-hv,al8 (by omega) (by omega) (by omega)]),rfl⟩
 ·exact ao0 (.lit _) ⟨ad5 (by rw[<-hv,al8 (by omega) (by omega) (by omega)]),rfl⟩
 ·exact ao0 (.lit _) ⟨ad5 (by rw[<-hv,al8 (by omega) (by omega) (by omega)]),rfl⟩
 ·exact ao0 (.lit _) ⟨ad5 (by rw[<-hv,al8 (by omega) (by omega) (by omega)]),rfl⟩
 ·exact ao0 (.lit _) ⟨ad5 (by rw[<-hv,al8 (by omega) (by omega) (by omega)]),rfl⟩
 ·exact ao0 (.lit _) ⟨ad5 (by rw[<-hv,al8 (by omega) (by omega) (by omega)]),rfl⟩
 ·exact ao0 (.lit _) ⟨ad5 (by rw[<-hv,al8 (by omega) (by omega) (by omega)]),rfl⟩
 ·refine aV4 (m.drop 4) ?_ ?_ (by repeat(first|exact af9|(refine af1 ?_ ?_;focus exact cj7))) y8
  ·simp only[List.length_drop];omega
  ·exact⟨by simp only[List.length_drop];omega,(bK8 (by omega) (by omega) (by omega) (by omega) (by omega) (by omega)).trans hv⟩
 ·exact ao0 (.lit _) ⟨ad5 (by rw[<-hv,al8 (by omega) (by omega) (by omega)]),rfl⟩
 ·have:m=[]:=aZ5 (by omega)
  subst this;exact y5 ⟨ad5 hv,rfl⟩
end
section
open Go V
inductive JV where
 |mk (kind num:Int) (text:List UInt8) (names:List (List UInt8)) (items:List JV)
instance:Inhabited JV:=⟨.mk 0 0 [] [] []⟩
def JV.kind:JV->Int|.mk k _ _ _ _=>k
def JV.num:JV->Int|.mk _ n _ _ _=>n
def JV.text:JV->List UInt8|.mk _ _ t _ _=>t
def JV.names:JV->List (List UInt8)|.mk _ _ _ ns _=>ns
def JV.items:JV->List JV|.mk _ _ _ _ is=>is
def aa4:JV:=.mk 0 0 [] [] []
mutual
def jAV:JV->AV
 |.mk k n t ns is=>.agg [.lit (.int .i64 k),.lit (.int .i64 n),.str t,.sl .sh 1 (ns.map .str),.sl .sh 5 (cF5 is)]
def cF5:List JV->List AV
 |[]=>[]
 |v::r=>jAV v::cF5 r
end
theorem cV1: ∀l,cF5 l=l.map jAV
 |[]=>by unfold cF5;rfl
 |v::r=>by unfold cF5;rw[cV1 r];rfl
theorem cF6(k n:Int)(t:List UInt8)(ns:List (List UInt8))(is:List JV):jAV (.mk k n t ns is)=.agg [.lit (.int .i64 k),.lit (.int .i64 n),.str t,.sl .sh 1 (ns.map .str),.sl .sh 5 (is.map jAV)]:=by
 rw[<-cV1];unfold jAV;rfl
theorem aN7(v:JV):jAV v=.agg [.lit (.int .i64 v.kind),.lit (.int .i64 v.num),.str v.text,.sl .sh 1 (v.names.map .str),.sl .sh 5 (v.items.map jAV)]:=by
 cases v;exact cF6 ..
theorem JV.induct{p:JV->Prop}(h: ∀k n t ns is,(∀x∈is,p x)->p (.mk k n t ns is)): ∀v,p v:=by
 intro v;refine JV.rec (motive_1:=p) (motive_2:=fun l=> ∀x∈l,p x) (fun k n t ns is ih=>h k n t ns is ih) (fun x hx=>by cases hx) (fun v r hv hr x hx=>?_) v
 rcases ai9.1 hx with rfl|hx
 ·exact hv
 ·exact hr x hx
abbrev bytes:=List UInt8
def al7(a b:bytes):Bool:=Op.bytesLess a b
def srt:List bytes->Bool
 |a::b::r=>al7 a b&&srt (b::r)
 |_=>true
def pos(ns:List bytes)(s:bytes):Nat:=(ns.takeWhile (al7 · s)).length
def az8(v:JV)(s:bytes)(x:JV):JV:=
 if v.names[pos v.names s]?=some s then .mk v.kind v.num v.text v.names (v.items.set (pos v.names s) x)
 else .mk v.kind v.num v.text (v.names.insertIdx (pos v.names s) s) (v.items.insertIdx (pos v.names s) x)
def ad3(v:JV)(s:bytes):Option JV:=
 if v.kind=6 then(match v.names.findIdx? (fun n=>n==s) with|some i=>v.items[i]?|none=>none) else none
def aY9(v:JV):Bool:=decide (v.num=0)&&decide (v.text=[])
def bi8(v:JV):Bool:=decide (v.names=[])&&decide (v.items=[])
def aE6(v:JV):Bool:=decide (v.names.length=v.items.length)&&v.names.all Lib.validD&&srt v.names
def a88(v:JV):Bool:=
 if v.kind=0\/v.kind=1\/v.kind=2 then aY9 v&&bi8 v
 else if v.kind=3 then bi8 v&&decide (v.text=[])&&decide (-9007199254740991<=v.num/\v.num<=9007199254740991)
 else if v.kind=4 then bi8 v&&decide (v.num=0)&&Lib.validD v.text
 else false
def aL5(v:JV):Bool:=
 if v.kind=5 then aY9 v&&decide (v.names=[])
 else if v.kind=6 then aY9 v&&aE6 v
 else false
def aa9:Nat->JV->Bool
 |0,v=>a88 v
 |n+1,v=>a88 v||(aL5 v&&v.items.all (aa9 n))
def ak3:Nat->JV->Nat
 |0,_=>0
 |n+1,v=>if v.kind=5\/v.kind=6 then(v.items.map (ak3 n)).foldl max 0+1 else 0
def bx8(c:UInt8):Bool:=c==32||c==9||c==10||c==13
def isDigit(c:UInt8):Bool:=decide (48<=c.toNat/\c.toNat<=57)
def blanks(r:bytes):bytes:=r.dropWhile bx8
def peek(r:bytes):UInt8:=r.headD 0
def joined(h l:Int):Int×Bool:=if h < 55296\/56319 < h\/l < 56320\/57343 < l then(0,false) else(65536+(h - 55296)*1024+(l - 56320),true)
def ad8:JV:=.mk 6 0 [] [] []
def cv5:bytes:=[110,117,108,108]
def cv4:bytes:=[116,114,117,101]
def b49:bytes:=[102,97,108,115,101]
end
section
open Go V
theorem bY9(a b:bytes):al7 a b=decide (a < b):=Proofs.bytesLess_eq a b
theorem bK7(a:bytes):al7 a a=false:=by
 rw[bY9,decide_eq_false_iff_not];exact List.lt_irrefl a
theorem bt9{a b c:bytes}(h:al7 a b=true)(k:al7 b c=true):al7 a c=true:=by
 rw[bY9,decide_eq_true_eq] at*;exact List.lt_trans h k
theorem dp5{a b:bytes}(h:al7 a b=false)(k:al7 b a=false):a=b:=by
 rw[bY9,decide_eq_false_iff_not] at*;exact List.le_antisymm k h
theorem dH8{a b:bytes}(h:al7 a b=true):a≠b:=by
 intro e;subst e;rw[bK7] at h;cases h
theorem bW8{a:bytes}{l:List bytes}(h:srt (a::l)=true):srt l=true:=by
 cases l with
 |nil=>rfl
 |cons b r=>simp only[srt,xq3] at h;exact h.2
theorem bm9: ∀{l:List bytes} {a:bytes},srt (a::l)=true-> ∀b∈l,al7 a b=true
 |[],a,_,b,hb=>by cases hb
 |c::r,a,h,b,hb=>by
  simp only[srt,xq3] at h;rcases ai9.1 hb with rfl|hb
  ·exact h.1
  ·exact bt9 h.1 (bm9 h.2 b hb)
theorem bW9{a:bytes}{l:List bytes}(h: ∀b∈l,al7 a b=true)(k:srt l=true):srt (a::l)=true:=by
 cases l with
 |nil=>rfl
 |cons b r=>simp only[srt,xq3];exact⟨h b (ax1 ..),k⟩
theorem cy6{l:List bytes}(h:srt l=true):l.Pairwise (fun a b=>al7 a b=true):=by
 induction l with
 |nil=>exact .nil
 |cons a l ih=>exact .cons (bm9 h) (ih (bW8 h))
theorem cN3{l:List bytes}(h:l.Pairwise (fun a b=>al7 a b=true)):srt l=true:=by
 induction l with
 |nil=>rfl
 |cons a l ih=>
  rw[List.pairwise_cons] at h;exact bW9 h.1 (ih h.2)
theorem di9{l:List bytes}(h:srt l=true){i j:Nat}{a b:bytes}(hij:i < j)(hi:l[i]?=some a)(hj:l[j]?=some b):al7 a b=true:=by
 have hjl:=y9 hj;have hil:=y9 hi;have:=List.pairwise_iff_getElem.1 (cy6 h) i j hil hjl hij;rw[xq1 hil] at hi;rw[xq1 hjl] at hj;cases hi
 cases hj
 exact this
theorem dl4(l:List bytes)(s:bytes):pos l s<=l.length:=(List.takeWhile_sublist _).length_le
theorem bX8(a:bytes)(l:List bytes)(s:bytes):pos (a::l) s=if al7 a s=true then pos l s+1 else 0:=by
 unfold pos;rw[List.takeWhile_cons];split<;>rfl
theorem co1: ∀{l:List bytes} {s:bytes} {i:Nat} {a:bytes},i < pos l s->l[i]?=some a->al7 a s=true
 |[],s,i,a,h,e=>by simp at e
 |b::l,s,i,a,h,e=>by
  rw[bX8] at h;split at h
  ·rename_i hb
   cases i with
   |zero=>simp at e;subst e;exact hb
   |succ i=>exact co1 (l:=l) (i:=i) (by omega) (by simpa using e)
  ·omega
theorem dl5: ∀{l:List bytes} {s a:bytes},l[pos l s]?=some a->al7 a s=false
 |[],s,a,e=>by simp at e
 |b::l,s,a,e=>by
  rw[bX8] at e;split at e
  ·exact dl5 (l:=l) (by simpa using e)
  ·rename_i hb
   simp at e;subst e;simpa using hb
theorem c89{l:List bytes}{s:bytes}{i:Nat}(hi:i<=l.length)(h1: ∀j a,j < i->l[j]?=some a->al7 a s=true)(h2: ∀a,l[i]?=some a->al7 a s=false):pos l s=i:=by
 rcases Nat.lt_trichotomy (pos l s) i with h|h|h
 ·have hil:pos l s < l.length:=by omega
  obtain⟨a,ha⟩: ∃a,l[pos l s]?=some a:=⟨_,xq1 hil⟩;have:=h1 _ a h ha;rw[dl5 ha] at this;cases this
 ·exact h
 ·have hp:=dl4 l s
  have hil:i < l.length:=by omega
  obtain⟨a,ha⟩: ∃a,l[i]?=some a:=⟨_,xq1 hil⟩;have h3:=co1 h ha;rw[h2 a ha] at h3;cases h3
end
section
open Go V
end
section
open Go V
end
section
open Go V
def aw8(l:List UInt8):List AV:=(List.range 256).map fun i=>.lit (.bool (l.any fun c=>c.toNat==i))
theorem aU3(l:List UInt8):(aw8 l).length=256:=by simp[aw8]
theorem cn1:List.replicate 256 (AV.lit (.bool false))=aw8 []:=by
 unfold aw8;simp only[List.any_nil];rw[List.map_const',List.length_range]
theorem dj8(l:List UInt8)(c:UInt8):(aw8 l).getD c.toNat .any=.lit (.bool (l.any fun d=>d.toNat==c.toNat)):=by
 have:=c.toNat_lt;unfold aw8;rw[List.getD,ak6,aM3 (by omega)]
 rfl
theorem dw7(l:List UInt8)(c:UInt8):(l.any fun d=>d.toNat==c.toNat)=l.contains c:=by
 rw[cf7,cf6];simp only[beq_iff_eq,b38];constructor
 ·rintro⟨d,hd,e⟩
  rwa [<-cf5.1 e]
 ·intro h
  exact⟨c,h,rfl⟩
theorem dj7(l:List UInt8)(c:UInt8):(aw8 l).set c.toNat (.lit (.bool true))=aw8 (l++[c]):=by
 refine aV9 fun i=>?_
 rw[aZ4];unfold aw8;simp only[ak6,List.length_map,List.length_range];have:=c.toNat_lt;by_cases hi:i < 256
 ·rw[aM3 hi]
  by_cases h:c.toNat=i
  ·subst h
   simp
   omega
  ·simp[h]
 ·rw[av9 (by simpa using hi)]
  simp
  omega
theorem bg0{cs xs:List AV}(h:cs.length=xs.length):af0 cs 0 xs=xs:=by
 refine aV9 fun k=>?_
 rw[bp2];by_cases hk:k < xs.length
 ·rw[if_pos ⟨by omega,by omega,by omega⟩,aV8]
 ·rw[if_neg (by omega),av9 (by omega),av9 (by omega)]
theorem cz1(l:List UInt8):(aw8 l).all AV.scalar=true:=by
 rw[xq6];intro x hx;obtain⟨i,_,rfl⟩:=xq9.1 hx;rfl
theorem b68(l:List UInt8):(aw8 l).take 256=aw8 l:=ak5 (by rw[aU3];omega)
theorem b69(l m:List UInt8):af0 (aw8 l) 0 (aw8 m)=aw8 m:=bg0 (by rw[aU3,aU3])
theorem do9{m:Nat}{l:List UInt8}:Low m (.agg (aw8 l)):=.agg _ fun x hx=>by
 obtain⟨i,_,rfl⟩:=xq9.1 hx;exact .lit _
theorem do7(l:List UInt8)(H:List AObj)(hl:l.length<=1000)(ha: ∀i,i < l.length->(l.getD i 0).toNat < 128):o9 Tryz.prog 207 [.str l] H (fun x H'=>x=.tup [.agg (aw8 l),.bool true]/\H'=H):=by
 refine y7 [] [.cell 2 239,.tmp 3] 21 Tryz.func207 rfl rfl rfl rfl (nlb rfl) (by kernel_rfl) ?_
 repeat' first|refine o6 ?_|simp -dsimp -implicitDefEqProofs (disch:=first|assumption|omega|simp only[ll];omega) only[go_sem]|refine vcJ ?_ ?_<;>intro _|refine vcA ?_ ?_;focus(repeat'(first|omega|assumption|refine vcA ?_ ?_);done)|omega|refine o7 (fun _=>?_)
 refine aa5 aa7 mixed [] [0,2] (fun i:Nat=>i<=l.length) (fun i=>[(4,.int .i64 i)]) (fun i=>H++[.cells (.one 239) (aw8 (l.take i))]) (fun i=>l.length - i) (by kernel_rfl) ?_ 0 (by omega) y8 (by rw[ag5,<-cn1])
 intro i hi;have hai:=ha i;repeat' first|refine o6 ?_|simp -dsimp -implicitDefEqProofs (disch:=first|assumption|omega|simp only[ll];omega) only[go_sem,aU3,cz1,b68,b69]|refine vcJ ?_ ?_<;>intro _|refine vcA ?_ ?_;focus(repeat'(first|omega|assumption|refine vcA ?_ ?_);done)|omega|refine o7 (fun _=>?_)
 ·refine again (i+1) ?_ ?_ ?_ y8
  ·omega
  ·omega
  ·rw[dj7,take_snoc (by omega)]
 ·obtain rfl:i=l.length:=by omega
  exact aa3 _ (Le.refl _) (ag8 (aa2 do9 (aa2 (.lit _) ab6))) ⟨rfl,rfl⟩
theorem cz0(l:List UInt8)(c:UInt8){k:Nat}{H:List AObj}(hk:H[k]?=some (.cells (.one 239) (aw8 l))):o9 Tryz.prog 230 [.mp k 0,.lit (.int .u8 c.toNat)] H (fun x H'=>x=.bool (l.contains c)/\H'=H):=by
 refine y7 [] [.tmp 4] 10 Tryz.func230 rfl rfl rfl rfl (nlb rfl) (by kernel_rfl) ?_
 repeat' first|refine o6 ?_|simp -dsimp -implicitDefEqProofs (disch:=first|assumption|omega|simp only[ll];omega) only[go_sem,hk,aU3,dj8,dw7]|refine vcJ ?_ ?_<;>intro _|refine vcA ?_ ?_;focus(repeat'(first|omega|assumption|refine vcA ?_ ?_);done)|omega|refine o7 (fun _=>?_)
 exact y5 ⟨rfl,rfl⟩
def aF9(p:UInt8->Bool)(l:List UInt8):List UInt8:=l.dropWhile p
def aC0(p:UInt8->Bool)(l:List UInt8):List UInt8:=(l.reverse.dropWhile p).reverse
theorem c36{p:UInt8->Bool}{l:List UInt8}(h:0 < l.length)(hp:p (l.getD (l.length - 1) 0)=false):aC0 p l=l:=by
 obtain⟨m,c,rfl⟩: ∃m c,l=m++[c]:=⟨l.dropLast,l.getLast (List.ne_nil_of_length_pos h),(List.dropLast_concat_getLast _).symm⟩;unfold aC0;have:(m++[c]).getD ((m++[c]).length - 1) 0=c:=by simp[List.getD]
 rw[this] at hp;simp[hp]
theorem c38{p:UInt8->Bool}{l:List UInt8}(h:0 < l.length)(hp:p (l.getD (l.length - 1) 0)=true):aC0 p l=aC0 p (l.take (l.length - 1)):=by
 obtain⟨m,c,rfl⟩: ∃m c,l=m++[c]:=⟨l.dropLast,l.getLast (List.ne_nil_of_length_pos h),(List.dropLast_concat_getLast _).symm⟩;unfold aC0;have:(m++[c]).getD ((m++[c]).length - 1) 0=c:=by simp[List.getD]
 rw[this] at hp;simp[hp]
theorem c41{p:UInt8->Bool}{l:List UInt8}(h:0 < l.length)(hp:p (l.getD 0 0)=false):aF9 p l=l:=by
 cases l with
 |nil=>simp at h
 |cons c l=>simp at hp;simp[aF9,hp]
theorem c42{p:UInt8->Bool}{l:List UInt8}(h:0 < l.length)(hp:p (l.getD 0 0)=true):aF9 p l=aF9 p (l.drop 1):=by
 cases l with
 |nil=>simp at h
 |cons c l=>simp at hp;simp[aF9,hp]
theorem cM6(l s:List UInt8){k:Nat}{H:List AObj}(hk:H[k]?=some (.cells (.one 239) (aw8 s)))(hl:l.length<=100000):o9 Tryz.prog 209 [.str l,.mp k 0] H (fun x H'=>x=.str (aC0 s.contains l)/\H'=H):=by
 refine y7 [] [.tmp 4] 22 Tryz.func209 rfl rfl rfl rfl (nlb rfl) (by kernel_rfl) ?_
 repeat' first|refine o6 ?_|simp -dsimp -implicitDefEqProofs (disch:=first|assumption|omega|simp only[ll];omega) only[go_sem]|refine vcJ ?_ ?_<;>intro _|refine vcA ?_ ?_;focus(repeat'(first|omega|assumption|refine vcA ?_ ?_);done)|omega|refine o7 (fun _=>?_)
 refine aa5 aa7 mixed [] [1,4] (fun r:List UInt8=>aC0 s.contains r=aC0 s.contains l/\r.length<=l.length) (fun r=>[(0,.str r)]) (fun _=>H) (fun r=>r.length) (by kernel_rfl) ?_ l ⟨rfl,xq0 _⟩ y8 rfl
 rintro r ⟨hr,hrl⟩
 repeat' first|refine o6 ?_|simp -dsimp -implicitDefEqProofs (disch:=first|assumption|omega|simp only[ll];omega) only[go_sem]|refine o5 (cz0 s _ hk) ?_|refine vcJ ?_ ?_<;>intro _|refine vcA ?_ ?_;focus(repeat'(first|omega|assumption|refine vcA ?_ ?_);done)|omega|refine o7 (fun _=>?_)
 ·rename_i h1 h2
  rw[show ((r.length:Int) - 1).toNat=r.length - 1 by omega] at h2
  exact y5 ⟨by rw[<-hr,c36 (by omega) h2],rfl⟩
 ·rename_i h1 h2
  rw[show ((r.length:Int) - 1).toNat=r.length - 1 by omega] at h2
  refine again (r.take (((r.length:Int) - 1).toNat - 0)) ?_ ?_ rfl y8
  ·rw[List.length_take];omega
  ·rw[show ((r.length:Int) - 1).toNat - 0=r.length - 1 by omega,List.length_take]
   exact⟨by rw[<-hr,c38 (l:=r) (by omega) h2],by omega⟩
 ·have:r=[]:=aZ5 (by omega)
  subst this;exact y5 ⟨by rw[<-hr];rfl,rfl⟩
theorem c39(l s:List UInt8){k:Nat}{H:List AObj}(hk:H[k]?=some (.cells (.one 239) (aw8 s)))(hl:l.length<=100000):o9 Tryz.prog 208 [.str l,.mp k 0] H (fun x H'=>x=.str (aF9 s.contains l)/\H'=H):=by
 refine y7 [] [.tmp 4] 16 Tryz.func208 rfl rfl rfl rfl (nlb rfl) (by kernel_rfl) ?_
 repeat' first|refine o6 ?_|simp -dsimp -implicitDefEqProofs (disch:=first|assumption|omega|simp only[ll];omega) only[go_sem]|refine vcJ ?_ ?_<;>intro _|refine vcA ?_ ?_;focus(repeat'(first|omega|assumption|refine vcA ?_ ?_);done)|omega|refine o7 (fun _=>?_)
 refine aa5 aa7 mixed [] [1,4] (fun r:List UInt8=>aF9 s.contains r=aF9 s.contains l/\r.length<=l.length) (fun r=>[(0,.str r)]) (fun _=>H) (fun r=>r.length) (by kernel_rfl) ?_ l ⟨rfl,xq0 _⟩ y8 rfl
 rintro r ⟨hr,hrl⟩
 repeat' first|refine o6 ?_|simp -dsimp -implicitDefEqProofs (disch:=first|assumption|omega|simp only[ll];omega) only[go_sem]|refine o5 (cz0 s _ hk) ?_|refine vcJ ?_ ?_<;>intro _|refine vcA ?_ ?_;focus(repeat'(first|omega|assumption|refine vcA ?_ ?_);done)|omega|refine o7 (fun _=>?_)
 ·rename_i h1 h2
  exact y5 ⟨by rw[<-hr,c41 (by omega) h2],rfl⟩
 ·rename_i h1 h2
  refine again (r.drop 1) ?_ ?_ rfl y8
  ·rw[List.length_drop];omega
  ·rw[List.length_drop]
   exact⟨by rw[<-hr,c42 (l:=r) (by omega) h2],by omega⟩
 ·have:r=[]:=aZ5 (by omega)
  subst this;exact y5 ⟨by rw[<-hr];rfl,rfl⟩
theorem cI9{p:UInt8->Bool}: ∀{l:List UInt8},l.dropWhile p=[]↔ ∀x∈l,p x=true
 |[]=>by simp
 |c::l=>by
  rw[List.dropWhile_cons];split
  ·rename_i h
   rw[cI9];simp[h]
  ·rename_i h
   simp
   intro h2;exact absurd h2 h
theorem dh2{p:UInt8->Bool}{l:List UInt8}:aF9 p (aC0 p l)=[]↔l.all p=true:=by
 constructor
 ·intro h
  unfold aF9 aC0 at h;rw[cI9] at h;rw[xq6];intro x hx;have h2: ∀m:List UInt8,(∀y∈(m.dropWhile p),p y=true)-> ∀y∈m,p y=true:=fun m hm y hy=>by
   rw[<-List.takeWhile_append_dropWhile (p:=p) (l:=m)] at hy;rcases aP7.1 hy with hy|hy
   ·exact xq6.1 (List.all_takeWhile) y hy
   ·exact hm y hy
  exact h2 l.reverse (fun y hy=>h y (cu6.2 hy)) x (cu6.2 hx)
 ·intro h
  rw[xq6] at h;unfold aF9 aC0;rw[cI9];intro x hx;exact h x (cu6.1 ((List.dropWhile_sublist _).subset (cu6.1 hx)))
theorem dx5(l s:List UInt8)(H:List AObj)(hl:l.length<=100000)(hs:1 < s.length)(hs2:s.length<=1000)(ha: ∀i,i < s.length->(s.getD i 0).toNat < 128):o9 Tryz.prog 173 [.str l,.str s] H (fun x H'=>x=.str (aF9 s.contains (aC0 s.contains l))/\H'=H):=by
 have h1:s≠[]:=by intro e;subst e;simp at hs
 have h2:(aC0 s.contains l).length<=100000:=by
  unfold aC0;have:=(List.dropWhile_sublist s.contains (l:=l.reverse)).length_le;rw[List.length_reverse] at this⊢;omega
 refine y7 [1000004] [.tmp 4] 43 Tryz.func173 rfl rfl rfl rfl (nlb rfl) (by kernel_rfl) ?_
 repeat' first|refine o6 ?_|simp -dsimp -implicitDefEqProofs (disch:=first|assumption|omega|simp only[ll];omega) only[go_sem,aU3,cz1,b68,b69,cn1,h1]|refine o5 (do7 s _ hs2 ha) ?_|refine o5 (cM6 l s aP6 hl) ?_|refine o5 (c39 _ s aP6 h2) ?_|refine vcJ ?_ ?_<;>intro _|refine vcA ?_ ?_;focus(repeat'(first|omega|assumption|refine vcA ?_ ?_);done)|omega|refine o7 (fun _=>?_)
 ·rename_i h
  subst h;exact y5 ⟨rfl,rfl⟩
 ·exact aa3 _ (Le.refl _) (.str _) ⟨rfl,rfl⟩
end
section
open Go V
theorem cP7(l:List UInt8):aa0 (l.map o8)=l.map o8:=al9 o8 (fun _=>rfl) l
theorem aJ4(l:List bytes):aa0 (l.map .str)=l.map .str:=by
 induction l with
 |nil=>rfl
 |cons a l ih=>rw[List.map_cons,an4,ih];rfl
theorem de6{z:AV}{n:Nat}{l:List UInt8}(h:n=l.length):af0 (List.replicate n z) 0 (l.map o8)=l.map o8:=bg0 (by simp[h])
attribute [go_sem] List.length_range cP7 aJ4 de6
end
section
open Go V
theorem dZ9{m:Nat}{x:AV}(h:Low m x:=by(first|(first|exact .lit _|exact .str _|exact .any|exact ae4|exact ag3|exact .mp _ _ (by omega)|exact .msl _ _ _ _ (by omega)|exact ae6 (fun k e=>by cases e)|exact ad4 _|exact ai5|exact ai4|exact al2|exact al1 _)|(refine ag8 ?_;repeat(first|exact ab6|(refine aa2 ?_ ?_;focus(first|exact .lit _|exact .str _|exact .any|exact ae4|exact ag3|exact .mp _ _ (by omega)|exact .msl _ _ _ _ (by omega)|exact ae6 (fun k e=>by cases e)|exact ad4 _|exact ai5|exact ai4|exact al2|exact al1 _))))|(refine ay0 ?_;repeat(first|exact ab6|(refine aa2 ?_ ?_;focus(first|exact .lit _|exact .str _|exact .any|exact ae4|exact ag3|exact .mp _ _ (by omega)|exact .msl _ _ _ _ (by omega)|exact ae6 (fun k e=>by cases e)|exact ad4 _|exact ai5|exact ai4|exact al2|exact al1 _)))))):Low m x:=h
theorem as2{v:JV}:(jAV v).flat=[.lit (.int .i64 v.kind),.lit (.int .i64 v.num),.str v.text,.sl .sh 1 (v.names.map .str),.sl .sh 5 (v.items.map jAV)]:=by rw[aN7];rfl
theorem bQ4{v:JV}:(jAV v).okv=true:=by rw[aN7];rfl
theorem ei9{v:JV}:AV.agg [.lit (.int .i64 v.kind),.lit (.int .i64 v.num),.str v.text,.sl .sh 1 (v.names.map .str),.sl .sh 5 (v.items.map jAV)]=jAV v:=(aN7 v).symm
theorem ei6{l:List JV}{i:Nat}(h:i < l.length):(l.map jAV).getD i .any=jAV (l.getD i aa4):=by
 rw[List.getD,ak6,xq1 h,List.getD,xq1 h];rfl
theorem ei4{l:List bytes}{i:Nat}(h:i < l.length):(l.map AV.str).getD i .any=.str (l.getD i []):=by
 rw[List.getD,ak6,xq1 h,List.getD,xq1 h];rfl
attribute [go_sem] as2 bQ4 ei9 ei6 ei4
theorem aw5{α:Type}{l:List α}{i:Nat}{d:α}(h:i < l.length):l.getD i d∈l:=by
 rw[List.getD,xq1 h];exact aM4 h
theorem ad4{m:Nat}: ∀v:JV,Low m (jAV v):=by
 refine JV.induct fun k n t ns is ih=>?_
 rw[cF6];refine ay0 (aa2 (.lit _) (aa2 (.lit _) (aa2 (.str _) (aa2 ?_ (aa2 ?_ ab6)))))
 ·refine .sl _ _ _ (fun k e=>by cases e) fun x hx=>?_
  rw[aJ4] at hx;obtain⟨s,_,rfl⟩:=xq9.1 hx;exact .str _
 ·refine .sl _ _ _ (fun k e=>by cases e) fun x hx=>?_
  unfold aa0 at hx;obtain⟨y,hy,hx⟩:=bW3.1 hx;obtain⟨v,hv,rfl⟩:=xq9.1 hy;have:=ih v hv;rw[aN7] at this;cases this with
  |agg _ h=>
   rw[as2] at hx;exact h x hx
theorem d08{a b c d e a' b' c' d' e':AV}(h1:Le a a')(h2:Le b b')(h3:Le c c')(h4:Le d d')(h5:Le e e'):Le (.agg [a,b,c,d,e]) (.agg [a',b',c',d',e']):=
 ca6 (.cons h1 (.cons h2 (.cons h3 (.cons h4 (.cons h5 .nil)))))
theorem bK9{k n:Int}{t:bytes}{ns:List bytes}{is:List JV}{x y:AV}(h1:Le x (.sl .sh 1 (ns.map .str)))(h2:Le y (.sl .sh 5 (is.map jAV))):Le (.agg [.lit (.int .i64 k),.lit (.int .i64 n),.str t,x,y]) (jAV (.mk k n t ns is)):=by
 rw[cF6];exact d08 (Le.refl _) (Le.refl _) (Le.refl _) h1 h2
theorem bR4{k n:Int}{t:bytes}{o o':Own}{s s':Nat}:Le (.agg [.lit (.int .i64 k),.lit (.int .i64 n),.str t,.sl o s [],.sl o' s' []]) (jAV (.mk k n t [] [])):=bK9 am9 am9
def aj7(n:List UInt8):Nat:=1+n.length
mutual
def aa1:JV->Nat
 |.mk _ _ t ns is=>1+t.length+(ns.map aj7).sum+aQ5 is
def aQ5:List JV->Nat
 |[]=>0
 |v::r=>aa1 v+aQ5 r
end
theorem ar8(v:JV):aa1 v=1+v.text.length+(v.names.map aj7).sum+aQ5 v.items:=by cases v;rw[aa1];rfl
theorem aH9: ∀l,aQ5 l=(l.map aa1).sum
 |[]=>by rw[aQ5];rfl
 |v::r=>by rw[aQ5,aH9 r];simp
theorem ax3(v:JV):1<=aa1 v:=by rw[ar8];omega
theorem ch8{α:Type}{f:α->Nat}: ∀{l:List α} {x:α},x∈l->f x<=(l.map f).sum
 |a::l,x,h=>by
  rw[List.map_cons,bl3];rcases ai9.1 h with rfl|h
  ·omega
  ·have:=ch8 (f:=f) h;omega
theorem a04{α:Type}{f:α->Nat}(h: ∀x,1<=f x): ∀(l:List α),l.length<=(l.map f).sum
 |[]=>by simp
 |a::l=>by
  have:=a04 h l;have:=h a;rw[List.map_cons,bl3,List.length_cons];omega
theorem size_text(v:JV):v.text.length < aa1 v:=by rw[ar8];omega
theorem cm8{v:JV}{n:bytes}(h:n∈v.names):n.length < aa1 v:=by
 have:=ch8 (f:=aj7) h;rw[ar8 v];unfold aj7 at*;omega
theorem aM8{v x:JV}(h:x∈v.items):aa1 x < aa1 v:=by
 have:=ch8 (f:=aa1) h;rw[ar8 v,aH9];omega
theorem aO6(v:JV):v.names.length < aa1 v:=by
 have:=a04 (f:=aj7) (fun n=>by unfold aj7;omega) v.names
 rw[ar8 v];omega
theorem aI3(v:JV):v.items.length < aa1 v:=by
 have:=a04 ax3 v.items;rw[ar8 v,aH9];omega
theorem dj3(v:JV):v.names.length+v.items.length < aa1 v:=by
 have h1:=a04 (f:=aj7) (fun n=>by unfold aj7;omega) v.names
 have h2:=a04 ax3 v.items;rw[ar8 v,aH9];omega
def aX9(ns:List bytes)(s:bytes):Int:=match ns.findIdx? (fun n=>n==s) with|some i=>(i:Nat)|none=> -1
theorem cW9{α:Type}{p:α->Bool}{l:List α}{i:Nat}{d:α}(hi:i < l.length)(h1: ∀j,j < i->p (l.getD j d)=false)(h2:p (l.getD i d)=true):l.findIdx? p=some i:=by
 rw[cZ5];refine⟨hi,?_,fun j hj=>?_⟩
 ·rw[List.getD,xq1 hi] at h2
  exact h2
 ·have:=h1 j hj
  rw[List.getD,xq1 (by omega)] at this
  simpa using this
theorem cW8{α:Type}{p:α->Bool}{l:List α}{d:α}(h1: ∀j,j < l.length->p (l.getD j d)=false):l.findIdx? p=none:=by
 rw[cZ4];intro x hx;obtain⟨j,hj,rfl⟩:=cZ3.1 hx;have:=h1 j hj;rwa [List.getD,xq1 hj] at this
theorem upto_succ{p:Nat->Prop}{i:Nat}(h: ∀j,j < i->p j)(k:p i): ∀j,j < i+1->p j:=fun j hj=>by
 rcases am5 j i with h1|h1
 ·exact h j h1
 ·obtain rfl:j=i:=by omega
  exact k
theorem cY5{o:Own}(ns:List bytes)(s:bytes)(H:List AObj)(hl:ns.length<=100000):o9 Tryz.prog 64 [.sl o 1 (ns.map .str),.str s] H (fun x H'=>x=.int .i64 (aX9 ns s)/\H'=H):=by
 refine y7 [] [.tmp 4] 19 Tryz.func64 rfl rfl rfl rfl (nlb rfl) (by kernel_rfl) ?_
 repeat' first|refine o6 ?_|simp -dsimp -implicitDefEqProofs (disch:=first|assumption|omega|simp only[ll];omega) only[go_sem]|refine vcJ ?_ ?_<;>intro _|refine vcA ?_ ?_;focus(repeat'(first|omega|assumption|refine vcA ?_ ?_);done)|omega|refine o7 (fun _=>?_)
 refine aa5 aa7 mixed [] [0,1,7] (fun i:Nat=>i<=ns.length/\ ∀j,j < i->(ns.getD j []==s)=false) (fun i=>[(8,.int .i64 i)]) (fun _=>H) (fun i=>ns.length - i) (by kernel_rfl) ?_ 0 ⟨by omega,fun j hj=>by omega⟩ y8 rfl
 rintro i ⟨hi,hp⟩
 repeat' first|refine o6 ?_|simp -dsimp -implicitDefEqProofs (disch:=first|assumption|omega|simp only[ll];omega) only[go_sem]|refine vcJ ?_ ?_<;>intro _|refine vcA ?_ ?_;focus(repeat'(first|omega|assumption|refine vcA ?_ ?_);done)|omega|refine o7 (fun _=>?_)
 ·rename_i h1 h2
  refine y5 ⟨int_eq ?_,rfl⟩;rw[aX9,cW9 (d:=[]) (by omega) hp (by rw[<-h2];simp)]
 ·rename_i h1 h2
  refine again (i+1) ?_ ?_ rfl y8
  ·omega
  ·exact⟨by omega,upto_succ hp (by rw[beq_eq_false_iff_ne];exact fun e=>h2 e.symm)⟩
 ·obtain rfl:i=ns.length:=by omega
  refine y5 ⟨int_eq ?_,rfl⟩;rw[aX9,cW8 (d:=[]) hp]
def cG7(l:List JV)(p:JV->Bool):Int:=match l.findIdx? p with|some i=>(i:Nat)|none=> -1
theorem cR4{o:Own}(g:FuncId)(cs:List AV)(p:JV->Bool)(l:List JV)(H:List AObj)(hl:l.length<=100000)(hp: ∀x∈l,o9 Tryz.prog g (jAV x::cs) H (fun y H'=>y=.bool (p x)/\H'=H)):
  o9 Tryz.prog 171 [.sl o 5 (l.map jAV),.fn (.func g) [] cs] H (fun x H'=>x=.int .i64 (cG7 l p)/\H'=H):=by
 refine y7 [] [.tmp 4] 19 Tryz.func171 rfl rfl rfl rfl (nlb rfl) (by kernel_rfl) ?_
 repeat' first|refine o6 ?_|simp -dsimp -implicitDefEqProofs (disch:=first|assumption|omega|simp only[ll];omega) only[go_sem]|refine vcJ ?_ ?_<;>intro _|refine vcA ?_ ?_;focus(repeat'(first|omega|assumption|refine vcA ?_ ?_);done)|omega|refine o7 (fun _=>?_)
 refine aa5 aa7 mixed [] [0,1,7] (fun i:Nat=>i<=l.length/\ ∀j,j < i->p (l.getD j aa4)=false) (fun i=>[(8,.int .i64 i)]) (fun _=>H) (fun i=>l.length - i) (by kernel_rfl) ?_ 0 ⟨by omega,fun j hj=>by omega⟩ y8 rfl
 rintro i ⟨hi,hq⟩
 repeat' first|refine o6 ?_|simp -dsimp -implicitDefEqProofs (disch:=first|assumption|omega|simp only[ll];omega) only[go_sem]|refine o5 (hp _ (aw5 (by omega))) ?_|refine vcJ ?_ ?_<;>intro _|refine vcA ?_ ?_;focus(repeat'(first|omega|assumption|refine vcA ?_ ?_);done)|omega|refine o7 (fun _=>?_)
 ·rename_i h1 h2
  refine y5 ⟨int_eq ?_,rfl⟩;rw[cG7,cW9 (d:=aa4) (by omega) hq h2]
 ·rename_i h1 h2
  refine again (i+1) ?_ ?_ rfl y8
  ·omega
  ·exact⟨by omega,upto_succ hq h2⟩
 ·obtain rfl:i=l.length:=by omega
  refine y5 ⟨int_eq ?_,rfl⟩;rw[cG7,cW8 (d:=aa4) hq]
theorem d27(l:List JV)(p:JV->Bool):(0<=cG7 l p)=(l.any p=true):=by
 unfold cG7;cases h:l.findIdx? p with
 |some i=>
  have h2:=cZ5.1 h;obtain⟨hi,hp,_⟩:=h2;exact propext ⟨fun _=>cf6.2 ⟨l[i],aM4 hi,hp⟩,fun _=>Int.natCast_nonneg _⟩
 |none=>
  have h2:=cZ4.1 h;have:l.any p=false:=by
   rw[List.any_eq_false];intro x hx;simp[h2 x hx]
  rw[this];simp
theorem by9{o:Own}(g:FuncId)(cs:List AV)(p:JV->Bool)(l:List JV)(H:List AObj)(hl:l.length<=100000)(hp: ∀x∈l,o9 Tryz.prog g (jAV x::cs) H (fun y H'=>y=.bool (p x)/\H'=H)):
  o9 Tryz.prog 119 [.sl o 5 (l.map jAV),.fn (.func g) [] cs] H (fun x H'=>x=.bool (l.any p)/\H'=H):=by
 refine y7 [] [.tmp 4] 9 Tryz.func119 rfl rfl rfl rfl (nlb rfl) (by kernel_rfl) ?_
 repeat' first|refine o6 ?_|simp -dsimp -implicitDefEqProofs (disch:=first|assumption|omega|simp only[ll];omega) only[go_sem]|refine o5 (cR4 g cs p l H hl hp) ?_|refine vcJ ?_ ?_<;>intro _|refine vcA ?_ ?_;focus(repeat'(first|omega|assumption|refine vcA ?_ ?_);done)|omega|refine o7 (fun _=>?_)
 refine y5 ⟨ad5 ?_,rfl⟩;rw[cf7,decide_eq_true_eq,d27]
theorem bF7{o:Own}(ns:List bytes)(s:bytes)(H:List AObj)(hl:ns.length<=100000):o9 Tryz.prog 73 [.sl o 1 (ns.map .str),.str s] H (fun x H'=>x=.bool (decide (0<=aX9 ns s))/\H'=H):=by
 refine y7 [] [.tmp 4] 9 Tryz.func73 rfl rfl rfl rfl (nlb rfl) (by kernel_rfl) ?_
 repeat' first|refine o6 ?_|simp -dsimp -implicitDefEqProofs (disch:=first|assumption|omega|simp only[ll];omega) only[go_sem]|refine o5 (cY5 ns s H hl) ?_|refine vcJ ?_ ?_<;>intro _|refine vcA ?_ ?_;focus(repeat'(first|omega|assumption|refine vcA ?_ ?_);done)|omega|refine o7 (fun _=>?_)
 exact y5 ⟨rfl,rfl⟩
theorem bO8{α:Type}{l m:List α}{d:α}(hl:l.length=m.length)(h: ∀j,j < l.length->l.getD j d=m.getD j d):l=m:=by
 refine List.ext_getElem hl fun j h1 h2=>?_
 have:=h j h1;rwa [List.getD,xq1 h1,List.getD,xq1 h2] at this
theorem d87{o o':Own}(l m:List bytes)(H:List AObj)(hl:l.length<=100000):o9 Tryz.prog 121 [.sl o 1 (l.map .str),.sl o' 1 (m.map .str)] H (fun x H'=>x=.bool (decide (l=m))/\H'=H):=by
 refine y7 [1000006] [.tmp 4] 26 Tryz.func121 rfl rfl rfl rfl (nlb rfl) (by kernel_rfl) ?_
 repeat' first|refine o6 ?_|simp -dsimp -implicitDefEqProofs (disch:=first|assumption|omega|simp only[ll];omega) only[go_sem]|refine vcJ ?_ ?_<;>intro _|refine vcA ?_ ?_;focus(repeat'(first|omega|assumption|refine vcA ?_ ?_);done)|omega|refine o7 (fun _=>?_)
 ·rename_i h
  exact y5 ⟨ad5 (decide_eq_false fun e=>h (by rw[e])).symm,rfl⟩
 ·refine aa5 aa7 mixed [1000006] [0,1,12] (fun i:Nat=>i<=l.length/\ ∀j,j < i->l.getD j []=m.getD j []) (fun i=>[(13,.int .i64 i)]) (fun _=>H) (fun i=>l.length - i) (by kernel_rfl) ?_ 0 ⟨by omega,fun j hj=>by omega⟩ y8 rfl
  rintro i ⟨hi,hp⟩
  repeat' first|refine o6 ?_|simp -dsimp -implicitDefEqProofs (disch:=first|assumption|omega|simp only[ll];omega) only[go_sem]|refine vcJ ?_ ?_<;>intro _|refine vcA ?_ ?_;focus(repeat'(first|omega|assumption|refine vcA ?_ ?_);done)|omega|refine o7 (fun _=>?_)
  ·rename_i h1 h2
   exact y5 ⟨ad5 (decide_eq_false fun e=>h2 (by rw[e])).symm,rfl⟩
  ·rename_i h1 h2
   refine again (i+1) ?_ ?_ rfl y8
   ·omega
   ·exact⟨by omega,upto_succ hp h2⟩
  ·obtain rfl:i=l.length:=by omega
   exact y5 ⟨ad5 (decide_eq_true (bO8 (d:=[]) (by omega) hp)).symm,rfl⟩
theorem ai5{m:Nat}{l:List JV}:Low m (.sl .sh 5 (l.map jAV)):=.sl _ _ _ (fun k e=>by cases e) fun x hx=>by
 unfold aa0 at hx;obtain⟨y,hy,hx⟩:=bW3.1 hx;obtain⟨v,hv,rfl⟩:=xq9.1 hy;have:=ad4 (m:=m) v;rw[aN7] at this;cases this with
 |agg _ h=>
  rw[as2] at hx;exact h x hx
theorem ai4{m s:Nat}{l:List bytes}:Low m (.sl .sh s (l.map .str)):=.sl _ _ _ (fun k e=>by cases e) fun x hx=>by
 rw[aJ4] at hx;obtain⟨s,_,rfl⟩:=xq9.1 hx;exact .str _
theorem al2{m:Nat}{f:Fn}:Low m (.fn f [] []):=.fn _ _ _ (fun x hx=>by cases hx) (fun x hx=>by cases hx)
open Classical in
theorem cR8(g:FuncId)(l m:List JV)(H:List AObj)(hl:l.length<=100000)(hp: ∀x∈l,∀(y:JV) (M:List AObj),o9 Tryz.prog g [jAV x,jAV y] (H++M) (fun z H'=>z=.bool (decide (x=y))/\H'=H++M)):
  o9 Tryz.prog 122 [.sl .sh 5 (l.map jAV),.sl .sh 5 (m.map jAV),.fn (.func g) [] []] H (fun x H'=>x=.bool (decide (l=m))/\H'=H):=by
 refine y7 [] [.tmp 6] 32 Tryz.func122 rfl rfl rfl rfl (nlb rfl) (by kernel_rfl) ?_
 repeat' first|refine o6 ?_|simp -dsimp -implicitDefEqProofs (disch:=first|assumption|omega|simp only[ll];omega) only[go_sem]|refine vcJ ?_ ?_<;>intro _|refine vcA ?_ ?_;focus(repeat'(first|omega|assumption|refine vcA ?_ ?_);done)|omega|refine o7 (fun _=>?_)
 ·rename_i h
  exact y5 ⟨ad5 (decide_eq_false fun e=>h (by rw[e])).symm,rfl⟩
 ·refine aa5 aa7 mixed [] [1,2,15,16] (fun i:Nat=>i<=l.length/\ ∀j,j < i->l.getD j aa4=m.getD j aa4) (fun i=>[(17,.int .i64 i)]) (fun _=>H) (fun i=>l.length - i) (by kernel_rfl) ?_ 0 ⟨by omega,fun j hj=>by omega⟩ y8 rfl
  rintro i ⟨hi,hq⟩
  repeat' first|refine o6 ?_|simp -dsimp -implicitDefEqProofs (disch:=first|assumption|omega|simp only[ll];omega) only[go_sem]|refine o5 (hp _ (aw5 (by omega)) _ _) ?_|refine vcJ ?_ ?_<;>intro _|refine vcA ?_ ?_;focus(repeat'(first|omega|assumption|refine vcA ?_ ?_);done)|omega|refine o7 (fun _=>?_)
  ·rename_i h1 h2
   exact dM3 ⟨ad5 (decide_eq_false fun e=>h2 (by rw[e])).symm,rfl⟩
  ·rename_i h1 h2
   refine aV4 (i+1) ?_ ?_ (by repeat(first|exact af9|(refine af1 ?_ ?_;focus exact dZ9))) y8
   ·omega
   ·exact⟨by omega,upto_succ hq h2⟩
  ·obtain rfl:i=l.length:=by omega
   exact y5 ⟨ad5 (decide_eq_true (bO8 (d:=aa4) (by omega) hq)).symm,rfl⟩
end
section
open Go V
def az3(p:List UInt8×JV):AV:=.agg (.str p.1::(jAV p.2).flat)
theorem dt5{p:List UInt8×JV}:(az3 p).flat=[.str p.1,.lit (.int .i64 p.2.kind),.lit (.int .i64 p.2.num),.str p.2.text,.sl .sh 1 (p.2.names.map .str),.sl .sh 5 (p.2.items.map jAV)]:=by unfold az3;rw[as2];rfl
theorem dt1{p:List UInt8×JV}:AV.agg [.str p.1,.lit (.int .i64 p.2.kind),.lit (.int .i64 p.2.num),.str p.2.text,.sl .sh 1 (p.2.names.map .str),.sl .sh 5 (p.2.items.map jAV)]=az3 p:=by unfold az3;rw[as2]
theorem ek4{a:AV}{l:List AV}:(a::l).drop 1=l:=rfl
theorem ep9{p:List UInt8×JV}:(az3 p).okv=true:=by unfold az3;rw[as2];rfl
theorem ei5{l:List (List UInt8×JV)}{i:Nat}(h:i < l.length):(l.map az3).getD i .any=az3 (l.getD i ([],aa4)):=by
 rw[List.getD,ak6,xq1 h,List.getD,xq1 h];rfl
attribute [go_sem] dt5 ep9 ei5 dt1 ek4
theorem eq3{m:Nat}(p:List UInt8×JV): ∀z∈(az3 p).flat,Low m z:=fun z hz=>by
 have:=ad4 (m:=m) p.2;rw[aN7] at this;cases this with
 |agg _ h=>
  rw[dt5] at hz;rcases ai9.1 hz with rfl|hz
  ·exact .str _
  ·exact h z hz
theorem bx4{m s:Nat}{l:List (List UInt8×JV)}:Low m (.sl .sh s (l.map az3)):=.sl _ _ _ (fun k e=>by cases e) fun x hx=>by
 unfold aa0 at hx;obtain⟨y,hy,hx⟩:=bW3.1 hx;obtain⟨p,hp,rfl⟩:=xq9.1 hy;exact eq3 p x hx
end
section
open V
structure Sha(w:Nat) where
 count:Nat
 k:Nat->BitVec w
 b0:Nat×Nat×Nat
 b1:Nat×Nat×Nat
 s0:Nat×Nat×Nat
 s1:Nat×Nat×Nat
def bigT{w:Nat}(x:BitVec w)(l:Nat×Nat×Nat):BitVec w:=x.rotateRight l.1^^^x.rotateRight l.2.1^^^x.rotateRight l.2.2
def aE0{w:Nat}(x:BitVec w)(l:Nat×Nat×Nat):BitVec w:=x.rotateRight l.1^^^x.rotateRight l.2.1^^^(x>>>l.2.2)
namespace Sha
variable {w:Nat}(S:Sha w)
def next(m:List (BitVec w)):BitVec w:=m.getD (m.length - 16) 0+aE0 (m.getD (m.length - 15) 0) S.s0+m.getD (m.length - 7) 0+aE0 (m.getD (m.length - 2) 0) S.s1
def sched(block:List (BitVec w)):Nat->List (BitVec w)
 |0=>block
 |n+1=>let m:=sched block n;m++[S.next m]
structure St(w:Nat) where
 a:BitVec w
 b:BitVec w
 c:BitVec w
 d:BitVec w
 e:BitVec w
 f:BitVec w
 g:BitVec w
 h:BitVec w
def St.list(s:St w):List (BitVec w):=[s.a,s.b,s.c,s.d,s.e,s.f,s.g,s.h]
def chT(e f g:BitVec w):BitVec w:=(e&&&f)^^^(~~~ e&&&g)
def ev3(a b c:BitVec w):BitVec w:=(a&&&b)^^^(a&&&c)^^^(b&&&c)
def t1(i:Nat)(x:BitVec w)(s:St w):BitVec w:=s.h+bigT s.e S.b1+chT s.e s.f s.g+S.k i+x
def t2(s:St w):BitVec w:=bigT s.a S.b0+ev3 s.a s.b s.c
def step(i:Nat)(x:BitVec w)(s:St w):St w:=⟨S.t1 i x s+S.t2 s,s.a,s.b,s.c,s.d+S.t1 i x s,s.e,s.f,s.g⟩
def steps(m:List (BitVec w))(s:St w):Nat->St w
 |0=>s
 |n+1=>S.step n (m.getD n 0) (steps m s n)
def add(s t:St w):St w:=⟨s.a+t.a,s.b+t.b,s.c+t.c,s.d+t.d,s.e+t.e,s.f+t.f,s.g+t.g,s.h+t.h⟩
def take(s:St w)(block:List (BitVec w)):St w:=add s (S.steps (S.sched block (S.count - 16)) s S.count)
theorem sched_len(block:List (BitVec w))(n:Nat):(S.sched block n).length=block.length+n:=by
 induction n with
 |zero=>rfl
 |succ n ih=>simp only[sched,List.length_append,ih,List.length_cons,List.length_nil];omega
end Sha
def bl8(w:Nat)(l:List UInt8):BitVec w:=l.foldl (fun x b=>x<<<8|||BitVec.ofNat w b.toNat) 0
theorem cM1(w:Nat)(l:List UInt8)(b:UInt8):bl8 w (l++[b])=(bl8 w l<<<8|||BitVec.ofNat w b.toNat):=by
 simp[bl8]
def wordsOf(w:Nat)(l:List UInt8):List (BitVec w):=(List.range 16).map fun j=>bl8 w ((l.drop (j*(w/8))).take (w/8))
theorem bs8(w:Nat)(l:List UInt8):(wordsOf w l).length=16:=by simp[wordsOf]
theorem bT4(w:Nat):wordsOf w []=List.replicate 16 0:=by
 simp[wordsOf,bl8]
 rfl
theorem cx2{w:Nat}{l:List UInt8}{j:Nat}(h:j < 16):(wordsOf w l).getD j 0=bl8 w ((l.drop (j*(w/8))).take (w/8)):=by
 simp[wordsOf,List.getD,ak6,aM3 h]
theorem bH6{w:Nat}{l:List UInt8}{b:UInt8}(hw:0 < w/8)(h:l.length < 16*(w/8)):
  wordsOf w (l++[b])=(wordsOf w l).set (l.length/(w/8)) ((wordsOf w l).getD (l.length/(w/8)) 0<<<8|||BitVec.ofNat w b.toNat):=by
 have hlt:l.length/(w/8) < 16:=(cu5 hw).2 h;rw[cx2 hlt];apply aV9
 intro j;have hg: ∀m:List UInt8,(wordsOf w m)[j]?=if j < 16 then some (bl8 w ((m.drop (j*(w/8))).take (w/8))) else none:=fun m=>by
  unfold wordsOf;rw[ak6];by_cases h1:j < 16
  ·rw[aM3 h1,if_pos h1]
   rfl
  ·rw[av9 (by simp;omega),if_neg h1]
   rfl
 rw[aZ4,hg,hg,bs8];by_cases h1:j < 16
 ·rw[if_pos h1,if_pos h1]
  have hm:=Nat.div_add_mod l.length (w/8);have hml:=cg3 l.length hw;rw[bW0] at hm;generalize w/8=z at*;generalize hq:l.length/z=q at*;generalize l.length%z=r at*;split
  ·rename_i e
   subst e;rw[<-cM1];congr 2
   rw[cu4 (by omega)]
   rw[ak5 (by rw[List.length_append,List.length_drop];simp only[List.length_cons,List.length_nil];omega),ak5 (by rw[List.length_drop];omega)]
  ·rename_i e
   congr 2
   rcases am5 j q with hjq|hjq
   ·have h3:j*z+z<=q*z:=by
     have:=aM5 z (show j+1<=q by omega)
     rw[aC7,bz4] at this;exact this
    rw[cu4 (by omega),bG6 (by rw[List.length_drop];omega)]
   ·have h3:q*z+z<=j*z:=by
     have:=aM5 z (show q+1<=j by omega)
     rw[aC7,bz4] at this;exact this
    rw[bl6 (by rw[List.length_append];simp only[List.length_cons,List.length_nil];omega),bl6 (by omega)]
 ·rw[if_neg h1,if_neg h1,if_neg (by omega)]
def bytesOf(size:Nat)(x:Nat):List UInt8:=(List.range size).map fun i=>UInt8.ofNat (x/256^(size - 1 - i))
theorem bu2(size x:Nat):(bytesOf size x).length=size:=by simp[bytesOf]
def an2(w n:Nat):Nat:=(n+1+w/4+2*w - 1)/(2*w)*(2*w)
def padded(w:Nat)(b:List UInt8):List UInt8:=b++128::(List.replicate (an2 w b.length - 8 - (b.length+1)) 0++bytesOf 8 (8*b.length))
def chunks(n:Nat)(l:List UInt8):List (List UInt8):=(List.range (l.length/n)).map fun i=>(l.drop (i*n)).take n
def sumOf{w:Nat}(S:Sha w)(h:Sha.St w)(b:List UInt8):List UInt8:=
 (((chunks (2*w) (padded w b)).foldl (fun s c=>S.take s (wordsOf w c)) h).list).flatMap fun x=>bytesOf (w/8) x.toNat
theorem cm6{w:Nat}(S:Sha w)(h:Sha.St w)(b:List UInt8):(sumOf S h b).length=8*(w/8):=by
 unfold sumOf Sha.St.list;simp[bu2]
 omega
def kOf(w i:Nat):BitVec w:=BitVec.ofNat w (be9.getD i 0/2^(64 - w))
def hOf(w i:Nat):BitVec w:=BitVec.ofNat w (ba6.getD i 0/2^(64 - w))
def aD3(w:Nat):Sha.St w:=⟨hOf w 0,hOf w 1,hOf w 2,hOf w 3,hOf w 4,hOf w 5,hOf w 6,hOf w 7⟩
def ad2:Sha 32:=⟨64,kOf 32,(2,13,22),(6,11,25),(7,18,3),(17,19,10)⟩
def ad1:Sha 64:=⟨80,kOf 64,(28,34,39),(14,18,41),(1,8,7),(19,61,6)⟩
def sum256(b:List UInt8):List UInt8:=sumOf ad2 (aD3 32) b
def ax2(b:List UInt8):List UInt8:=sumOf ad1 (aD3 64) b
theorem bA3(b:List UInt8):(sum256 b).length=32:=cm6 _ _ _
theorem aW4(b:List UInt8):(ax2 b).length=64:=cm6 _ _ _
end
section
open Go V
abbrev wAV(K:IntKind){w:Nat}(x:BitVec w):AV:=.lit (.int K (x.toNat:Int))
theorem aq0{w:Nat}(x:BitVec w):BitVec.ofInt w (x.toNat:Int)=x:=by simp
theorem b53(x:BitVec 32):IntKind.u32.wrap (x.toNat:Int)=(x.toNat:Int):=cx1 x.isLt
theorem dU6(x y:BitVec 32):IntKind.u32.wrap ((x.toNat:Int)+(y.toNat:Int))=((x+y).toNat:Int):=by
 rw[bO3];simp[IntKind.wrap,IntKind.signed,IntKind.bits]
theorem u32_xor(x y:BitVec 32):IntKind.u32.wrap (((BitVec.ofInt IntKind.u32.bits (x.toNat:Int)^^^BitVec.ofInt IntKind.u32.bits (y.toNat:Int)).toNat:Nat):Int)=((x^^^y).toNat:Int):=by
 show IntKind.u32.wrap (((BitVec.ofInt 32 (x.toNat:Int)^^^BitVec.ofInt 32 (y.toNat:Int)).toNat:Nat):Int)=_
 rw[aq0,aq0,b53]
theorem u32_and(x y:BitVec 32):IntKind.u32.wrap (((BitVec.ofInt IntKind.u32.bits (x.toNat:Int)&&&BitVec.ofInt IntKind.u32.bits (y.toNat:Int)).toNat:Nat):Int)=((x&&&y).toNat:Int):=by
 show IntKind.u32.wrap (((BitVec.ofInt 32 (x.toNat:Int)&&&BitVec.ofInt 32 (y.toNat:Int)).toNat:Nat):Int)=_
 rw[aq0,aq0,b53]
theorem u32_or(x y:BitVec 32):IntKind.u32.wrap (((BitVec.ofInt IntKind.u32.bits (x.toNat:Int)|||BitVec.ofInt IntKind.u32.bits (y.toNat:Int)).toNat:Nat):Int)=((x|||y).toNat:Int):=by
 show IntKind.u32.wrap (((BitVec.ofInt 32 (x.toNat:Int)|||BitVec.ofInt 32 (y.toNat:Int)).toNat:Nat):Int)=_
 rw[aq0,aq0,b53]
theorem dU5(x:BitVec 32):IntKind.u32.wrap (((BitVec.ofInt IntKind.u32.bits (if IntKind.u32.signed=true then -1 else IntKind.u32.max)^^^BitVec.ofInt IntKind.u32.bits (x.toNat:Int)).toNat:Nat):Int)=((~~~ x).toNat:Int):=by
 show IntKind.u32.wrap (((BitVec.allOnes 32^^^BitVec.ofInt 32 (x.toNat:Int)).toNat:Nat):Int)=_
 rw[aq0,BitVec.xor_comm,BitVec.xor_allOnes,b53]
attribute [go_sem] dU6 u32_xor u32_and dU5
theorem d97(x:BitVec 32):x.toNat/8=(x>>>3).toNat:=by simp[aM1]
theorem dT8(x:BitVec 32):x.toNat/1024=(x>>>10).toNat:=by simp[aM1]
theorem ac1{K:IntKind}{w:Nat}{m:List (BitVec w)}{i:Nat}(h:i < m.length):(m.map (wAV K)).getD i .any=wAV K (m.getD i 0):=by
 simp[List.getD,xq1 h]
theorem eg3{K:IntKind}{w:Nat}(a:List (BitVec w))(b:BitVec w):a.map (wAV K)++[wAV K b]=(a++[b]).map (wAV K):=by simp
theorem dm4{K:IntKind}{w:Nat}{m:List (BitVec w)}:ones (m.map (wAV K))=True:=eq_true (a19 fun _=>rfl)
theorem ac4{K:IntKind}{w:Nat}{m:List (BitVec w)}:(m.map (wAV K)).all AV.scalar=true:=xq6.2 (a19 fun _=>rfl)
theorem cz6{x:BitVec 32}{n:Nat}(h1:1<=n)(h2:n<=31):IntKind.u32.wrap (((BitVec.ofInt IntKind.u32.bits (IntKind.u32.wrap ((x.toNat:Int)*2^(32 - n)))|||BitVec.ofInt IntKind.u32.bits (((x.toNat/2^n:Nat)):Int)).toNat:Nat):Int)=((x.rotateRight n).toNat:Int):=by
 show IntKind.u32.wrap (((BitVec.ofInt 32 (IntKind.u32.wrap ((x.toNat:Int)*2^(32 - n)))|||BitVec.ofInt 32 (((x.toNat/2^n:Nat)):Int)).toNat:Nat):Int)=_
 have e1:BitVec.ofInt 32 (IntKind.u32.wrap ((x.toNat:Int)*2^(32 - n)))=x<<<(32 - n):=by
  have:IntKind.u32.wrap ((x.toNat:Int)*2^(32 - n))=((x<<<(32 - n)).toNat:Int):=by
   rw[bs4,bs3];simp[IntKind.wrap,IntKind.signed,IntKind.bits]
  rw[this,aq0]
 have e2:BitVec.ofInt 32 (((x.toNat/2^n:Nat)):Int)=x>>>n:=by
  have:x.toNat/2^n=(x>>>n).toNat:=by simp[aM1]
  rw[this,aq0]
 rw[e1,e2,b53];congr 2
 rw[BitVec.rotateRight_def,aA7 (by omega),BitVec.or_comm]
theorem dw9{a:Int}(h:0<=a/\a < 18446744073709551616):((BitVec.ofInt IntKind.u64.bits a&&&BitVec.ofInt IntKind.u64.bits 31).toNat:Int)=a%32:=bg2 (k:=64) (m:=5) h.1 h.2 (by omega)
theorem co5{α:Type}{l:List α}{i:Nat}{d:α}(h:i < l.length):l.getD i d∈l:=by
 rw[List.getD,xq1 h];exact aM4 h
theorem df6(x:BitVec 32)(n:Nat)(H:List AObj)(h1:1<=n)(h2:n<=31):o9 Tryz.prog 220 [wAV .u32 x,.lit (.int .i64 (0 - (n:Int)))] H (fun y H'=>y=wAV .u32 (x.rotateRight n)/\H'=H):=by
 have hr:=cz6 (x:=x) h1 h2;have w1:IntKind.u64.wrap (0 - (n:Int))=18446744073709551616 - n:=by
  simp[IntKind.wrap,IntKind.signed,IntKind.bits]<;>omega
 have w2:((BitVec.ofInt IntKind.u64.bits (18446744073709551616 - (n:Int))&&&BitVec.ofInt IntKind.u64.bits 31).toNat:Int)=32 - (n:Int):=by
  rw[dw9 (by omega)]
  omega
 have m1:min (32 - (n:Int)).toNat 32=32 - n:=by omega
 have m2:min (32 - (32 - (n:Int))).toNat 32=n:=by omega
 have m3:(x.toNat:Int).fdiv (2^n)=((x.toNat/2^n:Nat):Int):=by
  rw[an0 (b37 (Int.pow_pos (by decide)))]
  have:((2:Int)^n)=((2^n:Nat):Int):=by simp
  rw[this,Int.toNat_natCast]
 refine y7 [] [.tmp 4] 17 Tryz.func220 rfl rfl rfl rfl (nlb rfl) (by kernel_rfl) ?_
 repeat' first|refine o6 ?_|simp -dsimp -implicitDefEqProofs (disch:=first|assumption|omega|simp only[ll];omega) only[go_sem,w1,w2,m1,m2,m3,hr]|refine vcJ ?_ ?_<;>intro _|refine vcA ?_ ?_;focus(repeat'(first|omega|assumption|refine vcA ?_ ?_);done)|omega|refine o7 (fun _=>?_)
 exact y5 ⟨rfl,rfl⟩
theorem bh8{o:Own}(x:BitVec 32)(ns:List Nat)(H:List AObj)(hn: ∀n∈ns,1<=n/\n<=31)(hl:ns.length<=100):o9 Tryz.prog 192 [wAV .u32 x,.sl o 1 (ns.map fun n:Nat=>.lit (.int .i64 (n:Int)))] H (fun y H'=>y=wAV .u32 (ns.foldl (fun a n=>a^^^x.rotateRight n) 0)/\H'=H):=by
 refine y7 [] [.tmp 4] 22 Tryz.func192 rfl rfl rfl rfl (nlb rfl) (by kernel_rfl) ?_
 repeat' first|refine o6 ?_|simp -dsimp -implicitDefEqProofs (disch:=first|assumption|omega|simp only[ll];omega) only[go_sem]|refine vcJ ?_ ?_<;>intro _|refine vcA ?_ ?_;focus(repeat'(first|omega|assumption|refine vcA ?_ ?_);done)|omega|refine o7 (fun _=>?_)
 refine aa5 aa7 mixed [] [0,4,8,9] (fun i:Nat=>i<=ns.length) (fun i=>[(5,wAV .u32 ((ns.take i).foldl (fun a n=>a^^^x.rotateRight n) 0)),(10,.lit (.int .i64 i))]) (fun _=>H) (fun i=>ns.length - i) (by kernel_rfl) ?_ 0 (by omega) y8 rfl
 intro i hi;by_cases hil:i < ns.length
 ·have hx:(ns.map fun n:Nat=>AV.lit (.int .i64 (n:Int))).getD i .any=.lit (.int .i64 ((ns.getD i 0:Nat):Int)):=by simp[List.getD,xq1 hil]
  have hm:=hn _ (co5 (d:=0) hil);have hs:(ns.take (i+1)).foldl (fun a n=>a^^^x.rotateRight n) 0=(ns.take i).foldl (fun a n=>a^^^x.rotateRight n) 0^^^x.rotateRight (ns.getD i 0):=by
   rw[aZ1 hil,b36,List.getD,xq1 hil];rfl
  generalize ns.getD i 0=n at*;repeat' first|refine o6 ?_|simp -dsimp -implicitDefEqProofs (disch:=first|assumption|omega|simp only[ll];omega) only[go_sem,hx]|refine o5 (df6 x n _ hm.1 hm.2) ?_|refine vcJ ?_ ?_<;>intro _|refine vcA ?_ ?_;focus(repeat'(first|omega|assumption|refine vcA ?_ ?_);done)|omega|refine o7 (fun _=>?_)
  rw[<-hs];refine again (i+1) ?_ ?_ rfl y8
  ·omega
  ·omega
 ·obtain rfl:i=ns.length:=by omega
  rw[aZ6];repeat' first|refine o6 ?_|simp -dsimp -implicitDefEqProofs (disch:=first|assumption|omega|simp only[ll];omega) only[go_sem]|refine vcJ ?_ ?_<;>intro _|refine vcA ?_ ?_;focus(repeat'(first|omega|assumption|refine vcA ?_ ?_);done)|omega|refine o7 (fun _=>?_)
  exact y5 ⟨rfl,rfl⟩
end
end Go.Proofs.YtnfcdbgiclnaeaaGreatDoor
