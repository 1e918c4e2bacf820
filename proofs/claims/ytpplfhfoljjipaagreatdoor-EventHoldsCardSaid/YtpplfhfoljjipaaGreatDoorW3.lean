/- The rules by which a verification condition is worked out. -/
import Derived.Test.YtpplfhfoljjipaaGreatDoorW2
import Derived.IntWalk
import Derived.Test.YtpplfhfoljjipaaGreatDoorChecked
import Derived.Deep.DeepHandedRow
import Derived.Lib.LaidTab
import Derived.Lib.LaidU8
import Derived.ChangeSame
import Derived.ChangeStays
import Derived.ChangeMaps5
import Derived.OpenShut
import Derived.Laws.Externs
import Derived.Lib.Overlaps
import Derived.Lib.ValidLaws
import Derived.Lib.MapLaws
import Derived.Lib.ValidAsc
import Derived.Lib.EndianMore
import Derived.Sort.Walk0
import Derived.Test.YtpplfhfoljjipaaGreatDoorW1
set_option linter.unusedVariables false
set_option linter.unusedSimpArgs false
set_option maxRecDepth 10000
set_option maxHeartbeats 4000000
namespace Go.Proofs.YtpplfhfoljjipaaGreatDoor
section
namespace V
open Go
variable {ds:List Deferred}
section
variable {P:Program}{L:Tab}{mu:List Nat}{n:Nat}{Q:Exit->Env->List AObj->Prop}{env:Env}{H:List AObj}{all rest:List Oper}{K:Env->List AObj->Prop}{J:AV->List AObj->Prop}{D:AV->Prop}
def cI9(b:Option Nat)(t:TypeId)(zs:List AV)(H:List AObj)(K:AV->List AObj->Prop)[Tag K]:Prop:=
 match b with
 |none=>K (.mp H.length 0) (H++[.cells (.one t) zs])
 |some u=>K (.mp H.length 0) (H++[.cells (.one t) (ax2 (H.length+1) zs),.grow 1 0 (some u)])
theorem dZ4{t:TypeId}{zs:List AV}:cI9 none t zs H J=J (.mp H.length 0) (H++[.cells (.one t) zs]):=rfl
theorem dZ3{u t:Nat}{zs:List AV}:cI9 (some u) t zs H J=J (.mp H.length 0) (H++[.cells (.one t) (ax2 (H.length+1) zs),.grow 1 0 (some u)]):=rfl
theorem eI9:vcC P L mu n .skip Q env H=Q .normal env H:=rfl
theorem eP8{x y:Code}:vcC P L mu n (.seq x y) Q env H=vcC P L mu n x (Ex (fun env H=>vcC P L mu n y Q env H) Q) env H:=rfl
theorem eJ4{c:Operand}{x y:Code}:vcC P L mu n (.cond c x y) Q env H=dk6 (ev env c) (vcC P L mu n x Q env H) (vcC P L mu n y Q env H):=rfl
theorem er6{id:Nat}{c:Code}:vcC P L mu n (.block id c) Q env H=vcC P L mu n c (InB id Q) env H:=rfl
theorem eJ2{id:Nat}:vcC P L mu n (.exit id) Q env H=Q (.exit id) env H:=rfl
theorem eP9:vcC P L mu n .ret Q env H=Q .ret env H:=rfl
theorem d69{id:Nat}{ops:List Oper}:vcC P L mu n (.region id ops.toArray false) Q env H=aG3 P L mu ops ops env H (Q .normal):=by show aG3 P L mu ops.toArray.toList ops.toArray.toList env H (Q .normal)=_;simp
theorem eJ3{id:Nat}{ops:List Oper}:vcC P L mu n (.region id ops.toArray true) Q env H=if mu.contains (1000000+id) then as4 P L mu id ops 0 ops env H [] [] (Q .normal) else ay2 P L ops ops env H (Q .normal):=by show (if mu.contains (1000000+id) then as4 P L mu id ops.toArray.toList 0 ops.toArray.toList env H [] [] (Q .normal) else ay2 P L ops.toArray.toList ops.toArray.toList env H (Q .normal))=_;simp
theorem eJ1{c:Code}:vcC P L mu n (.loop c) Q env H=AW P n (.loop c) Q env H:=rfl
theorem bX8:Ex K Q .normal env H=K env H:=rfl
theorem eq0{id:Nat}:Ex K Q (.exit id) env H=Q (.exit id) env H:=rfl
theorem eH9:Ex K Q .ret env H=Q .ret env H:=rfl
theorem bX4{id:Nat}:InB id Q .normal env H=Q .normal env H:=rfl
theorem en8{id id':Nat}:InB id Q (.exit id') env H=if id'=id then Q .normal env H else Q (.exit id') env H:=rfl
theorem eF2{id:Nat}:InB id Q .ret env H=Q .ret env H:=rfl
theorem eQ4{rs:List ResultVar}{H₀:List AObj}{R:AV->List AObj->Prop}:bR8 L rs H₀ R .ret env H=Fin L rs H₀ R env H:=rfl
theorem d83{rs:List ResultVar}{H₀:List AObj}{R:AV->List AObj->Prop}:bR8 L rs H₀ R .normal env H=Fin L rs H₀ R env H:=rfl
theorem eO2:aG3 P L mu all [] env H K=K env H:=rfl
theorem eB4{d:Option Tmp}{op:Op}{ty:TypeId}{pos:String}{af:Array Edge}:aG3 P L mu all (⟨d,op,ty,pos,af,none⟩::rest) env H K=ac6 P L mu ⟨d,op,ty,pos,af,none⟩ env H fun v H'=>aG3 P L mu all rest (put d v env) H' K:=rfl
theorem ej0{d:Option Tmp}{op:Op}{ty:TypeId}{pos:String}{af:Array Edge}{j:Nat}{b:Bool}:aG3 P L mu all (⟨d,op,ty,pos,af,some (j,b)⟩::rest) env H K=
  aB0 (at7 all env j) b (ac6 P L mu ⟨d,op,ty,pos,af,some (j,b)⟩ (known1 all j b env) H fun v H'=>aG3 P L mu all rest (put d v (known1 all j b env)) H' K) (aG3 P L mu all rest (put d (.lit undef) (known1 all j (!b) env)) H K) (aG3 P L mu all rest (put d (.lit undef) env) H K):=rfl
theorem eP7:ay2 P L all [] env H K=K env H:=rfl
theorem eI5{d:Option Tmp}{op:Op}{ty:TypeId}{pos:String}{af:Array Edge}:ay2 P L all (⟨d,op,ty,pos,af,none⟩::rest) env H K=az6 P L ⟨d,op,ty,pos,af,none⟩ env H fun v=>ay2 P L all rest (put d v env) H K:=rfl
theorem eq7{d:Option Tmp}{op:Op}{ty:TypeId}{pos:String}{af:Array Edge}{j:Nat}{b:Bool}:ay2 P L all (⟨d,op,ty,pos,af,some (j,b)⟩::rest) env H K=
  aB0 (at7 all env j) b (az6 P L ⟨d,op,ty,pos,af,some (j,b)⟩ (known1 all j b env) H fun v=>ay2 P L all rest (put d v (known1 all j b env)) H K) (ay2 P L all rest (put d (.lit undef) (known1 all j (!b) env)) H K) (ay2 P L all rest (put d (.lit undef) env) H K):=rfl
theorem eo3{d:Tmp}{op:Op}{ty:TypeId}{pos:String}{af:Array Edge}{g:Option (Nat×Bool)}:at7 (⟨some d,op,ty,pos,af,g⟩::rest) env 0=get env d:=rfl
theorem eo4{o:Oper}{j:Nat}:at7 (o::rest) env (j+1)=at7 rest env j:=rfl
section
variable {d:Option Tmp}{ty:TypeId}{pos:String}{af:Array Edge}{g:Option (Nat×Bool)}
theorem eh5{x:Operand}:ac6 P L mu ⟨d,.move x,ty,pos,af,g⟩ env H J=lift (bq2 (ev env x)) J H:=rfl
theorem dD4{x:Operand}:ac6 P L mu ⟨d,.assign x,ty,pos,af,g⟩ env H J=lift (bq2 (ev env x)) J H:=rfl
theorem eh4{a b c:Operand}:ac6 P L mu ⟨d,.pick a b c,ty,pos,af,g⟩ env H J=lift (b52 (ev env a) (ev env b) (ev env c)) J H:=rfl
theorem eA3{op:BinOp}{t t':TypeId}{x y:Operand}:ac6 P L mu ⟨d,.binOp op t x y t',ty,pos,af,g⟩ env H J=if aI2 y then cj8 L op t (ev env x) H J else lift (bV4 L op t (isConst y) (ev env x) (ev env y)) J H:=rfl
theorem eO0{op:UnOp}{t:TypeId}{x:Operand}:ac6 P L mu ⟨d,.unOp op t x,ty,pos,af,g⟩ env H J=lift (cO1 op (ev env x)) J H:=rfl
theorem eh7{s t:TypeId}{x:Operand}:ac6 P L mu ⟨d,.convert s t x,ty,pos,af,g⟩ env H J=if mu.contains (d.getD 0) then bE6 L s t (ev env x) H J else lift (bG2 P L H s t (ev env x)) J H:=rfl
theorem dp4{x:Operand}{i:Nat}:ac6 P L mu ⟨d,.extract x i,ty,pos,af,g⟩ env H J=lift (bv8 (ev env x) i) J H:=rfl
theorem cP7{t:TypeId}{x i:Operand}:ac6 P L mu ⟨d,.indexAddr t x i,ty,pos,af,g⟩ env H J=lift (aN4 L t (ev env x) (ev env i)) J H:=rfl
theorem dW0{t:TypeId}{x i:Operand}:ac6 P L mu ⟨d,.index t x i,ty,pos,af,g⟩ env H J=lift (bG0 L t (ev env x) (ev env i)) J H:=rfl
theorem eh6{t:TypeId}{x:Operand}:ac6 P L mu ⟨d,.load t x,ty,pos,af,g⟩ env H J=lift (aY3 L H t (ev env x)) J H:=rfl
theorem dV9{t:TypeId}{x:Operand}{lo hi mx:Option Operand}:ac6 P L mu ⟨d,.slice t x lo hi mx,ty,pos,af,g⟩ env H J=lift (bv7 L t (ev env x) (evO env lo) (evO env hi) (evO env mx)) J H:=rfl
theorem cP8{t:TypeId}{x:Operand}{f:Nat}:ac6 P L mu ⟨d,.fieldAddr t x f,ty,pos,af,g⟩ env H J=lift (aN5 L t (ev env x) f) J H:=rfl
theorem dW1{t:TypeId}{x:Operand}{f:Nat}:ac6 P L mu ⟨d,.field t x f,ty,pos,af,g⟩ env H J=lift (bG1 L t (ev env x) f) J H:=rfl
theorem dW4{t:TypeId}{ps:Array (Nat×Operand)}:ac6 P L mu ⟨d,.build t ps,ty,pos,af,g⟩ env H J=lift (bG3 L t (ak2 env ps)) J H:=rfl
theorem cF9{t:TypeId}{len:Nat}{ps:Array (Nat×Operand)}:ac6 P L mu ⟨d,.buildSlice t len ps,ty,pos,af,g⟩ env H J=if mu.contains (d.getD 0) then bu4 L t len (ak2 env ps) H J else if len=0/\ps.size≠0 then False else lift (aO7 L t len (ak2 env ps)) J H:=rfl
theorem eA2{t:TypeId}{x:Operand}:ac6 P L mu ⟨d,.box t x,ty,pos,af,g⟩ env H J=if mu.contains (d.getD 0) then dk5 t (ev env x) H J else lift (do3 (ev env x)) J H:=rfl
theorem cP9{t:TypeId}:ac6 P L mu ⟨d,.alloc t,ty,pos,af,g⟩ env H J=(known (L t)=true/\cI9 (cJ7 mu (d.getD 0)) t (L t).zero H J):=by unfold ac6 cI9;rfl
theorem dV8{t:TypeId}{a x:Operand}:ac6 P L mu ⟨d,.store t a x,ty,pos,af,g⟩ env H J=bs1 L t (ev env a) (ev env x) H J:=rfl
theorem dW2{f:Operand}{az:Array Operand}{ts:Array TypeId}:ac6 P L mu ⟨d,.call ⟨.value f,az,ts⟩,ty,pos,af,g⟩ env H J=ba3 P (ev env f) (az.toList.map (ev env)) H J:=rfl
theorem dW3{b:Builtin}{az:Array Operand}{ts:Array TypeId}:ac6 P L mu ⟨d,.call ⟨.builtin b,az,ts⟩,ty,pos,af,g⟩ env H J=ah3 (mu.contains (d.getD 0)) L b (az.toList.map (ev env)) ts.toList H J:=rfl
theorem c66{x:Operand}:ac6 P L mu ⟨d,.nilCheck x,ty,pos,af,g⟩ env H J=lift (cw8 (ev env x)) J H:=rfl
theorem c67{f:Fn}{fs cs:Array Operand}:ac6 P L mu ⟨d,.makeFunc f fs cs,ty,pos,af,g⟩ env H J=lift (bq2 (.fn f (fs.toList.map (ev env)) (cs.toList.map (ev env)))) J H:=rfl
theorem cP6{t:TypeId}{x y:Operand}:ac6 P L mu ⟨d,.makeSlice t x y,ty,pos,af,g⟩ env H J=bE4 L t (ev env x) (ev env y) H J:=rfl
theorem dV7{t:TypeId}{x:Operand}:ac6 P L mu ⟨d,.sliceToArrayPointer t x,ty,pos,af,g⟩ env H J=lift (bv6 L t (ev env x)) J H:=rfl
theorem ei8{x:Operand}:az6 P L ⟨d,.move x,ty,pos,af,g⟩ env H D=ax9 (bq2 (ev env x)) D:=rfl
theorem ei7{a b c:Operand}:az6 P L ⟨d,.pick a b c,ty,pos,af,g⟩ env H D=ax9 (b52 (ev env a) (ev env b) (ev env c)) D:=rfl
theorem eB2{op:BinOp}{t t':TypeId}{x y:Operand}:az6 P L ⟨d,.binOp op t x y t',ty,pos,af,g⟩ env H D=ax9 (if aI2 y then none else bV4 L op t (isConst y) (ev env x) (ev env y)) D:=rfl
theorem cQ6{t:TypeId}{x i:Operand}:az6 P L ⟨d,.indexAddr t x i,ty,pos,af,g⟩ env H D=ax9 (aN4 L t (ev env x) (ev env i)) D:=rfl
theorem ei9{t:TypeId}{x:Operand}:az6 P L ⟨d,.load t x,ty,pos,af,g⟩ env H D=ax9 (aY3 L H t (ev env x)) D:=rfl
theorem dX9{t:TypeId}{x:Operand}{lo hi mx:Option Operand}:az6 P L ⟨d,.slice t x lo hi mx,ty,pos,af,g⟩ env H D=ax9 (bv7 L t (ev env x) (evO env lo) (evO env hi) (evO env mx)) D:=rfl
theorem cQ7{t:TypeId}{x:Operand}{f:Nat}:az6 P L ⟨d,.fieldAddr t x f,ty,pos,af,g⟩ env H D=ax9 (aN5 L t (ev env x) f) D:=rfl
theorem dX8{t:TypeId}{x:Operand}:az6 P L ⟨d,.sliceToArrayPointer t x,ty,pos,af,g⟩ env H D=ax9 (bv6 L t (ev env x)) D:=rfl
theorem dY0{f:Operand}{az:Array Operand}{ts:Array TypeId}:az6 P L ⟨d,.call ⟨.value f,az,ts⟩,ty,pos,af,g⟩ env H D=b40 P (ev env f) (az.toList.map (ev env)) H D:=rfl
theorem dY1{b:Builtin}{az:Array Operand}{ts:Array TypeId}:az6 P L ⟨d,.call ⟨.builtin b,az,ts⟩,ty,pos,af,g⟩ env H D=bp4 L H b (az.toList.map (ev env)) ts.toList D:=rfl
end
theorem er1{f:FuncId}{fs cs args:List AV}:ba3 P (.fn (.func f) fs cs) args H J=o8 P f (fs++args++cs) H J:=rfl
theorem d67{k:Nat}{args:List AV}:ba3 P (.yld k) args H J=a95 P k args H J:=rfl
theorem d68{f:FuncId}{args:List AV}:ba3 P (.fn (.func f) [] []) args H J=o8 P f args H J:=by show o8 P f ([]++args++[]) H J=_;simp
theorem dM7{f:FuncId}{args:List AV}:b40 P (.fn (.func f) [] []) args H D= ∃z,o8 P f args H (fun x H'=>x=z/\H'=H)/\bf0 (D z):=by show (∃z,o8 P f ([]++args++[]) H (fun x H'=>x=z/\H'=H)/\D z)=_;simp[bi7]
section
variable {d:Option Tmp}{ty:TypeId}{pos:String}{af:Array Edge}{g:Option (Nat×Bool)}
theorem ei4{x:Operand}:al0 P L mu ⟨d,.move x,ty,pos,af,g⟩ env H J=ac6 P L mu ⟨d,.move x,ty,pos,af,g⟩ env H J:=rfl
theorem dE5{x:Operand}:al0 P L mu ⟨d,.assign x,ty,pos,af,g⟩ env H J=ac6 P L mu ⟨d,.assign x,ty,pos,af,g⟩ env H J:=rfl
theorem ei3{a b c:Operand}:al0 P L mu ⟨d,.pick a b c,ty,pos,af,g⟩ env H J=ac6 P L mu ⟨d,.pick a b c,ty,pos,af,g⟩ env H J:=rfl
theorem ei2{op:UnOp}{t:TypeId}{x:Operand}:al0 P L mu ⟨d,.unOp op t x,ty,pos,af,g⟩ env H J=ac6 P L mu ⟨d,.unOp op t x,ty,pos,af,g⟩ env H J:=rfl
theorem dp7{s t:TypeId}{x:Operand}:al0 P L mu ⟨d,.convert s t x,ty,pos,af,g⟩ env H J=ac6 P L mu ⟨d,.convert s t x,ty,pos,af,g⟩ env H J:=rfl
theorem dp6{x:Operand}{i:Nat}:al0 P L mu ⟨d,.extract x i,ty,pos,af,g⟩ env H J=ac6 P L mu ⟨d,.extract x i,ty,pos,af,g⟩ env H J:=rfl
theorem cQ3{t:TypeId}{x i:Operand}:al0 P L mu ⟨d,.indexAddr t x i,ty,pos,af,g⟩ env H J=ac6 P L mu ⟨d,.indexAddr t x i,ty,pos,af,g⟩ env H J:=rfl
theorem dX2{t:TypeId}{x i:Operand}:al0 P L mu ⟨d,.index t x i,ty,pos,af,g⟩ env H J=ac6 P L mu ⟨d,.index t x i,ty,pos,af,g⟩ env H J:=rfl
theorem ei5{t:TypeId}{x:Operand}:al0 P L mu ⟨d,.load t x,ty,pos,af,g⟩ env H J=ac6 P L mu ⟨d,.load t x,ty,pos,af,g⟩ env H J:=rfl
theorem dX1{t:TypeId}{x:Operand}{lo hi mx:Option Operand}:al0 P L mu ⟨d,.slice t x lo hi mx,ty,pos,af,g⟩ env H J=ac6 P L mu ⟨d,.slice t x lo hi mx,ty,pos,af,g⟩ env H J:=rfl
theorem cQ4{t:TypeId}{x:Operand}{f:Nat}:al0 P L mu ⟨d,.fieldAddr t x f,ty,pos,af,g⟩ env H J=ac6 P L mu ⟨d,.fieldAddr t x f,ty,pos,af,g⟩ env H J:=rfl
theorem dX3{t:TypeId}{x:Operand}{f:Nat}:al0 P L mu ⟨d,.field t x f,ty,pos,af,g⟩ env H J=ac6 P L mu ⟨d,.field t x f,ty,pos,af,g⟩ env H J:=rfl
theorem dX5{t:TypeId}{ps:Array (Nat×Operand)}:al0 P L mu ⟨d,.build t ps,ty,pos,af,g⟩ env H J=ac6 P L mu ⟨d,.build t ps,ty,pos,af,g⟩ env H J:=rfl
theorem cG0{t:TypeId}{len:Nat}{ps:Array (Nat×Operand)}:al0 P L mu ⟨d,.buildSlice t len ps,ty,pos,af,g⟩ env H J=ac6 P L mu ⟨d,.buildSlice t len ps,ty,pos,af,g⟩ env H J:=rfl
theorem dX7{t:TypeId}:al0 P L mu ⟨d,.alloc t,ty,pos,af,g⟩ env H J=ac6 P L mu ⟨d,.alloc t,ty,pos,af,g⟩ env H J:=rfl
theorem dX0{t:TypeId}{a x:Operand}:al0 P L mu ⟨d,.store t a x,ty,pos,af,g⟩ env H J=ac6 P L mu ⟨d,.store t a x,ty,pos,af,g⟩ env H J:=rfl
theorem c68{x:Operand}:al0 P L mu ⟨d,.nilCheck x,ty,pos,af,g⟩ env H J=ac6 P L mu ⟨d,.nilCheck x,ty,pos,af,g⟩ env H J:=rfl
theorem dW9{t:TypeId}{x:Operand}:al0 P L mu ⟨d,.sliceToArrayPointer t x,ty,pos,af,g⟩ env H J=ac6 P L mu ⟨d,.sliceToArrayPointer t x,ty,pos,af,g⟩ env H J:=rfl
theorem dX6{op:BinOp}{t t':TypeId}{x y:Operand}:al0 P L mu ⟨d,.binOp op t x y t',ty,pos,af,g⟩ env H J=if aI2 y then False else lift (bV4 L op t (isConst y) (ev env x) (ev env y)) J H:=by unfold al0;simp only[ac6];split<;>simp_all
theorem dX4{f:FuncId}{az:Array Operand}{ts:Array TypeId}:al0 P L mu ⟨d,.call ⟨.value (.func f),az,ts⟩,ty,pos,af,g⟩ env H J= ∃z H',o8 P f (az.toList.map (ev env)) H (fun x H''=>x=z/\H''=H')/\bf0 (J z H'):=by simp only[al0,ac6,bi7];congr;funext z;congr;funext H';rw[show ev env (.func f)=.fn (.func f) [] [] from rfl,d68]
theorem eB1{az:Array Operand}{ts:Array TypeId}:al0 P L mu ⟨d,.call ⟨.builtin .len,az,ts⟩,ty,pos,af,g⟩ env H J=ah3 (mu.contains (d.getD 0)) L .len (az.toList.map (ev env)) ts.toList H J:=rfl
theorem eB0{az:Array Operand}{ts:Array TypeId}:al0 P L mu ⟨d,.call ⟨.builtin .min,az,ts⟩,ty,pos,af,g⟩ env H J=ah3 (mu.contains (d.getD 0)) L .min (az.toList.map (ev env)) ts.toList H J:=rfl
theorem ei6{az:Array Operand}{ts:Array TypeId}:al0 P L mu ⟨d,.call ⟨.builtin .copy,az,ts⟩,ty,pos,af,g⟩ env H J=ah3 (mu.contains (d.getD 0)) L .copy (az.toList.map (ev env)) ts.toList H J:=rfl
theorem cQ2{az:Array Operand}{ts:Array TypeId}:al0 P L mu ⟨d,.call ⟨.builtin .unsafeSliceData,az,ts⟩,ty,pos,af,g⟩ env H J=ah3 (mu.contains (d.getD 0)) L .unsafeSliceData (az.toList.map (ev env)) ts.toList H J:=rfl
theorem dE4{az:Array Operand}{ts:Array TypeId}:al0 P L mu ⟨d,.call ⟨.builtin .unsafeString,az,ts⟩,ty,pos,af,g⟩ env H J=ah3 (mu.contains (d.getD 0)) L .unsafeString (az.toList.map (ev env)) ts.toList H J:=rfl
theorem dE6{x y:Operand}{t t':TypeId}:al0 P L mu ⟨d,.call ⟨.builtin .append,#[x,y],#[t,t']⟩,ty,pos,af,g⟩ env H J=(cq1 [ev env x]/\bz1 (mu.contains (d.getD 0)) L t t' (ev env x) (ev env y) H J):=by unfold al0;simp only[ac6,ah3];simp only[List.map];congr 1;unfold cq1;cases ev env x<;>rfl
section
variable {rid i:Nat}{z:AV}{H':List AObj}{hist:List (Nat×List AObj)}{rs:List (Nat×Oper×Env×AV)}{k:List (Nat×List AObj)->List (Nat×Oper×Env×AV)->Prop}
theorem ej3{x:Operand}:ai6 P L mu rid i ⟨d,.move x,ty,pos,af,g⟩ env H z H' hist rs k=k hist rs:=rfl
theorem dF2{x:Operand}:ai6 P L mu rid i ⟨d,.assign x,ty,pos,af,g⟩ env H z H' hist rs k=k hist rs:=rfl
theorem ej2{a b c:Operand}:ai6 P L mu rid i ⟨d,.pick a b c,ty,pos,af,g⟩ env H z H' hist rs k=k hist rs:=rfl
theorem ej1{op:UnOp}{t:TypeId}{x:Operand}:ai6 P L mu rid i ⟨d,.unOp op t x,ty,pos,af,g⟩ env H z H' hist rs k=k hist rs:=rfl
theorem dq0{x:Operand}{j:Nat}:ai6 P L mu rid i ⟨d,.extract x j,ty,pos,af,g⟩ env H z H' hist rs k=k hist rs:=rfl
theorem cR0{t:TypeId}{x y:Operand}:ai6 P L mu rid i ⟨d,.indexAddr t x y,ty,pos,af,g⟩ env H z H' hist rs k=k hist rs:=rfl
theorem dY5{t:TypeId}{x y:Operand}:ai6 P L mu rid i ⟨d,.index t x y,ty,pos,af,g⟩ env H z H' hist rs k=k hist rs:=rfl
theorem dY4{t:TypeId}{x:Operand}{lo hi mx:Option Operand}:ai6 P L mu rid i ⟨d,.slice t x lo hi mx,ty,pos,af,g⟩ env H z H' hist rs k=k hist rs:=rfl
theorem cR1{t:TypeId}{x:Operand}{f:Nat}:ai6 P L mu rid i ⟨d,.fieldAddr t x f,ty,pos,af,g⟩ env H z H' hist rs k=k hist rs:=rfl
theorem dY6{t:TypeId}{x:Operand}{f:Nat}:ai6 P L mu rid i ⟨d,.field t x f,ty,pos,af,g⟩ env H z H' hist rs k=k hist rs:=rfl
theorem dY8{t:TypeId}{ps:Array (Nat×Operand)}:ai6 P L mu rid i ⟨d,.build t ps,ty,pos,af,g⟩ env H z H' hist rs k=k hist rs:=rfl
theorem c69{x:Operand}:ai6 P L mu rid i ⟨d,.nilCheck x,ty,pos,af,g⟩ env H z H' hist rs k=k hist rs:=rfl
theorem dY2{t:TypeId}{x:Operand}:ai6 P L mu rid i ⟨d,.sliceToArrayPointer t x,ty,pos,af,g⟩ env H z H' hist rs k=k hist rs:=rfl
theorem eB6{az:Array Operand}{ts:Array TypeId}:ai6 P L mu rid i ⟨d,.call ⟨.builtin .len,az,ts⟩,ty,pos,af,g⟩ env H z H' hist rs k=k hist rs:=rfl
theorem eB5{az:Array Operand}{ts:Array TypeId}:ai6 P L mu rid i ⟨d,.call ⟨.builtin .min,az,ts⟩,ty,pos,af,g⟩ env H z H' hist rs k=k hist rs:=rfl
theorem dY3{t:TypeId}{a x:Operand}:ai6 P L mu rid i ⟨d,.store t a x,ty,pos,af,g⟩ env H z H' hist rs k=(as8 P L mu rid i H' rs/\k ((i,H)::hist) rs):=rfl
theorem dY9{t:TypeId}:ai6 P L mu rid i ⟨d,.alloc t,ty,pos,af,g⟩ env H z H' hist rs k=(as8 P L mu rid i H' rs/\k ((i,H)::hist) rs):=rfl
theorem dF3{az:Array Operand}{ts:Array TypeId}:ai6 P L mu rid i ⟨d,.call ⟨.builtin .append,az,ts⟩,ty,pos,af,g⟩ env H z H' hist rs k=(as8 P L mu rid i H' rs/\k ((i,H)::hist) rs):=rfl
theorem ej5{az:Array Operand}{ts:Array TypeId}:ai6 P L mu rid i ⟨d,.call ⟨.builtin .copy,az,ts⟩,ty,pos,af,g⟩ env H z H' hist rs k=(as8 P L mu rid i H' rs/\k ((i,H)::hist) rs):=rfl
theorem ej4{t:TypeId}{x:Operand}:ai6 P L mu rid i ⟨d,.load t x,ty,pos,af,g⟩ env H z H' hist rs k=(H'=H/\aF2 P L mu rid i ⟨d,.load t x,ty,pos,af,g⟩ env z hist/\k hist ((i,⟨d,.load t x,ty,pos,af,g⟩,env,z)::rs)):=rfl
theorem cG1{t:TypeId}{len:Nat}{ps:Array (Nat×Operand)}:ai6 P L mu rid i ⟨d,.buildSlice t len ps,ty,pos,af,g⟩ env H z H' hist rs k=if mu.contains (d.getD 0) then(as8 P L mu rid i H' rs/\k ((i,H)::hist) rs) else(H'=H/\aF2 P L mu rid i ⟨d,.buildSlice t len ps,ty,pos,af,g⟩ env z hist/\k hist ((i,⟨d,.buildSlice t len ps,ty,pos,af,g⟩,env,z)::rs)):=by unfold ai6 ai1 ay3;cases h:mu.contains (d.getD 0)<;>simp[h]
theorem dq1{s t:TypeId}{x:Operand}:ai6 P L mu rid i ⟨d,.convert s t x,ty,pos,af,g⟩ env H z H' hist rs k=if mu.contains (d.getD 0) then(as8 P L mu rid i H' rs/\k ((i,H)::hist) rs) else(H'=H/\aF2 P L mu rid i ⟨d,.convert s t x,ty,pos,af,g⟩ env z hist/\k hist ((i,⟨d,.convert s t x,ty,pos,af,g⟩,env,z)::rs)):=by unfold ai6 ai1 ay3;cases h:mu.contains (d.getD 0)<;>simp[h]
theorem dY7{f:Operand}{az:Array Operand}{ts:Array TypeId}:ai6 P L mu rid i ⟨d,.call ⟨.value f,az,ts⟩,ty,pos,af,g⟩ env H z H' hist rs k=if mu.contains (2000000+d.getD 0) then(H'=H/\aF2 P L mu rid i ⟨d,.call ⟨.value f,az,ts⟩,ty,pos,af,g⟩ env z hist/\k hist ((i,⟨d,.call ⟨.value f,az,ts⟩,ty,pos,af,g⟩,env,z)::rs)) else(as8 P L mu rid i H' rs/\k ((i,H)::hist) rs):=by unfold ai6 ai1 ay3;cases h:mu.contains (2000000+d.getD 0)<;>simp[h]
theorem cQ9{az:Array Operand}{ts:Array TypeId}:ai6 P L mu rid i ⟨d,.call ⟨.builtin .unsafeSliceData,az,ts⟩,ty,pos,af,g⟩ env H z H' hist rs k=(H'=H/\aF2 P L mu rid i ⟨d,.call ⟨.builtin .unsafeSliceData,az,ts⟩,ty,pos,af,g⟩ env z hist/\k hist ((i,⟨d,.call ⟨.builtin .unsafeSliceData,az,ts⟩,ty,pos,af,g⟩,env,z)::rs)):=rfl
theorem dF1{az:Array Operand}{ts:Array TypeId}:ai6 P L mu rid i ⟨d,.call ⟨.builtin .unsafeString,az,ts⟩,ty,pos,af,g⟩ env H z H' hist rs k=(H'=H/\aF2 P L mu rid i ⟨d,.call ⟨.builtin .unsafeString,az,ts⟩,ty,pos,af,g⟩ env z hist/\k hist ((i,⟨d,.call ⟨.builtin .unsafeString,az,ts⟩,ty,pos,af,g⟩,env,z)::rs)):=rfl
theorem ex4{j:Nat}:as8 P L mu rid j H' []=True:=rfl
theorem ef5{j:Nat}{o:Oper}{r:List (Nat×Oper×Env×AV)}:as8 P L mu rid j H' ((i,o,env,z)::r)=if mu.contains (1000000000000+(rid*1000+i)*1000+j) then ac6 P L mu o env H' (fun x H''=>x=z/\H''=H')/\as8 P L mu rid j H' r else as8 P L mu rid j H' r:=by rw[<-dd0];rfl
theorem ew3{o:Oper}:aF2 P L mu rid i o env z []=True:=rfl
theorem ee0{j:Nat}{o:Oper}{r:List (Nat×List AObj)}:aF2 P L mu rid i o env z ((j,H)::r)=if mu.contains (1000000000000+(rid*1000+i)*1000+j) then ac6 P L mu o env H (fun x H''=>x=z/\H''=H)/\aF2 P L mu rid i o env z r else aF2 P L mu rid i o env z r:=by rw[<-dd0];rfl
theorem eI7:as4 P L mu rid all i [] env H hist rs K=K env H:=rfl
theorem er0{op:Op}:as4 P L mu rid all i (⟨d,op,ty,pos,af,none⟩::rest) env H hist rs K=al0 P L mu ⟨d,op,ty,pos,af,none⟩ env H fun v H'=>ai6 P L mu rid i ⟨d,op,ty,pos,af,none⟩ env H v H' hist rs fun hist' rs'=>as4 P L mu rid all (i+1) rest (put d v env) H' hist' rs' K:=rfl
theorem d66{op:Op}{j:Nat}{b:Bool}:as4 P L mu rid all i (⟨d,op,ty,pos,af,some (j,b)⟩::rest) env H hist rs K=
  aB0 (at7 all env j) b (al0 P L mu ⟨d,op,ty,pos,af,some (j,b)⟩ (known1 all j b env) H fun v H'=>ai6 P L mu rid i ⟨d,op,ty,pos,af,some (j,b)⟩ (known1 all j b env) H v H' hist rs fun hist' rs'=>as4 P L mu rid all (i+1) rest (put d v (known1 all j b env)) H' hist' rs' K) (as4 P L mu rid all (i+1) rest (put d (.lit undef) (known1 all j (!b) env)) H hist rs K) (as4 P L mu rid all (i+1) rest (put d (.lit undef) env) H hist rs K):=rfl
end
end
theorem eQ7{m:Bool}{x:AV}{t:TypeId}:ah3 m L .len [x] [t] H J=lift (b53 L t x) J H:=rfl
theorem eQ8{m:Bool}{x:AV}{t:TypeId}:ah3 m L .cap [x] [t] H J=lift (cw9 L t x) J H:=rfl
theorem eQ5{m:Bool}{x y:AV}{t t':TypeId}:ah3 m L .min [x,y] [t,t'] H J=lift (aS5 false x y) J H:=rfl
theorem eQ6{m:Bool}{x y:AV}{t t':TypeId}:ah3 m L .max [x,y] [t,t'] H J=lift (aS5 true x y) J H:=rfl
theorem eK1{m:Bool}{x y:AV}{t t':TypeId}:ah3 m L .copy [x,y] [t,t'] H J=bE5 L t x y H J:=rfl
theorem c97{m:Bool}{x:AV}{t:TypeId}:ah3 m L .unsafeSliceData [x] [t] H J=lift (aU9 H x) J H:=rfl
theorem d82{m:Bool}{x y:AV}{t t':TypeId}:ah3 m L .unsafeString [.data x,y] [t,t'] H J=lift (bh3 L H t (.data x) y) J H:=rfl
theorem d84{m:Bool}{x y:AV}{t t':TypeId}:ah3 m L .append [x,y] [t,t'] H J=bz1 m L t t' x y H J:=rfl
theorem eQ9{m:Bool}{o:Own}{s:Nat}{xs:List AV}{y:AV}{t t':TypeId}:bz1 m L t t' (.sl o s xs) y H J=if m then a02 L t t' (.sl o s xs) y H J else bu5 L t t' (.sl o s xs) y H J:=rfl
theorem et7{m:Bool}{k n:Nat}{y:AV}{t t':TypeId}:bz1 m L t t' (.mrow k n) y H J=a01 L t t' (.mrow k n) y H J:=rfl
theorem eK8{m:Bool}{k off n c:Nat}{y:AV}{t t':TypeId}:bz1 m L t t' (.msl k off n c) y H J=bm6 L t t' (.msl k off n c) y H J:=rfl
theorem eC4{t:Tmp}:aI2 (.tmp t)=false:=rfl
theorem eC8{k:IntKind}{i:Int}:aI2 (.const (.int k i))=false:=rfl
theorem eC5{s:ByteArray}:aI2 (.const (.string s))=false:=rfl
theorem eC6{a:Option Addr}:aI2 (.const (.pointer a))=false:=rfl
theorem eC7:aI2 (.const (.slice none 0 0))=true:=rfl
theorem eK0{x:AV}{t:TypeId}:bp4 L H .len [x] [t] D=ax9 (b53 L t x) D:=rfl
theorem em6{d:Tmp}{op:Op}{ty:TypeId}{pos:String}{af:Array Edge}{g:Option (Nat×Bool)}{b:Bool}:known1 (⟨some d,op,ty,pos,af,g⟩::rest) 0 b env=(d,.lit (.bool b))::env:=rfl
theorem em7{o:Oper}{j:Nat}{b:Bool}:known1 (o::rest) (j+1) b env=known1 rest j b env:=rfl
theorem dT5{d:Tmp}{v:AV}:put (some d) v env=(d,v)::env:=rfl
theorem dT6{v:AV}:put none v env=env:=rfl
theorem eI0{t:Tmp}:ev env (.tmp t)=get env t:=rfl
theorem d50{v:Value}:ev env (.const v)=aL4 v:=rfl
theorem dL6{g:Nat}:ev env (.global g)=aj0 g:=rfl
theorem eq1{f:FuncId}:ev env (.func f)=.fn (.func f) [] []:=rfl
theorem bi9{k t:Nat}{v:AV}:get ((k,v)::env) t=if k=t then v else get env t:=rfl
theorem dJ5{k t:Nat}{v:AV}:get ((k,v)::env) t=if k=t then v else get env t:=rfl
theorem df9{t:Nat}:get [] t=.any:=rfl
theorem of_int{k:IntKind}{i:Int}:aL4 (.int k i)=.lit (.int k i):=rfl
theorem of_bool{b:Bool}:aL4 (.bool b)=.lit (.bool b):=rfl
theorem eA8{a:List UInt8}:aL4 (.string ⟨a.toArray⟩)=.str a:=rfl
theorem of_nil:aL4 (.slice none 0 0)=.sl .full 0 []:=rfl
theorem eA9{a:Option Addr}:aL4 (.pointer a)=.lit (.pointer a):=rfl
theorem dE3:aL4 .nilIface=.lit .nilIface:=rfl
theorem dW8:aL4 .nilFunc=.lit .nilFunc:=rfl
theorem bh6{α:Type}{f:α->AV}{l:List α}(h: ∀x,(f x).scalar=true):ones (l.map f):=fun y hy=>by
 obtain⟨x,_,rfl⟩:=xq6.1 hy;exact h x
theorem cp7{l:List UInt8}:ones (l.map o7)=True:=eq_true (bh6 fun _=>rfl)
theorem dr8{α:Type}{k:IntKind}{f:α->Int}{l:List α}:bH4 k (l.map fun x=>.lit (.int k (f x)))=True:=eq_true (by unfold bH4;simp[intOf])
theorem cU3{l:List UInt8}:bH4 .u8 (l.map o7)=True:=dr8
theorem ds4{l:List UInt8}:(l.map o7).map intOf=l.map fun b=>(b.toNat:Int):=by simp[intOf,o7]
theorem d24{l m:List UInt8}:(l.map (fun b=>(b.toNat:Int))=m.map fun b=>(b.toNat:Int))=(l=m):=by
 refine propext ⟨fun h=>?_,fun h=>by rw[h]⟩
 have h2:=congrArg (List.map fun z:Int=>UInt8.ofNat z.toNat) h
 have e:((fun z:Int=>UInt8.ofNat z.toNat)∘fun b:UInt8=>(b.toNat:Int))=id:=by
  funext b
  simp
 rwa [aW3,aW3,e,List.map_id,List.map_id] at h2
theorem cK1{zs:List AV}{n:Nat}:ah7 zs n=(List.range n).map fun i=>zs.getD (i%zs.length) .any:=rfl
theorem bt6{z:AV}{n:Nat}:ah7 [z] n=List.replicate n z:=by
 unfold ah7;refine aW4 fun i=>?_
 rw[ak8,b33];by_cases h:i < n
 ·rw[aI7 h,if_pos h]
  simp[Nat.mod_one]
 ·rw[av1 (by simpa using h),if_neg h]
  rfl
theorem flat_agg{cs:List AV}:(AV.agg cs).flat=cs:=rfl
theorem flat_lit{v:Value}:(AV.lit v).flat=[.lit v]:=rfl
theorem d42{l:List UInt8}:(AV.str l).flat=[.str l]:=rfl
theorem ep4{o:Own}{s:Nat}{xs:List AV}:(AV.sl o s xs).flat=[.sl o s xs]:=rfl
theorem ep5{k off:Nat}:(AV.mp k off).flat=[.mp k off]:=rfl
theorem dK9{k n:Nat}:(AV.mrow k n).flat=[.mrow k n]:=rfl
theorem ep6{f:Fn}{fs cs:List AV}:(AV.fn f fs cs).flat=[.fn f fs cs]:=rfl
theorem ei0{cs:List AV}:(AV.agg cs).okv=cs.all AV.scalar:=rfl
theorem eh9{v:Value}:(AV.lit v).okv=v.oneCell':=rfl
theorem eh8{l:List UInt8}:(AV.str l).okv=true:=rfl
theorem eA5{o:Own}{s:Nat}{xs:List AV}:(AV.sl o s xs).okv=true:=rfl
theorem eA6{k off:Nat}:(AV.mp k off).okv=true:=rfl
theorem dW7{k n:Nat}:(AV.mrow k n).okv=true:=rfl
theorem eA7{f:Fn}{fs cs:List AV}:(AV.fn f fs cs).okv=true:=rfl
def Done(H₀:List AObj)(R:AV->List AObj->Prop)(x:AV)(H:List AObj)[Tag R][Tag H₀]:Prop:=
 ∃y H',Ends H₀ x H y H'/\R y H'
def eG8(q:Option (Prop×List AV))(H₀:List AObj)(R:AV->List AObj->Prop)(H:List AObj)[Tag R][Tag H₀]:Prop:=
 match q with
 |some (p,xs)=>p/\Done H₀ R (aX0 xs) H
 |none=>False
theorem eG7{rs:List ResultVar}{H₀:List AObj}{R:AV->List AObj->Prop}:Fin L rs H₀ R env H=eG8 (aL0 L env H rs) H₀ R H:=rfl
theorem dL2{p:Prop}{xs:List AV}{H₀:List AObj}{R:AV->List AObj->Prop}:eG8 (some (p,xs)) H₀ R H=(p/\Done H₀ R (aX0 xs) H):=rfl
theorem ey7:aL0 L env H []=some (True,[]):=rfl
def cN1(q:Option (Prop×AV))(r:Option (Prop×List AV)):Option (Prop×List AV):=
 match q,r with
 |some (p,x),some (q,xs)=>some (p/\q,x::xs)
 |_,_=>none
theorem eg0{r:ResultVar}{rs:List ResultVar}:aL0 L env H (r::rs)=cN1 (bF6 L env H r) (aL0 L env H rs):=by
 unfold cN1;rw[aL0]<;>cases bF6 L env H r<;>cases aL0 L env H rs<;>rfl
theorem c60{p q:Prop}{x:AV}{xs:List AV}:cN1 (some (p,x)) (some (q,xs))=some (p/\q,x::xs):=rfl
theorem eM9{t:Tmp}:bF6 L env H (.tmp t)=some (True,get env t):=rfl
theorem ez0{a:Tmp}{t:TypeId}:bF6 L env H (.cell a t)=aY3 L H t (get env a):=rfl
theorem ey5{x:AV}:aX0 [x]=x:=rfl
theorem ey4{x y:AV}{r:List AV}:aX0 (x::y::r)=.tup (x::y::r):=rfl
theorem ey6:aX0 []=.tup []:=rfl
theorem dM3{H₀ H H':List AObj}{R:AV->List AObj->Prop}{x y:AV}(h:Ends H₀ x H y H')(hr:R y H'):Done H₀ R x H:=⟨y,H',h,hr⟩
theorem ae7{H₀:List AObj}{R:AV->List AObj->Prop}{x:AV}(y:AV)(hx:Le x y)(hl:H₀.length<=H.length)(hr:R y H):Done H₀ R x H:=⟨y,H,eq3 hx,hr⟩
theorem o9{H₀:List AObj}{R:AV->List AObj->Prop}{x:AV}(hr:R x H₀):Done H₀ R x H₀:=ae7 x (Le.refl x) (xq0 _) hr
theorem aa5{H₀ M:List AObj}{R:AV->List AObj->Prop}{x:AV}(y:AV)(hx:Le x y)(hl:Low H₀.length y)(hr:R y H₀):Done H₀ R x (H₀++M):=by
 refine⟨y,(H₀++M).take H₀.length,bx2 hx (xq0 _) hl fun k sh cs hk e=>.inl ?_,by rw[bf5];exact hr⟩
 rwa [xq4 hk] at e
theorem bx3{H₀ M:List AObj}{R:AV->List AObj->Prop}{x:AV}(y:AV)(f:Frz H₀.length (H₀++M) x y)(hr:R y H₀):Done H₀ R x (H₀++M):=by
 refine⟨y,(H₀++M).take H₀.length,d53 (Le.refl x) (xq0 _) f fun k sh cs hk e=>.inl ?_,by rw[bf5];exact hr⟩
 rwa [xq4 hk] at e
theorem aq4{H₀:List AObj}{o:AObj}{R:AV->List AObj->Prop}{x:AV}(hl:Low H₀.length x)(hr:R x H₀):Done H₀ R x (H₀++[o]):=aa5 x (Le.refl x) hl hr
attribute [irreducible] Done
end
def aK2(env env':Env):Prop:= ∀t,Le (get env t) (get env' t)
theorem dL9{env:Env}:aK2 env []:=fun t=>Le.any _
theorem dt8{env r:Env}{k:Nat}{v:AV}(h:Le (get env k) v)(hr:aK2 env r):aK2 env ((k,v)::r):=fun t=>by
 rw[bi9];split
 ·rename_i e;subst e;exact h
 ·exact hr t
theorem eO8{x y:AV}(h:x=y):Le x y:=h▸Le.refl x
theorem dt1{l:List UInt8}{i:Nat}(h:i < l.length):(l.map o7).getD i .any=.lit (.int .u8 (l.getD i 0).toNat):=by
 simp[List.getD,xq1 h,o7]
theorem d77(b:UInt8):IntKind.i64.wrap (b.toNat:Int)=(b.toNat:Int):=IntWalk.i64_in _ (by have:=b.toNat_lt;omega)
theorem d75(b:UInt8):IntKind.u32.wrap (b.toNat:Int)=(b.toNat:Int):=IntWalk.u32_in _ (by have:=b.toNat_lt;omega)
theorem d74(b:UInt8):IntKind.u64.wrap (b.toNat:Int)=(b.toNat:Int):=IntWalk.u64_in _ (by have:=b.toNat_lt;omega)
theorem cY8{P:Program}{k:Nat}{args:List AV}{H H₁:List AObj}{z:AV}{K:AV->List AObj->Prop}(h:a95 P k args H (fun x H'=>x=z/\H'=H₁))(kk:K z H₁):a95 P k args H K:=fun ro N G w vs l hi ha hl=>by
 obtain⟨fn,tmps,assign,body,h1,h2⟩:=h ro N G w vs l hi ha hl;refine⟨fn,tmps,assign,body,h1,h2.mono ?_⟩;rintro e w' ⟨v,x,G',H',h3,h4,h5,h6,rfl,rfl⟩
 exact⟨v,x,G',H',h3,h4,h5,h6,kk⟩
theorem o5{P:Program}{f:FuncId}{args:List AV}{H H₁:List AObj}{z:AV}{K:AV->List AObj->Prop}(h:o8 P f args H (fun x H'=>x=z/\H'=H₁))(k:K z H₁):o8 P f args H K:=
 h.mono fun _ _ ⟨e,e'⟩=>by subst e;subst e';exact k
theorem d00{a b:Nat}(h:a<=b):min a b=a:=bt9 h
theorem ao4{n:Nat}{k:Int}(h:0<=k):(n:Int).fdiv k=((n/k.toNat:Nat):Int):=by
 rw[Int.fdiv_eq_ediv_of_nonneg _ h,Int.natCast_ediv,Int.toNat_of_nonneg h]
theorem d46{a k:Int}(h:0<=k):a.fdiv k=a/k:=Int.fdiv_eq_ediv_of_nonneg _ h
theorem dR7{a k:Int}(h:0<=a):a.tdiv k=a/k:=Int.tdiv_eq_ediv_of_nonneg h
theorem dR6{a k:Int}(h:0<=a):a.tmod k=a%k:=Int.tmod_eq_emod_of_nonneg h
theorem bo5{k:Nat}{m:Nat}{a:Int}(h:0<=a)(h2:a < 2^k)(hm:m<=k):((BitVec.ofInt k a&&&BitVec.ofInt k (2^m - 1)).toNat:Int)=a%2^m:=by
 obtain⟨n,rfl⟩:=dj1 h;have hn:n < 2^k:=by exact_mod_cast h2
 have hp:(2:Int)^m - 1=((2^m - 1:Nat):Int):=by
  have h0:0 < 2^m:=Nat.two_pow_pos m;have h1:((2^m:Nat):Int)=(2:Int)^m:=by simp
  rw[<-h1];omega
 have hle:2^m<=2^k:=b08 (by decide) hm
 have h0:0 < 2^m:=Nat.two_pow_pos m;rw[hp,cj3,dj0,dj0,aC2,aC2,ar2 hn,ar2 (by omega),cj1]
 exact_mod_cast rfl
theorem u8_and(m:Nat){a:Int}(h:0<=a/\a < 256)(hm:m<=8):((BitVec.ofInt 8 a&&&BitVec.ofInt 8 (2^m - 1)).toNat:Int)=a%2^m:=bo5 h.1 h.2 hm
theorem u8_and15{a:Int}(h:0<=a/\a < 256):((BitVec.ofInt IntKind.u8.bits a&&&BitVec.ofInt IntKind.u8.bits 15).toNat:Int)=a%16:=u8_and 4 h (by decide)
theorem u8_and7{a:Int}(h:0<=a/\a < 256):((BitVec.ofInt IntKind.u8.bits a&&&BitVec.ofInt IntKind.u8.bits 7).toNat:Int)=a%8:=u8_and 3 h (by decide)
theorem ee4(a:Int):IntKind.u8.wrap a=a%256:=by
 simp[IntKind.wrap,IntKind.signed,IntKind.bits]
theorem er9(b:UInt8):((b.toNat:Int) < 256)=True:=eq_true (by have:=b.toNat_lt;omega)
theorem d76(b:UInt8):(b.toNat < 256)=True:=eq_true (by have:=b.toNat_lt;omega)
theorem es6(n:Nat):(0<=(n:Int))=True:=eq_true (by omega)
def bj2:List AV:=bv0.map aq0
def aU1:List AV:=aR9.map aq0
theorem cs8:bj2=(List.range 256).map fun c=>.lit (.int .u8 (Lib.firstT c)):=by
 unfold bj2 bv0;rw[aW3];rfl
theorem c89:bj2.length=256:=by rw[cs8];simp
theorem d43(b:UInt8):bj2.getD b.toNat .any=.lit (.int .u8 (Lib.firstT b.toNat)):=by
 have:=b.toNat_lt;rw[cs8,List.getD,ak8,aI7 (by omega)]
 rfl
theorem cZ5:aU1.length=32:=by unfold aU1;rw[List.length_map];decide
theorem dP2{i:Nat}(h:i < 16):(aU1.drop (i*2)).take 2=[.lit (.int .u8 (Lib.accLo i)),.lit (.int .u8 (Lib.accHi i))]:=by
 unfold aU1;match i,h with
 |0,_=>rfl
 |1,_=>rfl
 |2,_=>rfl
 |3,_=>rfl
 |4,_=>rfl
 |5,_=>rfl
 |6,_=>rfl
 |7,_=>rfl
 |8,_=>rfl
 |9,_=>rfl
 |10,_=>rfl
 |11,_=>rfl
 |12,_=>rfl
 |13,_=>rfl
 |14,_=>rfl
 |15,_=>rfl
 |_+16,h=>omega
theorem dt0{g:Nat}(h:aW5 g=bv0)(hi:bd7 g=none):aj0 g=.ip (.agg bj2):=by
 unfold aj0;rw[hi];simp only;rw[h,if_neg (by decide)]
 rfl
theorem c83{g:Nat}(h:aW5 g=aR9)(hi:bd7 g=none):aj0 g=.ip (.agg aU1):=by
 unfold aj0;rw[hi];simp only;rw[h,if_neg (by decide)]
 rfl
def bh5:List AV:=bu9.map aq0
theorem ds8{g:Nat}(h:aW5 g=bu9)(hi:bd7 g=none):aj0 g=.ip (.agg bh5):=by
 unfold aj0;rw[hi];simp only;rw[h,if_neg (by decide)]
 rfl
theorem ca5:bh5.length=20:=by unfold bh5;rw[List.length_map];decide
theorem dU1{i:Nat}(h:i < 20):bh5.getD i .any=.lit (.int .u64 ((10^i:Nat):Int)):=by
 unfold bh5 bu9;rw[aW3,List.getD,ak8,aI7 (by omega)]
 rfl
def bg9:List AV:=bg3.map aq0
def aJ7:List AV:=a03.map aq0
def bg8:List AV:=bg2.map aq0
theorem ds7{g:Nat}(h:aW5 g=bg3)(hi:bd7 g=none):aj0 g=.ip (.agg bg9):=by
 unfold aj0;rw[hi];simp only;rw[h,if_neg (by decide)]
 rfl
theorem c82{g:Nat}(h:aW5 g=a03)(hi:bd7 g=none):aj0 g=.ip (.agg aJ7):=by
 unfold aj0;rw[hi];simp only;rw[h,if_neg (by decide)]
 rfl
theorem ds6{g:Nat}(h:aW5 g=bg2)(hi:bd7 g=none):aj0 g=.ip (.agg bg8):=by
 unfold aj0;rw[hi];simp only;rw[h,if_neg (by decide)]
 rfl
def aV4(l:List Nat):List AV:=l.map fun n=>.lit (.int .u64 ((BitVec.ofNat 64 n).toNat:Int))
theorem d36{g:Nat}(h:aW5 g=cL6)(hi:bd7 g=none):aj0 g=.ip (.agg (aV4 cQ0)):=by
 unfold aj0;rw[hi];simp only;rw[h,if_neg (by decide)]
 rfl
theorem dJ3{g:Nat}(h:aW5 g=cv8)(hi:bd7 g=none):aj0 g=.ip (.agg (aV4 b58)):=by
 unfold aj0;rw[hi];simp only;rw[h,if_neg (by decide)]
 rfl
theorem ds9{g:Nat}(h:aW5 g=cd0)(hi:bd7 g=none):aj0 g=.ip (.agg (aV4 bv9)):=by
 unfold aj0;rw[hi];simp only;rw[h,if_neg (by decide)]
 rfl
theorem dJ2{g:Nat}(h:aW5 g=cv7)(hi:bd7 g=none):aj0 g=.ip (.agg (aV4 b44)):=by
 unfold aj0;rw[hi];simp only;rw[h,if_neg (by decide)]
 rfl
theorem c58:bg9.length=80:=by unfold bg9 bg3;rw[List.length_map,List.length_map];decide
theorem cY5:aJ7.length=8:=by unfold aJ7 a03;rw[List.length_map,List.length_map];decide
theorem c50:bg8.length=256:=by unfold bg8 bg2;rw[List.length_map,List.length_map,List.length_range]
theorem dT1{i:Nat}(h:i < 80):bg9.getD i .any=.lit (.int .u64 ((bm8.getD i 0:Nat):Int)):=by
 have:i < bm8.length:=h;unfold bg9 bg3;simp[List.getD,xq1 this,aq0]
theorem dN6{i:Nat}(h:i < 8):aJ7.getD i .any=.lit (.int .u64 ((bj7.getD i 0:Nat):Int)):=by
 have:i < bj7.length:=h;unfold aJ7 a03;simp[List.getD,xq1 this,aq0]
theorem dS3{i:Nat}(h:i < 256):bg8.getD i .any=.lit (.int .u8 ((bU5 i:Nat):Int)):=by
 unfold bg8 bg2;simp[List.getD,ak8,aI7 h,aq0]
attribute [irreducible] bj2 aU1 bh5 bg9 aJ7 bg8
theorem du0{l:List UInt8}{n:Nat}:(l.map o7).drop n=(l.drop n).map o7:=List.map_drop.symm
theorem dl6{l:List UInt8}{n:Nat}:(l.map o7).take n=(l.take n).map o7:=b07.symm
theorem take_len{α:Type}{l:List α}{n:Nat}(h:l.length<=n):l.take n=l:=al2 h
theorem dO1{l m:List UInt8}:l.map o7++m.map o7=(l++m).map o7:=b34.symm
theorem dr9{l:List UInt8}:isBytes (l.map o7)=True:=eq_true (cb8 l)
theorem cD7{l m:List AV}{i:Nat}(h:i < l.length):(l++m).getD i .any=l.getD i .any:=by
 simp[List.getD,xq4 h]
theorem aW1{H M:List AObj}:(H++M)[H.length]?=M[0]?:=by rw[xq7 (xq0 _),ap6]
theorem aE0{H M:List AObj}{k:Nat}:(H++M)[H.length+k]?=M[k]?:=by rw[xq7 (by omega),aM6]
theorem bn5{H M:List AObj}{o:AObj}:(H++M).set H.length o=H++M.set 0 o:=by rw[aD2 _ _ (xq0 _),ap6]
theorem bd5{H M:List AObj}{o:AObj}{k:Nat}:(H++M).set (H.length+k) o=H++M.set k o:=by rw[aD2 _ _ (by omega),aM6]
theorem eF5{H M:List AObj}{k:Nat}(h:k < H.length):(H++M)[k]?=H[k]?:=xq4 h
theorem aG7{o:Own}{s:Nat}{xs:List AV}:Le (.sl o s xs) (.sl .sh s xs):=fun _ _ _ _ h=>by
 cases h with
 |sl _ _ _ a len cap val hl hcap hs hc hr hf ha ho=>exact .sl .sh s xs a len cap val hl hcap hs hc hr (fun e=>by cases e) ha (fun k e=>by cases e)
theorem ae6{a b:Bool}(h:a=b):AV.lit (.bool a)=AV.lit (.bool b):=by rw[h]
theorem int_eq{k:IntKind}{a b:Int}(h:a=b):AV.lit (.int k a)=AV.lit (.int k b):=by rw[h]
def by2(m:Nat)(env:Env):Prop:= ∀t,Low m (get env t)
theorem ah0{m:Nat}:by2 m []:=fun t=>.any
theorem ag1{m:Nat}{r:Env}{k:Nat}{v:AV}(h:Low m v)(hr:by2 m r):by2 m ((k,v)::r):=fun t=>by
 rw[bi9];split
 ·exact h
 ·exact hr t
theorem bl8{m:Nat}{xs:List AV}{o:Own}{s:Nat}(h: ∀x∈xs,∃v,x=.lit v)(ho: ∀k,o=.tok k->k < m):Low m (.sl o s xs):=by
 refine .sl _ _ _ ho fun x hx=>?_
 unfold aa1 at hx;obtain⟨y,hy,hxy⟩:=bK7.1 hx;obtain⟨v,rfl⟩:=h y hy;simp only[AV.flat,cj0] at hxy;subst hxy;exact .lit _
theorem af5{m s:Nat}{l:List UInt8}:Low m (.sl .sh s (l.map o7)):=bl8 (fun x hx=>by
 obtain⟨b,_,rfl⟩:=xq6.1 hx;exact⟨_,rfl⟩) (fun k e=>by cases e)
theorem ah5{m s:Nat}{l:List Int}:Low m (.sl .sh s (l.map ey3)):=bl8 (fun x hx=>by
 obtain⟨b,_,rfl⟩:=xq6.1 hx;exact⟨_,rfl⟩) (fun k e=>by cases e)
def Shift(H₀:List AObj)(env:Env)(H:List AObj)(env':Env)(H':List AObj):Prop:=
 ∀G₀ w₀ G w (vs:Nat->Value),HInv G₀ H₀ w₀->HInv G H w->Step G₀ H₀ w₀ G H w->(∀t,Rel G H w (get env t) (vs t))-> ∃G',HInv G' H' w/\Step G₀ H₀ w₀ G' H' w/\ ∀t,Rel G' H' w (get env' t) (vs t)
theorem dS5{H₀ H:List AObj}{env env':Env}(h:aK2 env env'):Shift H₀ env H env' H:=fun _ _ G w vs _ hi hs r=>⟨G,hi,hs,fun t=>h t _ _ _ _ (r t)⟩
theorem dA3{H₀ M:List AObj}{env env':Env}(h:aK2 env env')(hl:by2 H₀.length env'):Shift H₀ env (H₀++M) env' H₀:=fun G₀ w₀ G w vs h0 hi hs r=>by
 have htk:(H₀++M).take H₀.length=H₀:=bf5;have hc:=hi.cut H₀.length fun k sh cs hk e y hy=>by
  rw[xq4 hk] at e;obtain⟨arr,T,fr,hb',hsz,hr',_⟩:=h0.cells k sh cs e;obtain⟨j,hj⟩:=au9.1 hy;have hja:j < arr.size:=aC3 (aa0 hj) hsz;exact(hr' j y _ hj (xq2 hja)).low
 have hs':=hs.cut (m:=H₀.length) (xq0 _);rw[htk] at hc hs';refine⟨G,hc,hs',fun t=>?_⟩
 have:=(h t _ _ _ _ (r t)).cut H₀.length (hl t);rwa [htk] at this
def bm5{α:Type}(I:α->Prop)(E:α->Env)(Hf:α->List AObj)(m:α->Nat)(x:α)(env:Env)(H:List AObj)[Tag I][Tag E][Tag Hf][Tag m]:Prop:= ∃y,m y < m x/\I y/\Shift (Hf x) env H (E y) (Hf y)
theorem again{α:Type}{I:α->Prop}{E:α->Env}{Hf:α->List AObj}{m:α->Nat}{x:α}{env:Env}{H:List AObj}(y:α)(hm:m y < m x)(hI:I y)(hH:H=Hf y)(hE:aK2 env (E y)):bm5 I E Hf m x env H:=⟨y,hm,hI,hH▸dS5 hE⟩
theorem a90{α:Type}{I:α->Prop}{E:α->Env}{H₀:List AObj}{m:α->Nat}{x:α}{env:Env}{M:List AObj}(y:α)(hm:m y < m x)(hI:I y)(hL:by2 H₀.length (E y))(hE:aK2 env (E y)):bm5 I E (fun _=>H₀) m x env (H₀++M):=
 ⟨y,hm,hI,dA3 hE hL⟩
theorem da2{α:Type}{I:α->Prop}{E:α->Env}{Hf:α->List AObj}{m:α->Nat}{x:α}{env:Env}{H:List AObj}(y:α)(hm:m y < m x)(hI:I y)(hS:Shift (Hf x) env H (E y) (Hf y)):bm5 I E Hf m x env H:=⟨y,hm,hI,hS⟩
attribute [irreducible] bm5
theorem Sat.le{n:Nat}{G:Gh}{env env':Env}{H:List AObj}{a:Act}{w:World}(s:Sat n ds G env H a w)(h:aK2 env env'):Sat n ds G env' H a w:=
 ⟨s.size,s.defers,fun t=>h t G H w _ (s.env t),s.inv⟩
theorem b38{P:Program}{L:Tab}(hL:ad9 P L)(hmx:P.follows .mixedOrders=true)(mu:List Nat){n:Nat}{c:Code}{Q:Exit->Env->List AObj->Prop}{env:Env}{H:List AObj}{α:Type}(I:α->Prop)(E:α->Env)(Hf:α->List AObj)(m:α->Nat)(hok:okC mu n c=true)
  (round: ∀x,I x->vcC P L mu n c (Ex (fun env H=>bm5 I E Hf m x env H) Q) (E x) (Hf x)) (x:α) (hx:I x) (hE:aK2 env (E x)) (hH:H=Hf x):AW P n (.loop c) Q env H:=by
 intro ro N ds G a w s;subst hH;refine cj5 (fun k a' w'=> ∃y G',m y=k/\I y/\Sat n ds G' (E y) (Hf y) a' w'/\Step G (Hf x) w G' (Hf y) w') (fun k a' w' ⟨y,G',hk,hy,s',stp⟩=>?_) (m x) a w ⟨x,G,rfl,hx,s.le hE,.refl _ _ _⟩
 refine wpIn_mono (ak7 hL hmx c hok (round y hy) ro N ds G' a' w' s') fun e a'' w'' ⟨G'',env'',H'',s'',stp',q⟩=>?_
 cases e with
 |normal=>
  unfold Ex bm5 at q;obtain⟨z,h1,h2,h3⟩:=q;obtain⟨G3,hi3,st3,hr3⟩:=h3 G' w' G'' w'' (fun t=>a''.tmps.getD t undef) s'.inv s''.inv stp' s''.env
  exact⟨m z,hk▸h1,z,G3,rfl,h2,⟨s''.size,s''.defers,hr3,hi3⟩,stp.trans st3⟩
 |_=>exact⟨G'',env'',H'',s'',stp.trans stp',q⟩
def kept(env:Env):List Nat->Env
 |[]=>[]
 |t::r=>(t,get env t)::kept env r
theorem d20{env:Env}:kept env []=[]:=rfl
theorem dH4{env:Env}{t:Nat}{r:List Nat}:kept env (t::r)=(t,get env t)::kept env r:=rfl
theorem aa8{P:Program}{L:Tab}(hL:ad9 P L)(hmx:P.follows .mixedOrders=true)(mu ks:List Nat){n:Nat}{c:Code}{Q:Exit->Env->List AObj->Prop}{env:Env}{H:List AObj}{α:Type}(I:α->Prop)(E:α->Env)(Hf:α->List AObj)(m:α->Nat)(hok:okC mu n c=true)
  (round: ∀x,I x->vcC P L mu n c (Ex (fun env' H=>bm5 I (fun y=>E y++kept env ks) Hf m x env' H) Q) (E x++kept env ks) (Hf x)) (x:α) (hx:I x) (hE:aK2 env (E x++kept env ks)) (hH:H=Hf x):AW P n (.loop c) Q env H:=
 b38 hL hmx mu I (fun y=>E y++kept env ks) Hf m hok round x hx hE hH
theorem bI7{P:Program}{n:Nat}{c:Code}{Q:Exit->Env->List AObj->Prop}{env:Env}{H:List AObj}(t s:Nat){z:Nat}{xs:List AV}(ht:get env t=.sl .full z xs)(hs:0 < s)(hz:xs≠[]->z=s)
  (h:AW P n c Q ((t,.sl (.tok H.length) s xs)::env) (H++[.grow s xs.length none])):AW P n c Q env H:=by
 intro ro N ds G a w sat;have r:=sat.env t;rw[ht] at r;generalize hv:a.tmps.getD t undef=v at r;have r0:=r;cases r with
 |sl _ _ _ ad len cap val hl hcap hs' hc hr hf ha ho=>
  obtain⟨hi,st,hr'⟩:=cR7 none sat.inv r0 hs hz (fun h=>absurd rfl h)
  refine wpIn_mono (h ro N ds _ a w ⟨sat.size,sat.defers,fun u=>?_,hi⟩) fun _ _ _ p=>p.trans st
  rw[bi9];split
  ·rename_i e
   subst e;rw[hv];exact hr'
  ·exact(sat.env u).mono st
theorem ao3{o:Own}{s t:Nat}:Le (.sl o s []) (.sl .sh t []):=fun _ _ _ _ h=>by
 cases h with
 |sl _ _ _ a len cap val hl hcap hs hc hr hf ha ho=>exact .sl .sh t [] a len cap val hl hcap (fun x hx=>by cases hx) hc hr (fun e=>by cases e) ha (fun k e=>by cases e)
theorem aM4{H₀ M:List AObj}{R:AV->List AObj->Prop}{x:AV}(hr:R x (H₀++M)):Done H₀ R x (H₀++M):=ae7 x (Le.refl x) (by simp) hr
def bZ9(m:Nat)(xs:List AV):Prop:= ∀x∈xs,Low m x
theorem ac4{m:Nat}:bZ9 m []:=fun x hx=>by cases hx
theorem aa3{m:Nat}{x:AV}{xs:List AV}(h:Low m x)(k:bZ9 m xs):bZ9 m (x::xs):=fun y hy=>by
 rcases xq8.1 hy with rfl|hy
 ·exact h
 ·exact k y hy
theorem ah9{m:Nat}{xs:List AV}(h:bZ9 m xs):Low m (.tup xs):=.tup _ h
theorem aB8{m:Nat}{xs:List AV}(h:bZ9 m xs):Low m (.agg xs):=.agg _ h
theorem af6{m s:Nat}{o:Own}(ho: ∀k,o=.tok k->k < m):Low m (.sl o s []):=.sl _ _ _ ho fun x hx=>by simp[aa1] at hx
inductive LeAll:List AV->List AV->Prop
 |nil:LeAll [] []
 |cons {x y:AV} {xs ys:List AV} (h:Le x y) (k:LeAll xs ys):LeAll (x::xs) (y::ys)
theorem LeAll.get{xs ys:List AV}(h:LeAll xs ys):xs.length=ys.length/\ ∀(j:Nat) y,ys[j]?=some y-> ∃x,xs[j]?=some x/\Le x y:=by
 induction h with
 |nil=>exact⟨rfl,fun j y e=>by simp at e⟩
 |cons h _ ih=>
  refine⟨by simp[ih.1],fun j y e=>?_⟩
  cases j with
  |zero=>simp at e;subst e;exact⟨_,rfl,h⟩
  |succ j=>simpa using ih.2 j y (by simpa using e)
theorem aL7{xs ys:List AV}(h:LeAll xs ys):Le (.tup xs) (.tup ys):=fun _ _ _ _ r=>by
 obtain⟨hl,hg⟩:=h.get;cases r with
 |tup _ arr hs hr=>
  refine .tup _ _ (hs.trans hl) fun j z v e e'=>?_
  obtain⟨x,hx,hle⟩:=hg j z e;exact hle _ _ _ _ (hr j x v hx e')
theorem cq6{xs ys:List AV}(h:LeAll xs ys):Le (.agg xs) (.agg ys):=fun _ _ _ _ r=>by
 obtain⟨hl,hg⟩:=h.get;cases r with
 |agg _ arr hs hr=>
  refine .agg _ _ (hs.trans hl) fun j z v e e'=>?_
  obtain⟨x,hx,hle⟩:=hg j z e;exact hle _ _ _ _ (hr j x v hx e')
theorem d58{H₀ M:List AObj}{R:AV->List AObj->Prop}{v:Value}(hr:R (.lit v) H₀):Done H₀ R (.lit v) (H₀++M):=aa5 _ (Le.refl _) (.lit _) hr
theorem dg7{H₀:List AObj}{R:AV->List AObj->Prop}{x:AV}(y:AV)(h:Le x y)(hr:R y H₀):Done H₀ R x H₀:=ae7 y h (xq0 _) hr
end V
end
section
namespace V
open Go
attribute [go_sem ↓] eI9
attribute [go_sem ↓] eP8
attribute [go_sem ↓] eJ4
attribute [go_sem ↓] er6
attribute [go_sem ↓] eJ2
attribute [go_sem ↓] eP9
attribute [go_sem ↓] d69
attribute [go_sem ↓] eJ3
attribute [go_sem ↓] eJ1
attribute [go_sem ↓] bX8
attribute [go_sem ↓] eq0
attribute [go_sem ↓] eH9
attribute [go_sem ↓] bX4
attribute [go_sem ↓] en8
attribute [go_sem ↓] eF2
attribute [go_sem ↓] eQ4
attribute [go_sem ↓] d83
attribute [go_sem ↓] eO2
attribute [go_sem ↓] eB4
attribute [go_sem ↓] ej0
attribute [go_sem ↓] eP7
attribute [go_sem ↓] eI5
attribute [go_sem ↓] eq7
attribute [go_sem ↓] eo3
attribute [go_sem ↓] eo4
attribute [go_sem ↓] em6
attribute [go_sem ↓] em7
attribute [go_sem ↓] eh5
attribute [go_sem ↓] dD4
attribute [go_sem ↓] eh4
attribute [go_sem ↓] eA3
attribute [go_sem ↓] eO0
attribute [go_sem ↓] eh7
attribute [go_sem ↓] dp4
attribute [go_sem ↓] cP7
attribute [go_sem ↓] dW0
attribute [go_sem ↓] eh6
attribute [go_sem ↓] dV9
attribute [go_sem ↓] cP8
attribute [go_sem ↓] dW1
attribute [go_sem ↓] dW4
attribute [go_sem ↓] cF9
attribute [go_sem ↓] eA2
attribute [go_sem ↓] cP9
attribute [go_sem ↓] dV8
attribute [go_sem ↓] dW2
attribute [go_sem ↓] dW3
attribute [go_sem ↓] ei8
attribute [go_sem ↓] ei7
attribute [go_sem ↓] eB2
attribute [go_sem ↓] cQ6
attribute [go_sem ↓] ei9
attribute [go_sem ↓] dX9
attribute [go_sem ↓] cQ7
attribute [go_sem ↓] dY0
attribute [go_sem ↓] dY1
attribute [go_sem ↓] d67
attribute [go_sem ↓] er1
attribute [go_sem ↓] dM7
attribute [go_sem ↓] eQ7
attribute [go_sem ↓] d84
attribute [go_sem ↓] eK0
attribute [go_sem ↓] dT5
attribute [go_sem ↓] dT6
attribute [go_sem ↓] eI0
attribute [go_sem ↓] d50
attribute [go_sem ↓] eq1
attribute [go_sem ↓] bi9
attribute [go_sem ↓] dG7
attribute [go_sem ↓] dG8
attribute [go_sem ↓] dr4
attribute [go_sem ↓] dL6
attribute [go_sem ↓] ei4
attribute [go_sem ↓] dE5
attribute [go_sem ↓] ei3
attribute [go_sem ↓] ei2
attribute [go_sem ↓] dp7
attribute [go_sem ↓] dp6
attribute [go_sem ↓] cQ3
attribute [go_sem ↓] dX2
attribute [go_sem ↓] ei5
attribute [go_sem ↓] dX1
attribute [go_sem ↓] cQ4
attribute [go_sem ↓] dX3
attribute [go_sem ↓] dX5
attribute [go_sem ↓] cG0
attribute [go_sem ↓] dX7
attribute [go_sem ↓] dX0
attribute [go_sem ↓] c68
attribute [go_sem ↓] dW9
attribute [go_sem ↓] dX6
attribute [go_sem ↓] dX4
attribute [go_sem ↓] eB1
attribute [go_sem ↓] eB0
attribute [go_sem ↓] ei6
attribute [go_sem ↓] dE6
attribute [go_sem ↓] ej3
attribute [go_sem ↓] dF2
attribute [go_sem ↓] ej2
attribute [go_sem ↓] ej1
attribute [go_sem ↓] dq0
attribute [go_sem ↓] cR0
attribute [go_sem ↓] dY5
attribute [go_sem ↓] dY4
attribute [go_sem ↓] cR1
attribute [go_sem ↓] dY6
attribute [go_sem ↓] dY8
attribute [go_sem ↓] c69
attribute [go_sem ↓] dY2
attribute [go_sem ↓] eB6
attribute [go_sem ↓] eB5
attribute [go_sem ↓] dY3
attribute [go_sem ↓] dY9
attribute [go_sem ↓] dF3
attribute [go_sem ↓] ej5
attribute [go_sem ↓] ej4
attribute [go_sem ↓] cG1
attribute [go_sem ↓] dq1
attribute [go_sem ↓] dY7
attribute [go_sem ↓] cQ2 dE4 cQ9 dF1 c97 d82
attribute [go_sem ↓] cP6
attribute [go_sem] aU9 bh3 bE4
attribute [go_sem ↓] ex4 ef5 ew3 ee0
attribute [go_sem ↓] c66 c67 dV7 dX8 dZ4 dZ3 eQ8 eQ5 eQ6 eK1 eQ9 et7 eK8
attribute [go_sem] eC4 eC8 eC5 eC6 eC7 eA9 dE3 dW8
attribute [go_sem] bv6 cZ3 cp7 cU3 ds4 d24 a02 a01 bm6 bE5 b78 cj8 cw8 aS5 cw9 ax2 cJ7 cq1 dl5 dE1 dE0 AObj.cells.injEq Shape.one.injEq
attribute [go_sem ↓] eI7
attribute [go_sem ↓] er0
attribute [go_sem ↓] d66
attribute [go_sem ↓] dH4
attribute [go_sem 100] d46
attribute [go_sem] dR7 dR6 u8_and15 u8_and7
attribute [go_sem] aO6 isConst
attribute [go_sem] aW1 aE0 bn5 bd5 eF5 d20 eG7 dL2 ey7 eg0 c60 eM9 ez0 ey5 ey4 ey6 dJ5 df9 of_int of_bool eA8 of_nil dx1 undef dx2 dk7
attribute [go_sem] dx0 decide_eq_true_eq decide_eq_false_iff_not Bool.not_eq_true' Bool.not_eq_false' Decidable.not_not Int.not_lt Int.not_le aL8 bq2 b52 cO1 qUn b53 cO2 bv8 do3 bV4 df3 cr2 bP2 ck9 b82 aN4
attribute [go_sem] bG0 aY3 dE2 bb8 aE8 bv7 aG5 evO aN5 bG1 cJ1 bG3 aO7 ak2 ay1 ag0 bh2 flat_agg flat_lit d42 ep4 ep5 dK9 ep6 ei0 eh9 eh8 eA5 eA6 dW7 eA7 AV.scalar Value.oneCell' TK.agg known a04
attribute [go_sem] dO1 bY2 Array.size_empty Option.some.injEq AObj.grow.injEq du0 dl6 take_len List.drop_drop List.length_drop List.length_take d00 ao4 List.getD_cons_zero List.getD_cons_succ
attribute [go_sem 100] cK1
attribute [go_sem] ca5 c58 cY5 c50 dT1 dN6 dS3
attribute [go_sem] List.set_cons_zero List.set_cons_succ Int.cast_ofNat_Int List.nil_append List.append_nil List.cons_append er9 d76 es6 c89 d43 cZ5 dr9 bD2 dt1 d77 d75 d74
attribute [go_sem] List.length_map List.length_append List.length_replicate List.append_assoc IntWalk.i64_in IntWalk.i32_in IntWalk.u8_in IntWalk.u32_in IntWalk.u64_in bu5 bs1 dk5 bG2 List.contains_nil List.contains_cons Option.getD_some Option.getD_none Bool.or_false Bool.false_or Bool.or_true Bool.true_or beq_self_eq_true bp8 bZ0
attribute [go_sem] Option.map_some Option.map_none Option.isSome_some Option.isSome_none List.map_cons List.map_nil List.toList_toArray List.getElem?_cons_zero List.getElem?_cons_succ List.all_cons List.all_nil Bool.and_self Bool.and_true Bool.true_and Bool.not_true Bool.not_false true_and and_true false_and and_false ne_eq not_true_eq_false not_false_eq_true if_true if_false
attribute [go_sem] Bool.false_eq_true forall_const eq_self decide_true decide_false true_implies implies_true false_implies ite_self Nat.zero_add Nat.mul_one List.drop_zero Int.toNat_natCast Int.toNat_zero Int.toNat_one List.length_cons List.length_nil List.range_succ List.range_zero
theorem vcI{p q a b:Prop}[Tag a][Tag b](h:p->a)(k:q->b):(p->bf0 a)/\(q->bf0 b):=⟨fun x=>o6 (h x),fun x=>o6 (k x)⟩
theorem ll1{α β:Type}{f:α->β}{l:List α}:(l.map f).length=l.length:=List.length_map f
theorem ll2{α:Type}{l m:List α}:(l++m).length=l.length+m.length:=List.length_append
theorem ll3{α:Type}{a:α}{l:List α}:(a::l).length=l.length+1:=rfl
theorem ll4{α:Type}:([]:List α).length=0:=rfl
theorem ll5{α:Type}{n:Nat}{a:α}:(List.replicate n a).length=n:=List.length_replicate
theorem ll6{α:Type}{n:Nat}{l:List α}:(l.drop n).length=l.length - n:=List.length_drop
theorem ll7{α:Type}{n:Nat}{l:List α}:(l.take n).length=min n l.length:=List.length_take
theorem ll8{α:Type}{n:Nat}{l:List α}{a:α}:(l.set n a).length=l.length:=List.length_set
theorem ll:(∀{α β:Type} {f:α->β} {l:List α},(l.map f).length=l.length)/\(∀{α:Type} {l m:List α},(l++m).length=l.length+m.length)/\(∀{α:Type} {a:α} {l:List α},(a::l).length=l.length+1)/\(∀{α:Type},([]:List α).length=0)/\(∀{α:Type} {n:Nat} {a:α},(List.replicate n a).length=n)/\(∀{α:Type} {n:Nat} {l:List α},(l.drop n).length=l.length - n)/\(∀{α:Type} {n:Nat} {l:List α},(l.take n).length=min n l.length)/\(∀{α:Type} {n:Nat} {l:List α} {a:α},(l.set n a).length=l.length):=⟨ll1,ll2,ll3,ll4,ll5,ll6,ll7,ll8⟩
theorem vcA{p q:Prop}(h:p)(k:q):p/\q:=⟨h,k⟩
theorem y9{a b:Env}(h:aK2 a b:=by repeat(first|exact dL9|(refine dt8 ?_ ?_;focus(first|exact Le.refl _|exact Le.any _|exact aG7|exact ao3|(refine aL7 ?_;repeat(first|exact LeAll.nil|(refine LeAll.cons ?_ ?_;focus(first|exact Le.refl _|exact Le.any _|exact aG7|exact ao3))))|(refine cq6 ?_;repeat(first|exact LeAll.nil|(refine LeAll.cons ?_ ?_;focus(first|exact Le.refl _|exact Le.any _|exact aG7|exact ao3))))|(refine eO8 ?_;simp -implicitDefEqProofs (disch:=omega) only[bi9,df9,if_true,if_false,↓reduceIte,Nat.reduceEqDiff,eq_self,IntWalk.i64_in,IntWalk.i32_in,IntWalk.u8_in,IntWalk.u32_in,IntWalk.u64_in,reduceCtorEq];try (first|rfl|(refine int_eq ?_;omega))))))):aK2 a b:=h
attribute [go_sem] Nat.reducePow Int.reducePow Nat.reduceDiv Nat.reduceBEq Nat.reduceEqDiff Nat.reduceLT Nat.reduceLeDiff Nat.reduceAdd Nat.reduceSub Nat.reduceMul Nat.reduceMod Int.reduceToNat Int.reduceNeg Int.reduceAdd Int.reduceSub Int.reduceMul Int.reduceDiv Int.reduceMod Int.reduceLT Int.reduceLE Int.reduceEq reduceCtorEq
attribute [go_sem ↓] reduceIte
end V
end
section
namespace V
open Go
def tbl:List LT:=[
 ao2,
 ⟨.one,1,8,[.lit .nilFunc]⟩,
 ⟨.int .i64,1,8,[.lit (.int .i64 0)]⟩,
 ⟨.int .i64,1,8,[.lit (.int .i64 0)]⟩,
 ⟨.bool,1,1,[.lit (.bool false)]⟩,
 ⟨.int .u8,1,1,[.lit (.int .u8 0)]⟩,
 ⟨.int .u8,1,1,[.lit (.int .u8 0)]⟩,
 ⟨.struct [(0,2),(1,3),(2,4),(3,6)],4,24,[.lit (.int .i64 0),.lit (.int .i64 0),.lit (.bool false),.lit (.int .u8 0)]⟩,
 ⟨.struct [(0,2),(1,3),(2,4),(3,6)],4,24,[.lit (.int .i64 0),.lit (.int .i64 0),.lit (.bool false),.lit (.int .u8 0)]⟩,
 ⟨.str,1,16,[.str []]⟩,
 ⟨.str,1,16,[.str []]⟩,
 ⟨.str,1,16,[.str []]⟩,
 ⟨.int .u64,1,8,[.lit (.int .u64 0)]⟩,
 ⟨.struct [(0,9),(1,12)],2,24,[.str [],.lit (.int .u64 0)]⟩,
 ⟨.struct [(0,9),(1,12)],2,24,[.str [],.lit (.int .u64 0)]⟩,
 ⟨.ptr 294,1,8,[.lit (.pointer none)]⟩,
 ⟨.ptr 297,1,8,[.lit (.pointer none)]⟩,
 ⟨.ptr 304,1,8,[.lit (.pointer none)]⟩,
 ⟨.struct [(0,17)],1,8,[.lit (.pointer none)]⟩,
 ⟨.struct [(0,17)],1,8,[.lit (.pointer none)]⟩,
 ⟨.iface,1,16,[.lit .nilIface]⟩,
 ⟨.int .i32,1,4,[.lit (.int .i32 0)]⟩,
 ⟨.slice 9,1,24,[.sl .full 0 []]⟩,
 ⟨.slice 25,1,24,[.sl .full 0 []]⟩,
 ⟨.struct [(0,3),(1,3),(2,9),(3,22),(4,23)],5,80,[.lit (.int .i64 0),.lit (.int .i64 0),.str [],.sl .full 0 [],.sl .full 0 []]⟩,
 ⟨.struct [(0,3),(1,3),(2,9),(3,22),(4,23)],5,80,[.lit (.int .i64 0),.lit (.int .i64 0),.str [],.sl .full 0 [],.sl .full 0 []]⟩,
 ⟨.struct [(0,9),(1,9),(2,9),(3,9),(4,4),(5,9),(6,25),(11,22),(12,22),(13,3),(14,3),(15,9),(16,25)],21,328,[.str [],.str [],.str [],.str [],.lit (.bool false),.str [],.lit (.int .i64 0),.lit (.int .i64 0),.str [],.sl .full 0 [],.sl .full 0 [],.sl .full 0 [],.sl .full 0 [],.lit (.int .i64 0),.lit (.int .i64 0),.str [],.lit (.int .i64 0),.lit (.int .i64 0),.str [],.sl .full 0 [],.sl .full 0 []]⟩,
 ⟨.struct [(0,9),(1,9),(2,9),(3,9),(4,4),(5,9),(6,25),(11,22),(12,22),(13,3),(14,3),(15,9),(16,25)],21,328,[.str [],.str [],.str [],.str [],.lit (.bool false),.str [],.lit (.int .i64 0),.lit (.int .i64 0),.str [],.sl .full 0 [],.sl .full 0 [],.sl .full 0 [],.sl .full 0 [],.lit (.int .i64 0),.lit (.int .i64 0),.str [],.lit (.int .i64 0),.lit (.int .i64 0),.str [],.sl .full 0 [],.sl .full 0 []]⟩,
 ⟨.arr 32 5,32,32,List.replicate 32 (.lit (.int .u8 0))⟩,
 ⟨.struct [(0,9),(1,9),(2,28)],34,64,[.str [],.str [],.lit (.int .u8 0),.lit (.int .u8 0),.lit (.int .u8 0),.lit (.int .u8 0),.lit (.int .u8 0),.lit (.int .u8 0),.lit (.int .u8 0),.lit (.int .u8 0),.lit (.int .u8 0),.lit (.int .u8 0),.lit (.int .u8 0),.lit (.int .u8 0),.lit (.int .u8 0),.lit (.int .u8 0),.lit (.int .u8 0),.lit (.int .u8 0),.lit (.int .u8 0),.lit (.int .u8 0),.lit (.int .u8 0),.lit (.int .u8 0),.lit (.int .u8 0),.lit (.int .u8 0),.lit (.int .u8 0),.lit (.int .u8 0),.lit (.int .u8 0),.lit (.int .u8 0),.lit (.int .u8 0),.lit (.int .u8 0),.lit (.int .u8 0),.lit (.int .u8 0),.lit (.int .u8 0),.lit (.int .u8 0)]⟩,
 ⟨.struct [(0,9),(1,9),(2,28)],34,64,[.str [],.str [],.lit (.int .u8 0),.lit (.int .u8 0),.lit (.int .u8 0),.lit (.int .u8 0),.lit (.int .u8 0),.lit (.int .u8 0),.lit (.int .u8 0),.lit (.int .u8 0),.lit (.int .u8 0),.lit (.int .u8 0),.lit (.int .u8 0),.lit (.int .u8 0),.lit (.int .u8 0),.lit (.int .u8 0),.lit (.int .u8 0),.lit (.int .u8 0),.lit (.int .u8 0),.lit (.int .u8 0),.lit (.int .u8 0),.lit (.int .u8 0),.lit (.int .u8 0),.lit (.int .u8 0),.lit (.int .u8 0),.lit (.int .u8 0),.lit (.int .u8 0),.lit (.int .u8 0),.lit (.int .u8 0),.lit (.int .u8 0),.lit (.int .u8 0),.lit (.int .u8 0),.lit (.int .u8 0),.lit (.int .u8 0)]⟩,
 ⟨.one,1,8,[.lit .nilFunc]⟩,
 ⟨.one,1,8,[.lit .nilFunc]⟩,
 ⟨.int .i64,1,8,[.lit (.int .i64 0)]⟩,
 ao2,
 ⟨.one,1,8,[.lit .nilFunc]⟩,
 ao2,
 ⟨.one,1,8,[.lit .nilFunc]⟩,
 ⟨.one,1,8,[.lit .nilFunc]⟩,
 ⟨.one,1,8,[.lit .nilFunc]⟩,
 ⟨.one,1,8,[.lit .nilFunc]⟩,
 ⟨.one,1,8,[.lit .nilFunc]⟩,
 ⟨.one,1,8,[.lit .nilFunc]⟩,
 ⟨.one,1,8,[.lit .nilFunc]⟩,
 ⟨.one,1,8,[.lit .nilFunc]⟩,
 ⟨.one,1,8,[.lit .nilFunc]⟩,
 ⟨.one,1,8,[.lit .nilFunc]⟩,
 ⟨.struct [(0,25)],5,80,[.lit (.int .i64 0),.lit (.int .i64 0),.str [],.sl .full 0 [],.sl .full 0 []]⟩,
 ⟨.struct [(0,25)],5,80,[.lit (.int .i64 0),.lit (.int .i64 0),.str [],.sl .full 0 [],.sl .full 0 []]⟩,
 ⟨.one,1,8,[.lit .nilFunc]⟩,
 ⟨.one,1,8,[.lit .nilFunc]⟩,
 ao2,
 ⟨.one,1,8,[.lit .nilFunc]⟩,
 ⟨.one,1,8,[.lit .nilFunc]⟩,
 ⟨.one,1,8,[.lit .nilFunc]⟩,
 ao2,
 ⟨.one,1,8,[.lit .nilFunc]⟩,
 ⟨.one,1,8,[.lit .nilFunc]⟩,
 ⟨.one,1,8,[.lit .nilFunc]⟩,
 ⟨.one,1,8,[.lit .nilFunc]⟩,
 ⟨.one,1,8,[.lit .nilFunc]⟩,
 ⟨.one,1,8,[.lit .nilFunc]⟩,
 ⟨.one,1,8,[.lit .nilFunc]⟩,
 ⟨.one,1,8,[.lit .nilFunc]⟩,
 ⟨.slice 5,1,24,[.sl .full 0 []]⟩,
 ⟨.struct [(0,28),(32,64)],33,56,[.lit (.int .u8 0),.lit (.int .u8 0),.lit (.int .u8 0),.lit (.int .u8 0),.lit (.int .u8 0),.lit (.int .u8 0),.lit (.int .u8 0),.lit (.int .u8 0),.lit (.int .u8 0),.lit (.int .u8 0),.lit (.int .u8 0),.lit (.int .u8 0),.lit (.int .u8 0),.lit (.int .u8 0),.lit (.int .u8 0),.lit (.int .u8 0),.lit (.int .u8 0),.lit (.int .u8 0),.lit (.int .u8 0),.lit (.int .u8 0),.lit (.int .u8 0),.lit (.int .u8 0),.lit (.int .u8 0),.lit (.int .u8 0),.lit (.int .u8 0),.lit (.int .u8 0),.lit (.int .u8 0),.lit (.int .u8 0),.lit (.int .u8 0),.lit (.int .u8 0),.lit (.int .u8 0),.lit (.int .u8 0),.sl .full 0 []]⟩,
 ⟨.struct [(0,28),(32,64)],33,56,[.lit (.int .u8 0),.lit (.int .u8 0),.lit (.int .u8 0),.lit (.int .u8 0),.lit (.int .u8 0),.lit (.int .u8 0),.lit (.int .u8 0),.lit (.int .u8 0),.lit (.int .u8 0),.lit (.int .u8 0),.lit (.int .u8 0),.lit (.int .u8 0),.lit (.int .u8 0),.lit (.int .u8 0),.lit (.int .u8 0),.lit (.int .u8 0),.lit (.int .u8 0),.lit (.int .u8 0),.lit (.int .u8 0),.lit (.int .u8 0),.lit (.int .u8 0),.lit (.int .u8 0),.lit (.int .u8 0),.lit (.int .u8 0),.lit (.int .u8 0),.lit (.int .u8 0),.lit (.int .u8 0),.lit (.int .u8 0),.lit (.int .u8 0),.lit (.int .u8 0),.lit (.int .u8 0),.lit (.int .u8 0),.sl .full 0 []]⟩,
 ⟨.one,1,8,[.lit .nilFunc]⟩,
 ⟨.one,1,8,[.lit .nilFunc]⟩,
 ao2,
 ⟨.one,1,8,[.lit .nilFunc]⟩,
 ⟨.one,1,8,[.lit .nilFunc]⟩,
 ⟨.one,1,8,[.lit .nilFunc]⟩,
 ⟨.one,1,8,[.lit .nilFunc]⟩,
 ⟨.slice 77,1,24,[.sl .full 0 []]⟩,
 ⟨.one,1,8,[.lit .nilFunc]⟩,
 ⟨.struct [(0,9),(1,25)],6,96,[.str [],.lit (.int .i64 0),.lit (.int .i64 0),.str [],.sl .full 0 [],.sl .full 0 []]⟩,
 ⟨.struct [(0,9),(1,25)],6,96,[.str [],.lit (.int .i64 0),.lit (.int .i64 0),.str [],.sl .full 0 [],.sl .full 0 []]⟩,
 ⟨.one,1,8,[.lit .nilFunc]⟩,
 ⟨.one,1,8,[.lit .nilFunc]⟩,
 ao2,
 ⟨.one,1,8,[.lit .nilFunc]⟩,
 ⟨.one,1,8,[.lit .nilFunc]⟩,
 ⟨.one,1,8,[.lit .nilFunc]⟩,
 ⟨.one,1,8,[.lit .nilFunc]⟩,
 ⟨.one,1,8,[.lit .nilFunc]⟩,
 ⟨.ptr 88,1,8,[.lit (.pointer none)]⟩,
 ⟨.struct [(0,25),(5,25),(10,64)],11,184,[.lit (.int .i64 0),.lit (.int .i64 0),.str [],.sl .full 0 [],.sl .full 0 [],.lit (.int .i64 0),.lit (.int .i64 0),.str [],.sl .full 0 [],.sl .full 0 [],.sl .full 0 []]⟩,
 ⟨.struct [(0,25),(5,25),(10,64)],11,184,[.lit (.int .i64 0),.lit (.int .i64 0),.str [],.sl .full 0 [],.sl .full 0 [],.lit (.int .i64 0),.lit (.int .i64 0),.str [],.sl .full 0 [],.sl .full 0 [],.sl .full 0 []]⟩,
 ao2,
 ⟨.one,1,8,[.lit .nilFunc]⟩,
 ⟨.one,1,8,[.lit .nilFunc]⟩,
 ⟨.one,1,8,[.lit .nilFunc]⟩,
 ⟨.one,1,8,[.lit .nilFunc]⟩,
 ⟨.arr 64 5,64,64,List.replicate 64 (.lit (.int .u8 0))⟩,
 ⟨.int .u64,1,8,[.lit (.int .u64 0)]⟩,
 ⟨.arr 5 95,5,40,[.lit (.int .u64 0),.lit (.int .u64 0),.lit (.int .u64 0),.lit (.int .u64 0),.lit (.int .u64 0)]⟩,
 ⟨.arr 5 95,5,40,[.lit (.int .u64 0),.lit (.int .u64 0),.lit (.int .u64 0),.lit (.int .u64 0),.lit (.int .u64 0)]⟩,
 ⟨.struct [(0,97),(5,97),(10,97)],15,120,List.replicate 15 (.lit (.int .u64 0))⟩,
 ⟨.struct [(0,97),(5,97),(10,97)],15,120,List.replicate 15 (.lit (.int .u64 0))⟩,
 ⟨.struct [(0,99),(15,97)],20,160,List.replicate 20 (.lit (.int .u64 0))⟩,
 ⟨.struct [(0,99),(15,97)],20,160,List.replicate 20 (.lit (.int .u64 0))⟩,
 ⟨.one,1,8,[.lit .nilFunc]⟩,
 ⟨.one,1,8,[.lit .nilFunc]⟩,
 ⟨.one,1,8,[.lit .nilFunc]⟩,
 ⟨.one,1,8,[.lit .nilFunc]⟩,
 ⟨.one,1,8,[.lit .nilFunc]⟩,
 ao2,
 ⟨.one,1,8,[.lit .nilFunc]⟩,
 ⟨.one,1,8,[.lit .nilFunc]⟩,
 ⟨.one,1,8,[.lit .nilFunc]⟩,
 ⟨.one,1,8,[.lit .nilFunc]⟩,
 ⟨.one,1,8,[.lit .nilFunc]⟩,
 ⟨.one,1,8,[.lit .nilFunc]⟩,
 ⟨.one,1,8,[.lit .nilFunc]⟩,
 ⟨.one,1,8,[.lit .nilFunc]⟩,
 ⟨.one,1,8,[.lit .nilFunc]⟩,
 ⟨.ptr 119,1,8,[.lit (.pointer none)]⟩,
 ⟨.struct [(0,117),(1,64)],2,32,[.lit (.pointer none),.sl .full 0 []]⟩,
 ⟨.struct [(0,117),(1,64)],2,32,[.lit (.pointer none),.sl .full 0 []]⟩,
 ⟨.struct [(0,119)],2,32,[.lit (.pointer none),.sl .full 0 []]⟩,
 ⟨.struct [(0,119)],2,32,[.lit (.pointer none),.sl .full 0 []]⟩,
 ⟨.one,1,8,[.lit .nilFunc]⟩,
 ⟨.one,1,8,[.lit .nilFunc]⟩,
 ⟨.one,1,8,[.lit .nilFunc]⟩,
 ⟨.one,1,8,[.lit .nilFunc]⟩,
 ⟨.one,1,8,[.lit .nilFunc]⟩,
 ⟨.one,1,8,[.lit .nilFunc]⟩,
 ⟨.str,1,16,[.str []]⟩,
 ⟨.one,1,8,[.lit .nilFunc]⟩,
 ⟨.one,1,8,[.lit .nilFunc]⟩,
 ⟨.one,1,8,[.lit .nilFunc]⟩,
 ⟨.one,1,8,[.lit .nilFunc]⟩,
 ⟨.one,1,8,[.lit .nilFunc]⟩,
 ⟨.one,1,8,[.lit .nilFunc]⟩,
 ⟨.one,1,8,[.lit .nilFunc]⟩,
 ⟨.one,1,8,[.lit .nilFunc]⟩,
 ⟨.slice 64,1,24,[.sl .full 0 []]⟩,
 ⟨.ptr 146,1,8,[.lit (.pointer none)]⟩,
 ⟨.arr 8 95,8,64,[.lit (.int .u64 0),.lit (.int .u64 0),.lit (.int .u64 0),.lit (.int .u64 0),.lit (.int .u64 0),.lit (.int .u64 0),.lit (.int .u64 0),.lit (.int .u64 0)]⟩,
 ⟨.arr 80 95,80,640,List.replicate 80 (.lit (.int .u64 0))⟩,
 ⟨.one,1,8,[.lit .nilFunc]⟩,
 ⟨.one,1,8,[.lit .nilFunc]⟩,
 ⟨.one,1,8,[.lit .nilFunc]⟩,
 ⟨.int .u64,1,8,[.lit (.int .u64 0)]⟩,
 ⟨.struct [(0,139),(8,3),(9,141),(10,143),(11,143),(12,143),(13,143)],14,112,[.lit (.int .u64 0),.lit (.int .u64 0),.lit (.int .u64 0),.lit (.int .u64 0),.lit (.int .u64 0),.lit (.int .u64 0),.lit (.int .u64 0),.lit (.int .u64 0),.lit (.int .i64 0),.lit .nilFunc,.lit .nilFunc,.lit .nilFunc,.lit .nilFunc,.lit .nilFunc]⟩,
 ⟨.struct [(0,139),(8,3),(9,141),(10,143),(11,143),(12,143),(13,143)],14,112,[.lit (.int .u64 0),.lit (.int .u64 0),.lit (.int .u64 0),.lit (.int .u64 0),.lit (.int .u64 0),.lit (.int .u64 0),.lit (.int .u64 0),.lit (.int .u64 0),.lit (.int .i64 0),.lit .nilFunc,.lit .nilFunc,.lit .nilFunc,.lit .nilFunc,.lit .nilFunc]⟩,
 ⟨.one,1,8,[.lit .nilFunc]⟩,
 ⟨.one,1,8,[.lit .nilFunc]⟩,
 ⟨.struct [(0,9),(1,3)],2,24,[.str [],.lit (.int .i64 0)]⟩,
 ⟨.struct [(0,9),(1,3)],2,24,[.str [],.lit (.int .i64 0)]⟩,
 ⟨.one,1,8,[.lit .nilFunc]⟩,
 ⟨.one,1,8,[.lit .nilFunc]⟩,
 ⟨.one,1,8,[.lit .nilFunc]⟩,
 ⟨.arr 256 5,256,256,List.replicate 256 (.lit (.int .u8 0))⟩,
 ⟨.struct [(0,5),(1,5)],2,2,[.lit (.int .u8 0),.lit (.int .u8 0)]⟩,
 ⟨.struct [(0,5),(1,5)],2,2,[.lit (.int .u8 0),.lit (.int .u8 0)]⟩,
 ⟨.arr 16 156,32,32,List.replicate 32 (.lit (.int .u8 0))⟩,
 ao2,
 ⟨.one,1,8,[.lit .nilFunc]⟩,
 ⟨.one,1,8,[.lit .nilFunc]⟩,
 ao2,
 ⟨.one,1,8,[.lit .nilFunc]⟩,
 ⟨.one,1,8,[.lit .nilFunc]⟩,
 ⟨.one,1,8,[.lit .nilFunc]⟩,
 ⟨.one,1,8,[.lit .nilFunc]⟩,
 ⟨.one,1,8,[.lit .nilFunc]⟩,
 ⟨.one,1,8,[.lit .nilFunc]⟩,
 ⟨.one,1,8,[.lit .nilFunc]⟩,
 ⟨.ptr 121,1,8,[.lit (.pointer none)]⟩,
 ⟨.iface,1,16,[.lit .nilIface]⟩,
 ⟨.iface,1,16,[.lit .nilIface]⟩,
 ao2,
 ⟨.one,1,8,[.lit .nilFunc]⟩,
 ⟨.one,1,8,[.lit .nilFunc]⟩,
 ⟨.one,1,8,[.lit .nilFunc]⟩,
 ⟨.one,1,8,[.lit .nilFunc]⟩,
 ⟨.ptr 5,1,8,[.lit (.pointer none)]⟩,
 ⟨.one,1,8,[.lit .nilFunc]⟩,
 ⟨.one,1,8,[.lit .nilFunc]⟩,
 ⟨.one,1,8,[.lit .nilFunc]⟩,
 ⟨.arr 3 5,3,3,[.lit (.int .u8 0),.lit (.int .u8 0),.lit (.int .u8 0)]⟩,
 ⟨.arr 4 95,4,32,[.lit (.int .u64 0),.lit (.int .u64 0),.lit (.int .u64 0),.lit (.int .u64 0)]⟩,
 ⟨.arr 4 95,4,32,[.lit (.int .u64 0),.lit (.int .u64 0),.lit (.int .u64 0),.lit (.int .u64 0)]⟩,
 ao2,
 ⟨.one,1,8,[.lit .nilFunc]⟩,
 ⟨.one,1,8,[.lit .nilFunc]⟩,
 ⟨.one,1,8,[.lit .nilFunc]⟩,
 ⟨.slice 101,1,24,[.sl .full 0 []]⟩,
 ⟨.one,1,8,[.lit .nilFunc]⟩,
 ⟨.one,1,8,[.lit .nilFunc]⟩,
 ⟨.one,1,8,[.lit .nilFunc]⟩,
 ⟨.one,1,8,[.lit .nilFunc]⟩,
 ⟨.struct [(0,95),(1,95)],2,16,[.lit (.int .u64 0),.lit (.int .u64 0)]⟩,
 ⟨.struct [(0,95),(1,95)],2,16,[.lit (.int .u64 0),.lit (.int .u64 0)]⟩,
 ⟨.arr 5 194,10,80,List.replicate 10 (.lit (.int .u64 0))⟩,
 ⟨.one,1,8,[.lit .nilFunc]⟩,
 ao2,
 ⟨.one,1,8,[.lit .nilFunc]⟩,
 ⟨.slice 3,1,24,[.sl .full 0 []]⟩,
 ⟨.one,1,8,[.lit .nilFunc]⟩,
 ⟨.one,1,8,[.lit .nilFunc]⟩,
 ⟨.one,1,8,[.lit .nilFunc]⟩,
 ⟨.one,1,8,[.lit .nilFunc]⟩,
 ⟨.arr 16 95,16,128,List.replicate 16 (.lit (.int .u64 0))⟩,
 ⟨.one,1,8,[.lit .nilFunc]⟩,
 ⟨.one,1,8,[.lit .nilFunc]⟩,
 ⟨.one,1,8,[.lit .nilFunc]⟩,
 ⟨.one,1,8,[.lit .nilFunc]⟩,
 ⟨.one,1,8,[.lit .nilFunc]⟩,
 ⟨.one,1,8,[.lit .nilFunc]⟩,
 ⟨.one,1,8,[.lit .nilFunc]⟩,
 ⟨.one,1,8,[.lit .nilFunc]⟩,
 ⟨.arr 8 95,8,64,[.lit (.int .u64 0),.lit (.int .u64 0),.lit (.int .u64 0),.lit (.int .u64 0),.lit (.int .u64 0),.lit (.int .u64 0),.lit (.int .u64 0),.lit (.int .u64 0)]⟩,
 ⟨.one,1,8,[.lit .nilFunc]⟩,
 ⟨.one,1,8,[.lit .nilFunc]⟩,
 ao2,
 ⟨.one,1,8,[.lit .nilFunc]⟩,
 ⟨.ptr 225,1,8,[.lit (.pointer none)]⟩,
 ⟨.int .u32,1,4,[.lit (.int .u32 0)]⟩,
 ⟨.one,1,8,[.lit .nilFunc]⟩,
 ⟨.one,1,8,[.lit .nilFunc]⟩,
 ⟨.one,1,8,[.lit .nilFunc]⟩,
 ⟨.arr 8 219,8,32,[.lit (.int .u32 0),.lit (.int .u32 0),.lit (.int .u32 0),.lit (.int .u32 0),.lit (.int .u32 0),.lit (.int .u32 0),.lit (.int .u32 0),.lit (.int .u32 0)]⟩,
 ⟨.struct [(0,223),(8,3),(9,220),(10,222),(11,222),(12,222),(13,222)],14,80,[.lit (.int .u32 0),.lit (.int .u32 0),.lit (.int .u32 0),.lit (.int .u32 0),.lit (.int .u32 0),.lit (.int .u32 0),.lit (.int .u32 0),.lit (.int .u32 0),.lit (.int .i64 0),.lit .nilFunc,.lit .nilFunc,.lit .nilFunc,.lit .nilFunc,.lit .nilFunc]⟩,
 ⟨.struct [(0,223),(8,3),(9,220),(10,222),(11,222),(12,222),(13,222)],14,80,[.lit (.int .u32 0),.lit (.int .u32 0),.lit (.int .u32 0),.lit (.int .u32 0),.lit (.int .u32 0),.lit (.int .u32 0),.lit (.int .u32 0),.lit (.int .u32 0),.lit (.int .i64 0),.lit .nilFunc,.lit .nilFunc,.lit .nilFunc,.lit .nilFunc,.lit .nilFunc]⟩,
 ⟨.slice 228,1,24,[.sl .full 0 []]⟩,
 ⟨.struct [(0,3),(1,3)],2,16,[.lit (.int .i64 0),.lit (.int .i64 0)]⟩,
 ⟨.struct [(0,3),(1,3)],2,16,[.lit (.int .i64 0),.lit (.int .i64 0)]⟩,
 ⟨.one,1,8,[.lit .nilFunc]⟩,
 ⟨.ptr 256,1,8,[.lit (.pointer none)]⟩,
 ⟨.one,1,8,[.lit .nilFunc]⟩,
 ⟨.slice 28,1,24,[.sl .full 0 []]⟩,
 ao2,
 ⟨.one,1,8,[.lit .nilFunc]⟩,
 ⟨.ptr 194,1,8,[.lit (.pointer none)]⟩,
 ⟨.slice 95,1,24,[.sl .full 0 []]⟩,
 ⟨.one,1,8,[.lit .nilFunc]⟩,
 ⟨.one,1,8,[.lit .nilFunc]⟩,
 ⟨.arr 256 4,256,256,List.replicate 256 (.lit (.bool false))⟩,
 ⟨.arr 256 4,256,256,List.replicate 256 (.lit (.bool false))⟩,
 ao2,
 ⟨.one,1,8,[.lit .nilFunc]⟩,
 ⟨.one,1,8,[.lit .nilFunc]⟩,
 ⟨.ptr 240,1,8,[.lit (.pointer none)]⟩,
 ao2,
 ⟨.one,1,8,[.lit .nilFunc]⟩,
 ⟨.one,1,8,[.lit .nilFunc]⟩,
 ⟨.arr 16 219,16,64,List.replicate 16 (.lit (.int .u32 0))⟩,
 ⟨.one,1,8,[.lit .nilFunc]⟩,
 ⟨.uptr,1,8,[.lit (.pointer none)]⟩,
 ⟨.one,1,8,[.lit .nilFunc]⟩,
 ⟨.one,1,8,[.lit .nilFunc]⟩,
 ⟨.slice 259,1,24,[.sl .full 0 []]⟩,
 ⟨.slice 262,1,24,[.sl .full 0 []]⟩,
 ⟨.struct [(0,253),(1,254),(2,3)],3,56,[.sl .full 0 [],.sl .full 0 [],.lit (.int .i64 0)]⟩,
 ⟨.struct [(0,253),(1,254),(2,3)],3,56,[.sl .full 0 [],.sl .full 0 [],.lit (.int .i64 0)]⟩,
 ⟨.int .u16,1,2,[.lit (.int .u16 0)]⟩,
 ⟨.struct [(0,257),(1,257),(2,257)],3,6,[.lit (.int .u16 0),.lit (.int .u16 0),.lit (.int .u16 0)]⟩,
 ⟨.struct [(0,257),(1,257),(2,257)],3,6,[.lit (.int .u16 0),.lit (.int .u16 0),.lit (.int .u16 0)]⟩,
 ⟨.one,1,8,[.lit .nilFunc]⟩,
 ⟨.struct [(0,219),(1,219),(2,219)],3,12,[.lit (.int .u32 0),.lit (.int .u32 0),.lit (.int .u32 0)]⟩,
 ⟨.struct [(0,219),(1,219),(2,219)],3,12,[.lit (.int .u32 0),.lit (.int .u32 0),.lit (.int .u32 0)]⟩,
 ⟨.one,1,8,[.lit .nilFunc]⟩,
 ⟨.one,1,8,[.lit .nilFunc]⟩,
 ao2,
 ⟨.one,1,8,[.lit .nilFunc]⟩,
 ⟨.one,1,8,[.lit .nilFunc]⟩,
 ⟨.one,1,8,[.lit .nilFunc]⟩,
 ao2,
 ⟨.one,1,8,[.lit .nilFunc]⟩,
 ⟨.one,1,8,[.lit .nilFunc]⟩,
 ao2,
 ⟨.one,1,8,[.lit .nilFunc]⟩,
 ⟨.one,1,8,[.lit .nilFunc]⟩,
 ⟨.one,1,8,[.lit .nilFunc]⟩,
 ⟨.arr 2 95,2,16,[.lit (.int .u64 0),.lit (.int .u64 0)]⟩,
 ⟨.slice 219,1,24,[.sl .full 0 []]⟩,
 ⟨.one,1,8,[.lit .nilFunc]⟩,
 ⟨.arr 24 5,24,24,List.replicate 24 (.lit (.int .u8 0))⟩,
 ⟨.one,1,8,[.lit .nilFunc]⟩,
 ⟨.one,1,8,[.lit .nilFunc]⟩,
 ao2,
 ⟨.one,1,8,[.lit .nilFunc]⟩,
 ⟨.ptr 259,1,8,[.lit (.pointer none)]⟩,
 ⟨.ptr 262,1,8,[.lit (.pointer none)]⟩,
 ⟨.one,1,8,[.lit .nilFunc]⟩,
 ⟨.one,1,8,[.lit .nilFunc]⟩,
 ⟨.arr 20 95,20,160,List.replicate 20 (.lit (.int .u64 0))⟩,
 ⟨.arr 65 5,65,65,List.replicate 65 (.lit (.int .u8 0))⟩,
 ⟨.one,1,8,[.lit .nilFunc]⟩,
 ⟨.one,1,8,[.lit .nilFunc]⟩,
 ⟨.one,1,8,[.lit .nilFunc]⟩,
 ⟨.struct [(0,17),(1,17),(2,17),(3,9)],4,40,[.lit (.pointer none),.lit (.pointer none),.lit (.pointer none),.str []]⟩,
 ⟨.struct [(0,17),(1,17),(2,17),(3,9)],4,40,[.lit (.pointer none),.lit (.pointer none),.lit (.pointer none),.str []]⟩,
 ⟨.arr 0 16,0,0,[]⟩,
 ⟨.struct [(0,295)],0,0,[]⟩,
 ⟨.struct [(0,295)],0,0,[]⟩,
 ⟨.int .u8,1,1,[.lit (.int .u8 0)]⟩,
 ⟨.int .u8,1,1,[.lit (.int .u8 0)]⟩,
 ⟨.one,1,8,[.lit .nilFunc]⟩,
 ⟨.int .i32,1,4,[.lit (.int .i32 0)]⟩,
 ⟨.int .i32,1,4,[.lit (.int .i32 0)]⟩,
 ⟨.struct [(0,12),(1,12),(2,219),(3,298),(4,5),(5,5),(6,299),(7,300),(8,177),(9,301),(10,302)],11,48,[.lit (.int .u64 0),.lit (.int .u64 0),.lit (.int .u32 0),.lit (.int .u8 0),.lit (.int .u8 0),.lit (.int .u8 0),.lit (.int .u8 0),.lit .nilFunc,.lit (.pointer none),.lit (.int .i32 0),.lit (.int .i32 0)]⟩,
 ⟨.struct [(0,12),(1,12),(2,219),(3,298),(4,5),(5,5),(6,299),(7,300),(8,177),(9,301),(10,302)],11,48,[.lit (.int .u64 0),.lit (.int .u64 0),.lit (.int .u32 0),.lit (.int .u8 0),.lit (.int .u8 0),.lit (.int .u8 0),.lit (.int .u8 0),.lit .nilFunc,.lit (.pointer none),.lit (.int .i32 0),.lit (.int .i32 0)]⟩]
def L:Tab:=dl8 tbl
set_option maxRecDepth 100000 in
theorem ab2:ad9 Tryz.prog L:=dS0 (by kernel_rfl)
theorem mixed:Tryz.prog.follows .mixedOrders=true:=by kernel_rfl
@[go_sem] theorem eU7:aj0 0=.ip (.agg aJ7):=c82 rfl rfl
@[go_sem] theorem eU6:aj0 1=.ip (.agg bg9):=ds7 rfl rfl
@[go_sem] theorem eU5:aj0 2=.ip (.agg bj2):=dt0 rfl rfl
@[go_sem] theorem eU4:aj0 3=.ip (.agg aU1):=c83 rfl rfl
@[go_sem] theorem eU3:aj0 4=.ip (.agg bg8):=ds6 rfl rfl
@[go_sem] theorem eU2:aj0 5=.ip (.agg (aV4 bv9)):=ds9 rfl rfl
@[go_sem] theorem eU1:aj0 6=.ip (.agg (aV4 cQ0)):=d36 rfl rfl
@[go_sem] theorem eU0:aj0 8=.ip (.agg (aV4 b58)):=dJ3 rfl rfl
@[go_sem] theorem eR8:aj0 10=.ip (.agg (aV4 b44)):=dJ2 rfl rfl
@[go_sem] theorem L_2:L 2=⟨.int .i64,1,8,[.lit (.int .i64 0)]⟩:=rfl
@[go_sem] theorem L_3:L 3=⟨.int .i64,1,8,[.lit (.int .i64 0)]⟩:=rfl
@[go_sem] theorem L_4:L 4=⟨.bool,1,1,[.lit (.bool false)]⟩:=rfl
@[go_sem] theorem L_5:L 5=⟨.int .u8,1,1,[.lit (.int .u8 0)]⟩:=rfl
@[go_sem] theorem L_9:L 9=⟨.str,1,16,[.str []]⟩:=rfl
@[go_sem] theorem e74:L 21=⟨.int .i32,1,4,[.lit (.int .i32 0)]⟩:=rfl
@[go_sem] theorem e73:L 22=⟨.slice 9,1,24,[.sl .full 0 []]⟩:=rfl
@[go_sem] theorem e72:L 23=⟨.slice 25,1,24,[.sl .full 0 []]⟩:=rfl
@[go_sem] theorem e71:L 25=⟨.struct [(0,3),(1,3),(2,9),(3,22),(4,23)],5,80,[.lit (.int .i64 0),.lit (.int .i64 0),.str [],.sl .full 0 [],.sl .full 0 []]⟩:=rfl
@[go_sem] theorem e70:L 27=⟨.struct [(0,9),(1,9),(2,9),(3,9),(4,4),(5,9),(6,25),(11,22),(12,22),(13,3),(14,3),(15,9),(16,25)],21,328,[.str [],.str [],.str [],.str [],.lit (.bool false),.str [],.lit (.int .i64 0),.lit (.int .i64 0),.str [],.sl .full 0 [],.sl .full 0 [],.sl .full 0 [],.sl .full 0 [],.lit (.int .i64 0),.lit (.int .i64 0),.str [],.lit (.int .i64 0),.lit (.int .i64 0),.str [],.sl .full 0 [],.sl .full 0 []]⟩:=rfl
@[go_sem] theorem e69:L 28=⟨.arr 32 5,32,32,List.replicate 32 (.lit (.int .u8 0))⟩:=rfl
@[go_sem] theorem e68:L 30=⟨.struct [(0,9),(1,9),(2,28)],34,64,[.str [],.str [],.lit (.int .u8 0),.lit (.int .u8 0),.lit (.int .u8 0),.lit (.int .u8 0),.lit (.int .u8 0),.lit (.int .u8 0),.lit (.int .u8 0),.lit (.int .u8 0),.lit (.int .u8 0),.lit (.int .u8 0),.lit (.int .u8 0),.lit (.int .u8 0),.lit (.int .u8 0),.lit (.int .u8 0),.lit (.int .u8 0),.lit (.int .u8 0),.lit (.int .u8 0),.lit (.int .u8 0),.lit (.int .u8 0),.lit (.int .u8 0),.lit (.int .u8 0),.lit (.int .u8 0),.lit (.int .u8 0),.lit (.int .u8 0),.lit (.int .u8 0),.lit (.int .u8 0),.lit (.int .u8 0),.lit (.int .u8 0),.lit (.int .u8 0),.lit (.int .u8 0),.lit (.int .u8 0),.lit (.int .u8 0)]⟩:=rfl
@[go_sem] theorem e67:L 48=⟨.struct [(0,25)],5,80,[.lit (.int .i64 0),.lit (.int .i64 0),.str [],.sl .full 0 [],.sl .full 0 []]⟩:=rfl
@[go_sem] theorem e66:L 54=⟨.one,1,8,[.lit .nilFunc]⟩:=rfl
@[go_sem] theorem e09:L 64=⟨.slice 5,1,24,[.sl .full 0 []]⟩:=rfl
@[go_sem] theorem e08:L 66=⟨.struct [(0,28),(32,64)],33,56,[.lit (.int .u8 0),.lit (.int .u8 0),.lit (.int .u8 0),.lit (.int .u8 0),.lit (.int .u8 0),.lit (.int .u8 0),.lit (.int .u8 0),.lit (.int .u8 0),.lit (.int .u8 0),.lit (.int .u8 0),.lit (.int .u8 0),.lit (.int .u8 0),.lit (.int .u8 0),.lit (.int .u8 0),.lit (.int .u8 0),.lit (.int .u8 0),.lit (.int .u8 0),.lit (.int .u8 0),.lit (.int .u8 0),.lit (.int .u8 0),.lit (.int .u8 0),.lit (.int .u8 0),.lit (.int .u8 0),.lit (.int .u8 0),.lit (.int .u8 0),.lit (.int .u8 0),.lit (.int .u8 0),.lit (.int .u8 0),.lit (.int .u8 0),.lit (.int .u8 0),.lit (.int .u8 0),.lit (.int .u8 0),.sl .full 0 []]⟩:=rfl
@[go_sem] theorem e07:L 74=⟨.slice 77,1,24,[.sl .full 0 []]⟩:=rfl
@[go_sem] theorem e06:L 77=⟨.struct [(0,9),(1,25)],6,96,[.str [],.lit (.int .i64 0),.lit (.int .i64 0),.str [],.sl .full 0 [],.sl .full 0 []]⟩:=rfl
@[go_sem] theorem e05:L 88=⟨.struct [(0,25),(5,25),(10,64)],11,184,[.lit (.int .i64 0),.lit (.int .i64 0),.str [],.sl .full 0 [],.sl .full 0 [],.lit (.int .i64 0),.lit (.int .i64 0),.str [],.sl .full 0 [],.sl .full 0 [],.sl .full 0 []]⟩:=rfl
@[go_sem] theorem e04:L 94=⟨.arr 64 5,64,64,List.replicate 64 (.lit (.int .u8 0))⟩:=rfl
@[go_sem] theorem e03:L 95=⟨.int .u64,1,8,[.lit (.int .u64 0)]⟩:=rfl
@[go_sem] theorem e02:L 96=⟨.arr 5 95,5,40,[.lit (.int .u64 0),.lit (.int .u64 0),.lit (.int .u64 0),.lit (.int .u64 0),.lit (.int .u64 0)]⟩:=rfl
@[go_sem] theorem e00:L 97=⟨.arr 5 95,5,40,[.lit (.int .u64 0),.lit (.int .u64 0),.lit (.int .u64 0),.lit (.int .u64 0),.lit (.int .u64 0)]⟩:=rfl
@[go_sem] theorem eZ9:L 99=⟨.struct [(0,97),(5,97),(10,97)],15,120,List.replicate 15 (.lit (.int .u64 0))⟩:=rfl
@[go_sem] theorem eZ8:L 101=⟨.struct [(0,99),(15,97)],20,160,List.replicate 20 (.lit (.int .u64 0))⟩:=rfl
@[go_sem] theorem eZ7:L 117=⟨.ptr 119,1,8,[.lit (.pointer none)]⟩:=rfl
@[go_sem] theorem eZ6:L 119=⟨.struct [(0,117),(1,64)],2,32,[.lit (.pointer none),.sl .full 0 []]⟩:=rfl
@[go_sem] theorem eZ5:L 121=⟨.struct [(0,119)],2,32,[.lit (.pointer none),.sl .full 0 []]⟩:=rfl
@[go_sem] theorem eZ4:L 128=⟨.str,1,16,[.str []]⟩:=rfl
@[go_sem] theorem eZ3:L 137=⟨.slice 64,1,24,[.sl .full 0 []]⟩:=rfl
@[go_sem] theorem eZ1:L 138=⟨.ptr 146,1,8,[.lit (.pointer none)]⟩:=rfl
@[go_sem] theorem eZ0:L 139=⟨.arr 8 95,8,64,[.lit (.int .u64 0),.lit (.int .u64 0),.lit (.int .u64 0),.lit (.int .u64 0),.lit (.int .u64 0),.lit (.int .u64 0),.lit (.int .u64 0),.lit (.int .u64 0)]⟩:=rfl
@[go_sem] theorem eY9:L 140=⟨.arr 80 95,80,640,List.replicate 80 (.lit (.int .u64 0))⟩:=rfl
@[go_sem] theorem eY8:L 141=⟨.one,1,8,[.lit .nilFunc]⟩:=rfl
@[go_sem] theorem eY7:L 143=⟨.one,1,8,[.lit .nilFunc]⟩:=rfl
@[go_sem] theorem eY6:L 144=⟨.int .u64,1,8,[.lit (.int .u64 0)]⟩:=rfl
@[go_sem] theorem eY5:L 146=⟨.struct [(0,139),(8,3),(9,141),(10,143),(11,143),(12,143),(13,143)],14,112,[.lit (.int .u64 0),.lit (.int .u64 0),.lit (.int .u64 0),.lit (.int .u64 0),.lit (.int .u64 0),.lit (.int .u64 0),.lit (.int .u64 0),.lit (.int .u64 0),.lit (.int .i64 0),.lit .nilFunc,.lit .nilFunc,.lit .nilFunc,.lit .nilFunc,.lit .nilFunc]⟩:=rfl
@[go_sem] theorem eY4:L 150=⟨.struct [(0,9),(1,3)],2,24,[.str [],.lit (.int .i64 0)]⟩:=rfl
@[go_sem] theorem eY3:L 154=⟨.arr 256 5,256,256,List.replicate 256 (.lit (.int .u8 0))⟩:=rfl
@[go_sem] theorem eY2:L 156=⟨.struct [(0,5),(1,5)],2,2,[.lit (.int .u8 0),.lit (.int .u8 0)]⟩:=rfl
@[go_sem] theorem eY1:L 157=⟨.arr 16 156,32,32,List.replicate 32 (.lit (.int .u8 0))⟩:=rfl
@[go_sem] theorem eY0:L 177=⟨.ptr 5,1,8,[.lit (.pointer none)]⟩:=rfl
@[go_sem] theorem eX9:L 181=⟨.arr 3 5,3,3,[.lit (.int .u8 0),.lit (.int .u8 0),.lit (.int .u8 0)]⟩:=rfl
@[go_sem] theorem eX8:L 182=⟨.arr 4 95,4,32,[.lit (.int .u64 0),.lit (.int .u64 0),.lit (.int .u64 0),.lit (.int .u64 0)]⟩:=rfl
@[go_sem] theorem eX7:L 183=⟨.arr 4 95,4,32,[.lit (.int .u64 0),.lit (.int .u64 0),.lit (.int .u64 0),.lit (.int .u64 0)]⟩:=rfl
@[go_sem] theorem eX6:L 188=⟨.slice 101,1,24,[.sl .full 0 []]⟩:=rfl
@[go_sem] theorem eX5:L 194=⟨.struct [(0,95),(1,95)],2,16,[.lit (.int .u64 0),.lit (.int .u64 0)]⟩:=rfl
@[go_sem] theorem eX4:L 195=⟨.arr 5 194,10,80,List.replicate 10 (.lit (.int .u64 0))⟩:=rfl
@[go_sem] theorem eX3:L 199=⟨.slice 3,1,24,[.sl .full 0 []]⟩:=rfl
@[go_sem] theorem eX2:L 204=⟨.arr 16 95,16,128,List.replicate 16 (.lit (.int .u64 0))⟩:=rfl
@[go_sem] theorem eX1:L 213=⟨.arr 8 95,8,64,[.lit (.int .u64 0),.lit (.int .u64 0),.lit (.int .u64 0),.lit (.int .u64 0),.lit (.int .u64 0),.lit (.int .u64 0),.lit (.int .u64 0),.lit (.int .u64 0)]⟩:=rfl
@[go_sem] theorem eX0:L 218=⟨.ptr 225,1,8,[.lit (.pointer none)]⟩:=rfl
@[go_sem] theorem eW9:L 219=⟨.int .u32,1,4,[.lit (.int .u32 0)]⟩:=rfl
@[go_sem] theorem eW8:L 220=⟨.one,1,8,[.lit .nilFunc]⟩:=rfl
@[go_sem] theorem eW7:L 222=⟨.one,1,8,[.lit .nilFunc]⟩:=rfl
@[go_sem] theorem eW6:L 223=⟨.arr 8 219,8,32,[.lit (.int .u32 0),.lit (.int .u32 0),.lit (.int .u32 0),.lit (.int .u32 0),.lit (.int .u32 0),.lit (.int .u32 0),.lit (.int .u32 0),.lit (.int .u32 0)]⟩:=rfl
@[go_sem] theorem eW5:L 225=⟨.struct [(0,223),(8,3),(9,220),(10,222),(11,222),(12,222),(13,222)],14,80,[.lit (.int .u32 0),.lit (.int .u32 0),.lit (.int .u32 0),.lit (.int .u32 0),.lit (.int .u32 0),.lit (.int .u32 0),.lit (.int .u32 0),.lit (.int .u32 0),.lit (.int .i64 0),.lit .nilFunc,.lit .nilFunc,.lit .nilFunc,.lit .nilFunc,.lit .nilFunc]⟩:=rfl
@[go_sem] theorem eW4:L 232=⟨.slice 28,1,24,[.sl .full 0 []]⟩:=rfl
@[go_sem] theorem eW3:L 236=⟨.slice 95,1,24,[.sl .full 0 []]⟩:=rfl
@[go_sem] theorem eW2:L 240=⟨.arr 256 4,256,256,List.replicate 256 (.lit (.bool false))⟩:=rfl
@[go_sem] theorem eW1:L 248=⟨.arr 16 219,16,64,List.replicate 16 (.lit (.int .u32 0))⟩:=rfl
@[go_sem] theorem eW0:L 250=⟨.uptr,1,8,[.lit (.pointer none)]⟩:=rfl
@[go_sem] theorem eV9:L 276=⟨.arr 2 95,2,16,[.lit (.int .u64 0),.lit (.int .u64 0)]⟩:=rfl
@[go_sem] theorem eV8:L 277=⟨.slice 219,1,24,[.sl .full 0 []]⟩:=rfl
@[go_sem] theorem eV7:L 279=⟨.arr 24 5,24,24,List.replicate 24 (.lit (.int .u8 0))⟩:=rfl
@[go_sem] theorem eV6:L 288=⟨.arr 20 95,20,160,List.replicate 20 (.lit (.int .u64 0))⟩:=rfl
theorem y8(mu:List Nat)(rs:List ResultVar)(n:Nat){f:FuncId}{fn:Func}{c:Code}{args:List AV}{H:List AObj}{R:AV->List AObj->Prop}(hf:Tryz.prog.funcs[f]?=some fn)(h:vcC Tryz.prog L mu n c (bR8 L rs H R) (aL8 0 args) H)(hb:fn.body=some c:=by exact rfl)(hname:(fn.name== "runtime.NumGoroutine")=false:=by exact rfl)(hn:fn.ntmps=n:=by exact rfl)(hrs:fn.results.toList=rs:=by exact rfl)(hargs:args.length<=n:=by exact nlb rfl)(ho:okC mu n c=true:=by kernel_rfl):o8 Tryz.prog f args H R:=dP3 ab2 mixed mu hf hb hname hn hrs hargs ho h
end V
end
section
namespace V
open Go Go.ChangeShapes Go.WideShapes Go.RowKit
def G₀(W:World):Gh:={imm:=fun b _=>b < W.heap.size,blk:=fun _=>0,own:=fun _=>(none,0),lp:=fun _=>none}
def cJ8(W:World):Prop:=(∀g j v,(aW5 g)[j]?=some v->W.cell? ⟨g,j,none⟩=some v)/\(∀g t,bd7 g=some t-> ∃t v,W.cell? ⟨g,0,none⟩=some (.iface t v))/\ ∀g,d33 g=true-> ∃n,W.cell? ⟨g,0,none⟩=some (.int .i64 n)
theorem eT9{W:World}(h:cJ8 W):HInv (G₀ W) [] W:=by
 have lt: ∀g j v,W.cell? ⟨g,j,none⟩=some v->g < W.heap.size:=fun g j v this=>by
  rcases an9 g W.heap.size with hl|hl
  ·exact hl
  ·simp[World.cell?,bT5 hl] at this
 exact⟨fun b off h=>h,fun k sh cs e=>by simp at e,fun k s n t e=>by simp at e,fun k k' b e=>by simp[site] at e,⟨⟨fun g j v e=>⟨lt g j v (h.1 g j v e),h.1 g j v e⟩,
  fun g t e=>let ⟨u,v,hv⟩:=h.2.1 g t e;⟨lt g 0 _ hv,u,v,hv⟩,fun g e=>let ⟨n,hn⟩:=h.2.2 g e;⟨lt g 0 _ hn,n,hn⟩⟩,⟨fun k l e=>(by cases e),fun k k' l e=>(by cases e),fun k l r E e=>(by cases e)⟩⟩⟩
theorem dH2{P:Program}{f:FuncId}{fn:Func}{W:World}{xs:List AV}{args:Array Value}(hf:P.funcs[f]?=some fn)(hb:fn.body.isSome=true)(hn:(fn.name== "runtime.NumGoroutine")=false)(ht:cJ8 W)(hr:ay7 (G₀ W) [] W xs args)
  (hA:o8 P f xs [] (fun x H'=>x=.bool true/\H'=[])):Calls P f args W fun e W'=>e=.returned (.bool true)/\Below W.heap.size W W':=by
 refine((hA (G₀ W) W args (eT9 ht) hr).calls hf hb hn).mono ?_;rintro e w' ⟨v,rfl,x,G',H',hi,hs,hx,rfl,rfl⟩
 have:=ab7 hx;subst this;exact⟨rfl,hs.osEq,hs.tape,hs.output,hs.size,fun b hb=>hs.whole b fun off=>hb⟩
theorem cA1{P:Program}{f:FuncId}{fn:Func}{args:List AV}{H:List AObj}{R:AV->List AObj->Prop}(hf:P.funcs[f]?=some fn)(hb:fn.body.isSome=true)(hn:(fn.name== "runtime.NumGoroutine")=false)
  (h: ∀G w vs,HInv G H w->ay7 G H w args vs->Calls P f vs w fun e w'=> ∃v x,e=.returned v/\More w w'/\(∀G',HInv G' H w'->Step G H w G' H w'->Rel G' H w' x v)/\R x H):o8 P f args H R:=fun G w vs hi ha=>
 .inl ⟨fn,hf,hb,hn,(h G w vs hi ha).mono fun _ _ ⟨v,x,e,hm,hx,r⟩=>⟨v,e,x,_,H,hm.inv hi,hm.step hi,hx _ (hm.inv hi) (hm.step hi),r⟩⟩
section
variable {H:Type}{enc:TypeId×Value->H}{P:Program}{W W':World}
theorem trod_below(K:Kids P (· < P.types.size))(hsz: ∀{t e:TypeId},t < P.types.size->P.underlying t=some (.slice e)->0 < P.cellsOf e)(hb:Below W.heap.size W W'){sp:Nat->Bool}:
  ∀{ts:List TypeId} {vs:List Value} {ds:List (DataW H)} {ps:List MemPlace},(∀t∈ts,t < P.types.size)->DataW.TrodAll enc P W 0 (fun _=>true) true ts vs ds ps->(∀p∈ps,sp p.block=true)->DataW.TrodAll enc P W' 0 sp true ts vs ds ps
 |[],vs,ds,ps,_,h,_=>by
  obtain⟨rfl,rfl,rfl⟩:=trodAll_nil h;exact trodAll_mk0
 |t::ts,vs,ds,ps,hT,h,hs=>by
  obtain⟨v,vs1,d,ds1,a,b,rfl,rfl,rfl,⟨n,h1⟩,h2⟩:=trodAll_cons h;refine⟨a,b,⟨n,DataW.trod_stays K hsz (fun h=>by cases h) (hT t (au8 ..)) h1 (fun p hp=>hb.same (DataW.trod_lt n t _ _ h1 p hp)) fun p hp=>hs p (cI0 _ hp)⟩,?_,rfl⟩
  exact trod_below K hsz hb (fun t ht=>hT t (aA0 _ ht)) h2 fun p hp=>hs p (cH9 _ hp)
theorem d17(K:Kids P (· < P.types.size))(hsz: ∀{t e:TypeId},t < P.types.size->P.underlying t=some (.slice e)->0 < P.cellsOf e){f:Func}{s:ChangeSpec}{apart fresh handsOn again:Bool}{args:Array Value}{ds gs:List (DataW H)}{before:List MemPlace}
  (hT: ∀t∈f.params.toList,t < P.types.size) {tb:TypeId} (hres:f.resultTypes= #[tb]) (htb:P.underlying tb=some .bool) (hv:s.vars=[])
  (hspec: ∀ds:List (DataW H),ds.length=f.params.size->s.fn H ds={results:=[.lit (.bool true)],args:=ds})
  (hW:DataW.Whole enc P f.params.toList s.vars apart W args.toList ds gs before) (hb:Below W.heap.size W W'):s.post enc P f apart fresh handsOn again W args (.bool true) W':=by
 have hW':=hW;obtain⟨p,q,hA,hV,rfl,hfz,hnd⟩:=hW;rw[hv] at hV;obtain⟨rfl,rfl⟩:=trodVars_none hV;have hlen: ∀{ts:List TypeId} {vs:List Value} {ds:List (DataW H)} {ps:List MemPlace},DataW.TrodAll enc P W 0 (fun _=>true) true ts vs ds ps->ds.length=ts.length:=by
  intro ts;induction ts with
  |nil=>intro vs ds ps h;obtain⟨_,rfl,_⟩:=trodAll_nil h;rfl
  |cons t ts ih=>
   intro vs ds ps h;obtain⟨v,vs1,d,ds1,a,b,rfl,rfl,rfl,_,h2⟩:=trodAll_cons h;simp[ih h2]
 have hs:=hspec (ds++[]) (by rw[List.append_nil,hlen hA];simp)
 have hold: ∀p'∈p++[],(fun b=>decide (b < W.heap.size)) p'.block=true:=fun p' hp=>by simpa using hW'.lt p' hp
 have hres': ∀(b:Nat) (sp:Nat->Bool) (hd:Bool),DataW.TrodAll enc P W' b sp hd f.resultTypes.toList ((Value.bool true).resultList f.resultTypes.size) (s.fn H (ds++[])).results []:=fun b sp hd=>by
  rw[hs,hres];exact trodAll_mk1 (shut_bool htb true)
 have hargs: ∀sp:Nat->Bool,(∀p'∈p,sp p'.block=true)->DataW.TrodAll enc P W' 0 sp true f.params.toList args.toList (s.fn H (ds++[])).args p:=fun sp hsp=>by
  rw[hs,List.append_nil];exact trod_below K hsz hb hT hA hsp
 have hvars: ∀sp:Nat->Bool,DataW.TrodVars enc P W' sp s.vars (s.fn H (ds++[])).vars []:=fun sp=>by
  rw[hs,hv];rfl
 refine⟨ds,[],p++[],[],p,[],hW',hres' _ _ _,hargs _ (fun p' hp=>hold p' (cI0 _ hp)),hvars _,World.keptBut_mono (fun p' hp=>⟨hp,?_⟩) (hb.frame (· ∈p++[])),fun _=>?_⟩
 ·exact Or.inr (by simpa using hp)
 ·refine⟨fun j t r h1 h2=>?_,_,_,([]++p)++[],⟨[]++p,[],trodAll_append (hargs _ (fun _ _=>rfl)) (hres' _ _ _),hvars _,rfl,?_,?_⟩,?_⟩
  ·rw[hres] at h1 h2
   match j,h1,h2 with
   |0,h1,h2=>
    simp at h1
    have:r=.bool true:=by simpa [Value.resultList] using h2.symm
    subst h1;subst this;exact okWide_bool_mk htb true
   |j+1,h1,_=>simp at h1
  ·intro b off hp
   have hlt:b < W.heap.size:=hW'.lt (.cell b off) (by simpa using hp)
   rw[hb.frozen (p:=⟨b,off,none⟩) hlt];exact hfz b off (by simpa using hp)
  ·intro ha
   have:=hnd ha;simpa using this
  ·intro p' hp _
   simpa using hp
end
end V
end
section
namespace V
open Go Go.ChangeShapes Go.WideShapes Go.RowKit
theorem cs6{s:Nat}(hs:0 < s): ∀{xs:List AV},(∀x∈xs,x.flat.length=s)-> ∀{j:Nat} {y:AV},(aa1 xs)[j]?=some y-> ∃x,xs[j/s]?=some x/\x.flat[j%s]?=some y
 |[],_,j,y,h=>by simp[aa1] at h
 |x::xs,hx,j,y,h=>by
  rw[ap2] at h;have hl:=hx x (au8 ..);by_cases hj:j < s
  ·rw[xq4 (by omega)] at h
   rw[bK5 hj,ar2 hj];exact⟨x,rfl,h⟩
  ·rw[xq7 (by omega),hl] at h
   obtain⟨z,h1,h2⟩:=cs6 hs (fun x hx'=>hx x (aA0 _ hx')) h
   refine⟨z,?_,?_⟩
   ·rw[show j/s=(j - s)/s+1 by rw[<-Nat.sub_add_cancel (Nat.le_of_not_lt hj),Nat.add_div_right _ hs];simp]
    simpa using h1
   ·rw[show j%s=(j - s)%s by rw[<-Nat.sub_add_cancel (Nat.le_of_not_lt hj),Nat.add_mod_right];simp]
    exact h2
def bR5(w:World)(x:AV)(cs:List Value):Prop:=x.okv=true/\x.flat.length=cs.length/\ ∀(j:Nat) y c,x.flat[j]?=some y->cs[j]?=some c->Rel (G₀ w) [] w y c
theorem bv5{w:World}{x:AV}{c:Value}(hx:x.flat=[x])(ho:x.okv=true)(h:Rel (G₀ w) [] w x c):bR5 w x [c]:=by
 refine⟨ho,by rw[hx];rfl,fun j y d e e'=>?_⟩
 rw[hx] at e;cases j with
 |zero=>simp at e e';subst e;subst e';exact h
 |succ j=>simp at e
section
variable {H:Type}{enc:TypeId×Value->H}{P:Program}{w:World}
def aE2{α:Type}(enc:TypeId×Value->H)(P:Program)(w:World)(n:Nat)(t:TypeId)(f:α->AV)(p:α->Prop):Prop:=
 ∀(m:Nat) cs x,m<=n->DataW.trod enc P w 0 (fun _=>true) true m t cs=some x-> ∃v:α,p v/\bR5 w (f v) cs
theorem aE2.mono{α:Type}{n m:Nat}{t:TypeId}{f:α->AV}{p:α->Prop}(h:aE2 enc P w n t f p)(hm:m<=n):aE2 enc P w m t f p:=fun k cs x hk hx=>h k cs x (by omega) hx
theorem aE2.zero{α:Type}{t:TypeId}{f:α->AV}{p:α->Prop}:aE2 enc P w 0 t f p:=fun m cs x hm hx=>by
 obtain rfl:m=0:=by omega
 simp[DataW.trod] at hx
theorem aE2.imp{α β:Type}{n:Nat}{t:TypeId}{f:α->AV}{p:α->Prop}{g:β->AV}{q:β->Prop}(h:aE2 enc P w n t f p)(k: ∀v,p v-> ∃u,q u/\g u=f v):aE2 enc P w n t g q:=fun m cs x hm hx=>by
 obtain⟨v,hv,hr⟩:=h m cs x hm hx;obtain⟨u,hu,e⟩:=k v hv;exact⟨u,hu,e▸hr⟩
theorem dp3{t:TypeId}(n:Nat)(ht:P.underlying t=some .bool):aE2 enc P w n t (fun b:Bool=>.lit (.bool b)) (fun _=>True):=fun m cs x _ hx=>by
 obtain⟨b,rfl,_⟩:=DataW.trod_bool ht hx;exact⟨b,trivial,bv5 rfl rfl (.lit _)⟩
theorem bn2{t:TypeId}{k:IntKind}(n:Nat)(ht:P.underlying t=some (.int k)):aE2 enc P w n t (fun i:Int=>.lit (.int k i)) (fun i=>k.min<=i/\i<=k.max):=fun m cs x _ hx=>by
 obtain⟨i,rfl,_,hw⟩:=DataW.trod_int ht hx;refine⟨i,?_,bv5 rfl rfl (.lit _)⟩;simp only[Lit.wf,xq3,decide_eq_true_eq] at hw;exact hw
theorem ap9{t:TypeId}(n:Nat)(ht:P.underlying t=some .string):aE2 enc P w n t AV.str (fun l=>l.length<=9223372036854775807):=fun m cs x _ hx=>by
 obtain⟨s,rfl,_,hw⟩:=DataW.trod_string ht hx;refine⟨s.data.toList,?_,bv5 rfl rfl ?_⟩
 ·have:s.data.toList.length=s.size:=dj7
  show s.data.toList.length<=_
  rw[this];unfold maxLen at hw;omega
 ·have:s=⟨s.data.toList.toArray⟩:=by simp
  conv=>rhs;rw[this]
  exact .str _
theorem add_add(a:Addr)(i j:Nat):(a.add i).add j=a.add (i+j):=by
 unfold Addr.add;by_cases hi:i=0<;>by_cases hj:j=0<;>simp[hi,hj,aP8]
theorem bl6{α:Type}{t e:TypeId}{s n:Nat}{f:α->AV}{p:α->Prop}(ht:P.underlying t=some (.slice e))(hc:P.cellsOf e=s)(hs:0 < s)(h:aE2 enc P w n e f p):
  aE2 enc P w (n+1) t (fun l:List α=>.sl .sh s (l.map f)) (fun l=>l.length<=9223372036854775807/\ ∀v∈l,p v):=fun m cs x hm hx=>by
 rcases DataW.trod_slice ht hx with⟨rfl,_⟩|⟨a,len,cap,elems,rest,k,hk,rfl,_,hb,hl,hcap,hlen,hel,_,_⟩
 ·refine⟨[],⟨by simp,fun v hv=>by cases hv⟩,bv5 rfl rfl ?_⟩
  exact .sl .sh s [] none 0 0 (fun _=>undef) rfl (xq0 _) (fun x hx=>by cases hx) (fun j x e=>by simp[aa1] at e) (fun j x e=>by simp[aa1] at e) (fun e=>by cases e) (fun h=>absurd h (by omega)) (fun k e=>by cases e)
 ·subst hc
  have each: ∀i,i < len-> ∃v:α,p v/\ ∃cs',w.cells? 0 (a.add (i*P.cellsOf e)) (P.cellsOf e)=some cs'/\bR5 w (f v) cs':=fun i hi=>by
   have:=hel i hi;rw[xq1 (by omega),Option.bind_eq_some_iff] at this
   obtain⟨cs',h1,h2⟩:=this;obtain⟨v,hv,hr⟩:=h k cs' _ (by omega) h2
   exact⟨v,hv,cs',h1,hr⟩
  obtain⟨g,hg⟩: ∃g:Nat->Option α,∀i,i < len-> ∃v,g i=some v/\p v/\ ∃cs',w.cells? 0 (a.add (i*P.cellsOf e)) (P.cellsOf e)=some cs'/\bR5 w (f v) cs':=by
   refine⟨fun i=>if hi:i < len then some (Classical.choose (each i hi)) else none,fun i hi=>?_⟩
   simp only[dif_pos hi];exact⟨_,rfl,Classical.choose_spec (each i hi)⟩
  have hget: ∀(n:Nat),n<=len->((List.range n).filterMap g).length=n/\ ∀i,i < n->((List.range n).filterMap g)[i]?=g i:=by
   intro n;induction n with
   |zero=>intro _;exact⟨rfl,fun i hi=>absurd hi (by omega)⟩
   |succ n ih=>
    intro hn;obtain⟨h1,h2⟩:=ih (by omega)
    obtain⟨v,hv,_⟩:=hg n (by omega)
    rw[List.range_succ,List.filterMap_append];have e1:List.filterMap g [n]=[v]:=by simp[hv]
    rw[e1];refine⟨by simp[h1],fun i hi=>?_⟩
    by_cases hin:i < n
    ·rw[xq4 (by omega)];exact h2 i hin
    ·obtain rfl:i=n:=by omega
     rw[xq7 (by omega),h1,ap6,hv]
     rfl
  obtain⟨l,hll,hlg⟩: ∃l:List α,l.length=len/\ ∀i,i < len->l[i]?=g i:=⟨_,hget len (xq0 _)⟩;have hat: ∀i v,l[i]?=some v->i < len/\p v/\ ∃cs',w.cells? 0 (a.add (i*P.cellsOf e)) (P.cellsOf e)=some cs'/\bR5 w (f v) cs':=fun i v hv=>by
   have hi:i < len:=by have:=aa0 hv;omega
   rw[hlg i hi] at hv;obtain⟨v',h1,h2⟩:=hg i hi;rw[h1] at hv;cases hv
   exact⟨hi,h2⟩
  have huni: ∀y∈l.map f,y.flat.length=P.cellsOf e/\y.okv=true:=fun y hy=>by
   obtain⟨v,hv,rfl⟩:=xq6.1 hy;obtain⟨i,hi⟩:=List.getElem?_of_mem hv;obtain⟨_,_,cs',h1,h2,h3,_⟩:=hat i v hi;exact⟨by rw[h3];exact(World.cells?_some h1).2.1,h2⟩
  have hmax:len<=9223372036854775807:=by unfold maxLen at hcap;omega
  refine⟨l,⟨by rw[hll];exact hmax,fun v hv=>?_⟩,bv5 rfl rfl ?_⟩
  ·obtain⟨i,hi⟩:=List.getElem?_of_mem hv
   exact(hat i v hi).2.1
  ·by_cases h0:len=0
   ·have hnil:l=[]:=aR5 (by omega)
    rw[hnil];exact .sl .sh _ [] _ _ _ (fun _=>undef) (by simp[h0]) hl (fun x hx=>by cases hx) (fun j x e=>by simp[aa1] at e) (fun j x e=>by simp[aa1] at e) (fun e=>by cases e) (fun h=>absurd h (by omega)) (fun k e=>by cases e)
   ·have hcellat: ∀(j:Nat) y,(aa1 (l.map f))[j]?=some y-> ∃u,w.cell? (a.add j)=some u/\Rel (G₀ w) [] w y u:=fun j y hj=>by
     obtain⟨z,h1,h2⟩:=cs6 hs (fun y hy=>(huni y hy).1) hj
     rw[ak8,dj9] at h1;obtain⟨v,hv,rfl⟩:=h1;obtain⟨hi,_,cs',hc',_,hl',hr⟩:=hat _ v hv;obtain⟨_,hn',hcell⟩:=World.cells?_some hc';have hlt:j%P.cellsOf e < P.cellsOf e:=a96 _ hs;have:=hcell (j%P.cellsOf e) hlt;rw[xq1 (by omega)] at this
     refine⟨_,?_,hr _ _ _ h2 (xq1 (by omega))⟩
     rw[<-this,add_add,aZ1,bJ7]
    have hlen0:0 < (aa1 (l.map f)).length:=by
     rw[ai3 fun y hy=>(huni y hy).1,List.length_map,hll]
     exact Nat.mul_pos (by omega) hs
    obtain⟨u,hu,_⟩:=hcellat 0 _ (xq1 hlen0);obtain⟨b,off,rfl⟩: ∃b off,a=⟨b,off,none⟩:=by
     obtain⟨b,off,sp⟩:=a;cases sp with
     |none=>exact⟨b,off,rfl⟩
     |some k=>
      simp only[Addr.add,if_true,World.cell?] at hu;split at hu<;>simp at hu
    refine bz5 (by simp[hll]) hl huni fun j y hj=>?_
    obtain⟨u,hu,hr⟩:=hcellat j y hj;have hadd:(Addr.mk b off none).add j=⟨b,off+j,none⟩:=by
     unfold Addr.add;split
     ·rename_i e;subst e;rfl
     ·rfl
    rw[hadd] at hu;refine⟨?_,u,hu,hr⟩;show b < w.heap.size
    rcases an9 b w.heap.size with hlt|hlt
    ·exact hlt
    ·simp[World.cell?,bT5 hlt] at hu
theorem b97{w:World}{x:AV}{v:Value}{xs:List AV}{vs:List Value}(h:Rel (G₀ w) [] w x v)(k:ay7 (G₀ w) [] w xs vs.toArray):ay7 (G₀ w) [] w (x::xs) (v::vs).toArray:=⟨by simpa using k.1,fun j y u e e'=>by
 cases j with
 |zero=>simp at e e';subst e;subst e';exact h
 |succ j=>exact k.2 j y u (by simpa using e) (by simpa using e')⟩
theorem dn8{w:World}:ay7 (G₀ w) [] w [] ([]:List Value).toArray:=⟨rfl,fun j y u e e'=>by simp at e⟩
theorem cm8{w:World}{xs:List AV}{cs:Array Value}(h:bR5 w (.agg xs) (Value.agg cs).cells.toList):Rel (G₀ w) [] w (.agg xs) (.agg cs):=
 .agg _ _ (by have:=h.2.1;simpa [AV.flat,Value.cells] using this.symm) fun j x v e e'=>h.2.2 j x v e (by simpa [Value.cells] using e')
end
theorem dV4{H:Type}{enc:TypeId×Value->H}{P:Program}{w:World}{t:TypeId}(n:Nat)(ht:P.underlying t=some (.int .u8)):aE2 enc P w n t o7 (fun _=>True):=
 (bn2 n ht).imp fun i hi=>by
  have h1:(0:Int)<=i:=hi.1;have h2:i<=255:=hi.2;refine⟨UInt8.ofNat i.toNat,trivial,?_⟩;have:(UInt8.ofNat i.toNat).toNat=i.toNat:=by simp;omega
  show AV.lit (.int .u8 ((UInt8.ofNat i.toNat).toNat:Int))=_
  rw[this,Int.toNat_of_nonneg h1]
end V
end
section
namespace V
open Go
inductive Frz1(H:List AObj)(k:Nat):AV->AV->Prop
 |keep (x:AV):Frz1 H k x x
 |any (x:AV):Frz1 H k x .any
 |row (len s:Nat) (sh:Shape) (cs xs:List AV) (ho:H[k]?=some (.cells sh cs)) (hx:xs.length=len) (hs: ∀x∈xs,x.flat.length=s/\x.okv=true) (hl:(aa1 xs).length<=cs.length)
   (h: ∀(j:Nat) c y,cs[j]?=some c->(aa1 xs)[j]?=some y->Frz1 H k c y):Frz1 H k (.mrow k len) (.sl .sh s xs)
 |msl (off len cap s:Nat) (sh:Shape) (cs xs:List AV) (ho:H[k]?=some (.cells sh cs)) (hx:xs.length=len) (hs: ∀x∈xs,x.flat.length=s/\x.okv=true) (hl:off+(aa1 xs).length<=cs.length)
   (h: ∀(j:Nat) c y,cs[off+j]?=some c->(aa1 xs)[j]?=some y->Frz1 H k c y):Frz1 H k (.msl k off len cap) (.sl .sh s xs)
 |mp (off:Nat) (sh:Shape) (cs:List AV) (x:AV) (ho:H[k]?=some (.cells sh cs)) (hl:off+x.flat.length<=cs.length)
   (h: ∀(j:Nat) c y,cs[off+j]?=some c->x.flat[j]?=some y->Frz1 H k c y):Frz1 H k (.mp k off) (.ip x)
 |agg (cs ds:List AV) (hl:ds.length=cs.length) (h: ∀(j:Nat) c d,cs[j]?=some c->ds[j]?=some d->Frz1 H k c d):Frz1 H k (.agg cs) (.agg ds)
 |tup (cs ds:List AV) (hl:ds.length=cs.length) (h: ∀(j:Nat) c d,cs[j]?=some c->ds[j]?=some d->Frz1 H k c d):Frz1 H k (.tup cs) (.tup ds)
 |ifc (t:TypeId) (x y:AV) (h:Frz1 H k x y):Frz1 H k (.ifc t x) (.ifc t y)
def cW5(G:Gh)(k:Nat):Gh:={G with imm:=fun b off=>G.imm b off\/b=G.blk k}
theorem b73{G:Gh}{H:List AObj}{w:World}(hi:HInv G H w){k:Nat}{sh:Shape}{cs:List AV}(hk:H[k]?=some (.cells sh cs)):HInv (cW5 G k) (H.set k .gone) w/\Step G H w (cW5 G k) (H.set k .gone) w:=by
 obtain⟨hi1,st1⟩:=cm5 hi hk;have st2:Step G (H.set k .gone) w (cW5 G k) (H.set k .gone) w:=⟨rfl,rfl,rfl,xq0 _,fun _ _ h=>.inl h,fun _ _ _=>rfl,fun _ _=>rfl,fun i=>by
  cases e:(H.set k AObj.gone)[i]? with
  |none=>exact bs7 e
  |some o=>
   cases o with
   |cells t c=>exact⟨⟨_,e,rfl⟩,rfl,rfl⟩
   |gone=>exact⟨e,rfl,rfl⟩
   |loop r E=>exact⟨e,rfl,rfl⟩
   |grow s n t=>exact⟨n,e,xq0 _,fun _=>rfl⟩⟩
 have hsk:site G H k=some (G.blk k):=bM5 hi hk;refine⟨⟨fun b off h=>?_,fun i sh1 c ei=>?_,fun i s n t ei=>?_,hi1.apart,hi1.tabs.step st2⟩,st1.trans st2⟩
 ·rcases h with h|h
  ·exact hi.lt b off h
  ·have h:b=G.blk k:=h
   rw[h];exact hi.site_lt hsk
 ·obtain⟨arr,T,fr,hb,hs,hr,hf1,hf2⟩:=hi1.cells i sh1 c ei
  refine⟨arr,T,fr,hb,hs,fun j x v ex ev=>(hr j x v ex ev).mono st2,fun off h=>?_,hf2⟩
  rcases h with h|h
  ·exact hf1 off h
  ·have h:G.blk i=G.blk k:=h
   rcases aq3 ei with⟨hik,ei'⟩|⟨_,ei',_⟩
   ·exact hik (hi.apart i k (G.blk k) (by simp[site,ei',h]) hsk)
   ·cases ei'
 ·rcases aq3 ei with⟨hik,ei'⟩|⟨_,ei',_⟩
  ·obtain⟨h0,h1,h2,h3⟩:=hi1.grow i s n t ei
   have hne: ∀b off,(G.own i).1=some ⟨b,off,none⟩->(n < (G.own i).2\/t.isSome=true/\0 < (G.own i).2)->b≠G.blk k:=fun b off ea hc e=>by
    refine hik (hi.apart i k (G.blk k) ?_ hsk);unfold site;rw[ei',show G.own i=(some ⟨b,off,none⟩,(G.own i).2) by rw[<-ea]]
    simp only;rw[if_pos hc,e]
   refine⟨h0,h1,fun hn=>?_,ap7 h3 rfl (xq0 _) (fun b arr e fr hb=>⟨arr,hb,rfl⟩) fun b off arr e fr hb ea hc ht hx _=>?_⟩
   ·obtain⟨b,off,arr,T,fr,ea,hb,hsz,hj⟩:=h2 hn
    refine⟨b,off,arr,T,fr,ea,hb,hsz,fun j h4 h5=>⟨?_,(hj j h4 h5).2⟩⟩
    rintro(h|h)
    ·exact(hj j h4 h5).1 h
    ·exact hne b off ea (.inl hn) h
   ·rcases hx with hx|hx
    ·exact hx
    ·exact absurd hx (hne b 0 ea (.inr ⟨ht,hc⟩))
  ·cases ei'
theorem cz1{G:Gh}{H:List AObj}{w:World}(hi:HInv G H w){k:Nat}{sh:Shape}{cs:List AV}(hk:H[k]?=some (.cells sh cs)){x y:AV}(f:Frz1 H k x y): ∀v,Rel G H w x v->Rel (cW5 G k) (H.set k .gone) w y v:=by
 obtain⟨_,st⟩:=b73 hi hk;have cell: ∀sh cs,H[k]?=some (.cells sh cs)-> ∃arr:Array Value,cs.length<=arr.size/\(∀(j:Nat) x v,cs[j]?=some x->arr[j]?=some v->Rel G H w x v)/\ ∀j,(cW5 G k).imm (G.blk k) j/\w.cell? ⟨G.blk k,j,none⟩=arr[j]?:=fun sh cs ho=>by
  obtain⟨arr,T,fr,hb,hsz,hr,_⟩:=hi.cells k sh cs ho;exact⟨arr,hsz,hr,fun j=>⟨.inr rfl,az5 hb⟩⟩
 induction f with
 |keep x=>intro v r;exact r.mono st
 |any x=>intro v r;exact .any v
 |row len s sh cs xs ho hx hs hl h ih=>
  intro v r;obtain⟨arr,hsz,hr,hc⟩:=cell _ cs ho;cases r with
  |mrow _ _ o h1 h2 hcap=>
   refine .sl .sh s xs _ _ _ (fun j=>(arr[j]?).getD undef) hx.symm hcap hs (fun j y e=>?_) (fun j y e=>?_) (fun e=>by cases e) (fun _=>rfl) (fun k e=>by cases e)
   ·have hj:=aa0 e
    have ha:arr[j]?=some (arr[j]'(by omega)):=xq2 _
    refine⟨G.blk k,0,rfl,?_,?_⟩
    ·rw[Nat.zero_add];exact(hc j).1
    ·rw[Nat.zero_add,(hc j).2,ha];rfl
   ·have hj:=aa0 e
    have ha:arr[j]?=some (arr[j]'(by omega)):=xq2 _
    have hcj:cs[j]?=some (cs[j]'(by omega)):=xq1 _
    have:=ih j _ y hcj e _ (hr j _ _ hcj ha);rw[ha];exact this
 |msl off len cap s sh cs xs ho hx hs hl h ih=>
  intro v r;obtain⟨arr,hsz,hr,hc⟩:=cell _ cs ho;cases r with
  |msl _ _ _ _ o h1 h2 hcap=>
   refine .sl .sh s xs _ _ _ (fun j=>(arr[off+j]?).getD undef) hx.symm hcap hs (fun j y e=>?_) (fun j y e=>?_) (fun e=>by cases e) (fun _=>rfl) (fun k e=>by cases e)
   ·have hj:=aa0 e
    have ha:arr[off+j]?=some (arr[off+j]'(by omega)):=xq2 _
    refine⟨G.blk k,off,rfl,(hc _).1,?_⟩;rw[(hc _).2,ha];rfl
   ·have hj:=aa0 e
    have ha:arr[off+j]?=some (arr[off+j]'(by omega)):=xq2 _
    have hcj:cs[off+j]?=some (cs[off+j]'(by omega)):=xq1 _
    have:=ih j _ y hcj e _ (hr _ _ _ hcj ha);rw[ha];exact this
 |mp off sh cs x ho hl h ih=>
  intro v r;obtain⟨arr,hsz,hr,hc⟩:=cell _ cs ho;cases r with
  |mp _ _ o h1 h2=>
   refine .ip x _ _ (fun j=>(arr[off+j]?).getD undef) (fun j y e=>?_) (fun j y e=>?_)
   ·have hj:=aa0 e
    have ha:arr[off+j]?=some (arr[off+j]'(by omega)):=xq2 _
    refine⟨(hc _).1,?_⟩;rw[(hc _).2,ha];rfl
   ·have hj:=aa0 e
    have ha:arr[off+j]?=some (arr[off+j]'(by omega)):=xq2 _
    have hcj:cs[off+j]?=some (cs[off+j]'(by omega)):=xq1 _
    have:=ih j _ y hcj e _ (hr _ _ _ hcj ha);rw[ha];exact this
 |agg cs ds hl h ih=>
  intro v r;cases r with
  |agg _ arr ha hr=>
   refine .agg ds arr (ha.trans hl.symm) fun j y u e e'=>?_
   have hj:=aa0 e;have hcj:cs[j]?=some (cs[j]'(by omega)):=xq1 _
   exact ih j _ y hcj e _ (hr j _ u hcj e')
 |tup cs ds hl h ih=>
  intro v r;cases r with
  |tup _ arr ha hr=>
   refine .tup ds arr (ha.trans hl.symm) fun j y u e e'=>?_
   have hj:=aa0 e;have hcj:cs[j]?=some (cs[j]'(by omega)):=xq1 _
   exact ih j _ y hcj e _ (hr j _ u hcj e')
 |ifc t x y h ih=>
  intro v r;cases r with
  |ifc _ _ u hr=>exact .ifc t y u (ih u hr)
theorem d54{H₀ H:List AObj}{x x' y:AV}{k:Nat}{sh:Shape}{cs:List AV}(hle:Le x x')(hk:H[k]?=some (.cells sh cs))(f:Frz1 H k x' y):Ends H₀ x H y (H.set k .gone):=fun G₀ w₀ G w v h0 hi hs r=>by
 obtain⟨hi',st⟩:=b73 hi hk;exact⟨_,hi',hs.trans st,cz1 hi hk f v (hle _ _ _ _ r)⟩
theorem eK6{P:Program}{n:Nat}{c:Code}{Q:Exit->Env->List AObj->Prop}{env env':Env}{H:List AObj}{k:Nat}{sh:Shape}{cs:List AV}(hk:H[k]?=some (.cells sh cs))(hf: ∀t,Frz1 H k (get env t) (get env' t))
  (h:AW P n c Q env' (H.set k .gone)):AW P n c Q env H:=fun ro N ds G a w s=>by
 obtain⟨hi',st⟩:=b73 s.inv hk;exact wpIn_mono (h ro N ds _ a w ⟨s.size,s.defers,fun t=>cz1 s.inv hk (hf t) _ (s.env t),hi'⟩) fun _ _ _ p=>p.trans st
theorem cw5{G:Gh}{H:List AObj}{w:World}(hi:HInv G H w){k:Nat}{sh:Shape}{cs:List AV}(hk:H[k]?=some (.cells sh cs)){cs':List AV}{sh':Shape}{arr:Array Value}{T:TypeId}{fr:Nat×Nat}
  (hb:w.heap[G.blk k]?=some (.cells arr T fr)) (hr:aR0 G H w cs' arr) (hsh:a08 G k sh' cs'.length T arr.size fr):
  HInv G (H.set k (.cells sh' cs')) w/\Step G H w G (H.set k (.cells sh' cs')) w:=by
 have hkl:=aa0 hk;obtain⟨arr0,T0,fr0,hb0,hs0,hr0,hf1,hf2,_⟩:=hi.cells k sh cs hk;rw[hb] at hb0;cases hb0
 have st:Step G H w G (H.set k (.cells sh' cs')) w:=by
  refine⟨rfl,rfl,rfl,xq0 _,fun _ _ h=>h,fun _ _ _=>rfl,fun _ _=>rfl,fun i=>?_⟩
  cases ei:H[i]? with
  |none=>exact bW2 ei
  |some o=>
   by_cases hik:i=k
   ·subst hik
    rw[hk] at ei;cases ei
    exact⟨⟨_,by simp[hkl];rfl,rfl⟩,rfl,rfl⟩
   ·have ea:(H.set k (.cells sh' cs'))[i]?=some o:=by rw[ar4 (fun h=>hik h.symm)];exact ei
    cases o with
    |cells t c=>exact⟨⟨_,ea,rfl⟩,rfl,rfl⟩
    |gone=>exact⟨ea,rfl,rfl⟩
    |loop r E=>exact⟨ea,rfl,rfl⟩
    |grow s n t=>exact⟨n,ea,xq0 _,fun _=>rfl⟩
 refine⟨⟨hi.lt,fun i sh1 c ei=>?_,fun i s n t ei=>?_,fun i j b e1 e2=>?_,hi.tabs.step st⟩,st⟩
 ·rcases aq3 ei with⟨hik,ei'⟩|⟨rfl,ei',_⟩
  ·obtain⟨arr1,T1,fr1,hb1,hs1,hr1,hg⟩:=hi.cells i sh1 c ei'
   exact⟨arr1,T1,fr1,hb1,hs1,fun j x v ex ev=>(hr1 j x v ex ev).mono st,hg⟩
  ·cases ei'
   exact⟨arr,T,fr,hb,hr.1,fun j x v ex ev=>(hr.2 j x v ex ev).mono st,hf1,hf2,hsh⟩
 ·rcases aq3 ei with⟨hik,ei'⟩|⟨_,ei',_⟩
  ·exact hi.grow i s n t ei'
  ·cases ei'
 ·have hs: ∀i b,site G (H.set k (.cells sh' cs')) i=some b->site G H i=some b:=fun i b e=>by
   unfold site at e⊢;cases ei:(H.set k (AObj.cells sh' cs'))[i]? with
   |none=>rw[ei] at e;cases e
   |some o=>
    rw[ei] at e;rcases aq3 ei with⟨_,ei'⟩|⟨rfl,ei',_⟩
    ·rw[ei'];exact e
    ·subst ei';rw[hk];exact e
  exact hi.apart i j b (hs i b e1) (hs j b e2)
theorem open_row{G:Gh}{H:List AObj}{w:World}(hi:HInv G H w){k n s:Nat}{cs:List AV}(hk:H[k]?=some (.cells (.prow s) cs))(hl:cs.length=n*s){v:Value}(r:Rel G H w (.mrow k n) v):
  ∃T cap,n<=cap/\HInv G (H.set k (.cells (.one T) (cs++List.replicate ((cap - n)*s) .any))) w/\Step G H w G (H.set k (.cells (.one T) (cs++List.replicate ((cap - n)*s) .any))) w/\Rel G (H.set k (.cells (.one T) (cs++List.replicate ((cap - n)*s) .any))) w (.msl k 0 n cap) v:=by
 have hkl:=aa0 hk;obtain⟨arr,T,fr,hb,hsz,hr,hf1,hf2,hf3⟩:=hi.cells k _ cs hk;have hasz:arr.size=(G.own k).2*s:=hf3.2.1;cases r with
 |mrow _ _ o0 hk0 hb0 hcap=>
 have hsz':(cs++List.replicate (((G.own k).2 - n)*s) AV.any).length=arr.size:=by
  rw[List.length_append,List.length_replicate,hl,hasz,<-aD3];congr 1
  omega
 have hrel:aR0 G H w (cs++List.replicate (((G.own k).2 - n)*s) .any) arr:=by
  refine⟨bf7 hsz',fun j x v e1 e2=>?_⟩
  by_cases hj:j < cs.length
  ·rw[xq4 hj] at e1
   exact hr j x v e1 e2
  ·rw[xq7 (by omega),b33] at e1
   split at e1
   ·cases e1;exact .any _
   ·cases e1
 obtain⟨hi',st⟩:=cw5 hi hk hb hrel (sh':=.one T) ⟨rfl,hsz'.symm,hf3.2.2⟩;exact⟨T,(G.own k).2,hcap,hi',st,.msl k 0 n _ _ (by simp[hkl];rfl) rfl hcap⟩
theorem cc2{P:Program}{f:FuncId}{xs1 bs:List AV}{H:List AObj}{R:AV->List AObj->Prop}{k n s:Nat}{cs:List AV}(hk:H[k]?=some (.cells (.prow s) cs))(hl:cs.length=n*s)
  (h: ∀T cap,n<=cap->o8 P f (xs1++ .msl k 0 n cap::bs) (H.set k (.cells (.one T) (cs++List.replicate ((cap - n)*s) .any))) R):o8 P f (xs1++ .mrow k n::bs) H R:=fun G w vs hi ha=>by
 obtain⟨v,hv⟩: ∃v,vs[xs1.length]?=some v:=⟨_,xq2 (by rw[ha.1];simp)⟩
 obtain⟨T,cap,hc,hi',st,r⟩:=open_row hi hk hl (ha.2 xs1.length _ v (by simp) hv)
 refine(h T cap hc G w vs hi' ⟨by rw[ha.1];simp,fun j y u ey ev=>?_⟩).mono ?_
 ·rcases Nat.lt_trichotomy j xs1.length with hj|rfl|hj
  ·rw[xq4 hj] at ey
   exact(ha.2 j y u (by rw[xq4 hj];exact ey) ev).mono st
  ·rw[xq7 (xq0 _),ap6] at ey
   simp at ey
   subst ey;rw[hv] at ev;cases ev
   exact r
  ·obtain⟨i,rfl⟩: ∃i,j=xs1.length+(i+1):=⟨j - xs1.length - 1,by omega⟩
   rw[xq7 (by omega),aM6,List.getElem?_cons_succ] at ey
   exact(ha.2 _ y u (by rw[xq7 (by omega),aM6,List.getElem?_cons_succ];exact ey) ev).mono st
 ·rintro v w' ⟨x,G',H',h1,h2,h3,h4⟩
  exact⟨x,G',H',h1,st.trans h2,h3,h4⟩
theorem aT8{H₀ H H':List AObj}{R:AV->List AObj->Prop}{x y:AV}{k:Nat}{sh:Shape}{cs:List AV}(hk:H[k]?=some (.cells sh cs))(f:Frz1 H k x y)(hr:Done H₀ R y (H.set k .gone)):Done H₀ R x H:=by
 unfold Done at hr⊢;obtain⟨z,H'',he,hR⟩:=hr;exact⟨z,H'',ct2 (d54 (Le.refl x) hk f) he,hR⟩
end V
end
section
namespace V
open Go
section
variable {H M:List AObj}{o:AObj}{n k i:Nat}
theorem hg0(h:n=H.length):(H++M)[n]?=M[0]?:=by subst h;exact aW1
theorem hg1(h:n=H.length+1):(H++M)[n]?=M[1]?:=by subst h;exact aE0
theorem hg2(h:n=H.length+2):(H++M)[n]?=M[2]?:=by subst h;exact aE0
theorem hs0(h:n=H.length):(H++M).set n o=H++M.set 0 o:=by subst h;exact bn5
theorem hs1(h:n=H.length+1):(H++M).set n o=H++M.set 1 o:=by subst h;exact bd5
theorem hs2(h:n=H.length+2):(H++M).set n o=H++M.set 2 o:=by subst h;exact bd5
theorem hss(h:k < H.length):(H.set k o)[k]?=some o:=by simp[h]
theorem hsn(h:k≠i):(H.set k o)[i]?=H[i]?:=ar4 h
theorem dS7(h:H[k]?=some o):H.set k o=H:=by
 refine aW4 fun i=>?_
 rw[bf8];split
 ·rename_i e;subst e;split
  ·exact h.symm
  ·rename_i hl;rw[av1 (by omega)]
 ·rfl
end
attribute [go_sem] List.set_set hss List.length_set
theorem aC8{P:Program}{f:FuncId}{fn:Func}{e:Array Value->Sem Value}{args:List AV}{H:List AObj}{R:AV->List AObj->Prop}(hf:P.funcs[f]?=some fn)(hname:(fn.name== "runtime.NumGoroutine")=false)(hb:fn.body.isNone=true)(hn:Extern.findNext fn=none)(he:Extern.find fn=some e)
  (h: ∀G w vs,HInv G H w->ay7 G H w args vs-> ∃v w' x G' H',(e vs).run P w=.ok v w'/\HInv G' H' w'/\Step G H w G' H' w'/\Rel G' H' w' x v/\R x H'):o8 P f args H R:=fun G w vs hi ha=>by
 obtain⟨v,w',x,G',H',hr,h1,h2,h3,h4⟩:=h G w vs hi ha;refine .inr ⟨v,w',?_,x,G',H',h1,h2,h3,h4⟩;rw[run_callFunc_extern hf hname hb hn he,hr];rfl
theorem cN4{G:Gh}{H:List AObj}{w:World}{x:AV}{vs:Array Value}(h:ay7 G H w [x] vs): ∃v,vs= #[v]/\Rel G H w x v:=by
 obtain⟨hs,hr⟩:=h;obtain⟨l⟩:=vs;match l,hs with
 |[v],_=>exact⟨v,rfl,hr 0 x v rfl rfl⟩
theorem cd6{G:Gh}{H:List AObj}{w:World}{x y:AV}{vs:Array Value}(h:ay7 G H w [x,y] vs): ∃v u,vs= #[v,u]/\Rel G H w x v/\Rel G H w y u:=by
 obtain⟨hs,hr⟩:=h;obtain⟨l⟩:=vs;match l,hs with
 |[v,u],_=>exact⟨v,u,rfl,hr 0 x v rfl rfl,hr 1 y u rfl rfl⟩
theorem dw1(x:AV)(H:List AObj):o8 Tryz.prog 223 [x] H (fun y H'=>y=x/\H'=H):=
 aC8 (e:=Extern.AbiNoEscape.same) Tryz.func223 (by kernel_rfl) (by kernel_rfl) (by kernel_rfl) (by kernel_rfl) fun G w vs hi ha=>by
  obtain⟨v,rfl,hv⟩:=cN4 ha;exact⟨v,w,x,G,H,Lib.run_noEscape w v,hi,.refl _ _ _,hv,rfl,rfl⟩
def aD9(l:List UInt8)(c:UInt8):Int:=if l.idxOf c < l.length then(l.idxOf c:Nat) else -1
theorem firstIdx_eq(l:List UInt8)(c:UInt8):firstIdx ⟨l.toArray⟩ c=aD9 l c:=by
 have hsz:(ByteArray.mk l.toArray).size=l.length:=by simp[ByteArray.size]
 have hget: ∀i,i < l.length->(ByteArray.mk l.toArray)[i]! =l.getD i 0:=fun i hi=>by
  rw[getElem!_pos (ByteArray.mk l.toArray) i (by rw[hsz];exact hi)]
  simp[List.getD,hi]
  rfl
 unfold firstIdx aD9;rw[hsz];by_cases h:l.idxOf c < l.length
 ·rw[if_pos h]
  have:(List.range l.length).find? (fun i=>(ByteArray.mk l.toArray)[i]! ==c)=some (l.idxOf c):=by
   rw[List.find?_eq_some_iff_getElem];refine⟨?_,l.idxOf c,by simpa using h,by simp,fun j hj=>?_⟩
   ·rw[hget _ h,List.getD,xq1 h]
    simp[cH8 h]
   ·rw[List.getElem_range,hget j (by omega),List.getD,xq1 (by omega)]
    have:=List.not_of_lt_findIdx (xs:=l) (p:=(· ==c)) hj;simpa using this
  rw[this]
 ·rw[if_neg h]
  have hn:c∉l:=fun hc=>h (ci9 hc)
  have:(List.range l.length).find? (fun i=>(ByteArray.mk l.toArray)[i]! ==c)=none:=by
   rw[List.find?_eq_none];intro i hi;rw[ba0] at hi;rw[hget i hi,List.getD,xq1 hi];simp only[Option.getD_some,beq_iff_eq];intro e;exact hn (e▸aR4 hi)
  rw[this]
theorem b90(l:List UInt8)(c:UInt8)(H:List AObj):o8 Tryz.prog 219 [.str l,o7 c] H (fun y H'=>y=.int .i64 (aD9 l c)/\H'=H):=
 aC8 (e:=Extern.BytealgIndexByte.indexByte) Tryz.func219 (by kernel_rfl) (by kernel_rfl) (by kernel_rfl) (by kernel_rfl) fun G w vs hi ha=>by
  obtain⟨v,u,rfl,hv,hu⟩:=cd6 ha;rw[as2 hv,ab7 hu];refine⟨_,w,_,G,H,run_indexByte_string _ _ w,hi,.refl _ _ _,.lit _,?_,rfl⟩;have:((c.toNat:Int).toNat).toUInt8=c:=by simp
  rw[this,firstIdx_eq]
end V
end
section
open Go V
def aF6(b:UInt8):UInt8:=if 65<=b.toNat/\b.toNat<=90 then b+32 else b
def aP2(l:List UInt8):Bool:=l.all fun c=>decide (32<=c.toNat/\c.toNat<=126)
theorem take_snoc{l:List UInt8}{i:Nat}(h:i < l.length):l.take (i+1)=l.take i++[l.getD i 0]:=by
 rw[ci8];simp[List.getD,xq1 h]
theorem cr1{l:List UInt8}{i:Nat}(hi:i<=l.length)(h:i < l.length)(hp:aP2 (l.take i)=true):aP2 l=(decide (32<=(l.getD i 0).toNat/\(l.getD i 0).toNat<=126)&&aP2 (l.drop (i+1))):=by
 have e:l=l.take i++(l.getD i 0::l.drop (i+1)):=by
  rw[show l.getD i 0=l[i] by simp[List.getD,xq1 h],<-bC9 h,bJ6]
 conv=>lhs;rw[e]
 unfold aP2 at*;rw[List.all_append,hp,List.all_cons,Bool.true_and]
theorem da5(l:List UInt8)(H:List AObj)(hl:l.length<=5000):o8 Tryz.prog 70 [.str l] H (fun x H'=>x=.bool (aP2 l)/\H'=H):=by
 refine y8 [] [.tmp 2] 20 Tryz.func70 ?_;repeat' simp -dsimp -implicitDefEqProofs only[go_sem]
 refine b38 ab2 mixed [] (fun i:Nat=>i<=l.length/\aP2 (l.take i)=true) (fun i=>[(6,.int .i64 i),(5,.int .i64 l.length),(0,.str l)]) (fun _=>H) (fun i=>l.length - i) (by kernel_rfl) ?_ 0 ⟨by omega,rfl⟩ y9 rfl
 intro i ⟨hi,hp⟩;repeat' first|refine o6 ?_|simp -dsimp -implicitDefEqProofs (disch:=omega) only[go_sem]|refine vcA ?_ ?_|omega|refine ac8 fun _=>?_
 ·refine o9 ⟨ae6 ?_,rfl⟩
  rw[cr1 hi (by omega) hp,decide_eq_false (by omega),aH0]
 ·refine o9 ⟨ae6 ?_,rfl⟩
  rw[cr1 hi (by omega) hp,decide_eq_false (by omega),aH0]
 ·refine again (i+1) ?_ ?_ rfl y9
  ·omega
  ·refine⟨by omega,?_⟩
   rw[take_snoc (by omega),aP2,List.all_append,<-aP2,hp,List.all_cons,List.all_nil,decide_eq_true (by omega)]
   rfl
 ·refine o9 ⟨ae6 ?_,rfl⟩
  have:i=l.length:=by omega
  subst this;rw[bf9] at hp;rw[hp]
end
section
open Go V
end
section
namespace V
open Go
theorem cM3{H:List AObj}{k m:Nat}{a b c:AObj}(h:k≠m):((H.set k a).set m b).set k c=(H.set k c).set m b:=by
 rw[List.set_comm _ _ (Ne.symm h),List.set_set]
def aG1(T:TypeId)(m:Nat)(a:AV)(bs:List UInt8):AObj:=.cells (.one T) [a,.sl (.tok m) 1 (bs.map o7)]
def aQ2(n:Nat):AObj:=.grow 1 n (some 5)
def aO0(k:Nat)(a:AV):Prop:=a=.lit (.pointer none)\/a=.mp k 0
theorem af2{k:Nat}:aO0 k (.mp k 0):=.inr rfl
theorem dh6{k:Nat}:aO0 k (.lit (.pointer none)):=.inl rfl
def bT(T:TypeId):Prop:=liesAt Tryz.prog Tryz.prog.depth T (2/Tryz.prog.cellsOf T) 0 119 1=true
theorem et3:bT 119:=by unfold bT;kernel_rfl
theorem cS5(c:UInt8):[AV.lit (.int .u8 (c.toNat:Int))]=[c].map o7:=rfl
theorem cc1{T k m:Nat}{a:AV}{bs:List UInt8}{H:List AObj}(hT:bT T)(hk:H[k]?=some (aG1 T m a bs))(ha:aO0 k a):
  o8 Tryz.prog 198 [.mp k 0] H (fun x H'=>x=.tup []/\H'=H.set k (aG1 T m (.mp k 0) bs)):=by
 unfold aG1 bT at*;have hkl:=aa0 hk;rcases ha with rfl|rfl
 ·refine y8 [] [] 20 Tryz.func198 ?_
  repeat' first|refine o6 ?_|simp -dsimp -implicitDefEqProofs (disch:=omega) only[go_sem,hk,hT]|refine o5 (dw1 _ _) ?_|fail
  exact ae7 _ (Le.refl _) (by simp) ⟨rfl,rfl⟩
 ·refine y8 [] [] 20 Tryz.func198 ?_
  repeat' first|refine o6 ?_|simp -dsimp -implicitDefEqProofs (disch:=omega) only[go_sem,hk,hT]
  exact ae7 _ (Le.refl _) (by simp) ⟨rfl,(dS7 hk).symm⟩
theorem cc3{T k m:Nat}{a:AV}{bs:List UInt8}{c:UInt8}{H:List AObj}(hT:bT T)(hk:H[k]?=some (aG1 T m a bs))(ha:aO0 k a)(hm:H[m]?=some (aQ2 bs.length))(hl:bs.length<=100000000):
  o8 Tryz.prog 184 [.mp k 0,.lit (.int .u8 c.toNat)] H (fun x H'=>x=.lit .nilIface/\H'=(H.set k (aG1 T m (.mp k 0) (bs++[c]))).set m (aQ2 (bs++[c]).length)):=by
 have hkl:=aa0 hk;have hml:=aa0 hm;have hkm:k≠m:=by intro e;subst e;rw[hk] at hm;cases hm
 have hmk:=hkm.symm;refine y8 [] [.tmp 4] 17 Tryz.func184 ?_;repeat' first|simp -dsimp -implicitDefEqProofs (disch:=assumption) only[go_sem,hsn,hm]|refine o5 (cc1 hT hk ha) ?_|refine vcA ?_ ?_|omega
 all_goals unfold aG1 aQ2 at*
 all_goals repeat' simp -dsimp -implicitDefEqProofs only[go_sem,hsn,hm,ar4 hkm,ar4 hmk,cS5,cM3 hkm]
 all_goals exact ae7 _ (Le.refl _) (by simp) ⟨rfl,by simp⟩
theorem cG4{T k m:Nat}{a:AV}{bs l:List UInt8}{H:List AObj}(hT:bT T)(hk:H[k]?=some (aG1 T m a bs))(ha:aO0 k a)(hm:H[m]?=some (aQ2 bs.length))(hl:bs.length<=100000000)(hl2:l.length<=100000000):
  o8 Tryz.prog 144 [.mp k 0,.str l] H (fun x H'=>x=.tup [.int .i64 l.length,.lit .nilIface]/\H'=(H.set k (aG1 T m (.mp k 0) (bs++l))).set m (aQ2 (bs++l).length)):=by
 have hkl:=aa0 hk;have hml:=aa0 hm;have hkm:k≠m:=by intro e;subst e;rw[hk] at hm;cases hm
 have hmk:=hkm.symm;refine y8 [] [.tmp 4,.tmp 5] 19 Tryz.func144 ?_;repeat' first|simp -dsimp -implicitDefEqProofs (disch:=assumption) only[go_sem,hsn,hm]|refine o5 (cc1 hT hk ha) ?_|refine vcA ?_ ?_|omega
 all_goals unfold aG1 aQ2 at*
 all_goals repeat' simp -dsimp -implicitDefEqProofs only[go_sem,hsn,hm,ar4 hkm,ar4 hmk,cS5,cM3 hkm]
 all_goals exact ae7 _ (Le.refl _) (by simp) ⟨rfl,by simp⟩
theorem dw2{T k m:Nat}{a:AV}{bs:List UInt8}{H:List AObj}(hk:H[k]?=some (aG1 T m a bs)):
  o8 Tryz.prog 89 [.mp k 0] H (fun x H'=>x=.int .i64 bs.length/\H'=H):=by
 unfold aG1 at*;refine y8 [] [.tmp 2] 8 Tryz.func89 ?_;repeat' simp -dsimp -implicitDefEqProofs only[go_sem,hk]
 exact o9 ⟨rfl,rfl⟩
theorem cZ7{T k m:Nat}{a:AV}{bs:List UInt8}{H:List AObj}(hk:H[k]?=some (aG1 T m a bs))(hm:H[m]?=some (aQ2 bs.length))(hl:bs.length<=100000000):
  o8 Tryz.prog 90 [.mp k 0] H (fun x H'=>x=.str bs/\H'=H):=by
 unfold aG1 aQ2 at*;refine y8 [1000001] [.tmp 2] 14 Tryz.func90 ?_;repeat' first|simp -dsimp -implicitDefEqProofs only[go_sem,hk,hm]|refine vcA ?_ ?_|omega
 exact o9 ⟨rfl,rfl⟩
end V
end
section
open Go V
theorem bb5(w l:List UInt8):w.isPrefixOf l=decide (w.length<=l.length/\l.take w.length=w):=by
 rw[b06,List.isPrefixOf_iff_prefix,decide_eq_true_eq,List.prefix_iff_eq_take];constructor
 ·intro h
  refine⟨?_,h.symm⟩;have:=congrArg List.length h;rw[List.length_take] at this;omega
 ·rintro⟨_,h⟩
  exact h.symm
theorem da7(l w:List UInt8)(H:List AObj)(hl:l.length<=100000000):o8 Tryz.prog 173 [.str l,.str w] H (fun x H'=>x=.bool (w.isPrefixOf l)/\H'=H):=by
 refine y8 [] [.tmp 4] 18 Tryz.func173 ?_;repeat' first|refine o6 ?_|simp -dsimp -implicitDefEqProofs only[go_sem]|refine vcA ?_ ?_|omega|refine ac8 fun _=>?_
 ·rename_i h
  refine o9 ⟨ae6 ?_,rfl⟩;rw[bb5,decide_eq_decide];constructor
  ·intro h2;exact⟨by omega,h2⟩
  ·intro h2;exact h2.2
 ·rename_i h
  refine o9 ⟨ae6 ?_,rfl⟩;rw[bb5,decide_eq_false];omega
theorem da8(l w:List UInt8)(H:List AObj)(hl:l.length<=100000000):o8 Tryz.prog 124 [.str l,.str w] H (fun x H'=>x=.bool (w.isPrefixOf l)/\H'=H):=by
 refine y8 [] [.tmp 4] 8 Tryz.func124 ?_;repeat' first|simp -dsimp -implicitDefEqProofs only[go_sem]|refine o5 (da7 _ _ _ hl) ?_|fail
 exact o9 ⟨rfl,rfl⟩
theorem cc4(l:List UInt8)(c:UInt8)(H:List AObj):o8 Tryz.prog 185 [.str l,.lit (.int .u8 c.toNat)] H (fun x H'=>x=.int .i64 (aD9 l c)/\H'=H):=by
 refine y8 [] [.tmp 4] 8 Tryz.func185 ?_;repeat' first|simp -dsimp -implicitDefEqProofs only[go_sem]|refine o5 (b90 _ _ _) ?_|fail
 exact o9 ⟨rfl,rfl⟩
theorem aP5(l:List UInt8)(c:UInt8)(H:List AObj):o8 Tryz.prog 141 [.str l,.lit (.int .u8 c.toNat)] H (fun x H'=>x=.int .i64 (aD9 l c)/\H'=H):=by
 refine y8 [] [.tmp 4] 8 Tryz.func141 ?_;repeat' first|simp -dsimp -implicitDefEqProofs only[go_sem]|refine o5 (cc4 _ _ _) ?_|fail
 exact o9 ⟨rfl,rfl⟩
end
section
open Go
end
section
namespace V
open Go
theorem bz9{w x:Nat}(hx:x < 2^w):(BitVec.ofInt w (x:Int)).toNat=x:=by
 rw[dj0,aC2,ar2 hx]
theorem cu1{w x y:Nat}(hx:x < 2^w)(hy:y < 2^w):(BitVec.ofInt w (x:Int)|||BitVec.ofInt w (y:Int)).toNat=x|||y:=by
 rw[BitVec.toNat_or,bz9 hx,bz9 hy]
theorem dN4{w x y:Nat}(hx:x < 2^w)(hy:y < 2^w):(BitVec.ofInt w (x:Int)&&&BitVec.ofInt w (y:Int)).toNat=x&&&y:=by
 rw[cj3,bz9 hx,bz9 hy]
theorem ba1{x:Nat}(hx:x < 2^64):IntKind.u64.wrap (x:Int)=x:=IntWalk.u64_in _ (by omega)
theorem cK3{x:Nat}(hx:x < 2^32):IntKind.u32.wrap (x:Int)=x:=IntWalk.u32_in _ (by omega)
theorem bk4{x:Nat}(hx:x < 2^8):IntKind.u8.wrap (x:Int)=x:=IntWalk.u8_in _ (by omega)
theorem bV9{x y:Nat}(hx:x < 2^64)(hy:y < 2^64):IntKind.u64.wrap ((BitVec.ofInt IntKind.u64.bits (x:Int)|||BitVec.ofInt IntKind.u64.bits (y:Int)).toNat:Int)=((x|||y:Nat):Int):=by
 show IntKind.u64.wrap ((BitVec.ofInt 64 (x:Int)|||BitVec.ofInt 64 (y:Int)).toNat:Int)=_
 rw[cu1 hx hy,ba1 (bK4 hx hy)]
theorem et9{x y:Nat}(hx:x < 2^64)(hy:y < 2^64):IntKind.u64.wrap ((BitVec.ofInt IntKind.u64.bits (x:Int)&&&BitVec.ofInt IntKind.u64.bits (y:Int)).toNat:Int)=((x&&&y:Nat):Int):=by
 show IntKind.u64.wrap ((BitVec.ofInt 64 (x:Int)&&&BitVec.ofInt 64 (y:Int)).toNat:Int)=_
 rw[dN4 hx hy,ba1 (Nat.and_lt_two_pow _ hy)]
end V
end
section
open Go V
theorem cy1{m:Nat}{x:AV}(h:Low m x:=by(first|(first|exact .lit _|exact .str _|exact .any|exact af5|exact ah5|exact .mp _ _ (by omega)|exact .msl _ _ _ _ (by omega)|exact af6 (fun k e=>by cases e)|exact ae5 _|exact ak1|exact ak0|exact an0|exact am9 _)|(refine ah9 ?_;repeat(first|exact ac4|(refine aa3 ?_ ?_;focus(first|exact .lit _|exact .str _|exact .any|exact af5|exact ah5|exact .mp _ _ (by omega)|exact .msl _ _ _ _ (by omega)|exact af6 (fun k e=>by cases e)|exact ae5 _|exact ak1|exact ak0|exact an0|exact am9 _))))|(refine aB8 ?_;repeat(first|exact ac4|(refine aa3 ?_ ?_;focus(first|exact .lit _|exact .str _|exact .any|exact af5|exact ah5|exact .mp _ _ (by omega)|exact .msl _ _ _ _ (by omega)|exact af6 (fun k e=>by cases e)|exact ae5 _|exact ak1|exact ak0|exact an0|exact am9 _)))))):Low m x:=h
theorem bi2{xs ys:List UInt8}{b:UInt8}{k:Nat}{c:Int}(hy:xs++[b]=ys)(hc:c=2^k)(hx:8*xs.length=k)(hk:k<=56):IntKind.u64.wrap ((BitVec.ofInt IntKind.u64.bits ((Lib.leNat xs:Nat):Int)|||BitVec.ofInt IntKind.u64.bits (IntKind.u64.wrap ((b.toNat:Int)*c))).toNat:Int)=((Lib.leNat ys:Nat):Int):=by
 subst hy;subst hc;have hb:=b.toNat_lt;have hlt:Lib.leNat xs < 2^k:=by
  have:=Lib.leNat_lt xs;rwa [show (256:Nat)=2^8 from rfl,<-bS8,hx] at this
 have hp:(2:Nat)^k<=2^56:=b08 (by omega) hk
 have h1:b.toNat*2^k < 2^64:=by
  have:b.toNat*2^k<=255*2^56:=cH7 (by omega) hp
  omega
 have h2:(b.toNat:Int)*2^k=((b.toNat*2^k:Nat):Int):=by simp
 rw[h2,ba1 h1,bV9 (by omega) h1,Lib.leNat_append,show (256:Nat)=2^8 from rfl,<-bS8,hx]
 congr 1
 have:=ci7 hlt b.toNat;rw[Nat.or_comm,aZ1,<-this];simp[Lib.leNat]
 omega
theorem dH0(b:UInt8):(b.toNat:Int)=((Lib.leNat [b]:Nat):Int):=by simp[Lib.leNat]
theorem ex1{l:List UInt8}(h:8<=l.length):l.take 8=[l.getD 0 0,l.getD 1 0,l.getD 2 0,l.getD 3 0,l.getD 4 0,l.getD 5 0,l.getD 6 0,l.getD 7 0]:=by
 match l,h with
 |a0::a1::a2::a3::a4::a5::a6::a7::r,_=>simp
theorem bE3{o:Own}(l:List UInt8)(H:List AObj)(hl:8<=l.length):o8 Tryz.prog 129 [.sl o 1 (l.map o7)] H (fun x H'=>x=.int .u64 (Lib.leNat (l.take 8))/\H'=H):=by
 refine y8 [1000001,1000002] [.tmp 2] 71 Tryz.func129 ?_;repeat' first|refine o6 ?_|simp -dsimp -implicitDefEqProofs (disch:=omega) only[go_sem]|refine vcA ?_ ?_|omega
 refine o9 ⟨?_,rfl⟩;rw[dH0 (l.getD 0 0),bi2 (xs:=[l.getD 0 0]) (ys:=[l.getD 0 0,l.getD 1 0]) (b:=l.getD 1 0) (k:=8) (c:=256) rfl (by decide) rfl (by decide),bi2 (xs:=[l.getD 0 0,l.getD 1 0]) (ys:=[l.getD 0 0,l.getD 1 0,l.getD 2 0]) (b:=l.getD 2 0) (k:=16) (c:=65536) rfl (by decide) rfl (by decide),bi2 (xs:=[l.getD 0 0,l.getD 1 0,l.getD 2 0]) (ys:=[l.getD 0 0,l.getD 1 0,l.getD 2 0,l.getD 3 0]) (b:=l.getD 3 0) (k:=24) (c:=16777216) rfl (by decide) rfl (by decide),bi2 (xs:=[l.getD 0 0,l.getD 1 0,l.getD 2 0,l.getD 3 0]) (ys:=[l.getD 0 0,l.getD 1 0,l.getD 2 0,l.getD 3 0,l.getD 4 0]) (b:=l.getD 4 0) (k:=32) (c:=4294967296) rfl (by decide) rfl (by decide),bi2 (xs:=[l.getD 0 0,l.getD 1 0,l.getD 2 0,l.getD 3 0,l.getD 4 0]) (ys:=[l.getD 0 0,l.getD 1 0,l.getD 2 0,l.getD 3 0,l.getD 4 0,l.getD 5 0]) (b:=l.getD 5 0) (k:=40) (c:=1099511627776) rfl (by decide) rfl (by decide),bi2 (xs:=[l.getD 0 0,l.getD 1 0,l.getD 2 0,l.getD 3 0,l.getD 4 0,l.getD 5 0]) (ys:=[l.getD 0 0,l.getD 1 0,l.getD 2 0,l.getD 3 0,l.getD 4 0,l.getD 5 0,l.getD 6 0]) (b:=l.getD 6 0) (k:=48) (c:=281474976710656) rfl (by decide) rfl (by decide),bi2 (xs:=[l.getD 0 0,l.getD 1 0,l.getD 2 0,l.getD 3 0,l.getD 4 0,l.getD 5 0,l.getD 6 0]) (ys:=[l.getD 0 0,l.getD 1 0,l.getD 2 0,l.getD 3 0,l.getD 4 0,l.getD 5 0,l.getD 6 0,l.getD 7 0]) (b:=l.getD 7 0) (k:=56) (c:=72057594037927936) rfl (by decide) rfl (by decide),ex1 hl]
theorem and7{x:Nat}(h:x < 256):IntKind.u8.wrap ((BitVec.ofInt IntKind.u8.bits (x:Int)&&&BitVec.ofInt IntKind.u8.bits 7).toNat:Int)=((x%8:Nat):Int):=by
 show IntKind.u8.wrap ((BitVec.ofInt 8 (x:Int)&&&BitVec.ofInt 8 ((7:Nat):Int)).toNat:Int)=_
 rw[dN4 (by omega) (by decide),show (7:Nat)=2^3 - 1 from rfl,cj1,bk4 (by omega)]
theorem bn7(n:Nat):Lib.firstT n < 256:=by unfold Lib.firstT;(repeat' split)<;>omega
theorem dv6(n:Nat):IntKind.u8.wrap ((BitVec.ofInt IntKind.u8.bits ((Lib.firstT n:Nat):Int)&&&BitVec.ofInt IntKind.u8.bits 7).toNat:Int)=((Lib.firstT n%8:Nat):Int):=and7 (bn7 n)
theorem dL1(n:Nat):(Lib.firstT n/16 < 16)=True:=eq_true (by have:=bn7 n;omega)
theorem dt4(n:Nat):(((Lib.firstT n/16:Nat):Int) < 16)=True:=eq_true (by have:=bn7 n;omega)
theorem cZ4(n:Nat):(aU1.drop (Lib.firstT n/16*2)).take 2=[.lit (.int .u8 (Lib.accLo (Lib.firstT n/16))),.lit (.int .u8 (Lib.accHi (Lib.firstT n/16)))]:=dP2 (by have:=bn7 n;omega)
theorem an4{m:List UInt8}(h0:0 < (m.length:Int))(h1:128<=((m.getD 0 0).toNat:Int))(h:(Lib.firstT (m.getD 0 0).toNat%8=2/\(m.length < 2\/(m.getD 1 0).toNat < Lib.accLo (Lib.firstT (m.getD 0 0).toNat/16)\/Lib.accHi (Lib.firstT (m.getD 0 0).toNat/16) < (m.getD 1 0).toNat))\/
  (Lib.firstT (m.getD 0 0).toNat%8=3/\(m.length < 3\/(m.getD 1 0).toNat < Lib.accLo (Lib.firstT (m.getD 0 0).toNat/16)\/Lib.accHi (Lib.firstT (m.getD 0 0).toNat/16) < (m.getD 1 0).toNat\/(m.getD 2 0).toNat < 128\/191 < (m.getD 2 0).toNat))\/
  (Lib.firstT (m.getD 0 0).toNat%8=4/\(m.length < 4\/(m.getD 1 0).toNat < Lib.accLo (Lib.firstT (m.getD 0 0).toNat/16)\/Lib.accHi (Lib.firstT (m.getD 0 0).toNat/16) < (m.getD 1 0).toNat\/(m.getD 2 0).toNat < 128\/191 < (m.getD 2 0).toNat\/(m.getD 3 0).toNat < 128\/191 < (m.getD 3 0).toNat))\/
  (Lib.firstT (m.getD 0 0).toNat%8≠2/\Lib.firstT (m.getD 0 0).toNat%8≠3/\Lib.firstT (m.getD 0 0).toNat%8≠4)):Lib.validD m=false:=by
 rw[Lib.validD_lead m (aR1.1 (by omega)) (by omega),Lib.checkN]
 rcases h with⟨h,h'⟩|⟨h,h'⟩|⟨h,h'⟩|⟨h,h',h''⟩
 ·rw[if_pos h,if_pos h']
 ·rw[if_neg (by omega),if_pos h,if_pos h']
 ·rw[if_neg (by omega),if_neg (by omega),if_pos h,if_pos h']
 ·rw[if_neg h,if_neg h',if_neg h'']
theorem bX0{m:List UInt8}{k:Nat}(hk:k=Lib.firstT (m.getD 0 0).toNat%8)(h0:k<=m.length)(h1:128<=((m.getD 0 0).toNat:Int))(h2:Lib.accLo (Lib.firstT (m.getD 0 0).toNat/16)<=(m.getD 1 0).toNat)(h3:(m.getD 1 0).toNat<=Lib.accHi (Lib.firstT (m.getD 0 0).toNat/16))
  (h:k=2\/(k=3/\128<=(m.getD 2 0).toNat/\(m.getD 2 0).toNat<=191)\/(k=4/\128<=(m.getD 2 0).toNat/\(m.getD 2 0).toNat<=191/\128<=(m.getD 3 0).toNat/\(m.getD 3 0).toNat<=191)):Lib.validD (m.drop k)=Lib.validD m:=by
 rw[Lib.validD_lead m (aR1.1 (by omega)) (by omega),Lib.checkN]
 rcases h with h|⟨h,h'⟩|⟨h,h'⟩
 ·rw[if_pos (by omega),if_neg (by omega),h]
 ·rw[if_neg (by omega),if_pos (by omega),if_neg (by omega),h]
 ·rw[if_neg (by omega),if_neg (by omega),if_pos (by omega),if_neg (by omega),h]
theorem skip{m:List UInt8}{n k:Nat}(h: ∀b∈(m.drop n).take k,b.toNat < 128){x:Bool}(hx:Lib.validD (m.drop n)=x):Lib.validD (m.drop (n+k))=x:=by
 rw[<-hx,Lib.validD_ascii k _ h,List.drop_drop]
theorem cl3{m:List UInt8}(h0:0 < (m.length:Int))(h:((m.getD 0 0).toNat:Int) < 128){x:Bool}(hx:Lib.validD m=x):Lib.validD (m.drop 1)=x:=by
 refine skip (n:=0) (k:=1) ?_ hx;match m,h0,h with
 |a::r,_,h=>
  intro b hb;simp at hb
  subst hb;simp at h
  omega
theorem lt8(w:List UInt8):Lib.leNat (w.take 8) < 2^64:=by
 have h1:=Lib.leNat_lt (w.take 8);have h2:(w.take 8).length<=8:=List.length_take_le ..;exact aC3 h1 (show 256^(w.take 8).length<=256^8 from b08 (by omega) h2)
theorem bW4{x:Nat}(hx:x < 2^64)(h:IntKind.u64.wrap ((BitVec.ofInt IntKind.u64.bits (x:Int)&&&BitVec.ofInt IntKind.u64.bits 9259542123273814144).toNat:Int)=0):x&&&Lib.maskN 8=0:=by
 have e:(9259542123273814144:Int)=((9259542123273814144:Nat):Int):=rfl;rw[e,et9 hx (by decide)] at h
 rw[Lib.maskN8];omega
theorem by0{w:List UInt8}(hw:8<=w.length)(h:Lib.leNat (w.take 8)&&&Lib.maskN 8=0): ∀b∈w.take 8,b.toNat < 128:=by
 refine(Lib.leNat_mask (w.take 8)).1 ?_;rwa [show (w.take 8).length=8 by rw[List.length_take];omega]
theorem d86{w:List UInt8}(hw:8<=w.length)(h:IntKind.u64.wrap ((BitVec.ofInt IntKind.u64.bits ((Lib.leNat (w.take 8):Nat):Int)&&&BitVec.ofInt IntKind.u64.bits 9259542123273814144).toNat:Int)=0): ∀b∈w.take 8,b.toNat < 128:=
 by0 hw (bW4 (lt8 w) h)
theorem eV4{w v:List UInt8}(hw:8<=w.length)(hv:8<=v.length)(h:IntKind.u64.wrap ((BitVec.ofInt IntKind.u64.bits (IntKind.u64.wrap ((BitVec.ofInt IntKind.u64.bits ((Lib.leNat (w.take 8):Nat):Int)|||BitVec.ofInt IntKind.u64.bits ((Lib.leNat (v.take 8):Nat):Int)).toNat:Int))&&&BitVec.ofInt IntKind.u64.bits 9259542123273814144).toNat:Int)=0):
  (∀b∈w.take 8,b.toNat < 128)/\(∀b∈v.take 8,b.toNat < 128):=by
 rw[bV9 (lt8 w) (lt8 v)] at h;have:=bW4 (bK4 (lt8 w) (lt8 v)) h;rw[Lib.or_mask] at this;exact⟨by0 hw this.1,by0 hv this.2⟩
theorem eV3{w v u t:List UInt8}(hw:8<=w.length)(hv:8<=v.length)(hu:8<=u.length)(ht:8<=t.length)(h:IntKind.u64.wrap ((BitVec.ofInt IntKind.u64.bits (IntKind.u64.wrap ((BitVec.ofInt IntKind.u64.bits (IntKind.u64.wrap ((BitVec.ofInt IntKind.u64.bits ((Lib.leNat (w.take 8):Nat):Int)|||BitVec.ofInt IntKind.u64.bits ((Lib.leNat (v.take 8):Nat):Int)).toNat:Int))|||BitVec.ofInt IntKind.u64.bits (IntKind.u64.wrap ((BitVec.ofInt IntKind.u64.bits ((Lib.leNat (u.take 8):Nat):Int)|||BitVec.ofInt IntKind.u64.bits ((Lib.leNat (t.take 8):Nat):Int)).toNat:Int))).toNat:Int))&&&BitVec.ofInt IntKind.u64.bits 9259542123273814144).toNat:Int)=0):
  (∀b∈w.take 8,b.toNat < 128)/\(∀b∈v.take 8,b.toNat < 128)/\(∀b∈u.take 8,b.toNat < 128)/\(∀b∈t.take 8,b.toNat < 128):=by
 have l1:=bK4 (lt8 w) (lt8 v);have l2:=bK4 (lt8 u) (lt8 t);rw[bV9 (lt8 w) (lt8 v),bV9 (lt8 u) (lt8 t),bV9 l1 l2] at h;have:=bW4 (bK4 l1 l2) h;rw[Lib.or_mask,Lib.or_mask,Lib.or_mask] at this;exact⟨by0 hw this.1.1,by0 hv this.1.2,by0 hu this.2.1,by0 ht this.2.2⟩
theorem eu4{o:Own}(l:List UInt8)(H:List AObj)(hl:l.length<=100000):o8 Tryz.prog 72 [.sl o 1 (l.map o7)] H (fun x H'=>x=.bool (Lib.validD l)/\H'=H):=by
 refine y8 [1000008,1000010,1000018,1000022,1000026] [.tmp 2] 188 Tryz.func72 ?_;repeat' first|simp -dsimp -implicitDefEqProofs (disch:=(simp only[ll];omega)) only[go_sem]|refine vcA ?_ ?_|omega
 refine b38 ab2 mixed [] (fun m:List UInt8=>m.length<=l.length/\Lib.validD m=Lib.validD l) (fun m=>[(0,.sl .sh 1 (m.map o7))]) (fun _=>H) (fun m=>m.length) (by kernel_rfl) ?_ l ⟨xq0 _,rfl⟩ y9 rfl
 intro m ⟨hm,hv⟩;have hF:=bn7 (m.getD 0 0).toNat;repeat' first|refine o6 ?_|simp -dsimp -implicitDefEqProofs (disch:=first|omega|simp only[ll];omega) only[go_sem,dv6,dL1,dt4,cZ4]|refine o5 (bE3 _ _ ?_) ?_|refine⟨_,bE3 _ _ ?_,?_⟩|refine⟨_,_,bE3 _ _ ?_,?_⟩|refine vcA ?_ ?_|omega|refine ac8 fun _=>?_
 ·rename_i h1 h2 h3 h4 h5 h6
  have v1:=cl3 h1 h2 hv;have v9:=skip (d86 (by rw[List.length_drop];omega) h4) v1
  have a2:=eV4 (w:=m.drop 9) (v:=m.drop 17) (by rw[List.length_drop];omega) (by rw[List.length_drop];omega) h6
  have v17:=skip a2.1 v9;have v25:=skip a2.2 v17;refine b38 ab2 mixed [] (fun q:List UInt8=>q.length < m.length/\Lib.validD q=Lib.validD l) (fun q=>[(0,.sl .sh 1 (q.map o7))]) (fun _=>H) (fun q=>q.length) (by kernel_rfl) ?_ (m.drop 25) ⟨by rw[List.length_drop];omega,v25⟩ y9 rfl
  intro q ⟨hq,hvq⟩;repeat' first|refine o6 ?_|simp -dsimp -implicitDefEqProofs (disch:=(simp only[ll];omega)) only[go_sem]|refine o5 (bE3 _ _ ?_) ?_|refine⟨_,bE3 _ _ ?_,?_⟩|refine⟨_,_,bE3 _ _ ?_,?_⟩|refine vcA ?_ ?_|omega|refine ac8 fun _=>?_
  ·rename_i k1 k2
   have a4:=eV3 (w:=q) (v:=q.drop 8) (u:=q.drop 16) (t:=q.drop 24) (by omega) (by rw[List.length_drop];omega) (by rw[List.length_drop];omega) (by rw[List.length_drop];omega) k2
   refine again (q.drop 32) ?_ ?_ rfl y9
   ·simp only[List.length_drop];omega
   ·exact⟨by simp only[List.length_drop];omega,skip (n:=24) a4.2.2.2 (skip (n:=16) a4.2.2.1 (skip (n:=8) a4.2.1 (skip (n:=0) a4.1 hvq)))⟩
  ·refine again (q) ?_ ?_ rfl y9
   ·omega
   ·exact⟨by omega,hvq⟩
  ·refine again (q) ?_ ?_ rfl y9
   ·omega
   ·exact⟨by omega,hvq⟩
 ·rename_i h1 h2 h3 h4 h5 h6
  have v1:=cl3 h1 h2 hv;refine again (m.drop 9) ?_ ?_ rfl y9
  ·simp only[List.length_drop];omega
  ·exact⟨by simp only[List.length_drop];omega,skip (d86 (by rw[List.length_drop];omega) h4) v1⟩
 ·rename_i h1 h2 h3 h4 h5
  have v1:=cl3 h1 h2 hv;refine again (m.drop 9) ?_ ?_ rfl y9
  ·simp only[List.length_drop];omega
  ·exact⟨by simp only[List.length_drop];omega,skip (d86 (by rw[List.length_drop];omega) h4) v1⟩
 ·rename_i h1 h2 h3 h4
  refine again (m.drop 1) ?_ ?_ rfl y9
  ·simp only[List.length_drop];omega
  ·exact⟨by simp only[List.length_drop];omega,cl3 h1 h2 hv⟩
 ·rename_i h1 h2 h3
  refine again (m.drop 1) ?_ ?_ rfl y9
  ·simp only[List.length_drop];omega
  ·exact⟨by simp only[List.length_drop];omega,cl3 h1 h2 hv⟩
 ·exact aq4 (.lit _) ⟨ae6 (by rw[<-hv,an4 (by omega) (by omega) (by omega)]),rfl⟩
 ·exact aq4 (.lit _) ⟨ae6 (by rw[<-hv,an4 (by omega) (by omega) (by omega)]),rfl⟩
 ·exact aq4 (.lit _) ⟨ae6 (by rw[<-hv,an4 (by omega) (by omega) (by omega)]),rfl⟩
 ·refine a90 (m.drop 2) ?_ ?_ (by repeat(first|exact ah0|(refine ag1 ?_ ?_;focus exact cy1))) y9
  ·simp only[List.length_drop];omega
  ·exact⟨by simp only[List.length_drop];omega,(bX0 (by omega) (by omega) (by omega) (by omega) (by omega) (by omega)).trans hv⟩
 ·exact aq4 (.lit _) ⟨ae6 (by rw[<-hv,an4 (by omega) (by omega) (by omega)]),rfl⟩
 ·exact aq4 (.lit _) ⟨ae6 (by rw[<-hv,an4 (by omega) (by omega) (by omega)]),rfl⟩
 ·exact aq4 (.lit _) ⟨ae6 (by rw[<-hv,an4 (by omega) (by omega) (by omega)]),rfl⟩
 ·exact aq4 (.lit _) ⟨ae6 (by rw[<-hv,an4 (by omega) (by omega) (by omega)]),rfl⟩
 ·exact aq4 (.lit _) ⟨ae6 (by rw[<-hv,an4 (by omega) (by omega) (by omega)]),rfl⟩
 ·refine a90 (m.drop 3) ?_ ?_ (by repeat(first|exact ah0|(refine ag1 ?_ ?_;focus exact cy1))) y9
  ·simp only[List.length_drop];omega
  ·exact⟨by simp only[List.length_drop];omega,(bX0 (by omega) (by omega) (by omega) (by omega) (by omega) (by omega)).trans hv⟩
 ·exact aq4 (.lit _) ⟨ae6 (by rw[<-hv,an4 (by omega) (by omega) (by omega)]),rfl⟩
 ·exact aq4 (.lit _) ⟨ae6 (by rw[<-hv,an4 (by omega) (by omega) (by omega)]),rfl⟩
 ·exact aq4 (.lit _) ⟨ae6 (by rw[<-hv,an4 (by omega) (by omega) (by omega)]),rfl⟩
 ·exact aq4 (.lit _) ⟨ae6 (by rw[<-hv,an4 (by omega) (by omega) (by omega)]),rfl⟩
 ·exact aq4 (.lit _) ⟨ae6 (by rw[<-hv,an4 (by omega) (by omega) (by omega)]),rfl⟩
 ·exact aq4 (.lit _) ⟨ae6 (by rw[<-hv,an4 (by omega) (by omega) (by omega)]),rfl⟩
 ·exact aq4 (.lit _) ⟨ae6 (by rw[<-hv,an4 (by omega) (by omega) (by omega)]),rfl⟩
 ·refine a90 (m.drop 4) ?_ ?_ (by repeat(first|exact ah0|(refine ag1 ?_ ?_;focus exact cy1))) y9
  ·simp only[List.length_drop];omega
  ·exact⟨by simp only[List.length_drop];omega,(bX0 (by omega) (by omega) (by omega) (by omega) (by omega) (by omega)).trans hv⟩
 ·exact aq4 (.lit _) ⟨ae6 (by rw[<-hv,an4 (by omega) (by omega) (by omega)]),rfl⟩
 ·have:m=[]:=aR5 (by omega)
  subst this;exact o9 ⟨ae6 hv,rfl⟩
end
section
open Go V
inductive JV where
 |mk (kind num:Int) (text:List UInt8) (names:List (List UInt8)) (items:List JV)
instance:Inhabited JV:=⟨.mk 0 0 [] [] []⟩
def JV.kind:JV->Int|.mk k _ _ _ _=>k
def JV.num:JV->Int|.mk _ n _ _ _=>n
def JV.text:JV->List UInt8|.mk _ _ t _ _=>t
def JV.names:JV->List (List UInt8)|.mk _ _ _ ns _=>ns
def JV.items:JV->List JV|.mk _ _ _ _ is=>is
def aa7:JV:=.mk 0 0 [] [] []
mutual
def jAV:JV->AV
 |.mk k n t ns is=>.agg [.lit (.int .i64 k),.lit (.int .i64 n),.str t,.sl .sh 1 (ns.map .str),.sl .sh 5 (cT6 is)]
def cT6:List JV->List AV
 |[]=>[]
 |v::r=>jAV v::cT6 r
end
theorem de7: ∀l,cT6 l=l.map jAV
 |[]=>by unfold cT6;rfl
 |v::r=>by unfold cT6;rw[de7 r];rfl
theorem cT7(k n:Int)(t:List UInt8)(ns:List (List UInt8))(is:List JV):jAV (.mk k n t ns is)=.agg [.lit (.int .i64 k),.lit (.int .i64 n),.str t,.sl .sh 1 (ns.map .str),.sl .sh 5 (is.map jAV)]:=by
 rw[<-de7];unfold jAV;rfl
theorem aT1(v:JV):jAV v=.agg [.lit (.int .i64 v.kind),.lit (.int .i64 v.num),.str v.text,.sl .sh 1 (v.names.map .str),.sl .sh 5 (v.items.map jAV)]:=by
 cases v;exact cT7 ..
theorem JV.induct{p:JV->Prop}(h: ∀k n t ns is,(∀x∈is,p x)->p (.mk k n t ns is)): ∀v,p v:=by
 intro v;refine JV.rec (motive_1:=p) (motive_2:=fun l=> ∀x∈l,p x) (fun k n t ns is ih=>h k n t ns is ih) (fun x hx=>by cases hx) (fun v r hv hr x hx=>?_) v
 rcases xq8.1 hx with rfl|hx
 ·exact hv
 ·exact hr x hx
abbrev bytes:=List UInt8
def ah6(a b:bytes):Bool:=Op.bytesLess a b
def srt:List bytes->Bool
 |a::b::r=>ah6 a b&&srt (b::r)
 |_=>true
def pos(ns:List bytes)(s:bytes):Nat:=(ns.takeWhile (ah6 · s)).length
def at6(v:JV)(s:bytes)(x:JV):JV:=
 if v.names[pos v.names s]?=some s then .mk v.kind v.num v.text v.names (v.items.set (pos v.names s) x)
 else .mk v.kind v.num v.text (v.names.insertIdx (pos v.names s) s) (v.items.insertIdx (pos v.names s) x)
def ae1(v:JV)(s:bytes):Option JV:=
 if v.kind=6 then(match v.names.findIdx? (fun n=>n==s) with|some i=>v.items[i]?|none=>none) else none
def be8(v:JV):Bool:=decide (v.num=0)&&decide (v.text=[])
def bq8(v:JV):Bool:=decide (v.names=[])&&decide (v.items=[])
def aI4(v:JV):Bool:=decide (v.names.length=v.items.length)&&v.names.all Lib.validD&&srt v.names
def bh8(v:JV):Bool:=
 if v.kind=0\/v.kind=1\/v.kind=2 then be8 v&&bq8 v
 else if v.kind=3 then bq8 v&&decide (v.text=[])&&decide (-9007199254740991<=v.num/\v.num<=9007199254740991)
 else if v.kind=4 then bq8 v&&decide (v.num=0)&&Lib.validD v.text
 else false
def aQ5(v:JV):Bool:=
 if v.kind=5 then be8 v&&decide (v.names=[])
 else if v.kind=6 then be8 v&&aI4 v
 else false
def ab3:Nat->JV->Bool
 |0,v=>bh8 v
 |n+1,v=>bh8 v||(aQ5 v&&v.items.all (ab3 n))
def al6:Nat->JV->Nat
 |0,_=>0
 |n+1,v=>if v.kind=5\/v.kind=6 then(v.items.map (al6 n)).foldl max 0+1 else 0
def bH5(c:UInt8):Bool:=c==32||c==9||c==10||c==13
def isDigit(c:UInt8):Bool:=decide (48<=c.toNat/\c.toNat<=57)
def blanks(r:bytes):bytes:=r.dropWhile bH5
def peek(r:bytes):UInt8:=r.headD 0
def joined(h l:Int):Int×Bool:=if h < 55296\/56319 < h\/l < 56320\/57343 < l then(0,false) else(65536+(h - 55296)*1024+(l - 56320),true)
def ad2:JV:=.mk 6 0 [] [] []
def cI7:bytes:=[110,117,108,108]
def cI6:bytes:=[116,114,117,101]
def cj7:bytes:=[102,97,108,115,101]
end
section
open Go V
theorem cf0(a b:bytes):ah6 a b=decide (a < b):=Proofs.bytesLess_eq a b
theorem aA5(a:bytes):ah6 a a=false:=by
 rw[cf0,decide_eq_false_iff_not];exact List.lt_irrefl a
theorem aP1{a b c:bytes}(h:ah6 a b=true)(k:ah6 b c=true):ah6 a c=true:=by
 rw[cf0,decide_eq_true_eq] at*;exact List.lt_trans h k
theorem c78{a b:bytes}(h:ah6 a b=true):ah6 b a=false:=by
 cases e:ah6 b a with
 |false=>rfl
 |true=>have:=aP1 h e;rw[aA5] at this;cases this
theorem cD0{a b:bytes}(h:ah6 a b=false)(k:ah6 b a=false):a=b:=by
 rw[cf0,decide_eq_false_iff_not] at*;exact List.le_antisymm k h
theorem cS6{a b:bytes}(h:ah6 a b=true):a≠b:=by
 intro e;subst e;rw[aA5] at h;cases h
theorem bg6{a:bytes}{l:List bytes}(h:srt (a::l)=true):srt l=true:=by
 cases l with
 |nil=>rfl
 |cons b r=>simp only[srt,xq3] at h;exact h.2
theorem aS0: ∀{l:List bytes} {a:bytes},srt (a::l)=true-> ∀b∈l,ah6 a b=true
 |[],a,_,b,hb=>by cases hb
 |c::r,a,h,b,hb=>by
  simp only[srt,xq3] at h;rcases xq8.1 hb with rfl|hb
  ·exact h.1
  ·exact aP1 h.1 (aS0 h.2 b hb)
theorem cd3{a:bytes}{l:List bytes}(h: ∀b∈l,ah6 a b=true)(k:srt l=true):srt (a::l)=true:=by
 cases l with
 |nil=>rfl
 |cons b r=>simp only[srt,xq3];exact⟨h b (au8 ..),k⟩
theorem cM0{l:List bytes}(h:srt l=true):l.Pairwise (fun a b=>ah6 a b=true):=by
 induction l with
 |nil=>exact .nil
 |cons a l ih=>exact .cons (aS0 h) (ih (bg6 h))
theorem c48{l:List bytes}(h:l.Pairwise (fun a b=>ah6 a b=true)):srt l=true:=by
 induction l with
 |nil=>rfl
 |cons a l ih=>
  rw[List.pairwise_cons] at h;exact cd3 h.1 (ih h.2)
theorem dz5{l:List bytes}(h:srt l=true){i j:Nat}{a b:bytes}(hij:i < j)(hi:l[i]?=some a)(hj:l[j]?=some b):ah6 a b=true:=by
 have hjl:=aa0 hj;have hil:=aa0 hi;have:=List.pairwise_iff_getElem.1 (cM0 h) i j hil hjl hij;rw[xq1 hil] at hi;rw[xq1 hjl] at hj;cases hi
 cases hj
 exact this
theorem dC7(l:List bytes)(s:bytes):pos l s<=l.length:=(List.takeWhile_sublist _).length_le
theorem ce0(a:bytes)(l:List bytes)(s:bytes):pos (a::l) s=if ah6 a s=true then pos l s+1 else 0:=by
 unfold pos;rw[List.takeWhile_cons];split<;>rfl
theorem cC1: ∀{l:List bytes} {s:bytes} {i:Nat} {a:bytes},i < pos l s->l[i]?=some a->ah6 a s=true
 |[],s,i,a,h,e=>by simp at e
 |b::l,s,i,a,h,e=>by
  rw[ce0] at h;split at h
  ·rename_i hb
   cases i with
   |zero=>simp at e;subst e;exact hb
   |succ i=>exact cC1 (l:=l) (i:=i) (by omega) (by simpa using e)
  ·omega
theorem dC8: ∀{l:List bytes} {s a:bytes},l[pos l s]?=some a->ah6 a s=false
 |[],s,a,e=>by simp at e
 |b::l,s,a,e=>by
  rw[ce0] at e;split at e
  ·exact dC8 (l:=l) (by simpa using e)
  ·rename_i hb
   simp at e;subst e;simpa using hb
theorem do6{l:List bytes}{s:bytes}{i:Nat}(hi:i<=l.length)(h1: ∀j a,j < i->l[j]?=some a->ah6 a s=true)(h2: ∀a,l[i]?=some a->ah6 a s=false):pos l s=i:=by
 rcases Nat.lt_trichotomy (pos l s) i with h|h|h
 ·have hil:pos l s < l.length:=by omega
  obtain⟨a,ha⟩: ∃a,l[pos l s]?=some a:=⟨_,xq1 hil⟩;have:=h1 _ a h ha;rw[dC8 ha] at this;cases this
 ·exact h
 ·have hp:=dC7 l s
  have hil:i < l.length:=by omega
  obtain⟨a,ha⟩: ∃a,l[i]?=some a:=⟨_,xq1 hil⟩;have h3:=cC1 h ha;rw[h2 a ha] at h3;cases h3
end
section
open Go V
end
section
open Go V
end
section
open Go V
def az7(l:List UInt8):List AV:=(List.range 256).map fun i=>.lit (.bool (l.any fun c=>c.toNat==i))
theorem a09(l:List UInt8):(az7 l).length=256:=by simp[az7]
theorem cB4:List.replicate 256 (AV.lit (.bool false))=az7 []:=by
 unfold az7;simp only[List.any_nil];rw[List.map_const',List.length_range]
theorem dB0(l:List UInt8)(c:UInt8):(az7 l).getD c.toNat .any=.lit (.bool (l.any fun d=>d.toNat==c.toNat)):=by
 have:=c.toNat_lt;unfold az7;rw[List.getD,ak8,aI7 (by omega)]
 rfl
theorem dO5(l:List UInt8)(c:UInt8):(l.any fun d=>d.toNat==c.toNat)=l.contains c:=by
 rw[b06,bK3];simp only[beq_iff_eq,ci6];constructor
 ·rintro⟨d,hd,e⟩
  rwa [<-aZ0.1 e]
 ·intro h
  exact⟨c,h,rfl⟩
theorem dA9(l:List UInt8)(c:UInt8):(az7 l).set c.toNat (.lit (.bool true))=az7 (l++[c]):=by
 refine aW4 fun i=>?_
 rw[bf8];unfold az7;simp only[ak8,List.length_map,List.length_range];have:=c.toNat_lt;by_cases hi:i < 256
 ·rw[aI7 hi]
  by_cases h:c.toNat=i
  ·subst h
   simp
   omega
  ·simp[h]
 ·rw[av1 (by simpa using hi)]
  simp
  omega
theorem bo3{cs xs:List AV}(h:cs.length=xs.length):ag0 cs 0 xs=xs:=by
 refine aW4 fun k=>?_
 rw[bx9];by_cases hk:k < xs.length
 ·rw[if_pos ⟨by omega,by omega,by omega⟩,a99]
 ·rw[if_neg (by omega),av1 (by omega),av1 (by omega)]
theorem cM5(l:List UInt8):(az7 l).all AV.scalar=true:=by
 rw[xq5];intro x hx;obtain⟨i,_,rfl⟩:=xq6.1 hx;rfl
theorem cl7(l:List UInt8):(az7 l).take 256=az7 l:=al2 (by rw[a09];omega)
theorem cl8(l m:List UInt8):ag0 (az7 l) 0 (az7 m)=az7 m:=bo3 (by rw[a09,a09])
theorem dG3{m:Nat}{l:List UInt8}:Low m (.agg (az7 l)):=.agg _ fun x hx=>by
 obtain⟨i,_,rfl⟩:=xq6.1 hx;exact .lit _
theorem dG1(l:List UInt8)(H:List AObj)(hl:l.length<=1000)(ha: ∀i,i < l.length->(l.getD i 0).toNat < 128):o8 Tryz.prog 208 [.str l] H (fun x H'=>x=.tup [.agg (az7 l),.bool true]/\H'=H):=by
 refine y8 [] [.cell 2 240,.tmp 3] 21 Tryz.func208 ?_;repeat' simp -dsimp -implicitDefEqProofs only[go_sem]
 refine aa8 ab2 mixed [] [0,2] (fun i:Nat=>i<=l.length) (fun i=>[(4,.int .i64 i)]) (fun i=>H++[.cells (.one 240) (az7 (l.take i))]) (fun i=>l.length - i) (by kernel_rfl) ?_ 0 (by omega) y9 (by rw[xq9,<-cB4])
 intro i hi;have hai:=ha i;repeat' first|refine o6 ?_|simp -dsimp -implicitDefEqProofs (disch:=omega) only[go_sem,a09,cM5,cl7,cl8]|refine vcA ?_ ?_|omega|refine ac8 fun _=>?_
 ·refine again (i+1) ?_ ?_ ?_ y9
  ·omega
  ·omega
  ·rw[dA9,take_snoc (by omega)]
 ·obtain rfl:i=l.length:=by omega
  exact aa5 _ (Le.refl _) (ah9 (aa3 dG3 (aa3 (.lit _) ac4))) ⟨rfl,rfl⟩
theorem cM4(l:List UInt8)(c:UInt8){k:Nat}{H:List AObj}(hk:H[k]?=some (.cells (.one 240) (az7 l))):o8 Tryz.prog 231 [.mp k 0,.lit (.int .u8 c.toNat)] H (fun x H'=>x=.bool (l.contains c)/\H'=H):=by
 refine y8 [] [.tmp 4] 10 Tryz.func231 ?_;repeat' simp -dsimp -implicitDefEqProofs only[go_sem,hk,a09,dB0,dO5]
 exact o9 ⟨rfl,rfl⟩
def aJ9(p:UInt8->Bool)(l:List UInt8):List UInt8:=l.dropWhile p
def aG4(p:UInt8->Bool)(l:List UInt8):List UInt8:=(l.reverse.dropWhile p).reverse
theorem dk9{p:UInt8->Bool}{l:List UInt8}(h:0 < l.length)(hp:p (l.getD (l.length - 1) 0)=false):aG4 p l=l:=by
 obtain⟨m,c,rfl⟩: ∃m c,l=m++[c]:=⟨l.dropLast,l.getLast (List.ne_nil_of_length_pos h),(List.dropLast_concat_getLast _).symm⟩;unfold aG4;have:(m++[c]).getD ((m++[c]).length - 1) 0=c:=by simp[List.getD]
 rw[this] at hp;simp[hp]
theorem dl0{p:UInt8->Bool}{l:List UInt8}(h:0 < l.length)(hp:p (l.getD (l.length - 1) 0)=true):aG4 p l=aG4 p (l.take (l.length - 1)):=by
 obtain⟨m,c,rfl⟩: ∃m c,l=m++[c]:=⟨l.dropLast,l.getLast (List.ne_nil_of_length_pos h),(List.dropLast_concat_getLast _).symm⟩;unfold aG4;have:(m++[c]).getD ((m++[c]).length - 1) 0=c:=by simp[List.getD]
 rw[this] at hp;simp[hp]
theorem dl2{p:UInt8->Bool}{l:List UInt8}(h:0 < l.length)(hp:p (l.getD 0 0)=false):aJ9 p l=l:=by
 cases l with
 |nil=>simp at h
 |cons c l=>simp at hp;simp[aJ9,hp]
theorem dl3{p:UInt8->Bool}{l:List UInt8}(h:0 < l.length)(hp:p (l.getD 0 0)=true):aJ9 p l=aJ9 p (l.drop 1):=by
 cases l with
 |nil=>simp at h
 |cons c l=>simp at hp;simp[aJ9,hp]
theorem c39(l s:List UInt8){k:Nat}{H:List AObj}(hk:H[k]?=some (.cells (.one 240) (az7 s)))(hl:l.length<=100000):o8 Tryz.prog 210 [.str l,.mp k 0] H (fun x H'=>x=.str (aG4 s.contains l)/\H'=H):=by
 refine y8 [] [.tmp 4] 22 Tryz.func210 ?_;repeat' simp -dsimp -implicitDefEqProofs only[go_sem]
 refine aa8 ab2 mixed [] [1,4] (fun r:List UInt8=>aG4 s.contains r=aG4 s.contains l/\r.length<=l.length) (fun r=>[(0,.str r)]) (fun _=>H) (fun r=>r.length) (by kernel_rfl) ?_ l ⟨rfl,xq0 _⟩ y9 rfl
 rintro r ⟨hr,hrl⟩
 repeat' first|refine o6 ?_|simp -dsimp -implicitDefEqProofs (disch:=omega) only[go_sem]|refine o5 (cM4 s _ hk) ?_|refine vcA ?_ ?_|omega|refine ac8 fun _=>?_
 ·rename_i h1 h2
  rw[show ((r.length:Int) - 1).toNat=r.length - 1 by omega] at h2
  exact o9 ⟨by rw[<-hr,dk9 (by omega) h2],rfl⟩
 ·rename_i h1 h2
  rw[show ((r.length:Int) - 1).toNat=r.length - 1 by omega] at h2
  refine again (r.take (((r.length:Int) - 1).toNat - 0)) ?_ ?_ rfl y9
  ·rw[List.length_take];omega
  ·rw[show ((r.length:Int) - 1).toNat - 0=r.length - 1 by omega,List.length_take]
   exact⟨by rw[<-hr,dl0 (l:=r) (by omega) h2],by omega⟩
 ·have:r=[]:=aR5 (by omega)
  subst this;exact o9 ⟨by rw[<-hr];rfl,rfl⟩
theorem dl1(l s:List UInt8){k:Nat}{H:List AObj}(hk:H[k]?=some (.cells (.one 240) (az7 s)))(hl:l.length<=100000):o8 Tryz.prog 209 [.str l,.mp k 0] H (fun x H'=>x=.str (aJ9 s.contains l)/\H'=H):=by
 refine y8 [] [.tmp 4] 16 Tryz.func209 ?_;repeat' simp -dsimp -implicitDefEqProofs only[go_sem]
 refine aa8 ab2 mixed [] [1,4] (fun r:List UInt8=>aJ9 s.contains r=aJ9 s.contains l/\r.length<=l.length) (fun r=>[(0,.str r)]) (fun _=>H) (fun r=>r.length) (by kernel_rfl) ?_ l ⟨rfl,xq0 _⟩ y9 rfl
 rintro r ⟨hr,hrl⟩
 repeat' first|refine o6 ?_|simp -dsimp -implicitDefEqProofs (disch:=(simp only[ll];omega)) only[go_sem]|refine o5 (cM4 s _ hk) ?_|refine vcA ?_ ?_|omega|refine ac8 fun _=>?_
 ·rename_i h1 h2
  exact o9 ⟨by rw[<-hr,dl2 (by omega) h2],rfl⟩
 ·rename_i h1 h2
  refine again (r.drop 1) ?_ ?_ rfl y9
  ·rw[List.length_drop];omega
  ·rw[List.length_drop]
   exact⟨by rw[<-hr,dl3 (l:=r) (by omega) h2],by omega⟩
 ·have:r=[]:=aR5 (by omega)
  subst this;exact o9 ⟨by rw[<-hr];rfl,rfl⟩
theorem cX5{p:UInt8->Bool}: ∀{l:List UInt8},l.dropWhile p=[]↔ ∀x∈l,p x=true
 |[]=>by simp
 |c::l=>by
  rw[List.dropWhile_cons];split
  ·rename_i h
   rw[cX5];simp[h]
  ·rename_i h
   simp
   intro h2;exact absurd h2 h
theorem dx7{p:UInt8->Bool}{l:List UInt8}:aJ9 p (aG4 p l)=[]↔l.all p=true:=by
 constructor
 ·intro h
  unfold aJ9 aG4 at h;rw[cX5] at h;rw[xq5];intro x hx;have h2: ∀m:List UInt8,(∀y∈(m.dropWhile p),p y=true)-> ∀y∈m,p y=true:=fun m hm y hy=>by
   rw[<-List.takeWhile_append_dropWhile (p:=p) (l:=m)] at hy;rcases aR3.1 hy with hy|hy
   ·exact xq5.1 (List.all_takeWhile) y hy
   ·exact hm y hy
  exact h2 l.reverse (fun y hy=>h y (cH6.2 hy)) x (cH6.2 hx)
 ·intro h
  rw[xq5] at h;unfold aJ9 aG4;rw[cX5];intro x hx;exact h x (cH6.1 ((List.dropWhile_sublist _).subset (cH6.1 hx)))
theorem dP4(l s:List UInt8)(H:List AObj)(hl:l.length<=100000)(hs:1 < s.length)(hs2:s.length<=1000)(ha: ∀i,i < s.length->(s.getD i 0).toNat < 128):o8 Tryz.prog 174 [.str l,.str s] H (fun x H'=>x=.str (aJ9 s.contains (aG4 s.contains l))/\H'=H):=by
 have h1:s≠[]:=by intro e;subst e;simp at hs
 have h2:(aG4 s.contains l).length<=100000:=by
  unfold aG4;have:=(List.dropWhile_sublist s.contains (l:=l.reverse)).length_le;rw[List.length_reverse] at this⊢;omega
 refine y8 [1000004] [.tmp 4] 43 Tryz.func174 ?_;repeat' first|refine o6 ?_|simp -dsimp -implicitDefEqProofs only[go_sem,a09,cM5,cl7,cl8,cB4,h1]|refine o5 (dG1 s _ hs2 ha) ?_|refine o5 (c39 l s aW1 hl) ?_|refine o5 (dl1 _ s aW1 h2) ?_|refine vcA ?_ ?_|omega|refine ac8 fun _=>?_
 ·rename_i h
  subst h;exact o9 ⟨rfl,rfl⟩
 ·exact aa5 _ (Le.refl _) (.str _) ⟨rfl,rfl⟩
end
section
open Go V
theorem c86(l:List UInt8):aa1 (l.map o7)=l.map o7:=an5 o7 (fun _=>rfl) l
theorem aN8(l:List bytes):aa1 (l.map .str)=l.map .str:=by
 induction l with
 |nil=>rfl
 |cons a l ih=>rw[List.map_cons,ap2,ih];rfl
theorem dv0{z:AV}{n:Nat}{l:List UInt8}(h:n=l.length):ag0 (List.replicate n z) 0 (l.map o7)=l.map o7:=bo3 (by simp[h])
attribute [go_sem] List.length_range c86 aN8 dv0
end
section
open Go V
theorem el1{m:Nat}{x:AV}(h:Low m x:=by(first|(first|exact .lit _|exact .str _|exact .any|exact af5|exact ah5|exact .mp _ _ (by omega)|exact .msl _ _ _ _ (by omega)|exact af6 (fun k e=>by cases e)|exact ae5 _|exact ak1|exact ak0|exact an0|exact am9 _)|(refine ah9 ?_;repeat(first|exact ac4|(refine aa3 ?_ ?_;focus(first|exact .lit _|exact .str _|exact .any|exact af5|exact ah5|exact .mp _ _ (by omega)|exact .msl _ _ _ _ (by omega)|exact af6 (fun k e=>by cases e)|exact ae5 _|exact ak1|exact ak0|exact an0|exact am9 _))))|(refine aB8 ?_;repeat(first|exact ac4|(refine aa3 ?_ ?_;focus(first|exact .lit _|exact .str _|exact .any|exact af5|exact ah5|exact .mp _ _ (by omega)|exact .msl _ _ _ _ (by omega)|exact af6 (fun k e=>by cases e)|exact ae5 _|exact ak1|exact ak0|exact an0|exact am9 _)))))):Low m x:=h
theorem av5{v:JV}:(jAV v).flat=[.lit (.int .i64 v.kind),.lit (.int .i64 v.num),.str v.text,.sl .sh 1 (v.names.map .str),.sl .sh 5 (v.items.map jAV)]:=by rw[aT1];rfl
theorem b60{v:JV}:(jAV v).okv=true:=by rw[aT1];rfl
theorem eG2{v:JV}:AV.agg [.lit (.int .i64 v.kind),.lit (.int .i64 v.num),.str v.text,.sl .sh 1 (v.names.map .str),.sl .sh 5 (v.items.map jAV)]=jAV v:=(aT1 v).symm
theorem eF8{l:List JV}{i:Nat}(h:i < l.length):(l.map jAV).getD i .any=jAV (l.getD i aa7):=by
 rw[List.getD,ak8,xq1 h,List.getD,xq1 h];rfl
theorem eF6{l:List bytes}{i:Nat}(h:i < l.length):(l.map AV.str).getD i .any=.str (l.getD i []):=by
 rw[List.getD,ak8,xq1 h,List.getD,xq1 h];rfl
attribute [go_sem] av5 b60 eG2 eF8 eF6
theorem az3{α:Type}{l:List α}{i:Nat}{d:α}(h:i < l.length):l.getD i d∈l:=by
 rw[List.getD,xq1 h];exact aR4 h
theorem ae5{m:Nat}: ∀v:JV,Low m (jAV v):=by
 refine JV.induct fun k n t ns is ih=>?_
 rw[cT7];refine aB8 (aa3 (.lit _) (aa3 (.lit _) (aa3 (.str _) (aa3 ?_ (aa3 ?_ ac4)))))
 ·refine .sl _ _ _ (fun k e=>by cases e) fun x hx=>?_
  rw[aN8] at hx;obtain⟨s,_,rfl⟩:=xq6.1 hx;exact .str _
 ·refine .sl _ _ _ (fun k e=>by cases e) fun x hx=>?_
  unfold aa1 at hx;obtain⟨y,hy,hx⟩:=bK7.1 hx;obtain⟨v,hv,rfl⟩:=xq6.1 hy;have:=ih v hv;rw[aT1] at this;cases this with
  |agg _ h=>
   rw[av5] at hx;exact h x hx
theorem em2{a b c d e a' b' c' d' e':AV}(h1:Le a a')(h2:Le b b')(h3:Le c c')(h4:Le d d')(h5:Le e e'):Le (.agg [a,b,c,d,e]) (.agg [a',b',c',d',e']):=
 cq6 (.cons h1 (.cons h2 (.cons h3 (.cons h4 (.cons h5 .nil)))))
theorem bX1{k n:Int}{t:bytes}{ns:List bytes}{is:List JV}{x y:AV}(h1:Le x (.sl .sh 1 (ns.map .str)))(h2:Le y (.sl .sh 5 (is.map jAV))):Le (.agg [.lit (.int .i64 k),.lit (.int .i64 n),.str t,x,y]) (jAV (.mk k n t ns is)):=by
 rw[cT7];exact em2 (Le.refl _) (Le.refl _) (Le.refl _) h1 h2
theorem b67{k n:Int}{t:bytes}{o o':Own}{s s':Nat}:Le (.agg [.lit (.int .i64 k),.lit (.int .i64 n),.str t,.sl o s [],.sl o' s' []]) (jAV (.mk k n t [] [])):=bX1 ao3 ao3
def al5(n:List UInt8):Nat:=1+n.length
mutual
def aa2:JV->Nat
 |.mk _ _ t ns is=>1+t.length+(ns.map al5).sum+aW9 is
def aW9:List JV->Nat
 |[]=>0
 |v::r=>aa2 v+aW9 r
end
theorem av2(v:JV):aa2 v=1+v.text.length+(v.names.map al5).sum+aW9 v.items:=by cases v;rw[aa2];rfl
theorem aM2: ∀l,aW9 l=(l.map aa2).sum
 |[]=>by rw[aW9];rfl
 |v::r=>by rw[aW9,aM2 r];simp
theorem aA2(v:JV):1<=aa2 v:=by rw[av2];omega
theorem cv9{α:Type}{f:α->Nat}: ∀{l:List α} {x:α},x∈l->f x<=(l.map f).sum
 |a::l,x,h=>by
  rw[List.map_cons,bt8];rcases xq8.1 h with rfl|h
  ·omega
  ·have:=cv9 (f:=f) h;omega
theorem bg4{α:Type}{f:α->Nat}(h: ∀x,1<=f x): ∀(l:List α),l.length<=(l.map f).sum
 |[]=>by simp
 |a::l=>by
  have:=bg4 h l;have:=h a;rw[List.map_cons,bt8,List.length_cons];omega
theorem size_text(v:JV):v.text.length < aa2 v:=by rw[av2];omega
theorem cA8{v:JV}{n:bytes}(h:n∈v.names):n.length < aa2 v:=by
 have:=cv9 (f:=al5) h;rw[av2 v];unfold al5 at*;omega
theorem aS1{v x:JV}(h:x∈v.items):aa2 x < aa2 v:=by
 have:=cv9 (f:=aa2) h;rw[av2 v,aM2];omega
theorem aU6(v:JV):v.names.length < aa2 v:=by
 have:=bg4 (f:=al5) (fun n=>by unfold al5;omega) v.names
 rw[av2 v];omega
theorem aM9(v:JV):v.items.length < aa2 v:=by
 have:=bg4 aA2 v.items;rw[av2 v,aM2];omega
theorem dA0(v:JV):v.names.length+v.items.length < aa2 v:=by
 have h1:=bg4 (f:=al5) (fun n=>by unfold al5;omega) v.names
 have h2:=bg4 aA2 v.items;rw[av2 v,aM2];omega
def bd3(ns:List bytes)(s:bytes):Int:=match ns.findIdx? (fun n=>n==s) with|some i=>(i:Nat)|none=> -1
theorem dg3{α:Type}{p:α->Bool}{l:List α}{i:Nat}{d:α}(hi:i < l.length)(h1: ∀j,j < i->p (l.getD j d)=false)(h2:p (l.getD i d)=true):l.findIdx? p=some i:=by
 rw[di9];refine⟨hi,?_,fun j hj=>?_⟩
 ·rw[List.getD,xq1 hi] at h2
  exact h2
 ·have:=h1 j hj
  rw[List.getD,xq1 (by omega)] at this
  simpa using this
theorem dg2{α:Type}{p:α->Bool}{l:List α}{d:α}(h1: ∀j,j < l.length->p (l.getD j d)=false):l.findIdx? p=none:=by
 rw[di8];intro x hx;obtain⟨j,hj,rfl⟩:=di7.1 hx;have:=h1 j hj;rwa [List.getD,xq1 hj] at this
theorem upto_succ{p:Nat->Prop}{i:Nat}(h: ∀j,j < i->p j)(k:p i): ∀j,j < i+1->p j:=fun j hj=>by
 rcases an9 j i with h1|h1
 ·exact h j h1
 ·obtain rfl:j=i:=by omega
  exact k
theorem dh9{o:Own}(ns:List bytes)(s:bytes)(H:List AObj)(hl:ns.length<=100000):o8 Tryz.prog 52 [.sl o 1 (ns.map .str),.str s] H (fun x H'=>x=.int .i64 (bd3 ns s)/\H'=H):=by
 refine y8 [] [.tmp 4] 19 Tryz.func52 ?_;repeat' simp -dsimp -implicitDefEqProofs only[go_sem]
 refine aa8 ab2 mixed [] [0,1,7] (fun i:Nat=>i<=ns.length/\ ∀j,j < i->(ns.getD j []==s)=false) (fun i=>[(8,.int .i64 i)]) (fun _=>H) (fun i=>ns.length - i) (by kernel_rfl) ?_ 0 ⟨by omega,fun j hj=>by omega⟩ y9 rfl
 rintro i ⟨hi,hp⟩
 repeat' first|refine o6 ?_|simp -dsimp -implicitDefEqProofs (disch:=omega) only[go_sem]|refine vcA ?_ ?_|omega|refine ac8 fun _=>?_
 ·rename_i h1 h2
  refine o9 ⟨int_eq ?_,rfl⟩;rw[bd3,dg3 (d:=[]) (by omega) hp (by rw[<-h2];simp)]
 ·rename_i h1 h2
  refine again (i+1) ?_ ?_ rfl y9
  ·omega
  ·exact⟨by omega,upto_succ hp (by rw[beq_eq_false_iff_ne];exact fun e=>h2 e.symm)⟩
 ·obtain rfl:i=ns.length:=by omega
  refine o9 ⟨int_eq ?_,rfl⟩;rw[bd3,dg2 (d:=[]) hp]
def cU7(l:List JV)(p:JV->Bool):Int:=match l.findIdx? p with|some i=>(i:Nat)|none=> -1
theorem da6{o:Own}(g:FuncId)(cs:List AV)(p:JV->Bool)(l:List JV)(H:List AObj)(hl:l.length<=100000)(hp: ∀x∈l,o8 Tryz.prog g (jAV x::cs) H (fun y H'=>y=.bool (p x)/\H'=H)):
  o8 Tryz.prog 148 [.sl o 5 (l.map jAV),.fn (.func g) [] cs] H (fun x H'=>x=.int .i64 (cU7 l p)/\H'=H):=by
 refine y8 [] [.tmp 4] 19 Tryz.func148 ?_;repeat' simp -dsimp -implicitDefEqProofs only[go_sem]
 refine aa8 ab2 mixed [] [0,1,7] (fun i:Nat=>i<=l.length/\ ∀j,j < i->p (l.getD j aa7)=false) (fun i=>[(8,.int .i64 i)]) (fun _=>H) (fun i=>l.length - i) (by kernel_rfl) ?_ 0 ⟨by omega,fun j hj=>by omega⟩ y9 rfl
 rintro i ⟨hi,hq⟩
 repeat' first|refine o6 ?_|simp -dsimp -implicitDefEqProofs (disch:=omega) only[go_sem]|refine o5 (hp _ (az3 (by omega))) ?_|refine vcA ?_ ?_|omega|refine ac8 fun _=>?_
 ·rename_i h1 h2
  refine o9 ⟨int_eq ?_,rfl⟩;rw[cU7,dg3 (d:=aa7) (by omega) hq h2]
 ·rename_i h1 h2
  refine again (i+1) ?_ ?_ rfl y9
  ·omega
  ·exact⟨by omega,upto_succ hq h2⟩
 ·obtain rfl:i=l.length:=by omega
  refine o9 ⟨int_eq ?_,rfl⟩;rw[cU7,dg2 (d:=aa7) hq]
theorem eo0(l:List JV)(p:JV->Bool):(0<=cU7 l p)=(l.any p=true):=by
 unfold cU7;cases h:l.findIdx? p with
 |some i=>
  have h2:=di9.1 h;obtain⟨hi,hp,_⟩:=h2;exact propext ⟨fun _=>bK3.2 ⟨l[i],aR4 hi,hp⟩,fun _=>Int.natCast_nonneg _⟩
 |none=>
  have h2:=di8.1 h;have:l.any p=false:=by
   rw[cH5];intro x hx;simp[h2 x hx]
  rw[this];simp
theorem bI8{o:Own}(g:FuncId)(cs:List AV)(p:JV->Bool)(l:List JV)(H:List AObj)(hl:l.length<=100000)(hp: ∀x∈l,o8 Tryz.prog g (jAV x::cs) H (fun y H'=>y=.bool (p x)/\H'=H)):
  o8 Tryz.prog 92 [.sl o 5 (l.map jAV),.fn (.func g) [] cs] H (fun x H'=>x=.bool (l.any p)/\H'=H):=by
 refine y8 [] [.tmp 4] 9 Tryz.func92 ?_;repeat' first|simp -dsimp -implicitDefEqProofs only[go_sem]|refine o5 (da6 g cs p l H hl hp) ?_|fail
 refine o9 ⟨ae6 ?_,rfl⟩;rw[b06,decide_eq_true_eq,eo0]
theorem bR7{o:Own}(ns:List bytes)(s:bytes)(H:List AObj)(hl:ns.length<=100000):o8 Tryz.prog 74 [.sl o 1 (ns.map .str),.str s] H (fun x H'=>x=.bool (decide (0<=bd3 ns s))/\H'=H):=by
 refine y8 [] [.tmp 4] 9 Tryz.func74 ?_;repeat' first|simp -dsimp -implicitDefEqProofs only[go_sem]|refine o5 (dh9 ns s H hl) ?_|fail
 exact o9 ⟨rfl,rfl⟩
theorem b43{α:Type}{l m:List α}{d:α}(hl:l.length=m.length)(h: ∀j,j < l.length->l.getD j d=m.getD j d):l=m:=by
 refine List.ext_getElem hl fun j h1 h2=>?_
 have:=h j h1;rwa [List.getD,xq1 h1,List.getD,xq1 h2] at this
theorem ev4{o o':Own}(l m:List bytes)(H:List AObj)(hl:l.length<=100000):o8 Tryz.prog 94 [.sl o 1 (l.map .str),.sl o' 1 (m.map .str)] H (fun x H'=>x=.bool (decide (l=m))/\H'=H):=by
 refine y8 [1000006] [.tmp 4] 26 Tryz.func94 ?_;repeat' first|refine o6 ?_|simp -dsimp -implicitDefEqProofs only[go_sem]|refine vcA ?_ ?_|refine ac8 fun _=>?_
 ·rename_i h
  exact o9 ⟨ae6 (decide_eq_false fun e=>h (by rw[e])).symm,rfl⟩
 ·refine aa8 ab2 mixed [1000006] [0,1,12] (fun i:Nat=>i<=l.length/\ ∀j,j < i->l.getD j []=m.getD j []) (fun i=>[(13,.int .i64 i)]) (fun _=>H) (fun i=>l.length - i) (by kernel_rfl) ?_ 0 ⟨by omega,fun j hj=>by omega⟩ y9 rfl
  rintro i ⟨hi,hp⟩
  repeat' first|refine o6 ?_|simp -dsimp -implicitDefEqProofs (disch:=omega) only[go_sem]|refine vcA ?_ ?_|omega|refine ac8 fun _=>?_
  ·rename_i h1 h2
   exact o9 ⟨ae6 (decide_eq_false fun e=>h2 (by rw[e])).symm,rfl⟩
  ·rename_i h1 h2
   refine again (i+1) ?_ ?_ rfl y9
   ·omega
   ·exact⟨by omega,upto_succ hp h2⟩
  ·obtain rfl:i=l.length:=by omega
   exact o9 ⟨ae6 (decide_eq_true (b43 (d:=[]) (by omega) hp)).symm,rfl⟩
theorem ak1{m:Nat}{l:List JV}:Low m (.sl .sh 5 (l.map jAV)):=.sl _ _ _ (fun k e=>by cases e) fun x hx=>by
 unfold aa1 at hx;obtain⟨y,hy,hx⟩:=bK7.1 hx;obtain⟨v,hv,rfl⟩:=xq6.1 hy;have:=ae5 (m:=m) v;rw[aT1] at this;cases this with
 |agg _ h=>
  rw[av5] at hx;exact h x hx
theorem ak0{m s:Nat}{l:List bytes}:Low m (.sl .sh s (l.map .str)):=.sl _ _ _ (fun k e=>by cases e) fun x hx=>by
 rw[aN8] at hx;obtain⟨s,_,rfl⟩:=xq6.1 hx;exact .str _
theorem an0{m:Nat}{f:Fn}:Low m (.fn f [] []):=.fn _ _ _ (fun x hx=>by cases hx) (fun x hx=>by cases hx)
open Classical in
theorem db0(g:FuncId)(l m:List JV)(H:List AObj)(hl:l.length<=100000)(hp: ∀x∈l,∀(y:JV) (M:List AObj),o8 Tryz.prog g [jAV x,jAV y] (H++M) (fun z H'=>z=.bool (decide (x=y))/\H'=H++M)):
  o8 Tryz.prog 95 [.sl .sh 5 (l.map jAV),.sl .sh 5 (m.map jAV),.fn (.func g) [] []] H (fun x H'=>x=.bool (decide (l=m))/\H'=H):=by
 refine y8 [] [.tmp 6] 32 Tryz.func95 ?_;repeat' first|refine o6 ?_|simp -dsimp -implicitDefEqProofs only[go_sem]|refine vcA ?_ ?_|refine ac8 fun _=>?_
 ·rename_i h
  exact o9 ⟨ae6 (decide_eq_false fun e=>h (by rw[e])).symm,rfl⟩
 ·refine aa8 ab2 mixed [] [1,2,15,16] (fun i:Nat=>i<=l.length/\ ∀j,j < i->l.getD j aa7=m.getD j aa7) (fun i=>[(17,.int .i64 i)]) (fun _=>H) (fun i=>l.length - i) (by kernel_rfl) ?_ 0 ⟨by omega,fun j hj=>by omega⟩ y9 rfl
  rintro i ⟨hi,hq⟩
  repeat' first|refine o6 ?_|simp -dsimp -implicitDefEqProofs (disch:=first|omega|simp only[ll];omega) only[go_sem]|refine o5 (hp _ (az3 (by omega)) _ _) ?_|refine vcA ?_ ?_|omega|refine ac8 fun _=>?_
  ·rename_i h1 h2
   exact d58 ⟨ae6 (decide_eq_false fun e=>h2 (by rw[e])).symm,rfl⟩
  ·rename_i h1 h2
   refine a90 (i+1) ?_ ?_ (by repeat(first|exact ah0|(refine ag1 ?_ ?_;focus exact el1))) y9
   ·omega
   ·exact⟨by omega,upto_succ hq h2⟩
  ·obtain rfl:i=l.length:=by omega
   exact o9 ⟨ae6 (decide_eq_true (b43 (d:=aa7) (by omega) hq)).symm,rfl⟩
end
section
open Go V
def aD1(p:List UInt8×JV):AV:=.agg (.str p.1::(jAV p.2).flat)
theorem dK8{p:List UInt8×JV}:(aD1 p).flat=[.str p.1,.lit (.int .i64 p.2.kind),.lit (.int .i64 p.2.num),.str p.2.text,.sl .sh 1 (p.2.names.map .str),.sl .sh 5 (p.2.items.map jAV)]:=by unfold aD1;rw[av5];rfl
theorem dK2{p:List UInt8×JV}:AV.agg [.str p.1,.lit (.int .i64 p.2.kind),.lit (.int .i64 p.2.num),.str p.2.text,.sl .sh 1 (p.2.names.map .str),.sl .sh 5 (p.2.items.map jAV)]=aD1 p:=by unfold aD1;rw[av5]
theorem eI2{a:AV}{l:List AV}:(a::l).drop 1=l:=rfl
theorem eO1{p:List UInt8×JV}:(aD1 p).okv=true:=by unfold aD1;rw[av5];rfl
theorem eF7{l:List (List UInt8×JV)}{i:Nat}(h:i < l.length):(l.map aD1).getD i .any=aD1 (l.getD i ([],aa7)):=by
 rw[List.getD,ak8,xq1 h,List.getD,xq1 h];rfl
attribute [go_sem] dK8 eO1 eF7 dK2 eI2
theorem eO7{m:Nat}(p:List UInt8×JV): ∀z∈(aD1 p).flat,Low m z:=fun z hz=>by
 have:=ae5 (m:=m) p.2;rw[aT1] at this;cases this with
 |agg _ h=>
  rw[dK8] at hz;rcases xq8.1 hz with rfl|hz
  ·exact .str _
  ·exact h z hz
theorem bG9{m s:Nat}{l:List (List UInt8×JV)}:Low m (.sl .sh s (l.map aD1)):=.sl _ _ _ (fun k e=>by cases e) fun x hx=>by
 unfold aa1 at hx;obtain⟨y,hy,hx⟩:=bK7.1 hx;obtain⟨p,hp,rfl⟩:=xq6.1 hy;exact eO7 p x hx
end
section
open V
structure Sha(w:Nat) where
 count:Nat
 k:Nat->BitVec w
 b0:Nat×Nat×Nat
 b1:Nat×Nat×Nat
 s0:Nat×Nat×Nat
 s1:Nat×Nat×Nat
def bigT{w:Nat}(x:BitVec w)(l:Nat×Nat×Nat):BitVec w:=x.rotateRight l.1^^^x.rotateRight l.2.1^^^x.rotateRight l.2.2
def aH8{w:Nat}(x:BitVec w)(l:Nat×Nat×Nat):BitVec w:=x.rotateRight l.1^^^x.rotateRight l.2.1^^^(x>>>l.2.2)
namespace Sha
variable {w:Nat}(S:Sha w)
def next(m:List (BitVec w)):BitVec w:=m.getD (m.length - 16) 0+aH8 (m.getD (m.length - 15) 0) S.s0+m.getD (m.length - 7) 0+aH8 (m.getD (m.length - 2) 0) S.s1
def sched(block:List (BitVec w)):Nat->List (BitVec w)
 |0=>block
 |n+1=>let m:=sched block n;m++[S.next m]
structure St(w:Nat) where
 a:BitVec w
 b:BitVec w
 c:BitVec w
 d:BitVec w
 e:BitVec w
 f:BitVec w
 g:BitVec w
 h:BitVec w
def St.list(s:St w):List (BitVec w):=[s.a,s.b,s.c,s.d,s.e,s.f,s.g,s.h]
def chT(e f g:BitVec w):BitVec w:=(e&&&f)^^^(~~~ e&&&g)
def eT8(a b c:BitVec w):BitVec w:=(a&&&b)^^^(a&&&c)^^^(b&&&c)
def t1(i:Nat)(x:BitVec w)(s:St w):BitVec w:=s.h+bigT s.e S.b1+chT s.e s.f s.g+S.k i+x
def t2(s:St w):BitVec w:=bigT s.a S.b0+eT8 s.a s.b s.c
def step(i:Nat)(x:BitVec w)(s:St w):St w:=⟨S.t1 i x s+S.t2 s,s.a,s.b,s.c,s.d+S.t1 i x s,s.e,s.f,s.g⟩
def steps(m:List (BitVec w))(s:St w):Nat->St w
 |0=>s
 |n+1=>S.step n (m.getD n 0) (steps m s n)
def add(s t:St w):St w:=⟨s.a+t.a,s.b+t.b,s.c+t.c,s.d+t.d,s.e+t.e,s.f+t.f,s.g+t.g,s.h+t.h⟩
def take(s:St w)(block:List (BitVec w)):St w:=add s (S.steps (S.sched block (S.count - 16)) s S.count)
theorem sched_len(block:List (BitVec w))(n:Nat):(S.sched block n).length=block.length+n:=by
 induction n with
 |zero=>rfl
 |succ n ih=>simp only[sched,List.length_append,ih,List.length_cons,List.length_nil];omega
end Sha
def bu1(w:Nat)(l:List UInt8):BitVec w:=l.foldl (fun x b=>x<<<8|||BitVec.ofNat w b.toNat) 0
theorem c30(w:Nat)(l:List UInt8)(b:UInt8):bu1 w (l++[b])=(bu1 w l<<<8|||BitVec.ofNat w b.toNat):=by
 simp[bu1]
def wordsOf(w:Nat)(l:List UInt8):List (BitVec w):=(List.range 16).map fun j=>bu1 w ((l.drop (j*(w/8))).take (w/8))
theorem bD0(w:Nat)(l:List UInt8):(wordsOf w l).length=16:=by simp[wordsOf]
theorem b91(w:Nat):wordsOf w []=List.replicate 16 0:=by
 simp[wordsOf,bu1]
 rfl
theorem cK4{w:Nat}{l:List UInt8}{j:Nat}(h:j < 16):(wordsOf w l).getD j 0=bu1 w ((l.drop (j*(w/8))).take (w/8)):=by
 simp[wordsOf,List.getD,ak8,aI7 h]
theorem bT7{w:Nat}{l:List UInt8}{b:UInt8}(hw:0 < w/8)(h:l.length < 16*(w/8)):
  wordsOf w (l++[b])=(wordsOf w l).set (l.length/(w/8)) ((wordsOf w l).getD (l.length/(w/8)) 0<<<8|||BitVec.ofNat w b.toNat):=by
 have hlt:l.length/(w/8) < 16:=(cH4 hw).2 h;rw[cK4 hlt];apply aW4
 intro j;have hg: ∀m:List UInt8,(wordsOf w m)[j]?=if j < 16 then some (bu1 w ((m.drop (j*(w/8))).take (w/8))) else none:=fun m=>by
  unfold wordsOf;rw[ak8];by_cases h1:j < 16
  ·rw[aI7 h1,if_pos h1]
   rfl
  ·rw[av1 (by simp;omega),if_neg h1]
   rfl
 rw[bf8,hg,hg,bD0];by_cases h1:j < 16
 ·rw[if_pos h1,if_pos h1]
  have hm:=bJ7 l.length (w/8);have hml:=a96 l.length hw;rw[aZ1] at hm;generalize w/8=z at*;generalize hq:l.length/z=q at*;generalize l.length%z=r at*;split
  ·rename_i e
   subst e;rw[<-c30];congr 2
   rw[cH3 (by omega)]
   rw[al2 (by rw[List.length_append,List.length_drop];simp only[List.length_cons,List.length_nil];omega),al2 (by rw[List.length_drop];omega)]
  ·rename_i e
   congr 2
   rcases an9 j q with hjq|hjq
   ·have h3:j*z+z<=q*z:=by
     have:=aR6 z (show j+1<=q by omega)
     rw[aD3,bf4] at this;exact this
    rw[cH3 (by omega),by9 (by rw[List.length_drop];omega)]
   ·have h3:q*z+z<=j*z:=by
     have:=aR6 z (show q+1<=j by omega)
     rw[aD3,bf4] at this;exact this
    rw[bg0 (by rw[List.length_append];simp only[List.length_cons,List.length_nil];omega),bg0 (by omega)]
 ·rw[if_neg h1,if_neg h1,if_neg (by omega)]
def bytesOf(size:Nat)(x:Nat):List UInt8:=(List.range size).map fun i=>UInt8.ofNat (x/256^(size - 1 - i))
theorem bD9(size x:Nat):(bytesOf size x).length=size:=by simp[bytesOf]
def ao7(w n:Nat):Nat:=(n+1+w/4+2*w - 1)/(2*w)*(2*w)
def padded(w:Nat)(b:List UInt8):List UInt8:=b++128::(List.replicate (ao7 w b.length - 8 - (b.length+1)) 0++bytesOf 8 (8*b.length))
def chunks(n:Nat)(l:List UInt8):List (List UInt8):=(List.range (l.length/n)).map fun i=>(l.drop (i*n)).take n
def sumOf{w:Nat}(S:Sha w)(h:Sha.St w)(b:List UInt8):List UInt8:=
 (((chunks (2*w) (padded w b)).foldl (fun s c=>S.take s (wordsOf w c)) h).list).flatMap fun x=>bytesOf (w/8) x.toNat
theorem cA6{w:Nat}(S:Sha w)(h:Sha.St w)(b:List UInt8):(sumOf S h b).length=8*(w/8):=by
 unfold sumOf Sha.St.list;simp[bD9]
 omega
def kOf(w i:Nat):BitVec w:=BitVec.ofNat w (bm8.getD i 0/2^(64 - w))
def hOf(w i:Nat):BitVec w:=BitVec.ofNat w (bj7.getD i 0/2^(64 - w))
def aH2(w:Nat):Sha.St w:=⟨hOf w 0,hOf w 1,hOf w 2,hOf w 3,hOf w 4,hOf w 5,hOf w 6,hOf w 7⟩
def ae3:Sha 32:=⟨64,kOf 32,(2,13,22),(6,11,25),(7,18,3),(17,19,10)⟩
def ae2:Sha 64:=⟨80,kOf 64,(28,34,39),(14,18,41),(1,8,7),(19,61,6)⟩
def sum256(b:List UInt8):List UInt8:=sumOf ae3 (aH2 32) b
def aA1(b:List UInt8):List UInt8:=sumOf ae2 (aH2 64) b
theorem bL9(b:List UInt8):(sum256 b).length=32:=cA6 _ _ _
theorem ba4(b:List UInt8):(aA1 b).length=64:=cA6 _ _ _
end
section
open Go V
abbrev wAV(K:IntKind){w:Nat}(x:BitVec w):AV:=.lit (.int K (x.toNat:Int))
theorem as6{w:Nat}(x:BitVec w):BitVec.ofInt w (x.toNat:Int)=x:=by simp
theorem ck3(x:BitVec 32):IntKind.u32.wrap (x.toNat:Int)=(x.toNat:Int):=cK3 x.isLt
theorem ef0(x y:BitVec 32):IntKind.u32.wrap ((x.toNat:Int)+(y.toNat:Int))=((x+y).toNat:Int):=by
 rw[bK2];simp[IntKind.wrap,IntKind.signed,IntKind.bits]
theorem u32_xor(x y:BitVec 32):IntKind.u32.wrap (((BitVec.ofInt IntKind.u32.bits (x.toNat:Int)^^^BitVec.ofInt IntKind.u32.bits (y.toNat:Int)).toNat:Nat):Int)=((x^^^y).toNat:Int):=by
 show IntKind.u32.wrap (((BitVec.ofInt 32 (x.toNat:Int)^^^BitVec.ofInt 32 (y.toNat:Int)).toNat:Nat):Int)=_
 rw[as6,as6,ck3]
theorem u32_and(x y:BitVec 32):IntKind.u32.wrap (((BitVec.ofInt IntKind.u32.bits (x.toNat:Int)&&&BitVec.ofInt IntKind.u32.bits (y.toNat:Int)).toNat:Nat):Int)=((x&&&y).toNat:Int):=by
 show IntKind.u32.wrap (((BitVec.ofInt 32 (x.toNat:Int)&&&BitVec.ofInt 32 (y.toNat:Int)).toNat:Nat):Int)=_
 rw[as6,as6,ck3]
theorem u32_or(x y:BitVec 32):IntKind.u32.wrap (((BitVec.ofInt IntKind.u32.bits (x.toNat:Int)|||BitVec.ofInt IntKind.u32.bits (y.toNat:Int)).toNat:Nat):Int)=((x|||y).toNat:Int):=by
 show IntKind.u32.wrap (((BitVec.ofInt 32 (x.toNat:Int)|||BitVec.ofInt 32 (y.toNat:Int)).toNat:Nat):Int)=_
 rw[as6,as6,ck3]
theorem ee9(x:BitVec 32):IntKind.u32.wrap (((BitVec.ofInt IntKind.u32.bits (if IntKind.u32.signed=true then -1 else IntKind.u32.max)^^^BitVec.ofInt IntKind.u32.bits (x.toNat:Int)).toNat:Nat):Int)=((~~~ x).toNat:Int):=by
 show IntKind.u32.wrap (((BitVec.allOnes 32^^^BitVec.ofInt 32 (x.toNat:Int)).toNat:Nat):Int)=_
 rw[as6,BitVec.xor_comm,BitVec.xor_allOnes,ck3]
attribute [go_sem] ef0 u32_xor u32_and ee9
theorem ew6(x:BitVec 32):x.toNat/8=(x>>>3).toNat:=by simp[aK5]
theorem ee1(x:BitVec 32):x.toNat/1024=(x>>>10).toNat:=by simp[aK5]
theorem ac9{K:IntKind}{w:Nat}{m:List (BitVec w)}{i:Nat}(h:i < m.length):(m.map (wAV K)).getD i .any=wAV K (m.getD i 0):=by
 simp[List.getD,xq1 h]
theorem eD4{K:IntKind}{w:Nat}(a:List (BitVec w))(b:BitVec w):a.map (wAV K)++[wAV K b]=(a++[b]).map (wAV K):=by simp
theorem dD6{K:IntKind}{w:Nat}{m:List (BitVec w)}:ones (m.map (wAV K))=True:=eq_true (bh6 fun _=>rfl)
theorem ad7{K:IntKind}{w:Nat}{m:List (BitVec w)}:(m.map (wAV K)).all AV.scalar=true:=xq5.2 (bh6 fun _=>rfl)
theorem cM9{x:BitVec 32}{n:Nat}(h1:1<=n)(h2:n<=31):IntKind.u32.wrap (((BitVec.ofInt IntKind.u32.bits (IntKind.u32.wrap ((x.toNat:Int)*2^(32 - n)))|||BitVec.ofInt IntKind.u32.bits (((x.toNat/2^n:Nat)):Int)).toNat:Nat):Int)=((x.rotateRight n).toNat:Int):=by
 show IntKind.u32.wrap (((BitVec.ofInt 32 (IntKind.u32.wrap ((x.toNat:Int)*2^(32 - n)))|||BitVec.ofInt 32 (((x.toNat/2^n:Nat)):Int)).toNat:Nat):Int)=_
 have e1:BitVec.ofInt 32 (IntKind.u32.wrap ((x.toNat:Int)*2^(32 - n)))=x<<<(32 - n):=by
  have:IntKind.u32.wrap ((x.toNat:Int)*2^(32 - n))=((x<<<(32 - n)).toNat:Int):=by
   rw[bC6,bC5];simp[IntKind.wrap,IntKind.signed,IntKind.bits]
  rw[this,as6]
 have e2:BitVec.ofInt 32 (((x.toNat/2^n:Nat)):Int)=x>>>n:=by
  have:x.toNat/2^n=(x>>>n).toNat:=by simp[aK5]
  rw[this,as6]
 rw[e1,e2,ck3];congr 2
 rw[BitVec.rotateRight_def,ar2 (by omega),BitVec.or_comm]
theorem dO7{a:Int}(h:0<=a/\a < 18446744073709551616):((BitVec.ofInt IntKind.u64.bits a&&&BitVec.ofInt IntKind.u64.bits 31).toNat:Int)=a%32:=bo5 (k:=64) (m:=5) h.1 h.2 (by omega)
theorem cC5{α:Type}{l:List α}{i:Nat}{d:α}(h:i < l.length):l.getD i d∈l:=by
 rw[List.getD,xq1 h];exact aR4 h
theorem dw0(x:BitVec 32)(n:Nat)(H:List AObj)(h1:1<=n)(h2:n<=31):o8 Tryz.prog 221 [wAV .u32 x,.lit (.int .i64 (0 - (n:Int)))] H (fun y H'=>y=wAV .u32 (x.rotateRight n)/\H'=H):=by
 have hr:=cM9 (x:=x) h1 h2;have w1:IntKind.u64.wrap (0 - (n:Int))=18446744073709551616 - n:=by
  simp[IntKind.wrap,IntKind.signed,IntKind.bits]<;>omega
 have w2:((BitVec.ofInt IntKind.u64.bits (18446744073709551616 - (n:Int))&&&BitVec.ofInt IntKind.u64.bits 31).toNat:Int)=32 - (n:Int):=by
  rw[dO7 (by omega)]
  omega
 have m1:min (32 - (n:Int)).toNat 32=32 - n:=by omega
 have m2:min (32 - (32 - (n:Int))).toNat 32=n:=by omega
 have m3:(x.toNat:Int).fdiv (2^n)=((x.toNat/2^n:Nat):Int):=by
  rw[ao4 (ci5 (Int.pow_pos (by decide)))]
  have:((2:Int)^n)=((2^n:Nat):Int):=by simp
  rw[this,Int.toNat_natCast]
 refine y8 [] [.tmp 4] 17 Tryz.func221 ?_;repeat' first|simp -dsimp -implicitDefEqProofs (disch:=omega) only[go_sem,w1,w2,m1,m2,m3,hr]|refine vcA ?_ ?_|omega
 exact o9 ⟨rfl,rfl⟩
theorem bp7{o:Own}(x:BitVec 32)(ns:List Nat)(H:List AObj)(hn: ∀n∈ns,1<=n/\n<=31)(hl:ns.length<=100):o8 Tryz.prog 193 [wAV .u32 x,.sl o 1 (ns.map fun n:Nat=>.lit (.int .i64 (n:Int)))] H (fun y H'=>y=wAV .u32 (ns.foldl (fun a n=>a^^^x.rotateRight n) 0)/\H'=H):=by
 refine y8 [] [.tmp 4] 22 Tryz.func193 ?_;repeat' simp -dsimp -implicitDefEqProofs only[go_sem]
 refine aa8 ab2 mixed [] [0,4,8,9] (fun i:Nat=>i<=ns.length) (fun i=>[(5,wAV .u32 ((ns.take i).foldl (fun a n=>a^^^x.rotateRight n) 0)),(10,.lit (.int .i64 i))]) (fun _=>H) (fun i=>ns.length - i) (by kernel_rfl) ?_ 0 (by omega) y9 rfl
 intro i hi;by_cases hil:i < ns.length
 ·have hx:(ns.map fun n:Nat=>AV.lit (.int .i64 (n:Int))).getD i .any=.lit (.int .i64 ((ns.getD i 0:Nat):Int)):=by simp[List.getD,xq1 hil]
  have hm:=hn _ (cC5 (d:=0) hil);have hs:(ns.take (i+1)).foldl (fun a n=>a^^^x.rotateRight n) 0=(ns.take i).foldl (fun a n=>a^^^x.rotateRight n) 0^^^x.rotateRight (ns.getD i 0):=by
   rw[bf3 hil,ci4,List.getD,xq1 hil];rfl
  generalize ns.getD i 0=n at*;repeat' first|refine o6 ?_|simp -dsimp -implicitDefEqProofs (disch:=omega) only[go_sem,hx]|refine o5 (dw0 x n _ hm.1 hm.2) ?_|refine vcA ?_ ?_|omega|refine ac8 fun _=>?_
  rw[<-hs];refine again (i+1) ?_ ?_ rfl y9
  ·omega
  ·omega
 ·obtain rfl:i=ns.length:=by omega
  rw[bf9];repeat' first|refine o6 ?_|simp -dsimp -implicitDefEqProofs only[go_sem]|refine vcA ?_ ?_|omega|refine ac8 fun _=>?_
  exact o9 ⟨rfl,rfl⟩
end
section
open Go V
theorem bU8(i:Nat)(H:List AObj)(hi:i < 80):o8 Tryz.prog 191 [.lit (.int .i64 (i:Int))] H (fun y H'=>y=wAV .u32 (kOf 32 i)/\H'=H):=by
 have hk: ∀j,j < 80->IntKind.u32.wrap ((bm8.getD j 0/4294967296:Nat):Int)=((kOf 32 j).toNat:Int):=by
  intro j hj;have h1:kOf 32 j=BitVec.ofNat 32 (bm8.getD j 0/4294967296):=rfl;rw[h1,aC2];simp[IntKind.wrap,IntKind.signed,IntKind.bits]
 have h:=hk i hi;refine y8 [] [.tmp 2] 8 Tryz.func191 ?_;repeat' first|simp -dsimp -implicitDefEqProofs (disch:=first|assumption|omega) only[go_sem,h]|refine vcA ?_ ?_|omega
 exact o9 ⟨rfl,rfl⟩
theorem bx6{x:BitVec 32}(a b c:Nat):[a,b,c].foldl (fun o n=>o^^^x.rotateRight n) (0:BitVec 32)=bigT x (a,b,c):=by
 simp[bigT]
theorem ba6{x:BitVec 32}(a b c:Nat):[a,b].foldl (fun o n=>o^^^x.rotateRight n) (0:BitVec 32)^^^(x>>>c)=aH8 x (a,b,c):=by
 simp[aH8]
theorem bF2(x:BitVec 32)(H:List AObj):o8 Tryz.prog 192 [wAV .u32 x] H (fun y H'=>y=wAV .u32 (bigT x (2,13,22))/\H'=H):=by
 have ht:=fun H=>bp7 (o:=.full) x [2,13,22] H (by decide) (by decide)
 rw[bx6] at ht;refine y8 [] [.tmp 2] 6 Tryz.func192 ?_;repeat' first|simp -dsimp -implicitDefEqProofs only[go_sem]|refine o5 (ht _) ?_|refine⟨_,_,ht _,?_⟩|fail
 exact o9 ⟨rfl,rfl⟩
theorem bF1(x:BitVec 32)(H:List AObj):o8 Tryz.prog 194 [wAV .u32 x] H (fun y H'=>y=wAV .u32 (bigT x (6,11,25))/\H'=H):=by
 have ht:=fun H=>bp7 (o:=.full) x [6,11,25] H (by decide) (by decide)
 rw[bx6] at ht;refine y8 [] [.tmp 2] 6 Tryz.func194 ?_;repeat' first|simp -dsimp -implicitDefEqProofs only[go_sem]|refine o5 (ht _) ?_|refine⟨_,_,ht _,?_⟩|fail
 exact o9 ⟨rfl,rfl⟩
theorem bF0(x:BitVec 32)(H:List AObj):o8 Tryz.prog 195 [wAV .u32 x] H (fun y H'=>y=wAV .u32 (aH8 x (7,18,3))/\H'=H):=by
 have ht:=fun H=>bp7 (o:=.full) x [7,18] H (by decide) (by decide)
 have hs:=ba6 (x:=x) 7 18 3;refine y8 [] [.tmp 2] 9 Tryz.func195 ?_;repeat' first|simp -dsimp -implicitDefEqProofs (disch:=omega) only[go_sem,ew6,hs]|refine o5 (ht _) ?_|refine⟨_,_,ht _,?_⟩|fail
 exact o9 ⟨rfl,rfl⟩
theorem bE9(x:BitVec 32)(H:List AObj):o8 Tryz.prog 196 [wAV .u32 x] H (fun y H'=>y=wAV .u32 (aH8 x (17,19,10))/\H'=H):=by
 have ht:=fun H=>bp7 (o:=.full) x [17,19] H (by decide) (by decide)
 have hs:=ba6 (x:=x) 17 19 10;refine y8 [] [.tmp 2] 9 Tryz.func196 ?_;repeat' first|simp -dsimp -implicitDefEqProofs (disch:=omega) only[go_sem,ee1,hs]|refine o5 (ht _) ?_|refine⟨_,_,ht _,?_⟩|fail
 exact o9 ⟨rfl,rfl⟩
theorem ch2{xs:List AV}{H:List AObj}(hu: ∀y∈xs,y.flat.length=1/\y.okv=true)(hne:xs≠[])(hl:xs.length<=100000):o8 Tryz.prog 238 [.sl .sh 1 xs] H (fun y H'=>y=.sl (.tok H.length) 1 xs/\H'=H++[.grow 1 xs.length none]):=by
 have hpos:=aR1.2 hne;refine y8 [] [.tmp 2] 8 Tryz.func238 ?_;repeat' first|refine o6 ?_|simp -dsimp -implicitDefEqProofs (disch:=omega) only[go_sem,hne]|refine vcA ?_ ?_|omega
 exact aM4 ⟨rfl,rfl⟩
theorem bz3{H:List AObj}{k:Nat}{x:AObj}(h:H[k]?=some x):H.set k x=H:=by
 apply aW4
 intro j;rw[bf8];split
 ·rename_i e
  subst e;rw[if_pos (aa0 h),h]
 ·rfl
theorem bs4{H M:List AObj}{k:Nat}{o:AObj}(h:k < H.length):(H.set k o++M)[k]?=some o:=by
 rw[xq4 (by rw[List.length_set];exact h),ay8 h]
theorem bM6{H M:List AObj}{k:Nat}{o x:AObj}(h:k < H.length):(H.set k o++M).set k x=H.set k x++M:=by
 rw[bC7 _ _ (by rw[List.length_set];exact h),List.set_set]
theorem bQ3{H₀:List AObj}{k:Nat}{o:AObj}{M:List AObj}{R:AV->List AObj->Prop}{x:AV}(y:AV)(hle:Le x y)(hx:Low H₀.length y)(hcs: ∀sh cs,o=.cells sh cs-> ∀y∈cs,Low H₀.length y)(hr:R y (H₀.set k o)):Done H₀ R x (H₀.set k o++M):=by
 unfold Done;refine⟨y,(H₀.set k o++M).take H₀.length,bx2 hle (xq0 _) hx fun i sh cs hi e=>?_,?_⟩
 ·rw[xq4 (by rw[List.length_set];exact hi)] at e
  rw[bf8] at e;split at e
  ·rename_i hk
   subst hk;rw[if_pos (by exact hi)] at e
   exact .inr (hcs sh cs (Option.some.inj e))
  ·exact .inl e
 ·rw[by9 (by rw[List.length_set];exact xq0 _),al2 (by rw[List.length_set];exact xq0 _)]
  exact hr
theorem cE1{H₀:List AObj}{k:Nat}{o:AObj}{M:List AObj}{R:AV->List AObj->Prop}{x:AV}(hx:Low H₀.length x)(hcs: ∀sh cs,o=.cells sh cs-> ∀y∈cs,Low H₀.length y)(hr:R x (H₀.set k o)):Done H₀ R x (H₀.set k o++M):=bQ3 x (Le.refl x) hx hcs hr
def aX1(s:Sha.St 32):List AV:=[wAV .u32 s.a,wAV .u32 s.b,wAV .u32 s.c,wAV .u32 s.d,wAV .u32 s.e,wAV .u32 s.f,wAV .u32 s.g,wAV .u32 s.h,.lit (.int .i64 64),.fn (.func 191) [] [],.fn (.func 192) [] [],.fn (.func 194) [] [],.fn (.func 195) [] [],.fn (.func 196) [] []]
def ao0(s:Sha.St 32):AObj:=.cells (.one 225) (aX1 s)
theorem bN1{m:Nat}{s:Sha.St 32}: ∀sh cs,ao0 s=.cells sh cs-> ∀y∈cs,Low m y:=fun sh cs h y hy=>by
 unfold ao0 aX1 at h;cases h
 simp only[xq8,aK4,or_false] at hy;rcases hy with rfl|rfl|rfl|rfl|rfl|rfl|rfl|rfl|rfl|rfl|rfl|rfl|rfl|rfl
 all_goals first|exact .lit _|exact .fn _ _ _ (fun _ h=>by cases h) (fun _ h=>by cases h)
def ao5:List AV:=[.lit (.int .i64 64),.fn (.func 191) [] [],.fn (.func 192) [] [],.fn (.func 194) [] [],.fn (.func 195) [] [],.fn (.func 196) [] []]
theorem bF9(s:Sha.St 32):ao0 s=.cells (.one 225) (s.list.map (wAV .u32)++ao5):=rfl
def as1(s t:List (BitVec 32))(i:Nat):List (BitVec 32):=(List.range 8).map fun j=>if j < i then s.getD j 0+t.getD j 0 else s.getD j 0
theorem bw3(s t:List (BitVec 32))(i:Nat):(as1 s t i).length=8:=by simp[as1]
theorem bW3(s t:Sha.St 32):as1 s.list t.list 0=s.list:=rfl
theorem ce6(s t:Sha.St 32):as1 s.list t.list 8=(Sha.add s t).list:=rfl
theorem ce5{s t:List (BitVec 32)}{i:Nat}(h:i < 8):(as1 s t i).set i ((as1 s t i).getD i 0+t.getD i 0)=as1 s t (i+1):=by
 have hg: ∀i j,(as1 s t i)[j]?=if j < 8 then some (if j < i then s.getD j 0+t.getD j 0 else s.getD j 0) else none:=fun i j=>by
  unfold as1;rw[ak8];by_cases h1:j < 8
  ·rw[aI7 h1,if_pos h1]
   rfl
  ·rw[av1 (by simp;omega),if_neg h1]
   rfl
 apply aW4
 intro j;have hgd:(as1 s t i).getD i 0=s.getD i 0:=by rw[List.getD,hg,if_pos h,if_neg (by omega)];rfl
 rw[bf8,hg,hg,hgd,bw3];by_cases h1:j < 8
 ·rw[if_pos h1,if_pos h1]
  split
  ·rename_i e
   subst e;rw[if_pos (by omega)]
  ·rename_i e
   by_cases h3:j < i
   ·rw[if_pos h3,if_pos (by omega)]
   ·rw[if_neg h3,if_neg (by omega)]
 ·rw[if_neg h1,if_neg h1,if_neg (by omega)]
theorem cw1(M:List (BitVec 32))(s:Sha.St 32)(i:Nat):ae3.steps M s (i+1)=⟨(ae3.steps M s i).h+bigT (ae3.steps M s i).e (6,11,25)+((ae3.steps M s i).e&&&(ae3.steps M s i).f^^^ ~~~ (ae3.steps M s i).e&&&(ae3.steps M s i).g)+kOf 32 i+M.getD i 0+(bigT (ae3.steps M s i).a (2,13,22)+((ae3.steps M s i).a&&&(ae3.steps M s i).b^^^(ae3.steps M s i).a&&&(ae3.steps M s i).c^^^(ae3.steps M s i).b&&&(ae3.steps M s i).c)),
  (ae3.steps M s i).a,(ae3.steps M s i).b,(ae3.steps M s i).c,(ae3.steps M s i).d+((ae3.steps M s i).h+bigT (ae3.steps M s i).e (6,11,25)+((ae3.steps M s i).e&&&(ae3.steps M s i).f^^^ ~~~ (ae3.steps M s i).e&&&(ae3.steps M s i).g)+kOf 32 i+M.getD i 0),(ae3.steps M s i).e,(ae3.steps M s i).f,(ae3.steps M s i).g⟩:=by
 rw[Sha.steps];generalize ae3.steps M s i=t;rfl
theorem cv6(s:Sha.St 32)(m:List (BitVec 32)):ae3.take s m=Sha.add s (ae3.steps (ae3.sched m 48) s 64):=rfl
theorem cL5{k:Nat}{s:Sha.St 32}{H:List AObj}(m:List (BitVec 32))(hk:H[k]?=some (ao0 s))(hm:m.length=16):
  o8 Tryz.prog 222 [.mp k 0,.agg (m.map (wAV .u32))] H (fun x H'=>x=.tup []/\H'=H.set k (ao0 (ae3.take s m))):=by
 have hkl:=aa0 hk;unfold ao0 aX1 at hk;have hc:=fun H=>ch2 (xs:=m.map (wAV .u32)) (H:=H) (fun y hy=>by obtain⟨z,_,rfl⟩:=xq6.1 hy;exact⟨rfl,rfl⟩) (by intro e;have:=congrArg List.length e;simp at this;rw[this] at hm;cases hm) (by simp;omega)
 have hk1: ∀M,(H++M)[k]?=H[k]?:=fun M=>xq4 hkl
 refine y8 [1000005,1000005005015,1000005005032,1000005021015,1000005021032,1000005026015,1000005031015,1000006,1000010,1000010020006,1000017] [] 195 Tryz.func222 ?_;repeat' first|simp -dsimp -implicitDefEqProofs (disch:=(simp only[ll];omega)) only[go_sem,dD6,ad7,hm]|refine o5 (hc _) ?_|refine⟨_,_,hc _,?_⟩|fail
 refine aa8 ab2 mixed [1000005,1000005005015,1000005005032,1000005021015,1000005021032,1000005026015,1000005031015,1000006,1000010,1000010020006,1000017] [0] (fun n:Nat=>n<=48) (fun n=>[(4,.sl (.tok H.length) 1 ((ae3.sched m n).map (wAV .u32))),(5,.lit (.int .i64 ((16+n:Nat):Int)))]) (fun n=>H++[.grow 1 (16+n) none]) (fun n=>48 - n) (by kernel_rfl) ?_ 0 (by omega) y9 (by simp[hm])
 ·intro n hn
  have hl:=ae3.sched_len m n;rw[hm] at hl;have hs:ae3.sched m (n+1)=ae3.sched m n++[(ae3.sched m n).getD n 0+aH8 ((ae3.sched m n).getD (n+1) 0) (7,18,3)+(ae3.sched m n).getD (n+9) 0+aH8 ((ae3.sched m n).getD (n+14) 0) (17,19,10)]:=by
   show ae3.sched m n++[ae3.next (ae3.sched m n)]=_
   unfold Sha.next;rw[hl,show 16+n - 16=n by omega,show 16+n - 15=n+1 by omega,show 16+n - 7=n+9 by omega,show 16+n - 2=n+14 by omega]
   rfl
  have hM:=fun x=>eD4 (K:=.u32) (ae3.sched m n) x
  have z1:(((16+n:Nat):Int) - 16).toNat=n:=by omega
  have z2:(((16+n:Nat):Int) - 15).toNat=n+1:=by omega
  have z3:(((16+n:Nat):Int) - 7).toNat=n+9:=by omega
  have z4:(((16+n:Nat):Int) - 2).toNat=n+14:=by omega
  by_cases h:n < 48
  ·have hc:(((16+n:Nat):Int) < 64)=True:=eq_true (by omega)
   generalize ae3.sched m n=M at*;repeat' first|refine o6 ?_|simp -dsimp -implicitDefEqProofs (disch:=omega) only[go_sem,hk,hk1,hc,z1,z2,z3,z4,ac9,hM]|refine o5 (bF0 _ _) ?_|refine⟨_,_,bF0 _ _,?_⟩|refine o5 (bE9 _ _) ?_|refine⟨_,_,bE9 _ _,?_⟩|refine vcA ?_ ?_|omega
   rw[<-hs];refine again (n+1) ?_ ?_ ?_ y9
   ·omega
   ·omega
   ·rw[hl]
    rfl
  ·obtain rfl:n=48:=by omega
   have hc:(((16+48:Nat):Int) < 64)=False:=eq_false (by omega)
   have hsl:=fun i=>cw1 (ae3.sched m 48) s i
   have hT:=cv6 s m;rw[hT];generalize ae3.sched m 48=M at*;have hl64:M.length=64:=by omega
   repeat' first|refine o6 ?_|simp -dsimp -implicitDefEqProofs (disch:=omega) only[go_sem,hk,hk1,hc,hl64]
   refine aa8 ab2 mixed [1000005,1000005005015,1000005005032,1000005021015,1000005021032,1000005026015,1000005031015,1000006,1000010,1000010020006,1000017] [0,106,107] (fun i:Nat=>i<=64) (fun i=>[(6,wAV .u32 (ae3.steps M s i).a),(7,wAV .u32 (ae3.steps M s i).b),(8,wAV .u32 (ae3.steps M s i).c),(9,wAV .u32 (ae3.steps M s i).d),(10,wAV .u32 (ae3.steps M s i).e),(11,wAV .u32 (ae3.steps M s i).f),(12,wAV .u32 (ae3.steps M s i).g),(13,wAV .u32 (ae3.steps M s i).h),(108,.lit (.int .i64 i))]) (fun _=>H++[.grow 1 (16+48) none]) (fun i=>64 - i) (by kernel_rfl) ?_ 0 (by omega) y9 rfl
   intro i hi;by_cases h:i < 64
   ·have hs2:=hsl i
    have hM2:=ac9 (K:=.u32) (m:=M) (i:=i) (by omega)
    generalize hst:ae3.steps M s i=st at*;have hic:((i:Int) < 64)=True:=eq_true (by omega)
    repeat' first|refine o6 ?_|simp -dsimp -implicitDefEqProofs (disch:=omega) only[go_sem,hk,hk1,hM2,hic]|refine o5 (bF1 _ _) ?_|refine⟨_,_,bF1 _ _,?_⟩|refine o5 (bU8 i _ (by omega)) ?_|refine⟨_,_,bU8 i _ (by omega),?_⟩|refine o5 (bF2 _ _) ?_|refine⟨_,_,bF2 _ _,?_⟩|refine vcA ?_ ?_|omega
    refine again (i+1) ?_ ?_ rfl ?_
    ·omega
    ·omega
    ·rw[hs2]
     exact y9
   ·obtain rfl:i=64:=by omega
    generalize ae3.steps M s 64=t at*;have hk0:H.set k (.cells (.one 225) ((as1 s.list t.list 0).map (wAV .u32)++ao5))=H:=by
     rw[bW3];exact bz3 hk
    have hm0: ∀M,H++M=H.set k (.cells (.one 225) ((as1 s.list t.list 0).map (wAV .u32)++ao5))++M:=fun M=>by rw[hk0]
    repeat' first|refine o6 ?_|simp -dsimp -implicitDefEqProofs only[go_sem]
    refine aa8 ab2 mixed [1000005,1000005005015,1000005005032,1000005021015,1000005021032,1000005026015,1000005031015,1000006,1000010,1000010020006,1000017] [] (fun i:Nat=>i<=8) (fun i=>[(179,.lit (.int .i64 i)),(178,.agg (t.list.map (wAV .u32))),(0,.mp k 0)]) (fun i=>H.set k (.cells (.one 225) ((as1 s.list t.list i).map (wAV .u32)++ao5))++[.grow 1 64 none]) (fun i=>8 - i) (by kernel_rfl) ?_ 0 (by omega) y9 (hm0 _)
    intro i hi;have hg: ∀o M,(H.set k o++M)[k]?=some o:=fun o M=>bs4 hkl
    have hset: ∀o x M,(H.set k o++M).set k x=H.set k x++M:=fun o x M=>bM6 hkl
    have hL:=bw3 s.list t.list i;have htl:t.list.length=8:=rfl;by_cases h:i < 8
    ·have hic:((i:Int) < 8)=True:=eq_true (by omega)
     have hms:=ce5 (s:=s.list) (t:=t.list) h;have hg1:((as1 s.list t.list i).map (wAV .u32)++ao5).getD i .any=wAV .u32 ((as1 s.list t.list i).getD i 0):=by
      rw[cD7 (by rw[List.length_map];omega),ac9 (by omega)]
     have hg2:(t.list.map (wAV .u32)).getD i .any=wAV .u32 (t.list.getD i 0):=ac9 (by omega)
     have hs1: ∀x,((as1 s.list t.list i).map (wAV .u32)++ao5).set i (wAV .u32 x)=((as1 s.list t.list i).set i x).map (wAV .u32)++ao5:=fun x=>by
      rw[bC7 _ _ (by rw[List.length_map];omega),ar1]
     repeat' first|refine o6 ?_|simp -dsimp -implicitDefEqProofs (disch:=omega) only[go_sem,hg,hset,hic,hL,htl,hg1,hg2,hs1,hms]|refine vcA ?_ ?_|omega
     refine again (i+1) ?_ ?_ ?_ y9
     ·omega
     ·omega
     ·rfl
    ·obtain rfl:i=8:=by omega
     repeat' first|refine o6 ?_|simp -dsimp -implicitDefEqProofs only[go_sem]
     rw[ce6,<-bF9];exact cE1 (ah9 ac4) bN1 ⟨rfl,rfl⟩
theorem sk1{H M:List AObj}{k:Nat}{o a:AObj}:(H.set k o++(a::M))[H.length]?=some a:=by
 rw[xq7 (by rw[List.length_set];exact xq0 _),List.length_set,ap6];rfl
theorem sk2{H M:List AObj}{k:Nat}{o a b:AObj}:(H.set k o++(a::b::M))[H.length+1]?=some b:=by
 rw[xq7 (by rw[List.length_set];omega),List.length_set,aM6];rfl
theorem ex8{H M:List AObj}{k:Nat}{o a x:AObj}:(H.set k o++(a::M)).set H.length x=H.set k o++(x::M):=by
 rw[aD2 _ _ (by rw[List.length_set];exact xq0 _),List.length_set,ap6];rfl
theorem ex7{H M:List AObj}{k:Nat}{o a b x:AObj}:(H.set k o++(a::b::M)).set (H.length+1) x=H.set k o++(a::x::M):=by
 rw[aD2 _ _ (by rw[List.length_set];omega),List.length_set,aM6];rfl
attribute [go_sem] sk1 sk2 ex8 ex7
end
section
open Go V
theorem aF0: ∀(zs cs:List AV) (off:Nat),off+zs.length<=cs.length->ag0 cs off zs=cs.take off++zs++cs.drop (off+zs.length)
 |[],cs,off,_=>by simp[ag0]
 |x::r,cs,off,h=>by
  rw[List.length_cons] at h;rw[ag0,aF0 r (cs.set off x) (off+1) (by rw[List.length_set];omega)]
  have h1:(cs.set off x).take (off+1)=cs.take off++[x]:=by
   rw[List.take_set,bf3 (by omega),aD2 _ _ (by rw[List.length_take];omega)]
   simp[bt9 (show off<=cs.length by omega)]
  have h2:(cs.set off x).drop (off+1+r.length)=cs.drop (off+1+r.length):=by
   rw[List.drop_set,if_pos (by omega)]
  rw[h1,h2,List.length_cons,show off+(r.length+1)=off+1+r.length by omega]
  simp
def aY1(n8 t:Nat):List UInt8:=(List.range 8).map fun k=>if 7 - k < t then UInt8.ofNat (n8/256^(7 - k)) else 0
def aS6(w:Nat)(b:List UInt8)(t:Nat):List UInt8:=b++128::(List.replicate (ao7 w b.length - 8 - (b.length+1)) 0++aY1 (8*b.length) t)
theorem aN6{w n:Nat}(hw:w=32\/w=64):n+9<=ao7 w n/\ao7 w n<=n+1+w/4+2*w:=by
 unfold ao7;rcases hw with rfl|rfl
 ·simp only[Nat.reduceDiv,Nat.reduceMul];omega
 ·simp only[Nat.reduceDiv,Nat.reduceMul];omega
theorem bN7{w:Nat}{b:List UInt8}{t:Nat}(hw:w=32\/w=64):(aS6 w b t).length=ao7 w b.length:=by
 have:=aN6 (n:=b.length) hw;unfold aS6 aY1;simp
 omega
theorem dl7(n8:Nat):aY1 n8 0=List.replicate 8 0:=by
 unfold aY1;simp
 rfl
theorem dy4{n8 t:Nat}(h:n8/256^t=0):aY1 n8 t=bytesOf 8 n8:=by
 unfold aY1 bytesOf;refine bS9 fun k hk=>?_
 have hk8:=ba0.1 hk;split
 ·congr 2
 ·rename_i h1
  have h2:n8/256^(7 - k)=0:=by
   have e:7 - k=t+(7 - k - t):=by omega
   rw[e,bC4,<-bJ5,h,Nat.zero_div]
  rw[show 8 - 1 - k=7 - k by omega,h2]
  rfl
theorem bN8{w:Nat}{b:List UInt8}{t:Nat}(h:8*b.length/256^t=0):aS6 w b t=padded w b:=by
 unfold aS6 padded;rw[dy4 h]
theorem dy3{n8 t:Nat}(h:t < 8):(aY1 n8 t).set (7 - t) (UInt8.ofNat (n8/256^t))=aY1 n8 (t+1):=by
 have hl: ∀t,(aY1 n8 t).length=8:=fun t=>by simp[aY1]
 have hg: ∀t j,(aY1 n8 t)[j]?=if j < 8 then some (if 7 - j < t then UInt8.ofNat (n8/256^(7 - j)) else 0) else none:=fun t j=>by
  unfold aY1;rw[ak8];by_cases h1:j < 8
  ·rw[aI7 h1,if_pos h1]
   rfl
  ·rw[av1 (by simp;omega),if_neg h1]
   rfl
 apply aW4
 intro j;rw[bf8,hg,hg,hl];by_cases h1:j < 8
 ·rw[if_pos h1,if_pos h1]
  split
  ·rename_i e
   rw[if_pos (by omega),if_pos (by omega),show 7 - j=t by omega]
  ·rename_i e
   by_cases h3:7 - j < t
   ·rw[if_pos h3,if_pos (by omega)]
   ·rw[if_neg h3,if_neg (by omega)]
 ·rw[if_neg h1,if_neg h1,if_neg (by omega)]
theorem cP2{w:Nat}{b:List UInt8}{t:Nat}(hw:w=32\/w=64)(h:t < 8):(aS6 w b t).set (ao7 w b.length - 1 - t) (UInt8.ofNat (8*b.length/256^t))=aS6 w b (t+1):=by
 have:=aN6 (n:=b.length) hw;unfold aS6;rw[aD2 _ _ (by omega),show ao7 w b.length - 1 - t - b.length=(ao7 w b.length - 2 - t - b.length)+1 by omega,List.set_cons_succ,aD2 _ _ (by rw[List.length_replicate];omega),List.length_replicate,
  show ao7 w b.length - 2 - t - b.length - (ao7 w b.length - 8 - (b.length+1))=7 - t by omega,dy3 h]
theorem cC3{w:Nat}{b:List UInt8}(hw:w=32\/w=64):(b++List.replicate (ao7 w b.length - b.length) 0).set b.length 128=aS6 w b 0:=by
 have:=aN6 (n:=b.length) hw;rw[aD2 _ _ (xq0 _),ap6,show ao7 w b.length - b.length=(ao7 w b.length - 8 - (b.length+1))+8+1 by omega,di6,List.set_cons_zero]
 unfold aS6;rw[dl7,cH2]
theorem ex3{n t:Nat}(h:n/256^t≠0)(hn:n < 18446744073709551616):t < 8:=by
 rcases an9 t 8 with h1|h1
 ·exact h1
 ·exfalso
  refine h (bK5 (aC3 hn ?_));exact ay9 (by decide:18446744073709551616<=256^8) (b08 (by decide) h1)
theorem ce1{w:Nat}{n:Nat}(hw:w=32)(h:(n:Int) < 1099511627776):((n:Int)+1+8)+(64 - ((n:Int)+1+8)%64)%64=((ao7 w n:Nat):Int):=by
 subst hw;unfold ao7;simp only[Nat.reduceDiv,Nat.reduceMul];omega
theorem ch1(n:Nat)(H:List AObj)(h:n<=1000000000):o8 Tryz.prog 171 [.lit (.int .i64 (n:Int)),.lit (.int .i64 32)] H (fun y H'=>y=.lit (.int .i64 ((ao7 32 n:Nat):Int))/\H'=H):=by
 have hp:=ce1 (w:=32) (n:=n) rfl (by omega)
 have h1:((n:Int) < 0)=False:=eq_false (by omega)
 have h2:(1099511627776 < (n:Int))=False:=eq_false (by omega)
 refine y8 [] [.tmp 4] 37 Tryz.func171 ?_;repeat' first|refine o6 ?_|simp -dsimp -implicitDefEqProofs (disch:=omega) only[go_sem,h1,h2]
 rw[hp];exact o9 ⟨rfl,rfl⟩
theorem ex9{n t:Nat}:n/256^t/256=n/256^(t+1):=by rw[aM5,bJ5]
theorem dk8{n:Nat}:IntKind.u8.wrap (n:Int)=((UInt8.ofNat n).toNat:Int):=by
 rw[ee4];simp
theorem ce2{o:Own}(b:List UInt8)(H:List AObj)(h:b.length<=100000000):o8 Tryz.prog 122 [.sl o 1 (b.map o7),.lit (.int .i64 32)] H (fun y H'=>y=.sl .sh 1 ((padded 32 b).map o7)/\H'=H):=by
 have hb:=aN6 (w:=32) (n:=b.length) (.inl rfl);have hP:=fun H=>ch1 b.length H (by omega)
 have hz:=cC3 (w:=32) (b:=b) (.inl rfl);have hlen:=fun t=>bN7 (w:=32) (b:=b) (t:=t) (.inl rfl)
 generalize hN:ao7 32 b.length=N at*;have hrep:ah7 [AV.lit (.int .u8 0)] N=(List.replicate N (0:UInt8)).map o7:=by rw[bt6,aY9];rfl
 have hcp:ag0 ((List.replicate N (0:UInt8)).map o7) 0 (b.map o7)=(b++List.replicate (N - b.length) 0).map o7:=by
  rw[aF0 _ _ _ (by simp;omega)]
  simp
 have hst:((b++List.replicate (N - b.length) (0:UInt8)).map o7).set b.length (.lit (.int .u8 128))=(aS6 32 b 0).map o7:=by
  rw[<-hz,ar1];rfl
 have h0:((b.length:Int)*8)=((8*b.length/256^0:Nat):Int):=by rw[bf2,by7];omega
 refine y8 [] [.tmp 4] 39 Tryz.func122 ?_;repeat' first|simp -dsimp -implicitDefEqProofs (disch:=omega) only[go_sem,hrep,hcp,hst,h0]|refine o5 (hP _) ?_|refine vcA ?_ ?_|omega
 refine aa8 ab2 mixed [] [4,5] (fun t:Nat=>t<=8) (fun t=>[(6,.lit (.int .u64 ((8*b.length/256^t:Nat):Int))),(7,.lit (.int .i64 ((N - 1 - t:Nat):Int)))]) (fun t=>H++[.cells (.one 5) ((aS6 32 b t).map o7)]) (fun t=>8*b.length/256^t) (by kernel_rfl) ?_ 0 (by omega) y9 rfl
 intro t ht;have hl:=hlen t;have hs:=ex9 (n:=8*b.length) (t:=t);have hT:=fun h:t < 8=>cP2 (w:=32) (b:=b) (t:=t) (.inl rfl) h
 have hE:=fun h=>bN8 (w:=32) (b:=b) (t:=t) h
 have hlt:=fun h=>ex3 (n:=8*b.length) (t:=t) h (by omega)
 rw[hN] at hT;generalize hn:8*b.length/256^t=n at*;generalize hn':8*b.length/256^(t+1)=n' at*;have hnn:n<=800000000:=by rw[<-hn];exact ay9 (Nat.div_le_self _ _) (by omega)
 by_cases h1:n=0
 ·subst h1
  rw[hE rfl];repeat' first|refine o6 ?_|simp -dsimp -implicitDefEqProofs only[go_sem]
  refine bx3 (.sl .sh 1 ((padded 32 b).map o7)) (.msl _ _ _ _ _ (.one 5) ((padded 32 b).map o7) _ (xq0 _) (by simp) (by simp;rw[<-hE rfl,hl]) (fun x hx=>by obtain⟨c,_,rfl⟩:=xq6.1 hx;exact⟨rfl,rfl⟩) (by rw[an5 o7 (fun _=>rfl)];simp) fun j c y e1 e2=>?_) ⟨rfl,rfl⟩
  rw[an5 o7 (fun _=>rfl)] at e2
  rw[Nat.zero_add] at e1;rw[e1] at e2;cases e2
  refine .low _ ?_;obtain⟨c,_,rfl⟩:=xq6.1 (bC3 e1);exact .lit _
 ·have h8:=hlt h1
  have hset:((aS6 32 b t).map o7).set (N - 1 - t) (.lit (.int .u8 (IntKind.u8.wrap (n:Int))))=(aS6 32 b (t+1)).map o7:=by
   rw[<-hT h8,ar1,dk8];rfl
  have hc:(0 < (n:Int))=True:=eq_true (by omega)
  repeat' first|refine o6 ?_|simp -dsimp -implicitDefEqProofs (disch:=omega) only[go_sem,hc,hset,hs]|refine vcA ?_ ?_|omega
  refine again (t+1) ?_ ?_ rfl y9
  ·have:n'=n/256:=hs.symm
   omega
  ·omega
end
end Go.Proofs.YtpplfhfoljjipaaGreatDoor
