/- The rules by which a verification condition is worked out. -/
import Derived.Test.YthaicajgfioogaaDoorVn
import Derived.IntWalk
set_option linter.unusedSimpArgs false
set_option linter.unusedVariables false
namespace Go.Proofs.YthaicajgfioogaaDoor.V
open Go
section
variable {P : Program} {L : Tab} {mu : List Nat} {n : Nat} {Q : Exit → Env → List AObj → Prop} {env : Env} {H : List AObj} {all rest : List Oper} {K : Env → List AObj → Prop} {J : AV → List AObj → Prop} {D : AV → Prop}
theorem c_skip : vcC P L mu n .skip Q env H = Q .normal env H := rfl
theorem c_seq {x y : Code} : vcC P L mu n (.seq x y) Q env H = vcC P L mu n x (Ex (fun env H => vcC P L mu n y Q env H) Q) env H := rfl
theorem c_cond {c : Operand} {x y : Code} : vcC P L mu n (.cond c x y) Q env H = vcIf (ev env c) (vcC P L mu n x Q env H) (vcC P L mu n y Q env H) := rfl
theorem c_block {id : Nat} {c : Code} : vcC P L mu n (.block id c) Q env H = vcC P L mu n c (InB id Q) env H := rfl
theorem c_exit {id : Nat} : vcC P L mu n (.exit id) Q env H = Q (.exit id) env H := rfl
theorem c_ret : vcC P L mu n .ret Q env H = Q .ret env H := rfl
theorem c_region {id : Nat} {ops : List Oper} : vcC P L mu n (.region id ops.toArray false) Q env H = vcOps P L mu ops ops env H (Q .normal) := by show vcOps P L mu ops.toArray.toList ops.toArray.toList env H (Q .normal) = _; simp
theorem c_draw {id : Nat} {ops : List Oper} : vcC P L mu n (.region id ops.toArray true) Q env H = if mu.contains (1000000 + id) then vcChain P L mu ops ops env H (Q .normal) else vcDraw P L ops ops env H (Q .normal) := by show (if mu.contains (1000000 + id) then vcChain P L mu ops.toArray.toList ops.toArray.toList env H (Q .normal) else vcDraw P L ops.toArray.toList ops.toArray.toList env H (Q .normal)) = _; simp
theorem c_loop {c : Code} : vcC P L mu n (.loop c) Q env H = AW P n (.loop c) Q env H := rfl
theorem ex_normal : Ex K Q .normal env H = K env H := rfl
theorem ex_exit {id : Nat} : Ex K Q (.exit id) env H = Q (.exit id) env H := rfl
theorem ex_ret : Ex K Q .ret env H = Q .ret env H := rfl
theorem in_normal {id : Nat} : InB id Q .normal env H = Q .normal env H := rfl
theorem in_exit {id id' : Nat} : InB id Q (.exit id') env H = if id' = id then Q .normal env H else Q (.exit id') env H := rfl
theorem in_ret {id : Nat} : InB id Q .ret env H = Q .ret env H := rfl
theorem b_ret {rs : List ResultVar} {H₀ : List AObj} {R : AV → List AObj → Prop} : BodyQ L rs H₀ R .ret env H = Fin L rs H₀ R env H := rfl
theorem b_normal {rs : List ResultVar} {H₀ : List AObj} {R : AV → List AObj → Prop} : BodyQ L rs H₀ R .normal env H = Fin L rs H₀ R env H := rfl
theorem o_nil : vcOps P L mu all [] env H K = K env H := rfl
theorem o_cons {d : Option Tmp} {op : Op} {ty : TypeId} {pos : String} {af : Array Edge} : vcOps P L mu all (⟨d, op, ty, pos, af, none⟩ :: rest) env H K = vcOp P L mu ⟨d, op, ty, pos, af, none⟩ env H fun v H' => vcOps P L mu all rest (put d v env) H' K := rfl
theorem o_guard {d : Option Tmp} {op : Op} {ty : TypeId} {pos : String} {af : Array Edge} {j : Nat} {b : Bool} : vcOps P L mu all (⟨d, op, ty, pos, af, some (j, b)⟩ :: rest) env H K =
    vcGuard (gval all env j) b (vcOp P L mu ⟨d, op, ty, pos, af, some (j, b)⟩ (known1 all j b env) H fun v H' => vcOps P L mu all rest (put d v (known1 all j b env)) H' K) (vcOps P L mu all rest (put d (.lit undef) (known1 all j (!b) env)) H K) (vcOps P L mu all rest (put d (.lit undef) env) H K) := rfl
theorem d_nil : vcDraw P L all [] env H K = K env H := rfl
theorem d_cons {d : Option Tmp} {op : Op} {ty : TypeId} {pos : String} {af : Array Edge} : vcDraw P L all (⟨d, op, ty, pos, af, none⟩ :: rest) env H K = vcOpD P L ⟨d, op, ty, pos, af, none⟩ env H fun v => vcDraw P L all rest (put d v env) H K := rfl
theorem d_guard {d : Option Tmp} {op : Op} {ty : TypeId} {pos : String} {af : Array Edge} {j : Nat} {b : Bool} : vcDraw P L all (⟨d, op, ty, pos, af, some (j, b)⟩ :: rest) env H K =
    vcGuard (gval all env j) b (vcOpD P L ⟨d, op, ty, pos, af, some (j, b)⟩ (known1 all j b env) H fun v => vcDraw P L all rest (put d v (known1 all j b env)) H K) (vcDraw P L all rest (put d (.lit undef) (known1 all j (!b) env)) H K) (vcDraw P L all rest (put d (.lit undef) env) H K) := rfl
theorem gv_zero {d : Tmp} {op : Op} {ty : TypeId} {pos : String} {af : Array Edge} {g : Option (Nat × Bool)} : gval (⟨some d, op, ty, pos, af, g⟩ :: rest) env 0 = get env d := rfl
theorem gv_succ {o : Oper} {j : Nat} : gval (o :: rest) env (j + 1) = gval rest env j := rfl
section
variable {d : Option Tmp} {ty : TypeId} {pos : String} {af : Array Edge} {g : Option (Nat × Bool)}
theorem op_move {x : Operand} : vcOp P L mu ⟨d, .move x, ty, pos, af, g⟩ env H J = lift (qTrue (ev env x)) J H := rfl
theorem op_assign {x : Operand} : vcOp P L mu ⟨d, .assign x, ty, pos, af, g⟩ env H J = lift (qTrue (ev env x)) J H := rfl
theorem op_pick {a b c : Operand} : vcOp P L mu ⟨d, .pick a b c, ty, pos, af, g⟩ env H J = lift (qPick (ev env a) (ev env b) (ev env c)) J H := rfl
theorem op_bin {op : BinOp} {t t' : TypeId} {x y : Operand} : vcOp P L mu ⟨d, .binOp op t x y t', ty, pos, af, g⟩ env H J = lift (qBin L op t (ev env x) (ev env y)) J H := rfl
theorem op_un {op : UnOp} {t : TypeId} {x : Operand} : vcOp P L mu ⟨d, .unOp op t x, ty, pos, af, g⟩ env H J = lift (qUn' op (ev env x)) J H := rfl
theorem op_conv {s t : TypeId} {x : Operand} : vcOp P L mu ⟨d, .convert s t x, ty, pos, af, g⟩ env H J = if mu.contains (d.getD 0) then vcBytes L s t (ev env x) H J else lift (qConvH L H s t (ev env x)) J H := rfl
theorem op_extract {x : Operand} {i : Nat} : vcOp P L mu ⟨d, .extract x i, ty, pos, af, g⟩ env H J = lift (qExtract (ev env x) i) J H := rfl
theorem op_indexAddr {t : TypeId} {x i : Operand} : vcOp P L mu ⟨d, .indexAddr t x i, ty, pos, af, g⟩ env H J = lift (qIndexAddr L t (ev env x) (ev env i)) J H := rfl
theorem op_index {t : TypeId} {x i : Operand} : vcOp P L mu ⟨d, .index t x i, ty, pos, af, g⟩ env H J = lift (qIndex L t (ev env x) (ev env i)) J H := rfl
theorem op_load {t : TypeId} {x : Operand} : vcOp P L mu ⟨d, .load t x, ty, pos, af, g⟩ env H J = lift (qLoad L H t (ev env x)) J H := rfl
theorem op_slice {t : TypeId} {x : Operand} {lo hi mx : Option Operand} : vcOp P L mu ⟨d, .slice t x lo hi mx, ty, pos, af, g⟩ env H J = lift (qSlice L t (ev env x) (evO env lo) (evO env hi) (evO env mx)) J H := rfl
theorem op_fieldAddr {t : TypeId} {x : Operand} {f : Nat} : vcOp P L mu ⟨d, .fieldAddr t x f, ty, pos, af, g⟩ env H J = lift (qFieldAddr L t (ev env x) f) J H := rfl
theorem op_field {t : TypeId} {x : Operand} {f : Nat} : vcOp P L mu ⟨d, .field t x f, ty, pos, af, g⟩ env H J = lift (qField L t (ev env x) f) J H := rfl
theorem op_build {t : TypeId} {ps : Array (Nat × Operand)} : vcOp P L mu ⟨d, .build t ps, ty, pos, af, g⟩ env H J = lift (qBuild L t (evParts env ps)) J H := rfl
theorem op_buildSlice {t : TypeId} {len : Nat} {ps : Array (Nat × Operand)} : vcOp P L mu ⟨d, .buildSlice t len ps, ty, pos, af, g⟩ env H J = if len = 0 ∧ ps.size ≠ 0 then False else lift (qBuildSlice L t len (evParts env ps)) J H := rfl
theorem op_box {t : TypeId} {x : Operand} : vcOp P L mu ⟨d, .box t x, ty, pos, af, g⟩ env H J = if mu.contains (d.getD 0) then vcMut (ev env x) H J else lift (qBox (ev env x)) J H := rfl
theorem op_alloc {t : TypeId} : vcOp P L mu ⟨d, .alloc t, ty, pos, af, g⟩ env H J = (known (L t) = true ∧ J (.mp H.length 0) (H ++ [.cells (L t).zero])) := rfl
theorem op_store {t : TypeId} {a x : Operand} : vcOp P L mu ⟨d, .store t a x, ty, pos, af, g⟩ env H J = vcStore L t (ev env a) (ev env x) H J := rfl
theorem op_callv {f : Operand} {as : Array Operand} {ts : Array TypeId} : vcOp P L mu ⟨d, .call ⟨.value f, as, ts⟩, ty, pos, af, g⟩ env H J = vcCall P (ev env f) (as.toList.map (ev env)) H J := rfl
theorem op_callb {b : Builtin} {as : Array Operand} {ts : Array TypeId} : vcOp P L mu ⟨d, .call ⟨.builtin b, as, ts⟩, ty, pos, af, g⟩ env H J = vcBuiltin L b (as.toList.map (ev env)) ts.toList H J := rfl
theorem od_move {x : Operand} : vcOpD P L ⟨d, .move x, ty, pos, af, g⟩ env H D = liftD (qTrue (ev env x)) D := rfl
theorem od_assign {x : Operand} : vcOpD P L ⟨d, .assign x, ty, pos, af, g⟩ env H D = liftD (qTrue (ev env x)) D := rfl
theorem od_pick {a b c : Operand} : vcOpD P L ⟨d, .pick a b c, ty, pos, af, g⟩ env H D = liftD (qPick (ev env a) (ev env b) (ev env c)) D := rfl
theorem od_bin {op : BinOp} {t t' : TypeId} {x y : Operand} : vcOpD P L ⟨d, .binOp op t x y t', ty, pos, af, g⟩ env H D = liftD (qBin L op t (ev env x) (ev env y)) D := rfl
theorem od_un {op : UnOp} {t : TypeId} {x : Operand} : vcOpD P L ⟨d, .unOp op t x, ty, pos, af, g⟩ env H D = liftD (qUn' op (ev env x)) D := rfl
theorem od_conv {s t : TypeId} {x : Operand} : vcOpD P L ⟨d, .convert s t x, ty, pos, af, g⟩ env H D = liftD (qConvH L H s t (ev env x)) D := rfl
theorem od_extract {x : Operand} {i : Nat} : vcOpD P L ⟨d, .extract x i, ty, pos, af, g⟩ env H D = liftD (qExtract (ev env x) i) D := rfl
theorem od_indexAddr {t : TypeId} {x i : Operand} : vcOpD P L ⟨d, .indexAddr t x i, ty, pos, af, g⟩ env H D = liftD (qIndexAddr L t (ev env x) (ev env i)) D := rfl
theorem od_index {t : TypeId} {x i : Operand} : vcOpD P L ⟨d, .index t x i, ty, pos, af, g⟩ env H D = liftD (qIndex L t (ev env x) (ev env i)) D := rfl
theorem od_load {t : TypeId} {x : Operand} : vcOpD P L ⟨d, .load t x, ty, pos, af, g⟩ env H D = liftD (qLoad L H t (ev env x)) D := rfl
theorem od_slice {t : TypeId} {x : Operand} {lo hi mx : Option Operand} : vcOpD P L ⟨d, .slice t x lo hi mx, ty, pos, af, g⟩ env H D = liftD (qSlice L t (ev env x) (evO env lo) (evO env hi) (evO env mx)) D := rfl
theorem od_fieldAddr {t : TypeId} {x : Operand} {f : Nat} : vcOpD P L ⟨d, .fieldAddr t x f, ty, pos, af, g⟩ env H D = liftD (qFieldAddr L t (ev env x) f) D := rfl
theorem od_field {t : TypeId} {x : Operand} {f : Nat} : vcOpD P L ⟨d, .field t x f, ty, pos, af, g⟩ env H D = liftD (qField L t (ev env x) f) D := rfl
theorem od_build {t : TypeId} {ps : Array (Nat × Operand)} : vcOpD P L ⟨d, .build t ps, ty, pos, af, g⟩ env H D = liftD (qBuild L t (evParts env ps)) D := rfl
theorem od_buildSlice {t : TypeId} {len : Nat} {ps : Array (Nat × Operand)} : vcOpD P L ⟨d, .buildSlice t len ps, ty, pos, af, g⟩ env H D = if len = 0 ∧ ps.size ≠ 0 then False else liftD (qBuildSlice L t len (evParts env ps)) D := rfl
theorem od_box {t : TypeId} {x : Operand} : vcOpD P L ⟨d, .box t x, ty, pos, af, g⟩ env H D = liftD (qBox (ev env x)) D := rfl
theorem od_callv {f : Operand} {as : Array Operand} {ts : Array TypeId} : vcOpD P L ⟨d, .call ⟨.value f, as, ts⟩, ty, pos, af, g⟩ env H D = vcCallD P (ev env f) (as.toList.map (ev env)) H D := rfl
theorem od_callb {b : Builtin} {as : Array Operand} {ts : Array TypeId} : vcOpD P L ⟨d, .call ⟨.builtin b, as, ts⟩, ty, pos, af, g⟩ env H D = vcBuiltinD L b (as.toList.map (ev env)) ts.toList D := rfl
end
theorem call_fn {f : FuncId} {fs cs args : List AV} : vcCall P (.fn (.func f) fs cs) args H J = ACalls P f (fs ++ args ++ cs) H J := rfl
theorem call_fn0 {f : FuncId} {args : List AV} : vcCall P (.fn (.func f) [] []) args H J = ACalls P f args H J := by show ACalls P f ([] ++ args ++ []) H J = _; simp
theorem calld_fn0 {f : FuncId} {args : List AV} : vcCallD P (.fn (.func f) [] []) args H D = ∃ z, ACalls P f args H (fun x H' => x = z ∧ H' = H) ∧ Hold (D z) := by show (∃ z, ACalls P f ([] ++ args ++ []) H (fun x H' => x = z ∧ H' = H) ∧ D z) = _; simp [hold_eq]
section
variable {d : Option Tmp} {ty : TypeId} {pos : String} {af : Array Edge} {g : Option (Nat × Bool)}
theorem oe_move {x : Operand} : vcOpE P L mu ⟨d, .move x, ty, pos, af, g⟩ env H J = lift (qTrue (ev env x)) J H := rfl
theorem oe_assign {x : Operand} : vcOpE P L mu ⟨d, .assign x, ty, pos, af, g⟩ env H J = lift (qTrue (ev env x)) J H := rfl
theorem oe_pick {a b c : Operand} : vcOpE P L mu ⟨d, .pick a b c, ty, pos, af, g⟩ env H J = lift (qPick (ev env a) (ev env b) (ev env c)) J H := rfl
theorem oe_bin {op : BinOp} {t t' : TypeId} {x y : Operand} : vcOpE P L mu ⟨d, .binOp op t x y t', ty, pos, af, g⟩ env H J = lift (qBin L op t (ev env x) (ev env y)) J H := rfl
theorem oe_un {op : UnOp} {t : TypeId} {x : Operand} : vcOpE P L mu ⟨d, .unOp op t x, ty, pos, af, g⟩ env H J = lift (qUn' op (ev env x)) J H := rfl
theorem oe_conv {s t : TypeId} {x : Operand} : vcOpE P L mu ⟨d, .convert s t x, ty, pos, af, g⟩ env H J = if mu.contains (d.getD 0) then False else lift (qConvH L H s t (ev env x)) J H := by unfold vcOpE; simp only [vcOp]; split <;> simp_all
theorem oe_extract {x : Operand} {i : Nat} : vcOpE P L mu ⟨d, .extract x i, ty, pos, af, g⟩ env H J = lift (qExtract (ev env x) i) J H := rfl
theorem oe_indexAddr {t : TypeId} {x i : Operand} : vcOpE P L mu ⟨d, .indexAddr t x i, ty, pos, af, g⟩ env H J = lift (qIndexAddr L t (ev env x) (ev env i)) J H := rfl
theorem oe_index {t : TypeId} {x i : Operand} : vcOpE P L mu ⟨d, .index t x i, ty, pos, af, g⟩ env H J = lift (qIndex L t (ev env x) (ev env i)) J H := rfl
theorem oe_load {t : TypeId} {x : Operand} : vcOpE P L mu ⟨d, .load t x, ty, pos, af, g⟩ env H J = lift (qLoad L H t (ev env x)) J H := rfl
theorem oe_slice {t : TypeId} {x : Operand} {lo hi mx : Option Operand} : vcOpE P L mu ⟨d, .slice t x lo hi mx, ty, pos, af, g⟩ env H J = lift (qSlice L t (ev env x) (evO env lo) (evO env hi) (evO env mx)) J H := rfl
theorem oe_fieldAddr {t : TypeId} {x : Operand} {f : Nat} : vcOpE P L mu ⟨d, .fieldAddr t x f, ty, pos, af, g⟩ env H J = lift (qFieldAddr L t (ev env x) f) J H := rfl
theorem oe_field {t : TypeId} {x : Operand} {f : Nat} : vcOpE P L mu ⟨d, .field t x f, ty, pos, af, g⟩ env H J = lift (qField L t (ev env x) f) J H := rfl
theorem oe_build {t : TypeId} {ps : Array (Nat × Operand)} : vcOpE P L mu ⟨d, .build t ps, ty, pos, af, g⟩ env H J = lift (qBuild L t (evParts env ps)) J H := rfl
theorem oe_buildSlice {t : TypeId} {len : Nat} {ps : Array (Nat × Operand)} : vcOpE P L mu ⟨d, .buildSlice t len ps, ty, pos, af, g⟩ env H J = if len = 0 ∧ ps.size ≠ 0 then False else lift (qBuildSlice L t len (evParts env ps)) J H := rfl
theorem oe_box {t : TypeId} {x : Operand} : vcOpE P L mu ⟨d, .box t x, ty, pos, af, g⟩ env H J = if mu.contains (d.getD 0) then vcMut (ev env x) H J else lift (qBox (ev env x)) J H := rfl
theorem oe_alloc {t : TypeId} : vcOpE P L mu ⟨d, .alloc t, ty, pos, af, g⟩ env H J = (known (L t) = true ∧ J (.mp H.length 0) (H ++ [.cells (L t).zero])) := rfl
theorem oe_store {t : TypeId} {a x : Operand} : vcOpE P L mu ⟨d, .store t a x, ty, pos, af, g⟩ env H J = vcStore L t (ev env a) (ev env x) H J := rfl
theorem oe_callv {f : FuncId} {as : Array Operand} {ts : Array TypeId} : vcOpE P L mu ⟨d, .call ⟨.value (.func f), as, ts⟩, ty, pos, af, g⟩ env H J = ∃ z H', ACalls P f (as.toList.map (ev env)) H (fun x H'' => x = z ∧ H'' = H') ∧ Hold (J z H') := by simp only [vcOpE, vcOp, hold_eq]; congr; funext z; congr; funext H'; rw [show ev env (.func f) = .fn (.func f) [] [] from rfl, call_fn0]
theorem oe_append {x y : Operand} {t t' : TypeId} : vcOpE P L mu ⟨d, .call ⟨.builtin .append, #[x, y], #[t, t']⟩, ty, pos, af, g⟩ env H J = vcAppend L t t' (ev env x) (ev env y) H J := rfl
theorem oe_len {x : Operand} {t : TypeId} : vcOpE P L mu ⟨d, .call ⟨.builtin .len, #[x], #[t]⟩, ty, pos, af, g⟩ env H J = lift (qLen' L t (ev env x)) J H := rfl
theorem ch_nil : vcChain P L mu all [] env H K = K env H := rfl
theorem ch_cons {op : Op} : vcChain P L mu all (⟨d, op, ty, pos, af, none⟩ :: rest) env H K = vcOpE P L mu ⟨d, op, ty, pos, af, none⟩ env H fun v H' => vcChain P L mu all rest (put d v env) H' K := rfl
theorem ch_guard {op : Op} {j : Nat} {b : Bool} : vcChain P L mu all (⟨d, op, ty, pos, af, some (j, b)⟩ :: rest) env H K =
    vcGuard (gval all env j) b (vcOpE P L mu ⟨d, op, ty, pos, af, some (j, b)⟩ (known1 all j b env) H fun v H' => vcChain P L mu all rest (put d v (known1 all j b env)) H' K) (vcChain P L mu all rest (put d (.lit undef) (known1 all j (!b) env)) H K) (vcChain P L mu all rest (put d (.lit undef) env) H K) := rfl
end
theorem b_len {x : AV} {t : TypeId} : vcBuiltin L .len [x] [t] H J = lift (qLen' L t x) J H := rfl
theorem b_append {x y : AV} {t t' : TypeId} : vcBuiltin L .append [x, y] [t, t'] H J = vcAppend L t t' x y H J := rfl
theorem bd_len {x : AV} {t : TypeId} : vcBuiltinD L .len [x] [t] D = liftD (qLen' L t x) D := rfl
theorem kn_zero {d : Tmp} {op : Op} {ty : TypeId} {pos : String} {af : Array Edge} {g : Option (Nat × Bool)} {b : Bool} : known1 (⟨some d, op, ty, pos, af, g⟩ :: rest) 0 b env = (d, .lit (.bool b)) :: env := rfl
theorem kn_succ {o : Oper} {j : Nat} {b : Bool} : known1 (o :: rest) (j + 1) b env = known1 rest j b env := rfl
theorem put_some {d : Tmp} {v : AV} : put (some d) v env = (d, v) :: env := rfl
theorem put_none {v : AV} : put none v env = env := rfl
theorem ev_tmp {t : Tmp} : ev env (.tmp t) = get env t := rfl
theorem ev_const {v : Value} : ev env (.const v) = ofConst v := rfl
theorem ev_global {g : Nat} : ev env (.global g) = globAV g := rfl
theorem ev_func {f : FuncId} : ev env (.func f) = .fn (.func f) [] [] := rfl
theorem get_cons {k t : Nat} {v : AV} : get ((k, v) :: env) t = if k = t then v else get env t := rfl
theorem get_cons' {k t : Nat} {v : AV} : get ((k, v) :: env) t = if k = t then v else get env t := rfl
theorem get_nil {t : Nat} : get [] t = .any := rfl
theorem of_int {k : IntKind} {i : Int} : ofConst (.int k i) = .lit (.int k i) := rfl
theorem of_bool {b : Bool} : ofConst (.bool b) = .lit (.bool b) := rfl
theorem of_str {a : List UInt8} : ofConst (.string ⟨a.toArray⟩) = .str a := rfl
theorem of_nil : ofConst (.slice none 0 0) = .sl .full 0 [] := rfl

/-- The end: a result that may be told in a weaker way, and objects that may be dropped. -/
def Done (H₀ : List AObj) (R : AV → List AObj → Prop) (x : AV) (H : List AObj) [Tag R] [Tag H₀] : Prop :=
  ∃ y m, Le x y ∧ H₀.length ≤ m ∧ (m < H.length → Low m y ∧ ∀ k cs, k < m → H[k]? = some (.cells cs) → H₀[k]? = some (.cells cs) ∨ ∀ y ∈ cs, Low m y) ∧ R y (H.take m)
def finL (q : Option (Prop × List AV)) (H₀ : List AObj) (R : AV → List AObj → Prop) (H : List AObj) [Tag R] [Tag H₀] : Prop :=
  match q with
  | some (p, xs) => p ∧ Done H₀ R (resTop xs) H
  | none => False
theorem fin_eq {rs : List ResultVar} {H₀ : List AObj} {R : AV → List AObj → Prop} : Fin L rs H₀ R env H = finL (resList L env H rs) H₀ R H := rfl
theorem finL_some {p : Prop} {xs : List AV} {H₀ : List AObj} {R : AV → List AObj → Prop} : finL (some (p, xs)) H₀ R H = (p ∧ Done H₀ R (resTop xs) H) := rfl
theorem rl_nil : resList L env H [] = some (True, []) := rfl
def rlCons (q : Option (Prop × AV)) (r : Option (Prop × List AV)) : Option (Prop × List AV) :=
  match q, r with
  | some (p, x), some (q, xs) => some (p ∧ q, x :: xs)
  | _, _ => none
theorem rl_cons {r : ResultVar} {rs : List ResultVar} : resList L env H (r :: rs) = rlCons (resOne L env H r) (resList L env H rs) := by
  unfold rlCons
  rw [resList]
  cases resOne L env H r <;> cases resList L env H rs <;> rfl
theorem rlCons_some {p q : Prop} {x : AV} {xs : List AV} : rlCons (some (p, x)) (some (q, xs)) = some (p ∧ q, x :: xs) := rfl
theorem r_tmp {t : Tmp} : resOne L env H (.tmp t) = some (True, get env t) := rfl
theorem r_cell {a : Tmp} {t : TypeId} : resOne L env H (.cell a t) = qLoad L H t (get env a) := rfl
theorem rt_one {x : AV} : resTop [x] = x := rfl
theorem rt_two {x y : AV} {r : List AV} : resTop (x :: y :: r) = .tup (x :: y :: r) := rfl
theorem rt_nil : resTop [] = .tup [] := rfl
theorem done_keep {H₀ : List AObj} {R : AV → List AObj → Prop} {x : AV} (y : AV) (hx : Le x y) (hl : H₀.length ≤ H.length) (hr : R y H) : Done H₀ R x H :=
  ⟨y, H.length, hx, hl, fun h => absurd h (Nat.lt_irrefl _), by rw [List.take_length]; exact hr⟩
theorem done_same {H₀ : List AObj} {R : AV → List AObj → Prop} {x : AV} (hr : R x H₀) : Done H₀ R x H₀ := done_keep x (Le.refl x) (Nat.le_refl _) hr
theorem done_cut {H₀ M : List AObj} {R : AV → List AObj → Prop} {x : AV} (y : AV) (hx : Le x y) (hl : Low H₀.length y) (hr : R y H₀) : Done H₀ R x (H₀ ++ M) := by
  refine ⟨y, H₀.length, hx, Nat.le_refl _, fun _ => ⟨hl, fun k cs hk e => .inl ?_⟩, by rw [List.take_left]; exact hr⟩
  rwa [List.getElem?_append_left hk] at e
theorem bool_is {b : Bool} {p : Prop} [Decidable p] (h : b = true ↔ p) : AV.lit (.bool b) = .bool (decide p) := by
  have : b = decide p := by rw [Bool.eq_iff_iff, decide_eq_true_eq]; exact h
  rw [this]
theorem done_drop {H₀ : List AObj} {o : AObj} {R : AV → List AObj → Prop} {x : AV} (hl : Low H₀.length x) (hr : R x H₀) : Done H₀ R x (H₀ ++ [o]) := done_cut x (Le.refl x) hl hr
attribute [irreducible] Done
end

def EnvLe (env env' : Env) : Prop := ∀ t, Le (get env t) (get env' t)
theorem envLe_nil {env : Env} : EnvLe env [] := fun t => Le.any _
theorem envLe_cons {env r : Env} {k : Nat} {v : AV} (h : Le (get env k) v) (hr : EnvLe env r) : EnvLe env ((k, v) :: r) := fun t => by
  rw [get_cons]
  split
  · rename_i e; subst e; exact h
  · exact hr t
theorem le_eq {x y : AV} (h : x = y) : Le x y := h ▸ Le.refl x
theorem getD_bytes {l : List UInt8} {i : Nat} (h : i < l.length) : (l.map byteAV).getD i .any = .lit (.int .u8 (l.getD i 0).toNat) := by
  simp [List.getD, List.getElem?_eq_getElem h, byteAV]
theorem byte_u8 (b : UInt8) : IntKind.u8.wrap (b.toNat : Int) = (b.toNat : Int) := IntWalk.u8_in _ (by have := b.toNat_lt; omega)
theorem byte_i32 (b : UInt8) : IntKind.i32.wrap (b.toNat : Int) = (b.toNat : Int) := IntWalk.i32_in _ (by have := b.toNat_lt; omega)
theorem byte_i64 (b : UInt8) : IntKind.i64.wrap (b.toNat : Int) = (b.toNat : Int) := IntWalk.i64_in _ (by have := b.toNat_lt; omega)
theorem byte_u32 (b : UInt8) : IntKind.u32.wrap (b.toNat : Int) = (b.toNat : Int) := IntWalk.u32_in _ (by have := b.toNat_lt; omega)
theorem byte_u64 (b : UInt8) : IntKind.u64.wrap (b.toNat : Int) = (b.toNat : Int) := IntWalk.u64_in _ (by have := b.toNat_lt; omega)
theorem getD_runes {l : List Int} {i : Nat} (h : i < l.length) : (l.map runeAV).getD i .any = .lit (.int .i32 (l.getD i 0)) := by
  simp [List.getD, List.getElem?_eq_getElem h, runeAV]
theorem acalls_same {P : Program} {f : FuncId} {args : List AV} {H H₁ : List AObj} {z : AV} {K : AV → List AObj → Prop} (h : ACalls P f args H (fun x H' => x = z ∧ H' = H₁)) (k : K z H₁) : ACalls P f args H K :=
  h.mono fun _ _ ⟨e, e'⟩ => by subst e; subst e'; exact k
theorem min_left {a b : Nat} (h : a ≤ b) : min a b = a := Nat.min_eq_left h
theorem fdiv_nat {n : Nat} {k : Int} (h : 0 ≤ k) : (n : Int).fdiv k = ((n / k.toNat : Nat) : Int) := by
  rw [Int.fdiv_eq_ediv_of_nonneg _ h, Int.natCast_ediv, Int.toNat_of_nonneg h]
theorem fdiv_pos {a k : Int} (h : 0 ≤ k) : a.fdiv k = a / k := Int.fdiv_eq_ediv_of_nonneg _ h
theorem tdiv_pos {a k : Int} (h : 0 ≤ a) : a.tdiv k = a / k := Int.tdiv_eq_ediv_of_nonneg h
theorem tmod_pos {a k : Int} (h : 0 ≤ a) : a.tmod k = a % k := Int.tmod_eq_emod_of_nonneg h
theorem and_mask_ {k : Nat} {m : Nat} {a : Int} (h : 0 ≤ a) (h2 : a < 2 ^ k) (hm : m ≤ k) : ((BitVec.ofInt k a &&& BitVec.ofInt k (2 ^ m - 1)).toNat : Int) = a % 2 ^ m := by
  obtain ⟨n, rfl⟩ := Int.eq_ofNat_of_zero_le h
  have hn : n < 2 ^ k := by exact_mod_cast h2
  have hp : (2 : Int) ^ m - 1 = ((2 ^ m - 1 : Nat) : Int) := by
    have h0 : 0 < 2 ^ m := Nat.two_pow_pos m
    have h1 : ((2 ^ m : Nat) : Int) = (2 : Int) ^ m := by simp
    rw [← h1]
    omega
  have hle : 2 ^ m ≤ 2 ^ k := Nat.pow_le_pow_right (by decide) hm
  have h0 : 0 < 2 ^ m := Nat.two_pow_pos m
  rw [hp, BitVec.toNat_and, BitVec.ofInt_natCast, BitVec.ofInt_natCast, BitVec.toNat_ofNat, BitVec.toNat_ofNat, Nat.mod_eq_of_lt hn, Nat.mod_eq_of_lt (by omega), Nat.and_two_pow_sub_one_eq_mod]
  exact_mod_cast rfl
theorem u8_and (m : Nat) {a : Int} (h : 0 ≤ a ∧ a < 256) (hm : m ≤ 8) : ((BitVec.ofInt 8 a &&& BitVec.ofInt 8 (2 ^ m - 1)).toNat : Int) = a % 2 ^ m := and_mask_ h.1 h.2 hm
theorem u8_and63 {a : Int} (h : 0 ≤ a ∧ a < 256) : ((BitVec.ofInt IntKind.u8.bits a &&& BitVec.ofInt IntKind.u8.bits 63).toNat : Int) = a % 64 := u8_and 6 h (by decide)
theorem u8_and15 {a : Int} (h : 0 ≤ a ∧ a < 256) : ((BitVec.ofInt IntKind.u8.bits a &&& BitVec.ofInt IntKind.u8.bits 15).toNat : Int) = a % 16 := u8_and 4 h (by decide)
theorem u8_and31 {a : Int} (h : 0 ≤ a ∧ a < 256) : ((BitVec.ofInt IntKind.u8.bits a &&& BitVec.ofInt IntKind.u8.bits 31).toNat : Int) = a % 32 := u8_and 5 h (by decide)
theorem u8_and7 {a : Int} (h : 0 ≤ a ∧ a < 256) : ((BitVec.ofInt IntKind.u8.bits a &&& BitVec.ofInt IntKind.u8.bits 7).toNat : Int) = a % 8 := u8_and 3 h (by decide)
theorem or_parts_ {k : Nat} {m : Nat} {c a : Int} (h : 0 ≤ a) (h2 : a < 2 ^ m) (hm : m ≤ k) (hc : 0 ≤ c) (hc2 : c < 2 ^ k) (hd : c % 2 ^ m = 0) : ((BitVec.ofInt k c ||| BitVec.ofInt k a).toNat : Int) = c + a := by
  obtain ⟨n, rfl⟩ := Int.eq_ofNat_of_zero_le h
  obtain ⟨q, rfl⟩ := Int.eq_ofNat_of_zero_le hc
  have hn : n < 2 ^ m := by exact_mod_cast h2
  have hq : q < 2 ^ k := by exact_mod_cast hc2
  have hq2 : q % 2 ^ m = 0 := by exact_mod_cast hd
  have hle : 2 ^ m ≤ 2 ^ k := Nat.pow_le_pow_right (by decide) hm
  rw [BitVec.toNat_or, BitVec.ofInt_natCast, BitVec.ofInt_natCast, BitVec.toNat_ofNat, BitVec.toNat_ofNat, Nat.mod_eq_of_lt hq, Nat.mod_eq_of_lt (by omega)]
  have e : q = 2 ^ m * (q / 2 ^ m) := by have := Nat.div_add_mod q (2 ^ m); omega
  rw [e, ← Nat.two_pow_add_eq_or_of_lt hn]
  exact_mod_cast rfl
theorem u8_or (m : Nat) {c a : Int} (h : 0 ≤ a ∧ a < 2 ^ m) (hm : m ≤ 8) (hc : 0 ≤ c ∧ c < 256 ∧ c % 2 ^ m = 0) : ((BitVec.ofInt 8 c ||| BitVec.ofInt 8 a).toNat : Int) = c + a := or_parts_ h.1 h.2 hm hc.1 hc.2.1 hc.2.2
theorem u8_or128 {a : Int} (h : 0 ≤ a ∧ a < 64) : ((BitVec.ofInt IntKind.u8.bits 128 ||| BitVec.ofInt IntKind.u8.bits a).toNat : Int) = 128 + a := u8_or 6 h (by decide) (by decide)
theorem u8_or192 {a : Int} (h : 0 ≤ a ∧ a < 32) : ((BitVec.ofInt IntKind.u8.bits 192 ||| BitVec.ofInt IntKind.u8.bits a).toNat : Int) = 192 + a := u8_or 5 h (by decide) (by decide)
theorem u8_or224 {a : Int} (h : 0 ≤ a ∧ a < 16) : ((BitVec.ofInt IntKind.u8.bits 224 ||| BitVec.ofInt IntKind.u8.bits a).toNat : Int) = 224 + a := u8_or 4 h (by decide) (by decide)
theorem u8_or240 {a : Int} (h : 0 ≤ a ∧ a < 8) : ((BitVec.ofInt IntKind.u8.bits 240 ||| BitVec.ofInt IntKind.u8.bits a).toNat : Int) = 240 + a := u8_or 3 h (by decide) (by decide)
theorem i32_or (m : Nat) {c a : Int} (h : 0 ≤ a ∧ a < 2 ^ m) (hm : m ≤ 32) (hc : 0 ≤ c ∧ c < 4294967296 ∧ c % 2 ^ m = 0) : ((BitVec.ofInt IntKind.i32.bits c ||| BitVec.ofInt IntKind.i32.bits a).toNat : Int) = c + a := or_parts_ (k := 32) h.1 h.2 hm hc.1 hc.2.1 hc.2.2
theorem i32_or6 {c a : Int} (h : (0 ≤ a ∧ a < 64) ∧ 0 ≤ c ∧ c < 4294967296 ∧ c % 64 = 0) : ((BitVec.ofInt IntKind.i32.bits c ||| BitVec.ofInt IntKind.i32.bits a).toNat : Int) = c + a := i32_or 6 h.1 (by decide) h.2
theorem i32_or12 {c a : Int} (h : (0 ≤ a ∧ a < 4096) ∧ 0 ≤ c ∧ c < 4294967296 ∧ c % 4096 = 0) : ((BitVec.ofInt IntKind.i32.bits c ||| BitVec.ofInt IntKind.i32.bits a).toNat : Int) = c + a := i32_or 12 h.1 (by decide) h.2
theorem i32_or18 {c a : Int} (h : (0 ≤ a ∧ a < 262144) ∧ 0 ≤ c ∧ c < 4294967296 ∧ c % 262144 = 0) : ((BitVec.ofInt IntKind.i32.bits c ||| BitVec.ofInt IntKind.i32.bits a).toNat : Int) = c + a := i32_or 18 h.1 (by decide) h.2
theorem u8_wrap (a : Int) : IntKind.u8.wrap a = a % 256 := by
  simp [IntKind.wrap, IntKind.signed, IntKind.bits]
theorem bits_u8 : IntKind.u8.bits = 8 := rfl
theorem bits_u16 : IntKind.u16.bits = 16 := rfl
theorem bits_u32 : IntKind.u32.bits = 32 := rfl
theorem bits_u64 : IntKind.u64.bits = 64 := rfl
theorem bits_i8 : IntKind.i8.bits = 8 := rfl
theorem bits_i16 : IntKind.i16.bits = 16 := rfl
theorem bits_i32 : IntKind.i32.bits = 32 := rfl
theorem bits_i64 : IntKind.i64.bits = 64 := rfl
theorem byte_lt (b : UInt8) : ((b.toNat : Int) < 256) = True := eq_true (by have := b.toNat_lt; omega)
theorem byte_lt' (b : UInt8) : (b.toNat < 256) = True := eq_true (by have := b.toNat_lt; omega)
theorem byte_ge (n : Nat) : (0 ≤ (n : Int)) = True := eq_true (by omega)
def firstAV : List AV := tabFirst.map ofCell
def acceptAV : List AV := tabAccept.map ofCell
theorem firstAV_eq : firstAV = (List.range 256).map fun c => .lit (.int .u8 (Lib.firstT c)) := by
  unfold firstAV tabFirst
  rw [List.map_map]
  rfl
theorem firstAV_len : firstAV.length = 256 := by rw [firstAV_eq]; simp
theorem first_at (b : UInt8) : firstAV.getD b.toNat .any = .lit (.int .u8 (Lib.firstT b.toNat)) := by
  have := b.toNat_lt
  rw [firstAV_eq, List.getD, List.getElem?_map, List.getElem?_range (by omega)]
  rfl
theorem acceptAV_len : acceptAV.length = 32 := by unfold acceptAV; rw [List.length_map]; decide
theorem accept_at {i : Nat} (h : i < 16) : (acceptAV.drop (i * 2)).take 2 = [.lit (.int .u8 (Lib.accLo i)), .lit (.int .u8 (Lib.accHi i))] := by
  unfold acceptAV
  match i, h with
  | 0, _ => rfl
  | 1, _ => rfl
  | 2, _ => rfl
  | 3, _ => rfl
  | 4, _ => rfl
  | 5, _ => rfl
  | 6, _ => rfl
  | 7, _ => rfl
  | 8, _ => rfl
  | 9, _ => rfl
  | 10, _ => rfl
  | 11, _ => rfl
  | 12, _ => rfl
  | 13, _ => rfl
  | 14, _ => rfl
  | 15, _ => rfl
  | _ + 16, h => omega
theorem acc0 : acceptAV.take 2 = [.lit (.int .u8 128), .lit (.int .u8 191)] := accept_at (i := 0) (by decide)
theorem acc1 : (acceptAV.drop 2).take 2 = [.lit (.int .u8 160), .lit (.int .u8 191)] := accept_at (i := 1) (by decide)
theorem acc2 : (acceptAV.drop 4).take 2 = [.lit (.int .u8 128), .lit (.int .u8 159)] := accept_at (i := 2) (by decide)
theorem acc3 : (acceptAV.drop 6).take 2 = [.lit (.int .u8 144), .lit (.int .u8 191)] := accept_at (i := 3) (by decide)
theorem acc4 : (acceptAV.drop 8).take 2 = [.lit (.int .u8 128), .lit (.int .u8 143)] := accept_at (i := 4) (by decide)
theorem glob_first {g : Nat} (h : gtab g = tabFirst) : globAV g = .ip (.agg firstAV) := by
  unfold globAV
  rw [h, if_neg (by decide)]
  rfl
theorem glob_accept {g : Nat} (h : gtab g = tabAccept) : globAV g = .ip (.agg acceptAV) := by
  unfold globAV
  rw [h, if_neg (by decide)]
  rfl
attribute [irreducible] firstAV acceptAV
theorem drop_bytes {l : List UInt8} {n : Nat} : (l.map byteAV).drop n = (l.drop n).map byteAV := List.map_drop.symm
theorem take_bytes {l : List UInt8} {n : Nat} : (l.map byteAV).take n = (l.take n).map byteAV := List.map_take.symm
theorem take_len {α : Type} {l : List α} {n : Nat} (h : l.length ≤ n) : l.take n = l := List.take_of_length_le h
theorem getD_drop' {l : List UInt8} {n i : Nat} : (l.drop n).getD i 0 = l.getD (n + i) 0 := by rw [List.getD, List.getElem?_drop, List.getD]
theorem app_bytes {l m : List UInt8} : l.map byteAV ++ m.map byteAV = (l ++ m).map byteAV := List.map_append.symm
theorem app_runes {l m : List Int} : l.map runeAV ++ m.map runeAV = (l ++ m).map runeAV := List.map_append.symm
theorem take_all {l m : List AV} {n : Nat} (h : l.length = n) : (l ++ m).take n = l := by subst h; simp
theorem isBytes_eq {l : List UInt8} : isBytes (l.map byteAV) = True := eq_true (isBytes_map l)
theorem getD_left {l m : List AV} {i : Nat} (h : i < l.length) : (l ++ m).getD i .any = l.getD i .any := by
  simp [List.getD, List.getElem?_append_left h]
theorem h_last {H : List AObj} {o : AObj} : (H ++ [o])[H.length]? = some o := List.getElem?_concat_length
theorem h_set {H : List AObj} {o o' : AObj} : (H ++ [o]).set H.length o' = H ++ [o'] := by simp
theorem h_at0 {H M : List AObj} : (H ++ M)[H.length]? = M[0]? := by rw [List.getElem?_append_right (Nat.le_refl _), Nat.sub_self]
theorem h_atk {H M : List AObj} {k : Nat} : (H ++ M)[H.length + k]? = M[k]? := by rw [List.getElem?_append_right (by omega), Nat.add_sub_cancel_left]
theorem h_set0 {H M : List AObj} {o : AObj} : (H ++ M).set H.length o = H ++ M.set 0 o := by rw [List.set_append_right _ _ (Nat.le_refl _), Nat.sub_self]
theorem h_setk {H M : List AObj} {o : AObj} {k : Nat} : (H ++ M).set (H.length + k) o = H ++ M.set k o := by rw [List.set_append_right _ _ (by omega), Nat.add_sub_cancel_left]
theorem h_left {H M : List AObj} {k : Nat} (h : k < H.length) : (H ++ M)[k]? = H[k]? := List.getElem?_append_left h
theorem h_setl {H M : List AObj} {k : Nat} {o : AObj} (h : k < H.length) : (H ++ M).set k o = H.set k o ++ M := List.set_append_left _ _ h
theorem h_len {H : List AObj} {o : AObj} : (H ++ [o]).length = H.length + 1 := by simp
theorem le_sh {o : Own} {s : Nat} {xs : List AV} : Le (.sl o s xs) (.sl .sh s xs) := fun _ _ _ _ h => by
  cases h with
  | sl _ _ _ a len cap val hl hcap hs hc hr hf ha ho => exact .sl .sh s xs a len cap val hl hcap hs hc hr (fun e => by cases e) ha (fun k e => by cases e)
theorem bool_eq {a b : Bool} (h : a = b) : AV.lit (.bool a) = AV.lit (.bool b) := by rw [h]
theorem int_eq {k : IntKind} {a b : Int} (h : a = b) : AV.lit (.int k a) = AV.lit (.int k b) := by rw [h]
def EnvLow (m : Nat) (env : Env) : Prop := ∀ t, Low m (get env t)
theorem envLow_nil {m : Nat} : EnvLow m [] := fun t => .any
theorem envLow_cons {m : Nat} {r : Env} {k : Nat} {v : AV} (h : Low m v) (hr : EnvLow m r) : EnvLow m ((k, v) :: r) := fun t => by
  rw [get_cons]
  split
  · exact h
  · exact hr t
theorem low_scalars {m : Nat} {xs : List AV} {o : Own} {s : Nat} (h : ∀ x ∈ xs, ∃ v, x = .lit v) (ho : ∀ k, o = .tok k → k < m) : Low m (.sl o s xs) := by
  refine .sl _ _ _ ho fun x hx => ?_
  unfold flats at hx
  obtain ⟨y, hy, hxy⟩ := List.mem_flatMap.1 hx
  obtain ⟨v, rfl⟩ := h y hy
  simp only [AV.flat, List.mem_singleton] at hxy
  subst hxy
  exact .lit _
theorem low_bytes {m s : Nat} {l : List UInt8} : Low m (.sl .sh s (l.map byteAV)) := low_scalars (fun x hx => by
  obtain ⟨b, _, rfl⟩ := List.mem_map.1 hx
  exact ⟨_, rfl⟩) (fun k e => by cases e)
theorem low_runes {m s : Nat} {l : List Int} : Low m (.sl .sh s (l.map runeAV)) := low_scalars (fun x hx => by
  obtain ⟨b, _, rfl⟩ := List.mem_map.1 hx
  exact ⟨_, rfl⟩) (fun k e => by cases e)
/-- Some objects may be dropped, when a loop goes round. -/
def Cut (H₀ H H' : List AObj) (E : Env) : Prop :=
  H₀.length ≤ H'.length ∧ (∃ M, H = H' ++ M) ∧ (∀ (k : Nat) (cs : List AV), H'[k]? = some (AObj.cells cs) → H₀[k]? = some (AObj.cells cs) ∨ ∀ z ∈ cs, Low H'.length z) ∧ EnvLow H'.length E
/-- Once more through a loop. -/
def Again {α : Type} (I : α → Prop) (E : α → Env) (Hf : α → List AObj) (m : α → Nat) (x : α) (env : Env) (H : List AObj) [Tag I] [Tag E] [Tag Hf] [Tag m] : Prop := ∃ y, m y < m x ∧ I y ∧ (H = Hf y ∨ Cut (Hf x) H (Hf y) (E y)) ∧ EnvLe env (E y)
theorem again {α : Type} {I : α → Prop} {E : α → Env} {Hf : α → List AObj} {m : α → Nat} {x : α} {env : Env} {H : List AObj} (y : α) (hm : m y < m x) (hI : I y) (hH : H = Hf y) (hE : EnvLe env (E y)) : Again I E Hf m x env H := ⟨y, hm, hI, .inl hH, hE⟩
theorem again_cut {α : Type} {I : α → Prop} {E : α → Env} {H₀ : List AObj} {m : α → Nat} {x : α} {env : Env} {M : List AObj} (y : α) (hm : m y < m x) (hI : I y) (hL : EnvLow H₀.length (E y)) (hE : EnvLe env (E y)) : Again I E (fun _ => H₀) m x env (H₀ ++ M) :=
  ⟨y, hm, hI, .inr ⟨Nat.le_refl _, ⟨M, rfl⟩, fun _ _ e => .inl e, hL⟩, hE⟩
attribute [irreducible] Again
theorem Sat.le {n : Nat} {G : Gh} {env env' : Env} {H : List AObj} {a : Act} {w : World} (s : Sat n G env H a w) (h : EnvLe env env') : Sat n G env' H a w :=
  ⟨s.size, s.defers, fun t => h t G H w _ (s.env t), s.inv⟩
theorem vc_loop {P : Program} {L : Tab} (hL : TabOk P L) (hmx : P.follows .mixedOrders = true) (mu : List Nat) {n : Nat} {c : Code} {Q : Exit → Env → List AObj → Prop} {env : Env} {H : List AObj} {α : Type} (I : α → Prop) (E : α → Env) (Hf : α → List AObj) (m : α → Nat) (hok : okC mu n c = true)
    (round : ∀ x, I x → vcC P L mu n c (Ex (fun env H => Again I E Hf m x env H) Q) (E x) (Hf x)) (x : α) (hx : I x) (hE : EnvLe env (E x)) (hH : H = Hf x) : AW P n (.loop c) Q env H := by
  intro G a w s
  subst hH
  refine wp_loop_gh (fun k a' w' => ∃ y G', m y = k ∧ I y ∧ Sat n G' (E y) (Hf y) a' w' ∧ Step G (Hf x) w G' (Hf y) w') (fun k a' w' ⟨y, G', hk, hy, s', stp⟩ => ?_) (m x) a w ⟨x, G, rfl, hx, s.le hE, .refl _ _ _⟩
  refine wp_mono (vcC_sound hL hmx c hok (round y hy) G' a' w' s') fun e a'' w'' ⟨G'', env'', H'', s'', stp', q⟩ => ?_
  cases e with
  | normal =>
    unfold Ex Again at q
    obtain ⟨z, h1, h2, h3, h4⟩ := q
    refine ⟨m z, hk ▸ h1, z, G'', rfl, h2, ?_⟩
    rcases h3 with rfl | ⟨h5, ⟨M, rfl⟩, h6, h7⟩
    · exact ⟨s''.le h4, stp.trans stp'⟩
    · have htk : (Hf z ++ M).take (Hf z).length = Hf z := List.take_left
      have st1 := stp'.cut h5
      rw [htk] at st1
      refine ⟨⟨s''.size, s''.defers, fun t => ?_, ?_⟩, stp.trans st1⟩
      · have r := (s''.le h4).env t
        have := r.cut (Hf z).length (h7 t)
        rwa [htk] at this
      · have := s''.inv.cut (Hf z).length fun k cs hk e y hy => by
          rw [List.getElem?_append_left hk] at e
          rcases h6 k cs e with h0 | h0
          · obtain ⟨arr, T, fr, hb', hsz, hr', _⟩ := s'.inv.cells k cs h0
            obtain ⟨j, hj⟩ := List.mem_iff_getElem?.1 hy
            have hja : j < arr.size := by rw [hsz]; exact lt_of_get hj
            exact ((hr' j y _ hj (Array.getElem?_eq_getElem hja)).low).mono h5
          · exact h0 y hy
        rwa [htk] at this
  | _ => exact ⟨G'', env'', H'', s'', stp.trans stp', q⟩
/-- The slots that a loop does not write keep what they have. -/
def kept (env : Env) : List Nat → Env
  | [] => []
  | t :: r => (t, get env t) :: kept env r
theorem kept_nil {env : Env} : kept env [] = [] := rfl
theorem kept_cons {env : Env} {t : Nat} {r : List Nat} : kept env (t :: r) = (t, get env t) :: kept env r := rfl
theorem vc_loopk {P : Program} {L : Tab} (hL : TabOk P L) (hmx : P.follows .mixedOrders = true) (mu ks : List Nat) {n : Nat} {c : Code} {Q : Exit → Env → List AObj → Prop} {env : Env} {H : List AObj} {α : Type} (I : α → Prop) (E : α → Env) (Hf : α → List AObj) (m : α → Nat) (hok : okC mu n c = true)
    (round : ∀ x, I x → vcC P L mu n c (Ex (fun env' H => Again I (fun y => E y ++ kept env ks) Hf m x env' H) Q) (E x ++ kept env ks) (Hf x)) (x : α) (hx : I x) (hE : EnvLe env (E x ++ kept env ks)) (hH : H = Hf x) : AW P n (.loop c) Q env H :=
  vc_loop hL hmx mu I (fun y => E y ++ kept env ks) Hf m hok round x hx hE hH
/-- A slice whose capacity is its length gets a token of its own: a step of the proof alone. -/
theorem aw_mint {P : Program} {n : Nat} {c : Code} {Q : Exit → Env → List AObj → Prop} {env : Env} {H : List AObj} (t s : Nat) {z : Nat} {xs : List AV} (ht : get env t = .sl .full z xs) (hs : 0 < s) (hz : xs ≠ [] → z = s)
    (h : AW P n c Q ((t, .sl (.tok H.length) s xs) :: env) (H ++ [.grow s xs.length])) : AW P n c Q env H := by
  intro G a w sat
  have r := sat.env t
  rw [ht] at r
  generalize hv : a.tmps.getD t undef = v at r
  have r0 := r
  cases r with
  | sl _ _ _ ad len cap val hl hcap hs' hc hr hf ha ho =>
    obtain ⟨hi, st, hr'⟩ := mint sat.inv r0 hs hz
    refine wp_mono (h _ a w ⟨sat.size, sat.defers, fun u => ?_, hi⟩) fun _ _ _ p => p.trans st
    rw [get_cons]
    split
    · rename_i e
      subst e
      rw [hv]
      exact hr'
    · exact (sat.env u).mono st
theorem le_nil {o : Own} {s t : Nat} : Le (.sl o s []) (.sl .sh t []) := fun _ _ _ _ h => by
  cases h with
  | sl _ _ _ a len cap val hl hcap hs hc hr hf ha ho => exact .sl .sh t [] a len cap val hl hcap (fun x hx => by cases hx) hc hr (fun e => by cases e) ha (fun k e => by cases e)
theorem le_tup2 {x y x' y' : AV} (h : Le x x') (k : Le y y') : Le (.tup [x, y]) (.tup [x', y']) := fun _ _ _ _ r => by
  cases r with
  | tup _ arr hl hr =>
    refine .tup _ _ hl fun j z v e e' => ?_
    match j, e with
    | 0, e => cases e; exact h _ _ _ _ (hr 0 x v rfl e')
    | 1, e => cases e; exact k _ _ _ _ (hr 1 y v rfl e')
theorem done_grow {H₀ M : List AObj} {R : AV → List AObj → Prop} {x : AV} (hr : R x (H₀ ++ M)) : Done H₀ R x (H₀ ++ M) := done_keep x (Le.refl x) (by simp) hr
def LowAll (m : Nat) (xs : List AV) : Prop := ∀ x ∈ xs, Low m x
theorem lowAll_nil {m : Nat} : LowAll m [] := fun x hx => by cases hx
theorem lowAll_cons {m : Nat} {x : AV} {xs : List AV} (h : Low m x) (k : LowAll m xs) : LowAll m (x :: xs) := fun y hy => by
  rcases List.mem_cons.1 hy with rfl | hy
  · exact h
  · exact k y hy
theorem low_tup {m : Nat} {xs : List AV} (h : LowAll m xs) : Low m (.tup xs) := .tup _ h
theorem low_agg {m : Nat} {xs : List AV} (h : LowAll m xs) : Low m (.agg xs) := .agg _ h
theorem low_nilsl {m s : Nat} {o : Own} (ho : ∀ k, o = .tok k → k < m) : Low m (.sl o s []) := .sl _ _ _ ho fun x hx => by simp [flats] at hx
inductive LeAll : List AV → List AV → Prop
  | nil : LeAll [] []
  | cons {x y : AV} {xs ys : List AV} (h : Le x y) (k : LeAll xs ys) : LeAll (x :: xs) (y :: ys)
theorem LeAll.get {xs ys : List AV} (h : LeAll xs ys) : xs.length = ys.length ∧ ∀ (j : Nat) y, ys[j]? = some y → ∃ x, xs[j]? = some x ∧ Le x y := by
  induction h with
  | nil => exact ⟨rfl, fun j y e => by simp at e⟩
  | cons h _ ih =>
    refine ⟨by simp [ih.1], fun j y e => ?_⟩
    cases j with
    | zero => simp at e; subst e; exact ⟨_, rfl, h⟩
    | succ j => simpa using ih.2 j y (by simpa using e)
theorem le_tup {xs ys : List AV} (h : LeAll xs ys) : Le (.tup xs) (.tup ys) := fun _ _ _ _ r => by
  obtain ⟨hl, hg⟩ := h.get
  cases r with
  | tup _ arr hs hr =>
    refine .tup _ _ (hs.trans hl) fun j z v e e' => ?_
    obtain ⟨x, hx, hle⟩ := hg j z e
    exact hle _ _ _ _ (hr j x v hx e')
theorem le_agg {xs ys : List AV} (h : LeAll xs ys) : Le (.agg xs) (.agg ys) := fun _ _ _ _ r => by
  obtain ⟨hl, hg⟩ := h.get
  cases r with
  | agg _ arr hs hr =>
    refine .agg _ _ (hs.trans hl) fun j z v e e' => ?_
    obtain ⟨x, hx, hle⟩ := hg j z e
    exact hle _ _ _ _ (hr j x v hx e')
theorem done_lit {H₀ M : List AObj} {R : AV → List AObj → Prop} {v : Value} (hr : R (.lit v) H₀) : Done H₀ R (.lit v) (H₀ ++ M) := done_cut _ (Le.refl _) (.lit _) hr
theorem done_lit2 {H₀ M M' : List AObj} {R : AV → List AObj → Prop} {v : Value} (hr : R (.lit v) H₀) : Done H₀ R (.lit v) (H₀ ++ M ++ M') := by rw [List.append_assoc]; exact done_lit hr
theorem done_le {H₀ : List AObj} {R : AV → List AObj → Prop} {x : AV} (y : AV) (h : Le x y) (hr : R y H₀) : Done H₀ R x H₀ := done_keep y h (Nat.le_refl _) hr
end Go.Proofs.YthaicajgfioogaaDoor.V
