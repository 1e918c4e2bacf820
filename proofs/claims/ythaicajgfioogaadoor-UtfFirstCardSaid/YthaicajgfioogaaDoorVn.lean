/- The verification condition of code. -/
import Derived.Test.YthaicajgfioogaaDoorVq
set_option linter.unusedSimpArgs false
set_option linter.unusedVariables false
namespace Go.Proofs.YthaicajgfioogaaDoor.V
open Go

/-- A branch. -/
def vcIf (c : AV) (a b : Prop) [Tag a] [Tag b] : Prop :=
  match c with
  | .lit (.bool t) => (t = true → a) ∧ (t = false → b)
  | _ => False
theorem vcIf_true {a b : Prop} : vcIf (.lit (.bool true)) a b = a := by simp [vcIf]
theorem vcIf_false {a b : Prop} : vcIf (.lit (.bool false)) a b = b := by simp [vcIf]
theorem vcIf_dec {p : Prop} [Decidable p] {a b : Prop} : vcIf (.lit (.bool (decide p))) a b = ((p → Hold a) ∧ (¬ p → Hold b)) := by simp [vcIf, hold_eq]
theorem vcIf_not {p : Prop} [Decidable p] {a b : Prop} : vcIf (.lit (.bool !(decide p))) a b = ((p → Hold b) ∧ (¬ p → Hold a)) := by simp [vcIf, hold_eq]; exact ⟨fun h => ⟨h.2, h.1⟩, fun h => ⟨h.2, h.1⟩⟩
theorem vcIf_bool {t : Bool} {a b : Prop} : vcIf (.lit (.bool t)) a b = ((t = true → Hold a) ∧ (t = false → Hold b)) := by rw [hold_eq, hold_eq]; rfl
theorem vcIf_nb {t : Bool} {a b : Prop} : vcIf (.lit (.bool !t)) a b = ((t = true → Hold b) ∧ (t = false → Hold a)) := by cases t <;> simp [vcIf, hold_eq]

/-- Code. Loops stand as they are. -/
def vcC (P : Program) (L : Tab) (mu : List Nat) (n : Nat) : Code → (Exit → Env → List AObj → Prop) → Env → List AObj → Prop
  | .skip, Q, env, H => Q .normal env H
  | .seq x y, Q, env, H => vcC P L mu n x (Ex (fun env H => vcC P L mu n y Q env H) Q) env H
  | .cond c x y, Q, env, H => vcIf (ev env c) (vcC P L mu n x Q env H) (vcC P L mu n y Q env H)
  | .block id c, Q, env, H => vcC P L mu n c (InB id Q) env H
  | .exit id, Q, env, H => Q (.exit id) env H
  | .ret, Q, env, H => Q .ret env H
  | .region _ ops false, Q, env, H => vcOps P L mu ops.toList ops.toList env H (Q .normal)
  | .region id ops true, Q, env, H => if mu.contains (1000000 + id) then vcChain P L mu ops.toList ops.toList env H (Q .normal) else vcDraw P L ops.toList ops.toList env H (Q .normal)
  | c, Q, env, H => AW P n c Q env H
/-- What is asked of the code itself. -/
def okC (mu : List Nat) (n : Nat) : Code → Bool
  | .seq x y => okC mu n x && okC mu n y
  | .cond _ x y => okC mu n x && okC mu n y
  | .block _ c => okC mu n c
  | .region id ops d => dstsOk n ops.toList && (!d || (drawOk ops.toList && (!mu.contains (1000000 + id) || chainOk mu ops.toList)))
  | _ => true
theorem vcC_sound {P : Program} {L : Tab} (hL : TabOk P L) (hm : P.follows .mixedOrders = true) {mu : List Nat} {n : Nat} : ∀ (c : Code) {Q : Exit → Env → List AObj → Prop} {env : Env} {H : List AObj}, okC mu n c = true → vcC P L mu n c Q env H → AW P n c Q env H
  | .skip, _, _, _, _, h => aw_skip h
  | .seq x y, Q, env, H, ho, h => by
    simp only [okC, Bool.and_eq_true] at ho
    exact aw_seq_ ((vcC_sound hL hm x ho.1 h).mono fun e env' H' q => by
      cases e with
      | normal => exact vcC_sound hL hm y ho.2 q
      | _ => exact q)
  | .cond c x y, Q, env, H, ho, h => by
    simp only [okC, Bool.and_eq_true] at ho
    simp only [vcC, vcIf] at h
    split at h
    · rename_i t ht
      exact aw_cond ht (fun e => vcC_sound hL hm x ho.1 (h.1 e)) (fun e => vcC_sound hL hm y ho.2 (h.2 e))
    · exact h.elim
  | .block id c, Q, env, H, ho, h => aw_block (vcC_sound hL hm c ho h)
  | .exit id, _, _, _, _, h => aw_exit h
  | .ret, _, _, _, _, h => aw_ret h
  | .region id ops false, Q, env, H, ho, h => by
    simp only [okC, Bool.and_eq_true] at ho
    have := aw_region hL mu (id := id) (ops := ops.toList) ho.1 h
    simpa using this
  | .region id ops true, Q, env, H, ho, h => by
    simp only [okC, Bool.and_eq_true] at ho
    have ho2 : drawOk ops.toList = true ∧ (mu.contains (1000000 + id) = true → chainOk mu ops.toList = true) := by
      have := ho.2
      simp only [Bool.not_true, Bool.false_or, Bool.and_eq_true, Bool.or_eq_true, Bool.not_eq_true'] at this
      refine ⟨this.1, fun e => ?_⟩
      rcases this.2 with h' | h'
      · rw [e] at h'; cases h'
      · exact h'
    unfold vcC at h
    split at h
    · rename_i hm'
      have := aw_region_chain hL hm mu (rid := id) (ops := ops.toList) ho.1 ho2.1 (ho2.2 hm') h
      simpa using this
    · have := aw_region_draw hL hm (rid := id) (ops := ops.toList) ho.1 ho2.1 h
      simpa using this
  | .loop c, _, _, _, _, h => h
  | .rangeFunc _ _ _ _, _, _, _, _, h => h
  | .scope _, _, _, _, _, h => h
  | .label _, _, _, _, _, h => h
  | .goto _, _, _, _, _, h => h
  | .refuse _, _, _, _, _, h => h


/-- The whole: a contract from the verification condition. -/
theorem acalls_vc {P : Program} {L : Tab} (hL : TabOk P L) (hm : P.follows .mixedOrders = true) (mu : List Nat) {f : FuncId} {fn : Func} {c : Code} {n : Nat} {rs : List ResultVar} {args : List AV} {H : List AObj} {R : AV → List AObj → Prop} (hf : P.funcs[f]? = some fn) (hb : fn.body = some c) (hname : (fn.name == "runtime.NumGoroutine") = false) (hn : fn.ntmps = n)
    (hrs : fn.results.toList = rs) (hargs : args.length ≤ n) (ho : okC mu n c = true) (h : vcC P L mu n c (BodyQ L rs H R) (initEnv 0 args) H) : ACalls P f args H R :=
  acalls_of_aw hL hf hb hname hn hrs hargs (vcC_sound hL hm c ho h)
end Go.Proofs.YthaicajgfioogaaDoor.V
