/- The table of types, and the operations that change no memory: what they give, as abstract values. -/
import Derived.Test.YthaicajgfioogaaDoorVb
set_option linter.unusedSimpArgs false
set_option linter.unusedVariables false
namespace Go.Proofs.YthaicajgfioogaaDoor.V
open Go

inductive TK where
  | other | one | bool | int (k : IntKind) | str | slice (e : TypeId) | arr (n : Nat) (e : TypeId) | struct (fs : List (Nat × TypeId)) | ptr (e : TypeId)
structure LT where
  k : TK
  size : Nat
  bytes : Nat
  zero : List AV

def TK.agg : TK → Bool
  | .arr _ _ | .struct _ => true
  | _ => false

def TKOk (P : Program) (t : TypeId) : TK → Prop
  | .other => False
  | .one => ∃ d, P.underlying t = some d ∧ (match d with | .struct _ | .array _ _ => true | _ => false) = false
  | .bool => P.underlying t = some .bool
  | .int k => P.underlying t = some (.int k)
  | .str => P.underlying t = some .string
  | .slice e => P.underlying t = some (.slice e)
  | .arr n e => P.underlying t = some (.array n e)
  | .struct fs => ∃ a, P.underlying t = some (.struct a) ∧ a.toList.map (fun f => (f.offset, f.type)) = fs
  | .ptr e => P.underlying t = some (.pointer e)
def LTOk (P : Program) (t : TypeId) (x : LT) : Prop :=
  TKOk P t x.k ∧ ∃ i z, P.info? t = some i ∧ i.size = x.size ∧ i.bytes = x.bytes ∧ x.zero.length = x.size ∧ i.zero = some z ∧ z.cells.toList.map ofCell = x.zero ∧ (x.k.agg = true → z = .agg z.cells)

abbrev Tab := TypeId → LT
def TabOk (P : Program) (L : Tab) : Prop := ∀ t, (L t).k ≠ .other → LTOk P t (L t)

def eqCell : Value → AV → Bool
  | .int k n, .lit (.int k' n') => decide (k = k') && decide (n = n')
  | .bool a, .lit (.bool b) => a == b
  | .string s, .str l => s.data.toList == l
  | .slice none 0 0, .sl .full 0 [] => true
  | .pointer none, .lit (.pointer none) => true
  | .map none, .lit (.map none) => true
  | .nilFunc, .lit .nilFunc => true
  | .nilIface, .lit .nilIface => true
  | _, _ => false
theorem eqCell_ok {v : Value} {x : AV} (h : eqCell v x = true) : ofCell v = x := by
  unfold eqCell at h
  split at h <;> simp_all [ofCell]
def eqCells : List Value → List AV → Bool
  | [], [] => true
  | v :: vs, x :: xs => eqCell v x && eqCells vs xs
  | _, _ => false
theorem eqCells_ok : ∀ {vs : List Value} {xs : List AV}, eqCells vs xs = true → vs.map ofCell = xs
  | [], [], _ => rfl
  | [], _ :: _, h => by simp [eqCells] at h
  | _ :: _, [], h => by simp [eqCells] at h
  | v :: vs, x :: xs, h => by
    simp only [eqCells, Bool.and_eq_true] at h
    simp [eqCell_ok h.1, eqCells_ok h.2]

def chkK (P : Program) (t : TypeId) (k : TK) : Bool :=
  match k, P.underlying t with
  | .one, some d => !(match d with | .struct _ | .array _ _ => true | _ => false)
  | .bool, some .bool => true
  | .int k, some (.int k') => decide (k = k')
  | .str, some .string => true
  | .slice e, some (.slice e') => decide (e = e')
  | .arr n e, some (.array n' e') => decide (n = n') && decide (e = e')
  | .struct fs, some (.struct a) => decide (a.toList.map (fun f => (f.offset, f.type)) = fs)
  | .ptr e, some (.pointer e') => decide (e = e')
  | _, _ => false
def isAggV : Value → Bool
  | .agg _ => true
  | _ => false
def chkT (P : Program) (t : TypeId) (x : LT) : Bool :=
  match x.k with
  | .other => true
  | _ => chkK P t x.k && (match P.info? t with
    | some i => decide (i.size = x.size) && decide (i.bytes = x.bytes) && decide (x.zero.length = x.size) && (match i.zero with
      | some z => eqCells z.cells.toList x.zero && (!x.k.agg || isAggV z)
      | none => false)
    | none => false)
theorem chkK_ok {P : Program} {t : TypeId} {k : TK} (h : chkK P t k = true) : TKOk P t k := by
  unfold chkK at h
  split at h <;> simp_all [TKOk]
theorem chkT_ok {P : Program} {t : TypeId} {x : LT} (h : chkT P t x = true) (hx : x.k ≠ .other) : LTOk P t x := by
  unfold chkT at h
  split at h
  · rename_i e; exact absurd e hx
  · simp only [Bool.and_eq_true] at h
    obtain ⟨h1, h2⟩ := h
    split at h2
    · rename_i i hi
      simp only [Bool.and_eq_true, decide_eq_true_eq] at h2
      obtain ⟨⟨⟨ha, hb⟩, hc⟩, h3⟩ := h2
      split at h3
      · rename_i z hz
        simp only [Bool.and_eq_true, Bool.or_eq_true] at h3
        refine ⟨chkK_ok h1, i, z, hi, ha, hb, hc, hz, eqCells_ok h3.1, fun hg => ?_⟩
        rcases h3.2 with h4 | h4
        · simp [hg] at h4
        · cases z <;> simp_all [isAggV, Value.cells]
      · cases h3
    · cases h2
def ltOther : LT := ⟨.other, 0, 0, []⟩
def tabOf (l : List LT) : Tab := fun t => (l[t]?).getD ltOther
def chkTab (P : Program) : Nat → List LT → Bool
  | _, [] => true
  | t, x :: r => chkT P t x && chkTab P (t + 1) r
theorem chkTab_get {P : Program} : ∀ {l : List LT} {s : Nat}, chkTab P s l = true → ∀ i x, l[i]? = some x → chkT P (s + i) x = true
  | [], _, _, i, x, e => by simp at e
  | y :: r, s, h, i, x, e => by
    simp only [chkTab, Bool.and_eq_true] at h
    cases i with
    | zero => simp at e; subst e; exact h.1
    | succ i => have := chkTab_get h.2 i x (by simpa using e); rwa [show s + 1 + i = s + (i + 1) by omega] at this
theorem tabOk_of {P : Program} {l : List LT} (h : chkTab P 0 l = true) : TabOk P (tabOf l) := by
  intro t ht
  unfold tabOf at ht ⊢
  cases e : l[t]? with
  | none => rw [e] at ht; exact absurd rfl ht
  | some x =>
    have := chkTab_get h t x e
    rw [Nat.zero_add] at this
    rw [e] at ht
    exact chkT_ok this ht

/-- An operation that gives x where p holds, and changes nothing. -/
def Still (P : Program) (o : Oper) (env : Env) (H : List AObj) (p : Prop) (x : AV) : Prop :=
  p → ∀ n G a w, Sat n G env H a w → ∃ v, (execOp a.eval o).run P w = .ok (.value v) w ∧ Rel G H w x v
/-- The same, with memory of its own that nobody writes. -/
def Quiet (P : Program) (o : Oper) (env : Env) (H : List AObj) (p : Prop) (x : AV) : Prop :=
  p → ∀ n G a w, Sat n G env H a w → ∃ v w' G', (execOp a.eval o).run P w = .ok (.value v) w' ∧ HInv G' H w' ∧ Step G H w G' H w' ∧ Rel G' H w' x v
theorem Still.quiet {P : Program} {o : Oper} {env : Env} {H : List AObj} {p : Prop} {x : AV} (h : Still P o env H p x) : Quiet P o env H p x :=
  fun hp n G a w s => let ⟨v, hr, hx⟩ := h hp n G a w s; ⟨v, w, G, hr, s.inv, .refl _ _ _, hx⟩

section
variable {P : Program} {env : Env} {H : List AObj} {dst : Option Tmp} {ty : TypeId} {pos : String} {after : Array Edge} {guard : Option (Nat × Bool)}

theorem still_move {x : Operand} : Still P ⟨dst, .move x, ty, pos, after, guard⟩ env H True (ev env x) := fun _ _ _ a _ s => ⟨a.eval x, rfl, s.ev x⟩
theorem still_assign {x : Operand} : Still P ⟨dst, .assign x, ty, pos, after, guard⟩ env H True (ev env x) := fun _ _ _ a _ s => ⟨a.eval x, rfl, s.ev x⟩

theorem rel_lit_inv {G : Gh} {w : World} {v v' : Value} (h : Rel G H w (.lit v) v') : v' = v := by cases h; rfl
theorem rel_str_inv {G : Gh} {w : World} {l : List UInt8} {v : Value} (h : Rel G H w (.str l) v) : v = .string ⟨l.toArray⟩ := by cases h; rfl

theorem still_pick {c a b : Operand} {t : Bool} (hc : ev env c = .lit (.bool t)) : Still P ⟨dst, .pick c a b, ty, pos, after, guard⟩ env H True (if t then ev env a else ev env b) :=
  fun _ _ _ ac w s => by
    have e := rel_lit_inv (hc ▸ s.ev c)
    refine ⟨if t then ac.eval a else ac.eval b, ?_, ?_⟩
    · cases t <;> simp [execOp, e, asBool]
    · cases t
      · exact s.ev b
      · exact s.ev a

theorem beq_dec {α : Type} [BEq α] [LawfulBEq α] [DecidableEq α] (a b : α) : (a == b) = decide (a = b) := by by_cases h : a = b <;> simp [h]
def intBin (op : BinOp) (k : IntKind) (a b : Int) : Option (Prop × AV) :=
  match op with
  | .add => some (True, .int k (k.wrap (a + b)))
  | .sub => some (True, .int k (k.wrap (a - b)))
  | .mul => some (True, .int k (k.wrap (a * b)))
  | .quo => some (b ≠ 0, .int k (k.wrap (a.tdiv b)))
  | .rem => some (b ≠ 0, .int k (a.tmod b))
  | .and => some (True, .int k (k.wrap (BitVec.ofInt k.bits a &&& BitVec.ofInt k.bits b).toNat))
  | .or => some (True, .int k (k.wrap (BitVec.ofInt k.bits a ||| BitVec.ofInt k.bits b).toNat))
  | .xor => some (True, .int k (k.wrap (BitVec.ofInt k.bits a ^^^ BitVec.ofInt k.bits b).toNat))
  | .andNot => some (True, .int k (k.wrap (BitVec.ofInt k.bits a &&& ~~~BitVec.ofInt k.bits b).toNat))
  | .eql => some (True, .bool (decide (a = b)))
  | .neq => some (True, .bool (decide (a ≠ b)))
  | .lss => some (True, .bool (decide (a < b)))
  | .leq => some (True, .bool (decide (a ≤ b)))
  | .gtr => some (True, .bool (decide (b < a)))
  | .geq => some (True, .bool (decide (b ≤ a)))
  | _ => none
def intShift (op : BinOp) (k : IntKind) (a b : Int) : Option (Prop × AV) :=
  match op with
  | .shl => some (0 ≤ b, .int k (k.wrap (a * 2 ^ (min b.toNat k.bits))))
  | .shr => some (0 ≤ b, .int k (a.fdiv (2 ^ (min b.toNat k.bits))))
  | _ => none
def isShift : BinOp → Bool
  | .shl | .shr => true
  | _ => false
def strBin (op : BinOp) (a b : List UInt8) : Option (Prop × AV) :=
  match op with
  | .add => some (a.length + b.length ≤ 9223372036854775807, .str (a ++ b))
  | .eql => some (True, .bool (decide (a = b)))
  | .neq => some (True, .bool (decide (a ≠ b)))
  | .lss => some (True, .bool (Op.bytesLess a b))
  | .leq => some (True, .bool (Op.bytesLess a b || decide (a = b)))
  | .gtr => some (True, .bool !(Op.bytesLess a b || decide (a = b)))
  | .geq => some (True, .bool !(Op.bytesLess a b))
  | _ => none
def boolBin (op : BinOp) (a b : Bool) : Option (Prop × AV) :=
  match op with
  | .eql => some (True, .bool (decide (a = b)))
  | .neq => some (True, .bool (decide (a ≠ b)))
  | _ => none
def qBin (L : Tab) (op : BinOp) (t : TypeId) : AV → AV → Option (Prop × AV)
  | .lit (.int k a), .lit (.int k' b) => if isShift op then intShift op k a b else if k = k' then intBin op k a b else none
  | .str a, .str b => strBin op a b
  | .lit (.bool a), .lit (.bool b) => match (L t).k with | .bool => boolBin op a b | _ => none
  | _, _ => none

theorem eqGuard_plain (w : World) (op : BinOp) (t : TypeId) (x y : Operand) (a b : Value) (h : (match a, b with | .nilIface, .nilIface | .agg _, .agg _ => false | _, _ => true) = true) : (eqGuard op t x y a b).run P w = .ok () w := by
  cases op <;> first | rfl | (cases a <;> cases b <;> first | rfl | (simp at h; done))

theorem run_bin_int (w : World) (op : BinOp) (t : TypeId) (k : IntKind) (a b : Int) {p : Prop} {x : AV} (h : intBin op k a b = some (p, x)) (hp : p) : ∃ v, (binOp op t (.int k a) (.int k b)).run P w = .ok v w ∧ x = .lit v := by
  cases op <;> simp only [intBin, Option.some.injEq, Prod.mk.injEq, reduceCtorEq] at h <;> obtain ⟨rfl, rfl⟩ := h <;>
    simp [binOp, Op.intArith, Op.intDiv, Op.intBits, Op.intCmp] <;> first | (simp [hp]; done) | rfl | (by_cases hab : a = b <;> simp [hab])
theorem run_bin_shift (w : World) (op : BinOp) (t : TypeId) (k k' : IntKind) (a b : Int) {p : Prop} {x : AV} (h : intShift op k a b = some (p, x)) (hp : p) : ∃ v, (binOp op t (.int k a) (.int k' b)).run P w = .ok v w ∧ x = .lit v := by
  cases op <;> simp only [intShift, Option.some.injEq, Prod.mk.injEq, reduceCtorEq] at h <;> obtain ⟨rfl, rfl⟩ := h <;>
    (have hn : ¬ (b < 0) := by omega
     simp [binOp, Op.shift, hn])
theorem run_bin_str (w : World) (op : BinOp) (t : TypeId) (a b : List UInt8) {p : Prop} {x : AV} (h : strBin op a b = some (p, x)) (hp : p) : ∃ v, (binOp op t (.string ⟨a.toArray⟩) (.string ⟨b.toArray⟩)).run P w = .ok v w ∧ Rel (Gh.mk (fun _ _ => False) (fun _ => 0) (fun _ => (none, 0))) [] w x v ∧ (∀ G H, Rel G H w x v) := by
  suffices ∃ v, (binOp op t (.string ⟨a.toArray⟩) (.string ⟨b.toArray⟩)).run P w = .ok v w ∧ (∀ G H, Rel G H w x v) from let ⟨v, h1, h2⟩ := this; ⟨v, h1, h2 _ _, h2⟩
  have hbin : binOp op t (.string ⟨a.toArray⟩) (.string ⟨b.toArray⟩) = Op.stringOp op ⟨a.toArray⟩ ⟨b.toArray⟩ := by cases op <;> rfl
  rw [hbin]
  cases op <;> simp only [strBin, Option.some.injEq, Prod.mk.injEq, reduceCtorEq] at h <;> obtain ⟨rfl, rfl⟩ := h
  · rw [run_string_add_if, if_neg (by simp [ByteArray.size]; omega)]
    refine ⟨_, rfl, fun G H => ?_⟩
    have : (ByteArray.mk a.toArray ++ ByteArray.mk b.toArray) = ⟨(a ++ b).toArray⟩ := by apply ByteArray.ext; simp
    rw [this]
    exact .str _
  all_goals (simp only [Op.stringOp, Sem.run_pure, ByteArray.toList_mk, decide_not, beq_dec]; exact ⟨_, rfl, fun _ _ => .lit _⟩)
theorem run_bin_bool (w : World) (op : BinOp) (t : TypeId) (ht : P.underlying t = some .bool) (a b : Bool) {p : Prop} {x : AV} (h : boolBin op a b = some (p, x)) : ∃ v, (binOp op t (.bool a) (.bool b)).run P w = .ok v w ∧ x = .lit v := by
  cases op <;> simp only [boolBin, Option.some.injEq, Prod.mk.injEq, reduceCtorEq] at h <;> obtain ⟨rfl, rfl⟩ := h
  · exact ⟨_, run_eql_bool w t a b ht, by simp [beq_dec]⟩
  · exact ⟨_, run_neq_bool w t a b ht, by simp [beq_dec]⟩

theorem still_bin {L : Tab} (hL : TabOk P L) {op : BinOp} {t t' : TypeId} {x y : Operand} {p : Prop} {z : AV} (h : qBin L op t (ev env x) (ev env y) = some (p, z)) : Still P ⟨dst, .binOp op t x y t', ty, pos, after, guard⟩ env H p z :=
  fun hp _ G a w s => by
    have rx := s.ev x
    have ry := s.ev y
    unfold qBin at h
    split at h
    · rename_i k i k' j e1 e2
      rw [e1] at rx
      rw [e2] at ry
      have ex := rel_lit_inv rx
      have ey := rel_lit_inv ry
      split at h
      · obtain ⟨v, hv, rfl⟩ := run_bin_shift (P := P) w op t k k' i j h hp
        exact ⟨v, by simp [execOp, ex, ey, eqGuard_plain, hv], .lit _⟩
      · split at h
        · rename_i hk
          subst hk
          obtain ⟨v, hv, rfl⟩ := run_bin_int (P := P) w op t k i j h hp
          exact ⟨v, by simp [execOp, ex, ey, eqGuard_plain, hv], .lit _⟩
        · cases h
    · rename_i i j e1 e2
      rw [e1] at rx
      rw [e2] at ry
      have ex := rel_str_inv rx
      have ey := rel_str_inv ry
      obtain ⟨v, hv, _, hr⟩ := run_bin_str (P := P) w op t i j h hp
      exact ⟨v, by simp [execOp, ex, ey, eqGuard_plain, hv], hr G H⟩
    · rename_i i j e1 e2
      rw [e1] at rx
      rw [e2] at ry
      have ex := rel_lit_inv rx
      have ey := rel_lit_inv ry
      split at h
      · rename_i hk
        have hu := (hL t (by rw [hk]; simp)).1
        rw [hk] at hu
        obtain ⟨v, hv, rfl⟩ := run_bin_bool (P := P) w op t hu i j h
        exact ⟨v, by simp [execOp, ex, ey, eqGuard_plain, hv], .lit _⟩
      · cases h
    · cases h

def qUn (op : UnOp) : AV → Option AV
  | .lit (.bool b) => match op with | .not => some (.bool !b) | _ => none
  | .lit (.int k n) => match op with
    | .neg => some (.int k (k.wrap (0 - n)))
    | .xor => some (.int k (k.wrap (BitVec.ofInt k.bits (if k.signed then -1 else k.max) ^^^ BitVec.ofInt k.bits n).toNat))
    | _ => none
  | _ => none
theorem still_un {op : UnOp} {t : TypeId} {x : Operand} {z : AV} (h : qUn op (ev env x) = some z) : Still P ⟨dst, .unOp op t x, ty, pos, after, guard⟩ env H True z :=
  fun _ _ G a w s => by
    have rx := s.ev x
    unfold qUn at h
    split at h
    · rename_i b e
      rw [e] at rx
      have ex := rel_lit_inv rx
      split at h
      · cases h
        exact ⟨_, by simp [execOp, ex, Op.unary], .lit _⟩
      · cases h
    · rename_i k i e
      rw [e] at rx
      have ex := rel_lit_inv rx
      split at h
      · cases h
        exact ⟨_, by simp [execOp, ex, Op.unary, Op.intArith], .lit _⟩
      · cases h
        exact ⟨_, by simp [execOp, ex, Op.unary, Op.intBits], .lit _⟩
      · cases h
    · cases h

theorem still_extract {x : Operand} {i : Nat} {xs : List AV} {z : AV} (h : ev env x = .tup xs) (hz : xs[i]? = some z) : Still P ⟨dst, .extract x i, ty, pos, after, guard⟩ env H True z :=
  fun _ _ G a w s => by
    have rx := s.ev x
    rw [h] at rx
    generalize hv : a.eval x = v at rx
    cases rx with
    | tup _ arr hl hr =>
      have hi : i < arr.size := by rw [hl]; exact lt_of_get hz
      exact ⟨arr[i], by simp [execOp, hv, Instr.extract, Array.getElem?_eq_getElem hi], hr i z arr[i] hz (Array.getElem?_eq_getElem hi)⟩

theorem size_mk (l : List UInt8) : (ByteArray.mk l.toArray).size = l.length := rfl
/-- len of a slice or a string; cap is not told. -/
def qLen (L : Tab) (t : TypeId) (x : AV) : Option AV :=
  match (L t).k, x with
  | .str, .str l => some (.int .i64 l.length)
  | .slice _, .sl _ _ xs => some (.int .i64 xs.length)
  | .slice _, .msl _ _ len _ => some (.int .i64 len)
  | .arr n _, _ => some (.int .i64 n)
  | _, _ => none
theorem still_len {L : Tab} (hL : TabOk P L) {t : TypeId} {x : Operand} {z : AV} (h : qLen L t (ev env x) = some z) :
    Still P ⟨dst, .call { callee := .builtin .len, args := #[x], argTypes := #[t] }, ty, pos, after, guard⟩ env H True z :=
  fun _ _ G a w s => by
    have rx := s.ev x
    unfold qLen at h
    split at h
    · rename_i l hk e
      have hu := (hL t (by rw [hk]; simp)).1
      rw [hk] at hu
      rw [e] at rx
      have ex := rel_str_inv rx
      cases h
      exact ⟨.int .i64 l.length, by simp [execOp, resolve, invoke, builtin, ex, Builtin.len_, run_underlying hu, goInt, size_mk], .lit _⟩
    · rename_i e' o s' xs hk e
      have hu := (hL t (by rw [hk]; simp)).1
      rw [hk] at hu
      rw [e] at rx
      generalize hv : a.eval x = v at rx
      cases rx with
      | sl _ _ _ ad len cap val hl =>
        cases h
        exact ⟨.int .i64 len, by simp [execOp, resolve, invoke, builtin, hv, Builtin.len_, run_underlying hu, goInt], by rw [hl]; exact .lit _⟩
    · rename_i e' k off len cap hk e
      have hu := (hL t (by rw [hk]; simp)).1
      rw [hk] at hu
      rw [e] at rx
      generalize hv : a.eval x = v at rx
      cases rx with
      | msl =>
        cases h
        exact ⟨.int .i64 len, by simp [execOp, resolve, invoke, builtin, hv, Builtin.len_, run_underlying hu, goInt], .lit _⟩
    · rename_i n e' hk
      have hu := (hL t (by rw [hk]; simp)).1
      rw [hk] at hu
      cases h
      exact ⟨.int .i64 n, by simp [execOp, resolve, invoke, builtin, Builtin.len_, run_underlying hu, goInt], .lit _⟩
    · cases h
end
end Go.Proofs.YthaicajgfioogaaDoor.V
