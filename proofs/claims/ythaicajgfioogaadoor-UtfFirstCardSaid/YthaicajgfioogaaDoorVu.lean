/- Readings of arguments as abstract values. -/
import Derived.Test.YthaicajgfioogaaDoorVt
set_option linter.unusedSimpArgs false
set_option linter.unusedVariables false
namespace Go.Proofs.YthaicajgfioogaaDoor.V
open Go Go.ChangeShapes Go.WideShapes Go.RowKit
theorem flats_find {s : Nat} (hs : 0 < s) : ∀ {xs : List AV}, (∀ x ∈ xs, x.flat.length = s) → ∀ {j : Nat} {y : AV}, (flats xs)[j]? = some y → ∃ x, xs[j / s]? = some x ∧ x.flat[j % s]? = some y
  | [], _, j, y, h => by simp [flats] at h
  | x :: xs, hx, j, y, h => by
    rw [flats_cons] at h
    have hl := hx x (List.mem_cons_self ..)
    by_cases hj : j < s
    · rw [List.getElem?_append_left (by omega)] at h
      rw [Nat.div_eq_of_lt hj, Nat.mod_eq_of_lt hj]
      exact ⟨x, rfl, h⟩
    · rw [List.getElem?_append_right (by omega), hl] at h
      obtain ⟨z, h1, h2⟩ := flats_find hs (fun x hx' => hx x (List.mem_cons_of_mem _ hx')) h
      refine ⟨z, ?_, ?_⟩
      · rw [show j / s = (j - s) / s + 1 by rw [← Nat.sub_add_cancel (Nat.le_of_not_lt hj), Nat.add_div_right _ hs]; simp]
        simpa using h1
      · rw [show j % s = (j - s) % s by rw [← Nat.sub_add_cancel (Nat.le_of_not_lt hj), Nat.add_mod_right]; simp]
        exact h2

/-- Cells that hold an abstract value. -/
def RelC (w : World) (x : AV) (cs : List Value) : Prop := x.okv = true ∧ x.flat.length = cs.length ∧ ∀ (j : Nat) y c, x.flat[j]? = some y → cs[j]? = some c → Rel (G₀ w) [] w y c
theorem relC_one {w : World} {x : AV} {c : Value} (hx : x.flat = [x]) (ho : x.okv = true) (h : Rel (G₀ w) [] w x c) : RelC w x [c] := by
  refine ⟨ho, by rw [hx]; rfl, fun j y d e e' => ?_⟩
  rw [hx] at e
  cases j with
  | zero => simp at e e'; subst e; subst e'; exact h
  | succ j => simp at e

section
variable {H : Type} {enc : TypeId × Value → H} {P : Program} {w : World}
/-- Whatever is read at a type, by so much fuel, is one of these values. -/
def Opens {α : Type} (enc : TypeId × Value → H) (P : Program) (w : World) (n : Nat) (t : TypeId) (f : α → AV) (p : α → Prop) : Prop :=
  ∀ (m : Nat) cs x, m ≤ n → DataW.trod enc P w 0 (fun _ => true) true m t cs = some x → ∃ v : α, p v ∧ RelC w (f v) cs
theorem Opens.mono {α : Type} {n m : Nat} {t : TypeId} {f : α → AV} {p : α → Prop} (h : Opens enc P w n t f p) (hm : m ≤ n) : Opens enc P w m t f p := fun k cs x hk hx => h k cs x (by omega) hx
theorem Opens.zero {α : Type} {t : TypeId} {f : α → AV} {p : α → Prop} : Opens enc P w 0 t f p := fun m cs x hm hx => by
  obtain rfl : m = 0 := by omega
  simp [DataW.trod] at hx
theorem Opens.imp {α β : Type} {n : Nat} {t : TypeId} {f : α → AV} {p : α → Prop} {g : β → AV} {q : β → Prop} (h : Opens enc P w n t f p) (k : ∀ v, p v → ∃ u, q u ∧ g u = f v) : Opens enc P w n t g q := fun m cs x hm hx => by
  obtain ⟨v, hv, hr⟩ := h m cs x hm hx
  obtain ⟨u, hu, e⟩ := k v hv
  exact ⟨u, hu, e ▸ hr⟩
theorem opens_bool {t : TypeId} (n : Nat) (ht : P.underlying t = some .bool) : Opens enc P w n t (fun b : Bool => .lit (.bool b)) (fun _ => True) := fun m cs x _ hx => by
  obtain ⟨b, rfl, _⟩ := DataW.trod_bool ht hx
  exact ⟨b, trivial, relC_one rfl rfl (.lit _)⟩
theorem opens_int {t : TypeId} {k : IntKind} (n : Nat) (ht : P.underlying t = some (.int k)) : Opens enc P w n t (fun i : Int => .lit (.int k i)) (fun i => k.min ≤ i ∧ i ≤ k.max) := fun m cs x _ hx => by
  obtain ⟨i, rfl, _, hw⟩ := DataW.trod_int ht hx
  refine ⟨i, ?_, relC_one rfl rfl (.lit _)⟩
  simp only [Lit.wf, Bool.and_eq_true, decide_eq_true_eq] at hw
  exact hw
theorem opens_string {t : TypeId} (n : Nat) (ht : P.underlying t = some .string) : Opens enc P w n t AV.str (fun l => l.length ≤ 9223372036854775807) := fun m cs x _ hx => by
  obtain ⟨s, rfl, _, hw⟩ := DataW.trod_string ht hx
  refine ⟨s.data.toList, ?_, relC_one rfl rfl ?_⟩
  · have : s.data.toList.length = s.size := Array.length_toList
    show s.data.toList.length ≤ _
    rw [this]
    unfold maxLen at hw
    omega
  · have : s = ⟨s.data.toList.toArray⟩ := by simp
    conv => rhs; rw [this]
    exact .str _
theorem add_add (a : Addr) (i j : Nat) : (a.add i).add j = a.add (i + j) := by
  unfold Addr.add
  by_cases hi : i = 0 <;> by_cases hj : j = 0 <;> simp [hi, hj, Nat.add_assoc]
theorem add_block (a : Addr) (i : Nat) : (a.add i).block = a.block := by unfold Addr.add; split <;> rfl
theorem opens_slice {α : Type} {t e : TypeId} {s n : Nat} {f : α → AV} {p : α → Prop} (ht : P.underlying t = some (.slice e)) (hc : P.cellsOf e = s) (hs : 0 < s) (h : Opens enc P w n e f p) :
    Opens enc P w (n + 1) t (fun l : List α => .sl .sh s (l.map f)) (fun l => l.length ≤ 9223372036854775807 ∧ ∀ v ∈ l, p v) := fun m cs x hm hx => by
  rcases DataW.trod_slice ht hx with ⟨rfl, _⟩ | ⟨a, len, cap, elems, rest, k, hk, rfl, _, hb, hl, hcap, hlen, hel, _, _⟩
  · refine ⟨[], ⟨by simp, fun v hv => by cases hv⟩, relC_one rfl rfl ?_⟩
    exact .sl .sh s [] none 0 0 (fun _ => undef) rfl (Nat.le_refl _) (fun x hx => by cases hx) (fun j x e => by simp [flats] at e) (fun j x e => by simp [flats] at e) (fun e => by cases e) (fun h => absurd h (by omega)) (fun k e => by cases e)
  · subst hc
    have each : ∀ i, i < len → ∃ v : α, p v ∧ ∃ cs', w.cells? 0 (a.add (i * P.cellsOf e)) (P.cellsOf e) = some cs' ∧ RelC w (f v) cs' := fun i hi => by
      have := hel i hi
      rw [List.getElem?_eq_getElem (by omega), Option.bind_eq_some_iff] at this
      obtain ⟨cs', h1, h2⟩ := this
      obtain ⟨v, hv, hr⟩ := h k cs' _ (by omega) h2
      exact ⟨v, hv, cs', h1, hr⟩
    obtain ⟨g, hg⟩ : ∃ g : Nat → Option α, ∀ i, i < len → ∃ v, g i = some v ∧ p v ∧ ∃ cs', w.cells? 0 (a.add (i * P.cellsOf e)) (P.cellsOf e) = some cs' ∧ RelC w (f v) cs' := by
      refine ⟨fun i => if hi : i < len then some (Classical.choose (each i hi)) else none, fun i hi => ?_⟩
      simp only [dif_pos hi]
      exact ⟨_, rfl, Classical.choose_spec (each i hi)⟩
    have hget : ∀ (n : Nat), n ≤ len → ((List.range n).filterMap g).length = n ∧ ∀ i, i < n → ((List.range n).filterMap g)[i]? = g i := by
      intro n
      induction n with
      | zero => intro _; exact ⟨rfl, fun i hi => absurd hi (by omega)⟩
      | succ n ih =>
        intro hn
        obtain ⟨h1, h2⟩ := ih (by omega)
        obtain ⟨v, hv, _⟩ := hg n (by omega)
        rw [List.range_succ, List.filterMap_append]
        have e1 : List.filterMap g [n] = [v] := by simp [hv]
        rw [e1]
        refine ⟨by simp [h1], fun i hi => ?_⟩
        by_cases hin : i < n
        · rw [List.getElem?_append_left (by omega)]; exact h2 i hin
        · obtain rfl : i = n := by omega
          rw [List.getElem?_append_right (by omega), h1, Nat.sub_self, hv]
          rfl
    obtain ⟨l, hll, hlg⟩ : ∃ l : List α, l.length = len ∧ ∀ i, i < len → l[i]? = g i := ⟨_, hget len (Nat.le_refl _)⟩
    have hat : ∀ i v, l[i]? = some v → i < len ∧ p v ∧ ∃ cs', w.cells? 0 (a.add (i * P.cellsOf e)) (P.cellsOf e) = some cs' ∧ RelC w (f v) cs' := fun i v hv => by
      have hi : i < len := by have := lt_of_get hv; omega
      rw [hlg i hi] at hv
      obtain ⟨v', h1, h2⟩ := hg i hi
      rw [h1] at hv
      cases hv
      exact ⟨hi, h2⟩
    have huni : ∀ y ∈ l.map f, y.flat.length = P.cellsOf e ∧ y.okv = true := fun y hy => by
      obtain ⟨v, hv, rfl⟩ := List.mem_map.1 hy
      obtain ⟨i, hi⟩ := List.getElem?_of_mem hv
      obtain ⟨_, _, cs', h1, h2, h3, _⟩ := hat i v hi
      exact ⟨by rw [h3]; exact (World.cells?_some h1).2.1, h2⟩
    have hmax : len ≤ 9223372036854775807 := by unfold maxLen at hcap; omega
    refine ⟨l, ⟨by rw [hll]; exact hmax, fun v hv => ?_⟩, relC_one rfl rfl ?_⟩
    · obtain ⟨i, hi⟩ := List.getElem?_of_mem hv
      exact (hat i v hi).2.1
    · by_cases h0 : len = 0
      · have hnil : l = [] := List.eq_nil_of_length_eq_zero (by omega)
        rw [hnil]
        exact .sl .sh _ [] _ _ _ (fun _ => undef) (by simp [h0]) hl (fun x hx => by cases hx) (fun j x e => by simp [flats] at e) (fun j x e => by simp [flats] at e) (fun e => by cases e) (fun h => absurd h (by omega)) (fun k e => by cases e)
      · have hcellat : ∀ (j : Nat) y, (flats (l.map f))[j]? = some y → ∃ u, w.cell? (a.add j) = some u ∧ Rel (G₀ w) [] w y u := fun j y hj => by
          obtain ⟨z, h1, h2⟩ := flats_find hs (fun y hy => (huni y hy).1) hj
          rw [List.getElem?_map, Option.map_eq_some_iff] at h1
          obtain ⟨v, hv, rfl⟩ := h1
          obtain ⟨hi, _, cs', hc', _, hl', hr⟩ := hat _ v hv
          obtain ⟨_, hn', hcell⟩ := World.cells?_some hc'
          have hlt : j % P.cellsOf e < P.cellsOf e := Nat.mod_lt _ hs
          have := hcell (j % P.cellsOf e) hlt
          rw [List.getElem?_eq_getElem (by omega)] at this
          refine ⟨_, ?_, hr _ _ _ h2 (List.getElem?_eq_getElem (by omega))⟩
          rw [← this, add_add, Nat.mul_comm, Nat.div_add_mod]
        have hlen0 : 0 < (flats (l.map f)).length := by
          rw [flats_len fun y hy => (huni y hy).1, List.length_map, hll]
          exact Nat.mul_pos (by omega) hs
        obtain ⟨u, hu, _⟩ := hcellat 0 _ (List.getElem?_eq_getElem hlen0)
        obtain ⟨b, off, rfl⟩ : ∃ b off, a = ⟨b, off, none⟩ := by
          obtain ⟨b, off, sp⟩ := a
          cases sp with
          | none => exact ⟨b, off, rfl⟩
          | some k =>
            simp only [Addr.add, if_true, World.cell?] at hu
            split at hu <;> simp at hu
        refine rel_sl_of (by simp [hll]) hl huni fun j y hj => ?_
        obtain ⟨u, hu, hr⟩ := hcellat j y hj
        have hadd : (Addr.mk b off none).add j = ⟨b, off + j, none⟩ := by
          unfold Addr.add
          split
          · rename_i e; subst e; rfl
          · rfl
        rw [hadd] at hu
        refine ⟨?_, u, hu, hr⟩
        show b < w.heap.size
        rcases Nat.lt_or_ge b w.heap.size with hlt | hlt
        · exact hlt
        · simp [World.cell?, Array.getElem?_eq_none hlt] at hu
theorem relAll_one {w : World} {x : AV} {v : Value} (h : Rel (G₀ w) [] w x v) : RelAll (G₀ w) [] w [x] #[v] := ⟨rfl, fun j y u e e' => by
  cases j with
  | zero => simp at e e'; subst e; subst e'; exact h
  | succ j => simp at e⟩
theorem relAll_cons {w : World} {x : AV} {v : Value} {xs : List AV} {vs : List Value} (h : Rel (G₀ w) [] w x v) (k : RelAll (G₀ w) [] w xs vs.toArray) : RelAll (G₀ w) [] w (x :: xs) (v :: vs).toArray := ⟨by simpa using k.1, fun j y u e e' => by
  cases j with
  | zero => simp at e e'; subst e; subst e'; exact h
  | succ j => exact k.2 j y u (by simpa using e) (by simpa using e')⟩
theorem relAll_nil {w : World} : RelAll (G₀ w) [] w [] ([] : List Value).toArray := ⟨rfl, fun j y u e e' => by simp at e⟩
/-- A value that is one cell. -/
theorem rel_of_cells {w : World} {x : AV} {v : Value} (hx : x.flat = [x]) (hv : ∀ cs, v ≠ .agg cs) (h : RelC w x v.cells.toList) : Rel (G₀ w) [] w x v := by
  have hcv : v.cells.toList = [v] := by cases v <;> first | rfl | exact absurd rfl (hv _)
  rw [hcv] at h
  exact h.2.2 0 x v (by rw [hx]; rfl) rfl
theorem rel_of_agg {w : World} {xs : List AV} {cs : Array Value} (h : RelC w (.agg xs) (Value.agg cs).cells.toList) : Rel (G₀ w) [] w (.agg xs) (.agg cs) :=
  .agg _ _ (by have := h.2.1; simpa [AV.flat, Value.cells] using this.symm) fun j x v e e' => h.2.2 j x v e (by simpa [Value.cells] using e')
end
def isAggD : TypeDesc → Bool
  | .struct _ | .array _ _ => true
  | _ => false
theorem no_agg {P : Program} {w : World} {base : Nat} {t : TypeId} {d : TypeDesc} {cs : Array Value} (hd : P.underlying t = some d) (h : isAggD d = false) (k : Value.okWide P w .any base t (.agg cs)) : False := by
  unfold Value.okWide at k
  rw [hd] at k
  cases d <;> simp [isAggD] at h <;> simp [Cell.okWide, Cell.ok, hd] at k
/-- Bytes. -/
theorem opens_u8 {H : Type} {enc : TypeId × Value → H} {P : Program} {w : World} {t : TypeId} (n : Nat) (ht : P.underlying t = some (.int .u8)) : Opens enc P w n t byteAV (fun _ => True) :=
  (opens_int n ht).imp fun i hi => by
    have h1 : (0 : Int) ≤ i := hi.1
    have h2 : i ≤ 255 := hi.2
    refine ⟨UInt8.ofNat i.toNat, trivial, ?_⟩
    have : (UInt8.ofNat i.toNat).toNat = i.toNat := by simp; omega
    show AV.lit (.int .u8 ((UInt8.ofNat i.toNat).toNat : Int)) = _
    rw [this, Int.toNat_of_nonneg h1]
theorem opens_i32 {H : Type} {enc : TypeId × Value → H} {P : Program} {w : World} {t : TypeId} (n : Nat) (ht : P.underlying t = some (.int .i32)) : Opens enc P w n t runeAV (fun i => -2147483648 ≤ i ∧ i ≤ 2147483647) :=
  (opens_int n ht).imp fun i hi => ⟨i, hi, rfl⟩
end Go.Proofs.YthaicajgfioogaaDoor.V
