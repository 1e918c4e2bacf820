/- Fields, conversions, new variables that nobody writes, literals of structs and slices. -/
import Derived.Test.YthaicajgfioogaaDoorVe
set_option linter.unusedSimpArgs false
set_option linter.unusedVariables false
namespace Go.Proofs.YthaicajgfioogaaDoor.V
open Go

section
variable {P : Program} {env : Env} {H : List AObj} {dst : Option Tmp} {ty : TypeId} {pos : String} {after : Array Edge} {guard : Option (Nat × Bool)}

theorem struct_field {L : Tab} (hL : TabOk P L) {t : TypeId} {fs : List (Nat × TypeId)} (hk : (L t).k = .struct fs) {f o : Nat} {ft : TypeId} (hf : fs[f]? = some (o, ft)) :
    ∃ a fl, P.underlying t = some (.struct a) ∧ a[f]? = some fl ∧ fl.offset = o ∧ fl.type = ft := by
  have h := (hL t (by rw [hk]; simp)).1
  rw [hk] at h
  obtain ⟨a, hu, hm⟩ := h
  rw [← hm, List.getElem?_map] at hf
  cases e : a.toList[f]? with
  | none => rw [e] at hf; cases hf
  | some fl =>
    rw [e] at hf
    cases hf
    exact ⟨a, fl, hu, by simpa using e, rfl, rfl⟩

/-- The address of a field. -/
def qFieldAddr (L : Tab) (t : TypeId) (x : AV) (f : Nat) : Option (Prop × AV) :=
  match (L t).k with
  | .struct fs => match fs[f]? with
    | some (o, ft) => match x with
      | .ip y => some ((L ft).k ≠ .other ∧ (L ft).size ≠ 0 ∧ okGet (L ft) y.flat o, .ip (getPart (L ft) y.flat o))
      | .mp k off => some ((L ft).k ≠ .other ∧ (L ft).size ≠ 0, .mp k (off + o))
      | _ => none
    | none => none
  | _ => none
theorem still_fieldAddr {L : Tab} (hL : TabOk P L) {t : TypeId} {x : Operand} {f : Nat} {p : Prop} {z : AV} (h : qFieldAddr L t (ev env x) f = some (p, z)) :
    Still P ⟨dst, .fieldAddr t x f, ty, pos, after, guard⟩ env H p z := fun hp _ G a w s => by
  have rx := s.ev x
  unfold qFieldAddr at h
  split at h
  · rename_i fs hk
    split at h
    · rename_i o ft hf
      obtain ⟨ar, fl, hu, hfl, rfl, rfl⟩ := struct_field hL hk hf
      split at h
      · rename_i y ex
        rw [ex] at rx
        cases h
        obtain ⟨h1, h2, h3⟩ := hp
        generalize hv : a.eval x = v at rx
        cases rx with
        | ip _ b off val hc hr =>
          refine ⟨.pointer (some ⟨b, off + fl.offset, none⟩), ?_, rel_ip_of fun j u hj => ?_⟩
          · simp [execOp, hv, Instr.fieldAt, run_underlying hu, hfl, Instr.sureAddr, fieldPlace, run_size hL h1, h2, addr_add]
          · have hj' : y.flat[fl.offset + j]? = some u := by
              unfold getPart okGet at *
              cases hg : (L fl.type).k.agg with
              | true =>
                simp only [hg, if_true, AV.flat] at hj
                rw [List.getElem?_take] at hj
                split at hj
                · rwa [List.getElem?_drop] at hj
                · cases hj
              | false =>
                simp only [hg, Bool.false_eq_true, if_false] at hj h3
                obtain ⟨_, h4, h5⟩ := h3
                rw [h5] at hj
                cases j with
                | zero => simp only [List.getElem?_cons_zero, Option.some.injEq] at hj; rw [← hj, Nat.add_zero]; simp [List.getD, List.getElem?_eq_getElem h4]
                | succ j => simp at hj
            rw [Nat.add_assoc]
            exact ⟨(hc _ u hj').1, _, (hc _ u hj').2, hr _ u hj'⟩
      · rename_i k off ex
        rw [ex] at rx
        cases h
        obtain ⟨h1, h2⟩ := hp
        generalize hv : a.eval x = v at rx
        cases rx with
        | mp _ _ cs hk' =>
          refine ⟨.pointer (some ⟨G.blk k, off + fl.offset, none⟩), ?_, .mp _ _ cs hk'⟩
          simp [execOp, hv, Instr.fieldAt, run_underlying hu, hfl, Instr.sureAddr, fieldPlace, run_size hL h1, h2, addr_add]
      · cases h
    · cases h
  · cases h

theorem rel_part {G : Gh} {w : World} {cs : List AV} {arr : Array Value} (hl : arr.size = cs.length) (hr : ∀ (j : Nat) (x : AV) (v : Value), cs[j]? = some x → arr[j]? = some v → Rel G H w x v) {l : LT} {o : Nat} (ho : okGet l cs o) :
    Rel G H w (getPart l cs o) (if l.k.agg then .agg (arr.extract o (o + l.size)) else arr.getD o undef) := by
  unfold getPart okGet at *
  obtain ⟨_, h2⟩ := ho
  cases hg : l.k.agg with
  | true =>
    simp only [hg, if_true] at h2 ⊢
    refine .agg _ _ (by simp; omega) fun j x v e e' => ?_
    rw [List.getElem?_take] at e
    split at e
    · rw [List.getElem?_drop] at e
      refine hr _ x v e ?_
      simp only [Array.getElem?_extract] at e'
      split at e'
      · exact e'
      · cases e'
    · cases e
  | false =>
    simp only [hg, Bool.false_eq_true, if_false] at h2 ⊢
    have ho : o < arr.size := by omega
    exact hr o _ _ (by simp [List.getD, List.getElem?_eq_getElem h2.1]) (by simp [Array.getD_eq_getD_getElem?, Array.getElem?_eq_getElem ho])
theorem run_part {L : Tab} (hL : TabOk P L) {t : TypeId} {w : World} {arr : Array Value} {o : Nat} (ho : (L t).k ≠ .other) (h2 : (L t).k.agg = false → o < arr.size) :
    (part t arr o).run P w = .ok (if (L t).k.agg then .agg (arr.extract o (o + (L t).size)) else arr.getD o undef) w := by
  simp only [part, Sem.run_bind, run_isAgg hL ho, Result.andThen_ok]
  cases hg : (L t).k.agg with
  | true => simp [run_size hL ho]
  | false =>
    have := h2 hg
    simp [Array.getElem?_eq_getElem this, Array.getD_eq_getD_getElem?]

def qField (L : Tab) (t : TypeId) (x : AV) (f : Nat) : Option (Prop × AV) :=
  match (L t).k with
  | .struct fs => match fs[f]? with
    | some (o, ft) => some (x = .agg x.flat ∧ okGet (L ft) x.flat o, getPart (L ft) x.flat o)
    | none => none
  | _ => none
theorem still_field {L : Tab} (hL : TabOk P L) {t : TypeId} {x : Operand} {f : Nat} {p : Prop} {z : AV} (h : qField L t (ev env x) f = some (p, z)) :
    Still P ⟨dst, .field t x f, ty, pos, after, guard⟩ env H p z := fun hp _ G a w s => by
  have rx := s.ev x
  unfold qField at h
  split at h
  · rename_i fs hk
    split at h
    · rename_i o ft hf
      obtain ⟨ar, fl, hu, hfl, rfl, rfl⟩ := struct_field hL hk hf
      cases h
      obtain ⟨h1, h2⟩ := hp
      rw [h1] at rx
      generalize hv : a.eval x = v at rx
      generalize (ev env x).flat = cs at rx h2
      cases rx with
      | agg _ arr hl hr =>
        have h3 : (L fl.type).k.agg = false → fl.offset < arr.size := fun hg => by
          have := h2.2
          rw [hg] at this
          simp at this
          omega
        exact ⟨_, by simp [execOp, hv, Instr.field, run_underlying hu, hfl, asAgg, run_part hL h2.1 h3], rel_part hl hr h2⟩
    · cases h
  · cases h

/-- Bytes as abstract values. -/
def byteAV (b : UInt8) : AV := .int .u8 b.toNat
def runeAV (r : Int) : AV := .lit (.int .i32 r)
def bytesAV (l : List UInt8) : AV := .sl .sh 1 (l.map byteAV)
def unbyte : AV → UInt8
  | .lit (.int .u8 n) => UInt8.ofNat n.toNat
  | _ => 0
def unbytes (xs : List AV) : List UInt8 := xs.map unbyte
def isBytes (xs : List AV) : Prop := xs = (unbytes xs).map byteAV
theorem unbyte_byteAV (b : UInt8) : unbyte (byteAV b) = b := by simp [unbyte, byteAV]
theorem unbytes_map (l : List UInt8) : unbytes (l.map byteAV) = l := by
  simp only [unbytes, List.map_map]
  rw [show unbyte ∘ byteAV = id from funext unbyte_byteAV, List.map_id]
theorem isBytes_map (l : List UInt8) : isBytes (l.map byteAV) := by unfold isBytes; rw [unbytes_map]
def runesAV (s : List UInt8) : List AV := (Conv.runesFrom ⟨s.toArray⟩ s.length 0 #[]).toList.map ofCell

/-- Conversions; what they make is shared memory that nobody writes. -/
def qConv (L : Tab) (src dst : TypeId) (x : AV) : Option (Prop × AV) :=
  match (L src).k, (L dst).k, x with
  | .int _, .int k, .lit (.int _ n) => some (True, .int k (k.wrap n))
  | .str, .str, .str l => some (True, .str l)
  | .str, .slice e, .str l => match (L e).k with
    | .int .u8 => some (True, bytesAV l)
    | .int .i32 => some (True, .sl .sh 1 (runesAV l))
    | _ => none
  | .slice e, .str, .sl _ _ xs => match (L e).k with
    | .int .u8 => some (isBytes xs, .str (unbytes xs))
    | _ => none
  | _, _, _ => none
theorem flats_ones {α : Type} (f : α → AV) (h : ∀ x, (f x).flat = [f x]) : ∀ l : List α, flats (l.map f) = l.map f
  | [] => rfl
  | x :: l => by rw [List.map_cons, flats_cons, h x, flats_ones f h l]; rfl
theorem foldl_push : ∀ (l acc : List UInt8), (l.map fun b => (b.toNat : Int)).foldl (fun (r : ByteArray) n => r.push (UInt8.ofNat n.toNat)) ⟨acc.toArray⟩ = ⟨(acc ++ l).toArray⟩
  | [], acc => by simp
  | b :: l, acc => by
    have h1 : (ByteArray.mk acc.toArray).push (UInt8.ofNat ((b.toNat : Int)).toNat) = ⟨(acc ++ [b]).toArray⟩ := by apply ByteArray.ext; simp [ByteArray.push]
    rw [List.map_cons, List.foldl_cons, h1, foldl_push l (acc ++ [b])]
    simp
theorem run_unbytes {G : Gh} {w : World} {o : Own} {z : Nat} {xs : List AV} {v : Value} (r : Rel G H w (.sl o z xs) v) (hb : isBytes xs) : (Conv.bytesToString v).run P w = .ok (.string ⟨(unbytes xs).toArray⟩) w := by
  unfold isBytes at hb
  generalize unbytes xs = l at hb
  subst hb
  rcases Nat.eq_zero_or_pos l.length with h0 | h0
  · have : l = [] := List.eq_nil_of_length_eq_zero h0
    subst this
    cases r with
    | sl _ _ _ ad len cap val hl =>
      simp at hl
      subst hl
      cases ad with
      | none => simp [Conv.bytesToString]; rfl
      | some ad =>
        rw [run_bytesToString (P := P) w ad 0 cap [] (by simp [loadCells, loadCellsFrom])]
        simp; rfl
  · have huni := r.sl_uni
    have hz : z = 1 := by
      have hm : byteAV (l[0]'h0) ∈ l.map byteAV := List.mem_map.2 ⟨_, List.getElem_mem h0, rfl⟩
      have := huni _ hm
      simpa [byteAV, AV.flat] using this.symm
    subst hz
    obtain ⟨b, off, cap, rfl, _, hc⟩ := r.sl_addr (by omega) (by simpa using h0)
    have hfl := flats_ones byteAV (fun _ => rfl) l
    have hld : (loadCells ⟨b, off, none⟩ (l.map byteAV).length).run P w = .ok ((l.map fun b => (b.toNat : Int)).map (Value.int .u8)).toArray w := by
      have := run_loadCells_list (P := P) w ⟨b, off, none⟩ ((l.map fun b => (b.toNat : Int)).map (Value.int .u8)) (fun j v e => by
        rw [addr_add]
        have hj : j < l.length := by simpa using lt_of_get e
        obtain ⟨_, u, hu, hr⟩ := hc j (byteAV l[j]) (by rw [hfl]; simp [hj])
        have := rel_lit_inv hr
        simp [hj] at e
        rw [hu, this, ← e])
      simpa using this
    rw [run_bytesToString (P := P) w _ _ cap _ hld]
    have := foldl_push l []
    rw [List.nil_append] at this
    rw [← this]
    rfl

theorem more_alloc {w : World} {G : Gh} {H : List AObj} (hi : HInv G H w) (arr : Array Value) (e : TypeId) (fr : Nat × Nat) {w' : World} (hw : More w w') (hsz : w'.heap.size = w.heap.size) :
    HInv (addImm G w (w'.alloc (.cells arr e fr))) H (w'.alloc (.cells arr e fr)) ∧ Step G H w (addImm G w (w'.alloc (.cells arr e fr))) H (w'.alloc (.cells arr e fr)) ∧
    (∀ j, (addImm G w (w'.alloc (.cells arr e fr))).imm w.heap.size j) ∧ (∀ j, (w'.alloc (.cells arr e fr)).cell? ⟨w.heap.size, j, none⟩ = arr[j]?) := by
  have hm := hw.alloc (.cells arr e fr)
  refine ⟨hm.inv hi, hm.step hi, fun j => .inr ⟨Nat.le_refl _, by simp; omega⟩, fun j => ?_⟩
  have : (w'.alloc (.cells arr e fr)).heap[w.heap.size]? = some (.cells arr e fr) := by
    show (w'.heap.push (.cells arr e fr))[w.heap.size]? = _
    rw [← hsz]
    simp
  simp [World.cell?, this]

theorem quiet_conv {L : Tab} (hL : TabOk P L) {src d : TypeId} {x : Operand} {p : Prop} {z : AV} (h : qConv L src d (ev env x) = some (p, z)) :
    Quiet P ⟨dst, .convert src d x, ty, pos, after, guard⟩ env H p z := fun hp _ G a w s => by
  have rx := s.ev x
  unfold qConv at h
  split at h
  · rename_i k0 k k1 n h1 h2 ex
    have hs := (hL src (by rw [h1]; simp)).1
    have hd := (hL d (by rw [h2]; simp)).1
    rw [h1] at hs
    rw [h2] at hd
    rw [ex] at rx
    have hx := rel_lit_inv rx
    cases h
    refine ⟨.int k (k.wrap n), w, G, ?_, s.inv, .refl _ _ _, .lit _⟩
    simp only [TKOk] at hs hd
    simp [execOp, hx, convert, run_underlying hs, run_underlying hd, Conv.intToInt]
  · rename_i l h1 h2 ex
    have hs := (hL src (by rw [h1]; simp)).1
    have hd := (hL d (by rw [h2]; simp)).1
    rw [h1] at hs
    rw [h2] at hd
    rw [ex] at rx
    have hx := rel_str_inv rx
    cases h
    refine ⟨_, w, G, ?_, s.inv, .refl _ _ _, .str _⟩
    simp only [TKOk] at hs hd
    simp [execOp, hx, convert, run_underlying hs, run_underlying hd]
  · rename_i e l h1 h2 ex
    have hs := (hL src (by rw [h1]; simp)).1
    have hd := (hL d (by rw [h2]; simp)).1
    rw [h1] at hs
    rw [h2] at hd
    simp only [TKOk] at hs hd
    rw [ex] at rx
    have hx := rel_str_inv rx
    split at h
    · rename_i h3
      have he := (hL e (by rw [h3]; simp)).1
      rw [h3] at he
      simp only [TKOk] at he
      cases h
      have hrun := run_bytes_of_string (P := P) w src d e ⟨l.toArray⟩ hs hd he
      obtain ⟨hi, hst, him, hce⟩ := more_alloc s.inv (bytesRow ⟨l.toArray⟩ (grownCap w l.length 0 e)) e ((bytesRow ⟨l.toArray⟩ (grownCap w l.length 0 e)).size, (bytesRow ⟨l.toArray⟩ (grownCap w l.length 0 e)).size + 1) (More.refl w).drew rfl
      refine ⟨_, _, _, by simp [execOp, hx]; rw [hrun]; rfl, hi, hst, ?_⟩
      refine rel_sl_of (by simp [size_mk]) (grownCap_ge w _ 0 e) (fun x hx => ?_) (fun j y hj => ⟨by rw [Nat.zero_add]; exact him j, ?_⟩)
      · obtain ⟨b, _, rfl⟩ := List.mem_map.1 hx
        exact ⟨rfl, rfl⟩
      · rw [flats_ones byteAV (fun _ => rfl)] at hj
        have hlt : j < l.length := by simpa using lt_of_get hj
        simp only [List.getElem?_map, List.getElem?_eq_getElem hlt, Option.map_some, Option.some.injEq] at hj
        subst hj
        refine ⟨.int .u8 l[j].toNat, ?_, .lit _⟩
        rw [Nat.zero_add, hce j]
        simp [bytesRow, hlt, Array.getElem?_append]
    · rename_i h3
      have he := (hL e (by rw [h3]; simp)).1
      rw [h3] at he
      simp only [TKOk] at he
      cases h
      have hrun : (convert src d (.string ⟨l.toArray⟩)).run P w = .ok (.slice (some ⟨w.heap.size, 0, none⟩) (Conv.runesFrom ⟨l.toArray⟩ l.length 0 #[]).size (grownCap w (Conv.runesFrom ⟨l.toArray⟩ l.length 0 #[]).size 0 e))
          (w.drew.alloc (.cells (Conv.runesFrom ⟨l.toArray⟩ l.length 0 #[] ++ Array.replicate (grownCap w (Conv.runesFrom ⟨l.toArray⟩ l.length 0 #[]).size 0 e - (Conv.runesFrom ⟨l.toArray⟩ l.length 0 #[]).size) (.int .i32 0)) e)) := by
        simp [convert, run_underlying hs, run_underlying hd, run_underlying he, Conv.stringToRunes, Question.forced, newRow, grownCap, size_mk]
      obtain ⟨hi, hst, him, hce⟩ := more_alloc s.inv (Conv.runesFrom ⟨l.toArray⟩ l.length 0 #[] ++ Array.replicate (grownCap w (Conv.runesFrom ⟨l.toArray⟩ l.length 0 #[]).size 0 e - (Conv.runesFrom ⟨l.toArray⟩ l.length 0 #[]).size) (.int .i32 0)) e (0, 0) (More.refl w).drew rfl
      have hone : ∀ (k i : Nat) (acc : Array Value), (∀ v ∈ acc, ∃ n, v = .int .i32 n) → ∀ v ∈ Conv.runesFrom ⟨l.toArray⟩ k i acc, ∃ n, v = .int .i32 n := by
        intro k
        induction k with
        | zero => intro i acc h; simpa [Conv.runesFrom] using h
        | succ k ih =>
          intro i acc h
          unfold Conv.runesFrom
          split
          · refine ih _ _ fun v hv => ?_
            rcases Array.mem_push.1 hv with hv | hv
            · exact h v hv
            · exact ⟨_, hv⟩
          · exact h
      have hone' := hone l.length 0 #[] (by simp)
      have hflat : flats (runesAV l) = runesAV l := by
        have : ∀ xs : List Value, (∀ v ∈ xs, ∃ n, v = .int .i32 n) → flats (xs.map ofCell) = xs.map ofCell := by
          intro xs
          induction xs with
          | nil => intro _; rfl
          | cons v xs ih =>
            intro h
            obtain ⟨n, rfl⟩ := h v (List.mem_cons_self ..)
            rw [List.map_cons, flats_cons, ih fun u hu => h u (List.mem_cons_of_mem _ hu)]
            rfl
        exact this _ fun v hv => hone' v (Array.mem_toList_iff.1 hv)
      refine ⟨_, _, _, by simp [execOp, hx]; rw [hrun]; rfl, hi, hst, ?_⟩
      refine rel_sl_of (by simp [runesAV]) (grownCap_ge w _ 0 e) (fun x hx => ?_) (fun j y hj => ⟨by rw [Nat.zero_add]; exact him j, ?_⟩)
      · obtain ⟨v, hv, rfl⟩ := List.mem_map.1 hx
        obtain ⟨n, rfl⟩ := hone' v (Array.mem_toList_iff.1 hv)
        exact ⟨rfl, rfl⟩
      · rw [hflat] at hj
        have hlt : j < (Conv.runesFrom ⟨l.toArray⟩ l.length 0 #[]).size := by simpa [runesAV] using lt_of_get hj
        refine ⟨(Conv.runesFrom ⟨l.toArray⟩ l.length 0 #[])[j], ?_, ?_⟩
        · rw [Nat.zero_add, hce j]
          simp [Array.getElem?_append, hlt]
        · simp only [runesAV, List.getElem?_map, Array.getElem?_toList, Array.getElem?_eq_getElem hlt, Option.map_some, Option.some.injEq] at hj
          subst hj
          exact rel_ofCell _
    · cases h
  · rename_i e o z' xs h1 h2 ex
    have hs := (hL src (by rw [h1]; simp)).1
    have hd := (hL d (by rw [h2]; simp)).1
    rw [h1] at hs
    rw [h2] at hd
    simp only [TKOk] at hs hd
    rw [ex] at rx
    split at h
    · rename_i h3
      have he := (hL e (by rw [h3]; simp)).1
      rw [h3] at he
      simp only [TKOk] at he
      cases h
      have hrun := run_unbytes (P := P) rx hp
      generalize hv : a.eval x = v at rx hrun
      cases rx with
      | sl _ _ _ ad len cap val hl =>
        refine ⟨_, w, G, ?_, s.inv, .refl _ _ _, .str _⟩
        simp [execOp, hv, run_convert_bytes_string w src d e ad len cap hs he hd, hrun]
    · cases h
  · cases h
end
end Go.Proofs.YthaicajgfioogaaDoor.V
