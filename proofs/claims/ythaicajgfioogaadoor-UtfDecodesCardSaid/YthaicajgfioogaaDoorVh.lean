/- Memory that is written: new objects, stores, append. -/
import Derived.Test.YthaicajgfioogaaDoorVg
set_option linter.unusedSimpArgs false
set_option linter.unusedVariables false
namespace Go.Proofs.YthaicajgfioogaaDoor.V
open Go

/-- A world with one row overwritten. -/
structure Over (b : Nat) (arr : Array Value) (T : TypeId) (fr : Nat × Nat) (w w' : World) : Prop where
  os : w'.os = w.os
  tape : w'.tape = w.tape
  output : w'.output = w.output
  size : w'.heap.size = w.heap.size
  other : ∀ c, c ≠ b → w'.heap[c]? = w.heap[c]?
  row : w'.heap[b]? = some (.cells arr T fr)

def overAt (arr : Array Value) (off : Nat) (vs : List Value) : Array Value := (vs.zipIdx 0).foldl (fun cs (x : Value × Nat) => cs.setIfInBounds (off + x.2) x.1) arr

theorem run_storeCells {P : Program} {b : Nat} {T : TypeId} {fr : Nat × Nat} (off : Nat) : ∀ (vs : List Value) (i : Nat) (w : World) (arr : Array Value), w.heap[b]? = some (.cells arr T fr) → (∀ v ∈ vs, v.oneCell' = true) → off + i + vs.length ≤ arr.size →
    (∀ j, off + i ≤ j → j < off + i + vs.length → w.frozen? ⟨b, j, none⟩ = false) →
    ∃ w', (storeCells ⟨b, off, none⟩ vs i).run P w = .ok () w' ∧ Over b ((vs.zipIdx i).foldl (fun cs (x : Value × Nat) => cs.setIfInBounds (off + x.2) x.1) arr) T fr w w'
  | [], i, w, arr, hb, _, _, _ => ⟨w, rfl, rfl, rfl, rfl, rfl, fun _ _ => rfl, hb⟩
  | v :: r, i, w, arr, hb, h1, hl, hf => by
    simp only [List.length_cons] at hl hf
    have hcell : w.cell? ⟨b, off + i, none⟩ = some arr[off + i] := by simp [World.cell?, hb, Array.getElem?_eq_getElem (show off + i < arr.size by omega)]
    have hfz := hf (off + i) (by omega) (by omega)
    have hb1 : (w.setCell ⟨b, off + i, none⟩ v).heap[b]? = some (.cells (arr.setIfInBounds (off + i) v) T fr) := by
      simp [World.setCell, Array.getElem?_modify, hb]
    have hfr : ∀ j, (w.setCell ⟨b, off + i, none⟩ v).frozen? ⟨b, j, none⟩ = w.frozen? ⟨b, j, none⟩ := fun j => World.frozen?_setCell ..
    obtain ⟨w', hr, ho⟩ := run_storeCells (P := P) off r (i + 1) (w.setCell ⟨b, off + i, none⟩ v) (arr.setIfInBounds (off + i) v) hb1 (fun u hu => h1 u (List.mem_cons_of_mem _ hu)) (by simp; omega) (fun j h2 h3 => by rw [hfr]; exact hf j (by omega) (by omega))
    refine ⟨w', ?_, ?_⟩
    · simp only [storeCells, Sem.run_bind, addr_add, run_store P w _ v _ (h1 v (List.mem_cons_self ..)), hcell, hfz, Bool.false_eq_true, if_false, Result.andThen_ok, hr]
    · refine ⟨ho.os, ho.tape, ho.output, ho.size.trans (by simp), fun c hc => (ho.other c hc).trans (RowKit.Below.heap_setCell _ _ _ _ hc), ?_⟩
      simpa [List.zipIdx_cons] using ho.row

theorem relcells_over {G : Gh} {H : List AObj} {w : World} {cs xs : List AV} {arr : Array Value} {off : Nat} {vs : List Value} (h : RelCells G H w cs arr) (hx : vs.length = xs.length) (hv : ∀ (j : Nat) x v, xs[j]? = some x → vs[j]? = some v → Rel G H w x v) :
    RelCells G H w (aset cs off xs) ((vs.zipIdx 0).foldl (fun cs (x : Value × Nat) => cs.setIfInBounds (off + x.2) x.1) arr) := by
  obtain ⟨g1, g2⟩ := Great.foldl_set off vs 0 arr
  refine ⟨by rw [g1, aset_len]; exact h.1, fun j y u e e' => ?_⟩
  rw [g2 j] at e'
  rw [aset_get] at e
  simp only [Nat.add_zero] at e'
  by_cases hin : off ≤ j ∧ j < off + xs.length ∧ j < cs.length
  · rw [if_pos hin] at e
    rw [if_pos (by rw [hx, h.1]; exact hin)] at e'
    exact hv _ y u e e'
  · rw [if_neg hin] at e
    rw [if_neg (by rw [hx, h.1]; exact hin)] at e'
    exact h.2 j y u e e'

theorem get_snoc {α : Type} {H : List α} {o : α} {k : Nat} {x : α} (e : (H ++ [o])[k]? = some x) : (k < H.length ∧ H[k]? = some x) ∨ (k = H.length ∧ x = o) := by
  by_cases hk : k < H.length
  · rw [List.getElem?_append_left hk] at e; exact .inl ⟨hk, e⟩
  · rw [List.getElem?_append_right (by omega)] at e
    have := lt_of_get e
    simp at this
    have hk' : k = H.length := by omega
    subst hk'
    simp at e
    exact .inr ⟨rfl, e.symm⟩

/-- A new object of cells, in a new block. -/
def addBlk (G : Gh) (H : List AObj) (b : Nat) : Gh := { G with blk := fun k => if k = H.length then b else G.blk k }
theorem new_cells {G : Gh} {H : List AObj} {w w1 : World} (hi : HInv G H w) (hm : More w w1) (hsz : w1.heap.size = w.heap.size) {cs : List AV} {arr : Array Value} (hr : RelCells G H w cs arr) (e : TypeId) (fr : Nat × Nat) (hfr : cs.length ≤ fr.1 ∨ fr.2 = 0) :
    HInv (addBlk G H w.heap.size) (H ++ [.cells cs]) (w1.alloc (.cells arr e fr)) ∧ Step G H w (addBlk G H w.heap.size) (H ++ [.cells cs]) (w1.alloc (.cells arr e fr)) ∧ (addBlk G H w.heap.size).blk H.length = w.heap.size := by
  have hm' := hm.alloc (.cells arr e fr)
  have hb : (w1.alloc (.cells arr e fr)).heap[w.heap.size]? = some (.cells arr e fr) := by
    show (w1.heap.push (.cells arr e fr))[w.heap.size]? = _
    rw [← hsz]
    simp
  have hblk : ∀ k, k ≠ H.length → (addBlk G H w.heap.size).blk k = G.blk k := fun k hk => by simp [addBlk, hk]
  have st : Step G H w (addBlk G H w.heap.size) (H ++ [.cells cs]) (w1.alloc (.cells arr e fr)) := by
    refine ⟨hm'.os, hm'.tape, hm'.output, hm'.size, fun _ _ h => h, fun b off h => World.cell?_of_block (w := w) (hm'.old b (hi.lt b off h)), fun b h => hm'.old b (hi.lt b 0 (h 0)), fun k => ?_⟩
    cases ek : H[k]? with
    | none => trivial
    | some o =>
      have hk := lt_of_get ek
      have ea : (H ++ [.cells cs])[k]? = some o := by rw [List.getElem?_append_left hk]; exact ek
      cases o with
      | cells cs' => exact ⟨⟨cs', ea, rfl⟩, hblk k (by omega)⟩
      | grow s n => exact ⟨n, ea, Nat.le_refl _, fun _ => rfl⟩
  have hnew : (addBlk G H w.heap.size).blk H.length = w.heap.size := by simp [addBlk]
  refine ⟨⟨fun b off h => Nat.lt_of_lt_of_le (hi.lt b off h) hm'.size, fun k cs' ek => ?_, fun k s n ek => ?_, fun k k' b e1 e2 => ?_, hi.tabs.step st⟩, st, hnew⟩
  · rcases get_snoc ek with ⟨hk, ek⟩ | ⟨rfl, ek'⟩
    · obtain ⟨arr', T, fr', hb', hs', hr', hf1, hf2⟩ := hi.cells k cs' ek
      rw [hblk k (by omega)]
      have hlt := heap_lt hb'
      exact ⟨arr', T, fr', (hm'.old _ hlt).trans hb', hs', fun j x v ex ev => (hr' j x v ex ev).mono st, hf1, fun off ho => (World.frozen?_of_block (w := w) (hm'.old _ hlt)).trans (hf2 off ho)⟩
    · cases ek'
      rw [hnew]
      refine ⟨arr, e, fr, hb, hr.1, fun j x v ex ev => (hr.2 j x v ex ev).mono st, fun off h => Nat.lt_irrefl _ (hi.lt _ off h), fun off ho => ?_⟩
      unfold World.frozen?
      rw [show (w1.alloc (.cells arr e fr)).heap[(Addr.mk w.heap.size off none).block]? = some (.cells arr e fr) from hb]
      obtain ⟨lo, hi'⟩ := fr
      simp only [Bool.and_eq_false_iff, decide_eq_false_iff_not]
      simp only at hfr
      omega
  · rcases get_snoc ek with ⟨hk, ek⟩ | ⟨rfl, ek'⟩
    · obtain ⟨h0, h1, h2⟩ := hi.grow k s n ek
      refine ⟨h0, h1, fun hn => ?_⟩
      obtain ⟨b, off, arr', T, fr', ea, hb', hsz', hj⟩ := h2 hn
      have hlt := heap_lt hb'
      exact ⟨b, off, arr', T, fr', ea, (hm'.old _ hlt).trans hb', hsz', fun j h3 h4 => ⟨(hj j h3 h4).1, (World.frozen?_of_block (w := w) (hm'.old _ hlt)).trans (hj j h3 h4).2⟩⟩
    · cases ek'
  · have hs : ∀ k b, site (addBlk G H w.heap.size) (H ++ [.cells cs]) k = some b → (k < H.length ∧ site G H k = some b) ∨ (k = H.length ∧ b = w.heap.size) := fun k b e => by
      unfold site at e ⊢
      cases ek : (H ++ [AObj.cells cs])[k]? with
      | none => rw [ek] at e; cases e
      | some o =>
        rcases get_snoc ek with ⟨hk, ek'⟩ | ⟨rfl, ek'⟩
        · left
          rw [ek] at e
          rw [ek']
          rw [hblk k (by omega)] at e
          exact ⟨hk, e⟩
        · right
          subst ek'
          rw [ek] at e
          simp only [hnew, Option.some.injEq] at e
          exact ⟨rfl, e.symm⟩
    rcases hs k b e1 with ⟨h1, h2⟩ | ⟨h1, h2⟩ <;> rcases hs k' b e2 with ⟨h3, h4⟩ | ⟨h3, h4⟩
    · exact hi.apart k k' b h2 h4
    · have := hi.site_lt h2; omega
    · have := hi.site_lt h4; omega
    · omega

theorem get_set {α : Type} {H : List α} {k : Nat} {o : α} {i : Nat} {x : α} (e : (H.set k o)[i]? = some x) : (i ≠ k ∧ H[i]? = some x) ∨ (i = k ∧ x = o ∧ k < H.length) := by
  by_cases hi : i = k
  · subst hi
    have hl := lt_of_get e
    simp at hl
    simp [hl] at e
    exact .inr ⟨rfl, e.symm, hl⟩
  · rw [List.getElem?_set_ne (fun h => hi h.symm)] at e
    exact .inl ⟨hi, e⟩

theorem site_grow {G : Gh} {H : List AObj} {k s n b off : Nat} (hk : H[k]? = some (.grow s n)) (hn : n < (G.own k).2) (ea : (G.own k).1 = some ⟨b, off, none⟩) : site G H k = some b := by
  unfold site
  rw [hk]
  have : G.own k = (some ⟨b, off, none⟩, (G.own k).2) := by rw [← ea]
  rw [this]
  simp only
  rw [if_pos hn]
/-- A row of an object is written. -/
theorem over_cells {G : Gh} {H : List AObj} {w w' : World} (hi : HInv G H w) {k : Nat} {cs cs' : List AV} (hk : H[k]? = some (.cells cs)) (hl : cs'.length = cs.length) {arr' : Array Value} {T : TypeId} {fr : Nat × Nat} {arr : Array Value}
    (hb : w.heap[G.blk k]? = some (.cells arr T fr)) (ho : Over (G.blk k) arr' T fr w w') (hr : RelCells G H w cs' arr') : HInv G (H.set k (.cells cs')) w' ∧ Step G H w G (H.set k (.cells cs')) w' := by
  obtain ⟨arr0, T0, fr0, hb0, hs0, hr0, hf1, hf2⟩ := hi.cells k cs hk
  rw [hb] at hb0
  cases hb0
  have hkl := lt_of_get hk
  have hget : (H.set k (.cells cs'))[k]? = some (.cells cs') := by simp [hkl]
  have st : Step G H w G (H.set k (.cells cs')) w' := by
    refine ⟨ho.os, ho.tape, ho.output, Nat.le_of_eq ho.size.symm, fun _ _ h => h, fun b off h => World.cell?_of_block (w := w) (ho.other b fun e => hf1 off (e ▸ h)), fun b h => ho.other b fun e => hf1 0 (e ▸ h 0), fun i => ?_⟩
    cases ei : H[i]? with
    | none => trivial
    | some o =>
      by_cases hik : i = k
      · subst hik
        rw [hk] at ei
        cases ei
        exact ⟨⟨cs', hget, hl⟩, rfl⟩
      · have ea : (H.set k (.cells cs'))[i]? = some o := by rw [List.getElem?_set_ne (fun h => hik h.symm)]; exact ei
        cases o with
        | cells c => exact ⟨⟨c, ea, rfl⟩, rfl⟩
        | grow s n => exact ⟨n, ea, Nat.le_refl _, fun _ => rfl⟩
  have hfz : ∀ b off, w'.frozen? ⟨b, off, none⟩ = w.frozen? ⟨b, off, none⟩ := fun b off => by
    by_cases e : b = G.blk k
    · subst e
      simp [World.frozen?, ho.row, hb]
    · exact World.frozen?_of_block (w := w) (ho.other b e)
  refine ⟨⟨fun b off h => by rw [ho.size]; exact hi.lt b off h, fun i c ei => ?_, fun i s n ei => ?_, fun i j b e1 e2 => ?_, hi.tabs.step st⟩, st⟩
  · rcases get_set ei with ⟨hik, ei'⟩ | ⟨rfl, ei', _⟩
    · obtain ⟨a1, T1, f1, hb1, hs1, hr1, hg1, hg2⟩ := hi.cells i c ei'
      have hne : G.blk i ≠ G.blk k := fun e => hik (hi.apart i k (G.blk k) (by simp [site, ei', e]) (by simp [site, hk]))
      exact ⟨a1, T1, f1, (ho.other _ hne).trans hb1, hs1, fun j x v ex ev => (hr1 j x v ex ev).mono st, hg1, fun off h => (hfz _ _).trans (hg2 off h)⟩
    · cases ei'
      exact ⟨arr', T, fr, ho.row, hr.1, fun j x v ex ev => (hr.2 j x v ex ev).mono st, hf1, fun off h => (hfz _ _).trans (hf2 off (by omega))⟩
  · rcases get_set ei with ⟨hik, ei'⟩ | ⟨rfl, ei', _⟩
    · obtain ⟨h0, h1, h2⟩ := hi.grow i s n ei'
      refine ⟨h0, h1, fun hn => ?_⟩
      obtain ⟨b, off, a1, T1, f1, ea, hb1, hsz1, hj⟩ := h2 hn
      have hne : b ≠ G.blk k := fun e => hik (hi.apart i k (G.blk k) (e ▸ site_grow ei' hn ea) (by simp [site, hk]))
      exact ⟨b, off, a1, T1, f1, ea, (ho.other _ hne).trans hb1, hsz1, fun j h3 h4 => ⟨(hj j h3 h4).1, (hfz _ _).trans (hj j h3 h4).2⟩⟩
    · cases ei'
  · have hs : ∀ i b, site G (H.set k (.cells cs')) i = some b → site G H i = some b := fun i b e => by
      unfold site at e ⊢
      cases ei : (H.set k (AObj.cells cs'))[i]? with
      | none => rw [ei] at e; cases e
      | some o =>
        rw [ei] at e
        rcases get_set ei with ⟨_, ei'⟩ | ⟨rfl, ei', _⟩
        · rw [ei']; exact e
        · subst ei'; rw [hk]; exact e
    exact hi.apart i j b (hs i b e1) (hs j b e2)

section
variable {P : Program} {env : Env} {H : List AObj} {dst : Option Tmp} {ty : TypeId} {pos : String} {after : Array Edge} {guard : Option (Nat × Bool)}

theorem rel_mp_new {G : Gh} {w : World} {cs : List AV} {b : Nat} (hb : G.blk H.length = b) : Rel G (H ++ [.cells cs]) w (.mp H.length 0) (.pointer (some ⟨b, 0, none⟩)) := by
  have := Rel.mp (G := G) (H := H ++ [.cells cs]) (w := w) H.length 0 cs List.getElem?_concat_length
  rwa [hb] at this
/-- A new variable that is written. -/
theorem aop_box_mut {e : TypeId} {x : Operand} {K : AV → List AObj → Prop} (hx : (ev env x).okv = true) (hk : K (.mp H.length 0) (H ++ [.cells (ev env x).flat])) : AOp P ⟨dst, .box e x, ty, pos, after, guard⟩ env H K := .of_run fun n G a w s => by
  have rx := s.ev x
  obtain ⟨hsz, hcell⟩ := cells_of_rel rx hx
  obtain ⟨hi, hst, hb⟩ := new_cells s.inv (More.refl w) rfl (cs := (ev env x).flat) (arr := (a.eval x).cells) ⟨hsz, fun j y u e e' => (hcell j y u e e').1⟩ e (0, 0) (.inr rfl)
  refine ⟨.pointer (some ⟨w.heap.size, 0, none⟩), _, .mp H.length 0, _, _, by simp [execOp, Instr.box, newVar, newRow], hi, hst, ?_, hk⟩
  exact rel_mp_new hb
theorem aop_alloc {L : Tab} (hL : TabOk P L) {e : TypeId} {K : AV → List AObj → Prop} (hx : known (L e) = true) (hk : K (.mp H.length 0) (H ++ [.cells (L e).zero])) : AOp P ⟨dst, .alloc e, ty, pos, after, guard⟩ env H K := .of_run fun n G a w s => by
  obtain ⟨_, i, z, hi', _, _, _, hz, hzs, _⟩ := hL e (known_ne hx)
  have hzr := rel_zero (H := H) (G := G) (w := w) hzs
  obtain ⟨hi, hst, hb⟩ := new_cells s.inv (More.refl w) rfl hzr e (0, 0) (.inr rfl)
  refine ⟨.pointer (some ⟨w.heap.size, 0, none⟩), _, .mp H.length 0, _, _, by simp [execOp, Instr.alloc, zeroValue, typeInfo, hi', hz, newVar, newRow], hi, hst, ?_, hk⟩
  exact rel_mp_new hb

theorem rel_list {G : Gh} {w : World} {x : AV} {v : Value} (r : Rel G H w x v) (h : x.okv = true) : v.cells.toList.length = x.flat.length ∧ (∀ (j : Nat) y u, x.flat[j]? = some y → v.cells.toList[j]? = some u → Rel G H w y u) ∧ (∀ u ∈ v.cells.toList, u.oneCell' = true) := by
  obtain ⟨h1, h2⟩ := cells_of_rel r h
  refine ⟨by simpa using h1, fun j y u e e' => (h2 j y u e (by simpa using e')).1, fun u hu => ?_⟩
  obtain ⟨j, hj⟩ := List.mem_iff_getElem?.1 hu
  have hlt : j < x.flat.length := by rw [← h1]; simpa using lt_of_get hj
  exact (h2 j _ u (List.getElem?_eq_getElem hlt) (by simpa using hj)).2

/-- A store into an object. -/
theorem aop_store {L : Tab} (hL : TabOk P L) {t : TypeId} {ad x : Operand} {k off : Nat} {cs : List AV} {K : AV → List AObj → Prop} (ha : ev env ad = .mp k off) (hk : H[k]? = some (.cells cs))
    (hp : known (L t) = true ∧ (ev env x).okv = true ∧ (ev env x).flat.length = (L t).size ∧ off + (L t).size ≤ cs.length) (hK : K .any (H.set k (.cells (aset cs off (ev env x).flat)))) :
    AOp P ⟨dst, .store t ad x, ty, pos, after, guard⟩ env H K := .of_skip fun n G a w s => by
  obtain ⟨h1, h2, h3, h4⟩ := hp
  have ra := s.ev ad
  rw [ha] at ra
  have rx := s.ev x
  generalize hv : a.eval ad = v at ra
  cases ra with
  | mp _ _ cs0 hk0 =>
    obtain ⟨arr, T, fr, hb, hsz, hr, hf1, hf2⟩ := s.inv.cells k cs hk
    obtain ⟨l1, l2, l3⟩ := rel_list rx h2
    obtain ⟨w', hrun, ho⟩ := run_storeCells (P := P) off (a.eval x).cells.toList 0 w arr hb l3 (by omega) (fun j hj1 hj2 => hf2 j (by omega))
    have hrel := relcells_over (off := off) (xs := (ev env x).flat) (vs := (a.eval x).cells.toList) ⟨hsz, hr⟩ l1 l2
    obtain ⟨hi, hst⟩ := over_cells s.inv hk (by rw [aset_len]) hb ho hrel
    refine ⟨w', G, _, ?_, hi, hst, hK⟩
    have hsize : (a.eval x).cells.size = (L t).size := by rw [← h3, ← l1]; simp
    simp [execOp, Instr.storeAt, Instr.sureAddr, storeVar, hv, run_size hL (known_ne h1), hsize, hrun]
/-- A string's bytes, in memory that is written. -/
def vcBytes (L : Tab) (src d : TypeId) (x : AV) (H : List AObj) (K : AV → List AObj → Prop) [Tag K] : Prop :=
  match (L src).k, (L d).k, x with
  | .str, .slice e, .str l => (L e).k = .int .u8 ∧ ∀ z, K (.msl H.length 0 l.length (l.length + z)) (H ++ [.cells (l.map byteAV ++ List.replicate z (.int .u8 0))])
  | _, _, _ => False
theorem aop_bytes {L : Tab} (hL : TabOk P L) {src d : TypeId} {x : Operand} {K : AV → List AObj → Prop} (h : vcBytes L src d (ev env x) H K) : AOp P ⟨dst, .convert src d x, ty, pos, after, guard⟩ env H K := .of_run fun n G a w s => by
  have rx := s.ev x
  unfold vcBytes at h
  split at h
  · rename_i e l h1 h2 ex
    have hs := (hL src (by rw [h1]; simp)).1
    have hd := (hL d (by rw [h2]; simp)).1
    rw [h1] at hs
    rw [h2] at hd
    simp only [TKOk] at hs hd
    rw [ex] at rx
    have hx := rel_str_inv rx
    obtain ⟨h3, hK⟩ := h
    have he := (hL e (by rw [h3]; simp)).1
    rw [h3] at he
    simp only [TKOk] at he
    have hrun := run_bytes_of_string (P := P) w src d e ⟨l.toArray⟩ hs hd he
    have hge : l.length ≤ grownCap w l.length 0 e := grownCap_ge w _ 0 e
    have hrc : RelCells G H w (l.map byteAV ++ List.replicate (grownCap w l.length 0 e - l.length) (.int .u8 0)) (bytesRow ⟨l.toArray⟩ (grownCap w l.length 0 e)) := by
      refine ⟨by simp [bytesRow, size_mk], fun j y u ey eu => ?_⟩
      have key : ∃ v, y = .lit v ∧ u = v := by
        by_cases hj : j < l.length
        · rw [List.getElem?_append_left (by simpa using hj)] at ey
          simp only [List.getElem?_map, List.getElem?_eq_getElem hj, Option.map_some, Option.some.injEq] at ey
          refine ⟨.int .u8 l[j].toNat, ey.symm, ?_⟩
          simp [bytesRow, hj, Array.getElem?_append] at eu
          exact eu.symm
        · rw [List.getElem?_append_right (by simpa using Nat.le_of_not_lt hj)] at ey
          rw [List.getElem?_replicate] at ey
          split at ey
          · cases ey
            refine ⟨_, rfl, ?_⟩
            simp only [bytesRow, Array.getElem?_append, Array.size_map, List.size_toArray, hj, if_false, Array.getElem?_replicate] at eu
            split at eu
            · exact (Option.some.inj eu).symm
            · cases eu
          · cases ey
      obtain ⟨v, rfl, rfl⟩ := key
      exact .lit _
    obtain ⟨hi, hst, hb⟩ := new_cells s.inv (More.refl w).drew rfl hrc e ((bytesRow ⟨l.toArray⟩ (grownCap w l.length 0 e)).size, (bytesRow ⟨l.toArray⟩ (grownCap w l.length 0 e)).size + 1) (.inl (by rw [hrc.1]; exact Nat.le_refl _))
    have hrel : Rel (addBlk G H w.heap.size) (H ++ [.cells (l.map byteAV ++ List.replicate (grownCap w l.length 0 e - l.length) (.int .u8 0))]) (w.drew.alloc (.cells (bytesRow ⟨l.toArray⟩ (grownCap w l.length 0 e)) e ((bytesRow ⟨l.toArray⟩ (grownCap w l.length 0 e)).size, (bytesRow ⟨l.toArray⟩ (grownCap w l.length 0 e)).size + 1)))
        (.msl H.length 0 l.length (l.length + (grownCap w l.length 0 e - l.length))) (.slice (some ⟨w.heap.size, 0, none⟩) l.length (grownCap w l.length 0 e)) := by
      have := Rel.msl (G := addBlk G H w.heap.size) (H := H ++ [.cells (l.map byteAV ++ List.replicate (grownCap w l.length 0 e - l.length) (.int .u8 0))])
        (w := w.drew.alloc (.cells (bytesRow ⟨l.toArray⟩ (grownCap w l.length 0 e)) e ((bytesRow ⟨l.toArray⟩ (grownCap w l.length 0 e)).size, (bytesRow ⟨l.toArray⟩ (grownCap w l.length 0 e)).size + 1))) H.length 0 l.length (grownCap w l.length 0 e) _ List.getElem?_concat_length hge
      rw [hb] at this
      rwa [show l.length + (grownCap w l.length 0 e - l.length) = grownCap w l.length 0 e by omega]
    refine ⟨_, _, _, _, _, by simp [execOp, hx]; rw [hrun]; rfl, hi, hst, ?_, hK _⟩
    exact hrel
  · exact h.elim

/-- The bytes of memory that is written, as a string. -/
def qConvH (L : Tab) (H : List AObj) (src d : TypeId) (x : AV) : Option (Prop × AV) :=
  match x with
  | .msl k off len _ => match (L src).k, (L d).k, H[k]? with
    | .slice e, .str, some (.cells cs) => some ((L e).k = .int .u8 ∧ off + len ≤ cs.length ∧ isBytes ((cs.drop off).take len), .str (unbytes ((cs.drop off).take len)))
    | _, _, _ => none
  | x => qConv L src d x
theorem quiet_convH {L : Tab} (hL : TabOk P L) {src d : TypeId} {x : Operand} {p : Prop} {z : AV} (h : qConvH L H src d (ev env x) = some (p, z)) :
    Quiet P ⟨dst, .convert src d x, ty, pos, after, guard⟩ env H p z := by
  unfold qConvH at h
  split at h
  · rename_i k off len cap ex
    split at h
    · rename_i e cs h1 h2 hk
      cases h
      intro hp _ G a w s
      obtain ⟨h3, h4, h5⟩ := hp
      have rx := s.ev x
      have hs := (hL src (by rw [h1]; simp)).1
      have hd := (hL d (by rw [h2]; simp)).1
      have he := (hL e (by rw [h3]; simp)).1
      rw [h1] at hs
      rw [h2] at hd
      rw [h3] at he
      simp only [TKOk] at hs hd he
      rw [ex] at rx
      generalize hv : a.eval x = v at rx
      cases rx with
      | msl _ _ _ _ cs0 hk0 hcap =>
        obtain ⟨arr, T, fr, hb, hsz, hr, hf1, hf2⟩ := s.inv.cells k cs hk
        unfold isBytes at h5
        generalize unbytes ((cs.drop off).take len) = l at h5
        have hll : l.length = len := by
          have := congrArg List.length h5
          simp only [List.length_take, List.length_drop, List.length_map] at this
          omega
        have hld : (loadCells ⟨G.blk k, off, none⟩ len).run P w = .ok ((l.map fun b => (b.toNat : Int)).map (Value.int .u8)).toArray w := by
          have := run_loadCells_list (P := P) w ⟨G.blk k, off, none⟩ ((l.map fun b => (b.toNat : Int)).map (Value.int .u8)) (fun j v e => by
            rw [addr_add]
            have hj : j < l.length := by simpa using lt_of_get e
            have hcs : cs[off + j]? = some (byteAV l[j]) := by
              have := congrArg (·[j]?) h5
              simp only [List.getElem?_take, List.getElem?_drop, List.getElem?_map, List.getElem?_eq_getElem hj, Option.map_some] at this
              rw [if_pos (by omega)] at this
              exact this
            have hja : off + j < arr.size := by omega
            have hrl := hr _ _ _ hcs (Array.getElem?_eq_getElem hja)
            have := rel_lit_inv hrl
            simp [hj] at e
            simp only [World.cell?, hb]
            rw [Array.getElem?_eq_getElem hja, this, ← e]
            rfl)
          simpa [hll] using this
        have hrun : (Conv.bytesToString (.slice (some ⟨G.blk k, off, none⟩) len cap)).run P w = .ok (.string ⟨l.toArray⟩) w := by
          rw [run_bytesToString (P := P) w _ _ cap _ hld]
          have := foldl_push l []
          rw [List.nil_append] at this
          rw [← this]
          rfl
        refine ⟨_, w, G, ?_, s.inv, .refl _ _ _, .str _⟩
        simp [execOp, hv, run_convert_bytes_string w src d e _ _ cap hs he hd, hrun]
    · cases h
  · rename_i y hne
    exact quiet_conv hL h
end
end Go.Proofs.YthaicajgfioogaaDoor.V
