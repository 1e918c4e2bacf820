/- append. -/
import Derived.Test.YthaicajgfioogaaDoorVh
set_option linter.unusedSimpArgs false
set_option linter.unusedVariables false
namespace Go.Proofs.YthaicajgfioogaaDoor.V
open Go

theorem cell_row {w : World} {b j : Nat} {arr : Array Value} {T : TypeId} {fr : Nat × Nat} (h : w.heap[b]? = some (.cells arr T fr)) : w.cell? ⟨b, j, none⟩ = arr[j]? := by simp [World.cell?, h]
/-- What is appended: its elements, and what the model reads of it. -/
def srcAV (y : AV) : Option (Nat × List AV) :=
  match y with
  | .sl _ z ys => some (z, ys)
  | .str l => some (1, l.map byteAV)
  | _ => none
theorem src_run {P : Program} {G : Gh} {H : List AObj} {w : World} {y : AV} {v : Value} (r : Rel G H w y v) {z : Nat} {ys : List AV} (hy : srcAV y = some (z, ys)) {size : Nat} (hz : ys ≠ [] → z = size) (hs : 0 < size) :
    (∀ w', (Builtin.lenOf v).run P w' = .ok ys.length w') ∧ (∀ x ∈ ys, x.flat.length = size ∧ x.okv = true) ∧
    ∃ vs : List Value, vs.length = (flats ys).length ∧ (∀ (j : Nat) x u, (flats ys)[j]? = some x → vs[j]? = some u → Rel G H w x u ∧ u.oneCell' = true) ∧
      (∀ w', (∀ a, w'.cell? a = w.cell? a) → (Builtin.firstCells size ys.length v).run P w' = .ok vs.toArray w') := by
  have hone : ∀ (j : Nat) x u, (∀ x ∈ ys, x.okv = true) → (flats ys)[j]? = some x → Rel G H w x u → u.oneCell' = true := fun j x u hok e ru => by
    have hx : x.scalar = true := by
      have hm := List.mem_iff_getElem?.2 ⟨j, e⟩
      obtain ⟨y, hy, hxy⟩ := List.mem_flatMap.1 hm
      have := hok y hy
      by_cases hg : y.scalar = true
      · rw [scalar_flat hg] at hxy
        simp at hxy
        subst hxy
        exact hg
      · cases y <;> simp_all [AV.okv, AV.flat]
    exact (scalar_cells ru hx).2.1
  unfold srcAV at hy
  split at hy
  · rename_i o z' ys'
    cases hy
    have huni := r.sl_uni
    have hok := r.sl_okv
    rcases Nat.eq_zero_or_pos ys.length with h0 | h0
    · have hnil : ys = [] := List.eq_nil_of_length_eq_zero h0
      subst hnil
      cases r with
      | sl _ _ _ ad len cap val hl =>
        simp at hl
        subst hl
        refine ⟨fun w' => by simp [Builtin.lenOf], fun x hx => (by cases hx), [], rfl, fun j x u e => by simp [flats] at e, fun w' _ => ?_⟩
        cases ad with
        | none => simp [Builtin.firstCells]
        | some ad => simp [Builtin.firstCells, loadCells, loadCellsFrom]
    · have hzs := hz (by intro e; rw [e] at h0; simp at h0)
      subst hzs
      obtain ⟨b, off, cap, rfl, _, hc⟩ := r.sl_addr hs h0
      obtain ⟨vs, hl, h1, h2⟩ := exists_vals (G := G) (H := H) (w := w) (b := b) (off := off) (flats ys) (fun j y e => (hc j y e).2)
      refine ⟨fun w' => by simp [Builtin.lenOf], fun x hx => ⟨huni x hx, hok x hx⟩, vs, hl, fun j x u e e' => ⟨h2 j x u e e', hone j x u hok e (h2 j x u e e')⟩, fun w' hw' => ?_⟩
      exact run_firstCells_some w' z ys.length ⟨b, off, none⟩ ys.length cap vs (by rw [hl, flats_len huni]) (fun j v e => by rw [addr_add, hw']; exact h1 j v e)
  · rename_i l
    cases hy
    have hv := rel_str_inv r
    subst hv
    have hfl := flats_ones byteAV (fun _ => rfl) l
    by_cases hnil : l = []
    · subst hnil
      refine ⟨fun w' => by simp [Builtin.lenOf]; rfl, fun x hx => (by cases hx), [], rfl, fun j x u e => by simp [flats] at e, fun w' _ => ?_⟩
      simp [Builtin.firstCells]
    · have hzs := hz (by simpa using hnil)
      subst hzs
      refine ⟨fun w' => by simp [Builtin.lenOf, size_mk], fun x hx => ?_, l.map fun b => .int .u8 b.toNat, by rw [hfl]; simp, fun j x u e e' => ?_, fun w' _ => ?_⟩
      · obtain ⟨b, _, rfl⟩ := List.mem_map.1 hx
        exact ⟨rfl, rfl⟩
      · rw [hfl] at e
        simp only [List.getElem?_map] at e e'
        cases hb : l[j]? with
        | none => rw [hb] at e; cases e
        | some c =>
          rw [hb] at e e'
          cases e
          cases e'
          exact ⟨.lit _, rfl⟩
      · simp only [Builtin.firstCells, Sem.run_pure]
        congr 1
        apply Array.ext'
        simp
  · cases hy

def setOwn (G : Gh) (k : Nat) (a : Option Addr) (cap : Nat) : Gh := { G with own := fun i => if i = k then (a, cap) else G.own i }

/-- A slice whose capacity is its length, with a token of its own. -/
theorem mint {G : Gh} {H : List AObj} {w : World} (hi : HInv G H w) {z : Nat} {xs : List AV} {a : Option Addr} {len cap : Nat} (r : Rel G H w (.sl .full z xs) (.slice a len cap)) {s : Nat} (hs : 0 < s) (hz : xs ≠ [] → z = s) :
    HInv (setOwn G H.length a cap) (H ++ [.grow s xs.length]) w ∧ Step G H w (setOwn G H.length a cap) (H ++ [.grow s xs.length]) w ∧ Rel (setOwn G H.length a cap) (H ++ [.grow s xs.length]) w (.sl (.tok H.length) s xs) (.slice a len cap) := by
  have hown : ∀ k, k ≠ H.length → (setOwn G H.length a cap).own k = G.own k := fun k hk => by simp [setOwn, hk]
  have hnew : (setOwn G H.length a cap).own H.length = (a, cap) := by simp [setOwn]
  have st : Step G H w (setOwn G H.length a cap) (H ++ [.grow s xs.length]) w := by
    refine ⟨rfl, rfl, rfl, Nat.le_refl _, fun _ _ h => h, fun _ _ _ => rfl, fun _ _ => rfl, fun k => ?_⟩
    cases ek : H[k]? with
    | none => trivial
    | some o =>
      have hk := lt_of_get ek
      have ea : (H ++ [.grow s xs.length])[k]? = some o := by rw [List.getElem?_append_left hk]; exact ek
      cases o with
      | cells cs => exact ⟨⟨cs, ea, rfl⟩, rfl⟩
      | grow s n => exact ⟨n, ea, Nat.le_refl _, fun _ => hown k (by omega)⟩
  have hcl : cap = xs.length := by
    cases r with
    | sl _ _ _ _ _ _ val hl hcap huni hc hr hf => rw [hf rfl, hl]
  refine ⟨⟨hi.lt, fun k cs ek => ?_, fun k s' n ek => ?_, fun k k' b e1 e2 => ?_, hi.tabs.step st⟩, st, ?_⟩
  · rcases get_snoc ek with ⟨hk, ek⟩ | ⟨rfl, ek'⟩
    · obtain ⟨arr, T, fr, hb, hsz, hr, hf⟩ := hi.cells k cs ek
      exact ⟨arr, T, fr, hb, hsz, fun j x v ex ev => (hr j x v ex ev).mono st, hf⟩
    · cases ek'
  · rcases get_snoc ek with ⟨hk, ek⟩ | ⟨rfl, ek'⟩
    · rw [hown k (by omega)]
      exact hi.grow k s' n ek
    · cases ek'
      rw [hnew]
      exact ⟨hs, Nat.le_of_eq hcl.symm, fun h => absurd h (by simp only; omega)⟩
  · have hst : ∀ k b, site (setOwn G H.length a cap) (H ++ [.grow s xs.length]) k = some b → site G H k = some b := fun k b e => by
      unfold site at e ⊢
      cases ek : (H ++ [AObj.grow s xs.length])[k]? with
      | none => rw [ek] at e; cases e
      | some o =>
        rw [ek] at e
        rcases get_snoc ek with ⟨hk, ek'⟩ | ⟨rfl, ek'⟩
        · rw [ek']
          rw [hown k (by omega)] at e
          exact e
        · subst ek'
          simp only [hnew] at e
          cases a with
          | none => cases e
          | some a => simp only at e; rw [if_neg (by omega)] at e; cases e
    exact hi.apart k k' b (hst k b e1) (hst k' b e2)
  · cases r with
    | sl _ _ _ _ _ _ val hl hcap huni hc hr hf ha =>
      refine .sl (.tok H.length) s xs _ _ _ val hl hcap (fun x hx => ⟨?_, (huni x hx).2⟩) hc (fun j x e => (hr j x e).mono st) (fun e => by cases e) ha (fun k e => ?_)
      · rw [(huni x hx).1]; exact hz (by intro h; rw [h] at hx; cases hx)
      · cases e
        exact ⟨xs.length, List.getElem?_concat_length, Nat.le_refl _, fun _ => hnew⟩

/-- A token's slice grows in place. -/
def addCells (G : Gh) (b lo hi : Nat) : Gh := { G with imm := fun c j => G.imm c j ∨ (c = b ∧ lo ≤ j ∧ j < hi) }
theorem grow_here {G : Gh} {H : List AObj} {w w' : World} (hi : HInv G H w) {k s n m : Nat} (hk : H[k]? = some (.grow s n)) {b off : Nat} {arr : Array Value} {T : TypeId} {fr : Nat × Nat} (ea : (G.own k).1 = some ⟨b, off, none⟩)
    (hb : w.heap[b]? = some (.cells arr T fr)) (hsz : off + (G.own k).2 * s ≤ arr.size) (hj : ∀ j, off + n * s ≤ j → j < off + (G.own k).2 * s → ¬ G.imm b j ∧ w.frozen? ⟨b, j, none⟩ = false) (hm : 0 < m) (hcap : n + m ≤ (G.own k).2)
    {vs : List Value} (hvs : vs.length = m * s) {arr' : Array Value} (harr : arr' = (vs.zipIdx 0).foldl (fun cs (x : Value × Nat) => cs.setIfInBounds (off + n * s + x.2) x.1) arr) (ho : Over b arr' T fr w w') :
    HInv (addCells G b (off + n * s) (off + (n + m) * s)) (H.set k (.grow s (n + m))) w' ∧ Step G H w (addCells G b (off + n * s) (off + (n + m) * s)) (H.set k (.grow s (n + m))) w' ∧
    (∀ j, j < m * s → w'.cell? ⟨b, off + n * s + j, none⟩ = vs[j]?) := by
  have hs : 0 < s := (hi.grow k s n hk).1
  have hkl := lt_of_get hk
  have hle : (n + m) * s ≤ (G.own k).2 * s := Nat.mul_le_mul_right s hcap
  have hms : (n + m) * s = n * s + m * s := Nat.add_mul ..
  have hmpos : 0 < m * s := Nat.mul_pos hm hs
  have hget : (H.set k (.grow s (n + m)))[k]? = some (.grow s (n + m)) := by simp [hkl]
  obtain ⟨g1, g2⟩ := Great.foldl_set (off + n * s) vs 0 arr
  rw [← harr] at g1 g2
  have hsite : site G H k = some b := site_grow hk (by omega) ea
  have hold : ∀ j, ¬ (off + n * s ≤ j ∧ j < off + n * s + m * s) → w'.cell? ⟨b, j, none⟩ = w.cell? ⟨b, j, none⟩ := fun j hjn => by
    rw [cell_row ho.row, cell_row hb, g2 j, if_neg (by rw [hvs]; omega)]
  have hnewc : ∀ j, j < m * s → w'.cell? ⟨b, off + n * s + j, none⟩ = vs[j]? := fun j hj' => by
    rw [cell_row ho.row, g2, if_pos (by rw [hvs]; omega)]
    simp only [Nat.add_zero]
    rw [show off + n * s + j - (off + n * s) = j by omega]
  have hfz : ∀ c off, w'.frozen? ⟨c, off, none⟩ = w.frozen? ⟨c, off, none⟩ := fun c off => by
    by_cases e : c = b
    · subst e; simp [World.frozen?, ho.row, hb]
    · exact World.frozen?_of_block (w := w) (ho.other c e)
  have hnb : ¬ G.imm b (off + n * s) := (hj _ (Nat.le_refl _) (by omega)).1
  have st : Step G H w (addCells G b (off + n * s) (off + (n + m) * s)) (H.set k (.grow s (n + m))) w' := by
    refine ⟨ho.os, ho.tape, ho.output, Nat.le_of_eq ho.size.symm, fun _ _ h => .inl h, fun c j h => ?_, fun c h => ho.other c fun e => hnb (e ▸ h _), fun i => ?_⟩
    · by_cases e : c = b
      · subst e
        exact hold j fun hin => (hj j hin.1 (by omega)).1 h
      · exact World.cell?_of_block (w := w) (ho.other c e)
    · cases ei : H[i]? with
      | none => trivial
      | some o =>
        by_cases hik : i = k
        · subst hik
          rw [hk] at ei
          cases ei
          exact ⟨n + m, hget, by omega, fun _ => rfl⟩
        · have ea : (H.set k (.grow s (n + m)))[i]? = some o := by rw [List.getElem?_set_ne (fun h => hik h.symm)]; exact ei
          cases o with
          | cells c => exact ⟨⟨c, ea, rfl⟩, rfl⟩
          | grow s n => exact ⟨n, ea, Nat.le_refl _, fun _ => rfl⟩
  refine ⟨⟨fun c j h => ?_, fun i c ei => ?_, fun i s' n' ei => ?_, fun i j c e1 e2 => ?_, hi.tabs.step st⟩, st, hnewc⟩
  · rw [ho.size]
    rcases h with h | ⟨rfl, _⟩
    · exact hi.lt c j h
    · exact heap_lt hb
  · rcases get_set ei with ⟨hik, ei'⟩ | ⟨rfl, ei', _⟩
    · obtain ⟨a1, T1, f1, hb1, hs1, hr1, hg1, hg2⟩ := hi.cells i c ei'
      have hne : G.blk i ≠ b := fun e => hik (hi.apart i k b (by simp [site, ei', e]) hsite)
      refine ⟨a1, T1, f1, (ho.other _ hne).trans hb1, hs1, fun j x v ex ev => (hr1 j x v ex ev).mono st, fun off h => ?_, fun off h => (hfz _ _).trans (hg2 off h)⟩
      rcases h with h | ⟨h, _⟩
      · exact hg1 off h
      · exact hne h
    · cases ei'
  · rcases get_set ei with ⟨hik, ei'⟩ | ⟨rfl, ei', _⟩
    · obtain ⟨h0, h1, h2⟩ := hi.grow i s' n' ei'
      refine ⟨h0, h1, fun hn => ?_⟩
      obtain ⟨b1, off1, a1, T1, f1, ea1, hb1, hsz1, hj1⟩ := h2 hn
      have hne : b1 ≠ b := fun e => hik (hi.apart i k b (e ▸ site_grow ei' hn ea1) hsite)
      refine ⟨b1, off1, a1, T1, f1, ea1, (ho.other _ hne).trans hb1, hsz1, fun j h3 h4 => ⟨?_, (hfz _ _).trans (hj1 j h3 h4).2⟩⟩
      rintro (h | ⟨h, _⟩)
      · exact (hj1 j h3 h4).1 h
      · exact hne h
    · cases ei'
      refine ⟨hs, hcap, fun hn => ?_⟩
      refine ⟨b, off, arr', T, fr, ea, ho.row, by rw [g1]; exact hsz, fun j h3 h4 => ⟨?_, (hfz _ _).trans (hj j (by omega) h4).2⟩⟩
      rintro (h | ⟨_, h5, h6⟩)
      · exact (hj j (by omega) h4).1 h
      · omega
  · have hst : ∀ i c, site (addCells G b (off + n * s) (off + (n + m) * s)) (H.set k (.grow s (n + m))) i = some c → site G H i = some c := fun i c e => by
      by_cases hik : i = k
      · subst hik
        unfold site at e
        rw [hget] at e
        rw [hsite]
        have : (addCells G b (off + n * s) (off + (n + m) * s)).own i = (some ⟨b, off, none⟩, (G.own i).2) := by rw [← ea]; rfl
        rw [this] at e
        simp only at e
        split at e
        · cases e; rfl
        · cases e
      · unfold site at e ⊢
        rw [List.getElem?_set_ne (fun h => hik h.symm)] at e
        exact e
    exact hi.apart i j c (hst i c e1) (hst j c e2)

/-- A token's slice moves to a new block. -/
def moveTo (G : Gh) (k b hi cap : Nat) : Gh := { imm := fun c j => G.imm c j ∨ (c = b ∧ j < hi), blk := G.blk, own := fun i => if i = k then (some ⟨b, 0, none⟩, cap) else G.own i }
theorem grow_move {G : Gh} {H : List AObj} {w w1 : World} (hi : HInv G H w) (hm1 : More w w1) (hsz1 : w1.heap.size = w.heap.size) {k s n m : Nat} (hk : H[k]? = some (.grow s n)) (hm : 0 < m) {cap : Nat} (hcap : n + m ≤ cap) {arr : Array Value} {e : TypeId}
    (harr : arr.size = cap * s) :
    HInv (moveTo G k w.heap.size ((n + m) * s) cap) (H.set k (.grow s (n + m))) (w1.alloc (.cells arr e)) ∧ Step G H w (moveTo G k w.heap.size ((n + m) * s) cap) (H.set k (.grow s (n + m))) (w1.alloc (.cells arr e)) ∧
    (∀ j, (w1.alloc (.cells arr e)).cell? ⟨w.heap.size, j, none⟩ = arr[j]?) := by
  have hs : 0 < s := (hi.grow k s n hk).1
  have hkl := lt_of_get hk
  have hm' := hm1.alloc (.cells arr e)
  have hb : (w1.alloc (.cells arr e)).heap[w.heap.size]? = some (.cells arr e) := by
    show (w1.heap.push (.cells arr e))[w.heap.size]? = _
    rw [← hsz1]
    simp
  have hget : (H.set k (.grow s (n + m)))[k]? = some (.grow s (n + m)) := by simp [hkl]
  have hown : ∀ i, i ≠ k → (moveTo G k w.heap.size ((n + m) * s) cap).own i = G.own i := fun i hi => by simp [moveTo, hi]
  have hnew : (moveTo G k w.heap.size ((n + m) * s) cap).own k = (some ⟨w.heap.size, 0, none⟩, cap) := by simp [moveTo]
  have st : Step G H w (moveTo G k w.heap.size ((n + m) * s) cap) (H.set k (.grow s (n + m))) (w1.alloc (.cells arr e)) := by
    refine ⟨hm'.os, hm'.tape, hm'.output, hm'.size, fun _ _ h => .inl h, fun c j h => World.cell?_of_block (w := w) (hm'.old c (hi.lt c j h)), fun c h => hm'.old c (hi.lt c 0 (h 0)), fun i => ?_⟩
    cases ei : H[i]? with
    | none => trivial
    | some o =>
      by_cases hik : i = k
      · subst hik
        rw [hk] at ei
        cases ei
        exact ⟨n + m, hget, by omega, fun h => by omega⟩
      · have ea : (H.set k (.grow s (n + m)))[i]? = some o := by rw [List.getElem?_set_ne (fun h => hik h.symm)]; exact ei
        cases o with
        | cells c => exact ⟨⟨c, ea, rfl⟩, rfl⟩
        | grow s n => exact ⟨n, ea, Nat.le_refl _, fun _ => hown i hik⟩
  refine ⟨⟨fun c j h => ?_, fun i c ei => ?_, fun i s' n' ei => ?_, fun i j c e1 e2 => ?_, hi.tabs.step st⟩, st, fun j => by simp [World.cell?, hb]⟩
  · rcases h with h | ⟨rfl, _⟩
    · exact Nat.lt_of_lt_of_le (hi.lt c j h) hm'.size
    · exact heap_lt hb
  · rcases get_set ei with ⟨hik, ei'⟩ | ⟨rfl, ei', _⟩
    · obtain ⟨a1, T1, f1, hb1, hs1, hr1, hg1, hg2⟩ := hi.cells i c ei'
      have hlt := heap_lt hb1
      refine ⟨a1, T1, f1, (hm'.old _ hlt).trans hb1, hs1, fun j x v ex ev => (hr1 j x v ex ev).mono st, fun off h => ?_, fun off h => (World.frozen?_of_block (w := w) (hm'.old _ hlt)).trans (hg2 off h)⟩
      rcases h with h | ⟨h, _⟩
      · exact hg1 off h
      · have : G.blk i = w.heap.size := h
        omega
    · cases ei'
  · rcases get_set ei with ⟨hik, ei'⟩ | ⟨rfl, ei', _⟩
    · rw [hown i hik]
      obtain ⟨h0, h1, h2⟩ := hi.grow i s' n' ei'
      refine ⟨h0, h1, fun hn => ?_⟩
      obtain ⟨b1, off1, a1, T1, f1, ea1, hb1, hsz1', hj1⟩ := h2 hn
      have hlt := heap_lt hb1
      refine ⟨b1, off1, a1, T1, f1, ea1, (hm'.old _ hlt).trans hb1, hsz1', fun j h3 h4 => ⟨?_, (World.frozen?_of_block (w := w) (hm'.old _ hlt)).trans (hj1 j h3 h4).2⟩⟩
      rintro (h | ⟨h, _⟩)
      · exact (hj1 j h3 h4).1 h
      · omega
    · cases ei'
      rw [hnew]
      refine ⟨hs, hcap, fun hn => ⟨w.heap.size, 0, arr, e, (0, 0), rfl, hb, by rw [harr]; simp, fun j h3 h4 => ⟨?_, ?_⟩⟩⟩
      · rintro (h | ⟨_, h⟩)
        · exact Nat.lt_irrefl _ (hi.lt _ j h)
        · omega
      · simp [World.frozen?, hb]
  · have hst : ∀ i c, site (moveTo G k w.heap.size ((n + m) * s) cap) (H.set k (.grow s (n + m))) i = some c → (i ≠ k ∧ site G H i = some c) ∨ (i = k ∧ c = w.heap.size) := fun i c e => by
      by_cases hik : i = k
      · right
        subst hik
        unfold site at e
        rw [hget] at e
        simp only [hnew] at e
        split at e
        · cases e; exact ⟨rfl, rfl⟩
        · cases e
      · left
        refine ⟨hik, ?_⟩
        unfold site at e ⊢
        rw [List.getElem?_set_ne (fun h => hik h.symm), hown i hik] at e
        exact e
    rcases hst i c e1 with ⟨h1, h2⟩ | ⟨h1, h2⟩ <;> rcases hst j c e2 with ⟨h3, h4⟩ | ⟨h3, h4⟩
    · exact hi.apart i j c h2 h4
    · have := hi.site_lt h2; omega
    · have := hi.site_lt h4; omega
    · omega

end Go.Proofs.YthaicajgfioogaaDoor.V
