/- append. -/
import Derived.Test.YtdahdbnfknmmgaaGreatDoorW1
import Derived.Lib.SliceRun
import Derived.WalkSpells
import Derived.Laws.MakeOwn
import Derived.Lib.AppendZeros
import Derived.Lib.UnsafeStr
section
set_option linter.unusedSimpArgs false
set_option linter.unusedVariables false
namespace Go.Proofs.YtdahdbnfknmmgaaGreatDoor.V
open Go

theorem cell_row {w : World} {b j : Nat} {arr : Array Value} {T : TypeId} {fr : Nat × Nat} (h : w.heap[b]? = some (.cells arr T fr)) : w.cell? ⟨b, j, none⟩ = arr[j]? := by simp [World.cell?, h]
/-- What is appended: its elements, and what the model reads of it. -/
def srcAV (y : AV) : Option (Nat × List AV) :=
  match y with
  | .sl _ z ys => some (z, ys)
  | .str l => some (1, l.map byteAV)
  | _ => none
theorem src_run {P : Program} {G : Gh} {H : List AObj} {w : World} {y : AV} {v : Value} (r : Rel G H w y v) {z : Nat} {ys : List AV} (hy : srcAV y = some (z, ys)) {size : Nat} (hz : ys ≠ [] → z = size) (hs : 0 < size) :
    (∀ w', (Builtin.lenOf v).run P w' = .ok ys.length w') ∧ (∀ x ∈ ys, x.flat.length = size ∧ x.okv = true) ∧
    ∃ vs : List Value, vs.length = (flats ys).length ∧ (∀ (j : Nat) x u, (flats ys)[j]? = some x → vs[j]? = some u → Rel G H w x u ∧ u.oneCell' = true) ∧
      (∀ w', (∀ a, w'.cell? a = w.cell? a) → (Builtin.firstCells size ys.length v).run P w' = .ok vs.toArray w') := by
  have hone : ∀ (j : Nat) x u, (∀ x ∈ ys, x.okv = true) → (flats ys)[j]? = some x → Rel G H w x u → u.oneCell' = true := fun j x u hok e ru => by
    have hx : x.scalar = true := by
      have hm := List.mem_iff_getElem?.2 ⟨j, e⟩
      obtain ⟨y, hy, hxy⟩ := List.mem_flatMap.1 hm
      have := hok y hy
      by_cases hg : y.scalar = true
      · rw [scalar_flat hg] at hxy
        simp at hxy
        subst hxy
        exact hg
      · cases y <;> simp_all [AV.okv, AV.flat]
    exact (scalar_cells ru hx).2.1
  unfold srcAV at hy
  split at hy
  · rename_i o z' ys'
    cases hy
    have huni := r.sl_uni
    have hok := r.sl_okv
    rcases Nat.eq_zero_or_pos ys.length with h0 | h0
    · have hnil : ys = [] := List.eq_nil_of_length_eq_zero h0
      subst hnil
      cases r with
      | sl _ _ _ ad len cap val hl =>
        simp at hl
        subst hl
        refine ⟨fun w' => by simp [Builtin.lenOf], fun x hx => (by cases hx), [], rfl, fun j x u e => by simp [flats] at e, fun w' _ => ?_⟩
        cases ad with
        | none => simp [Builtin.firstCells]
        | some ad => simp [Builtin.firstCells, loadCells, loadCellsFrom]
    · have hzs := hz (by intro e; rw [e] at h0; simp at h0)
      subst hzs
      obtain ⟨b, off, cap, rfl, _, hc⟩ := r.sl_addr hs h0
      obtain ⟨vs, hl, h1, h2⟩ := exists_vals (G := G) (H := H) (w := w) (b := b) (off := off) (flats ys) (fun j y e => (hc j y e).2)
      refine ⟨fun w' => by simp [Builtin.lenOf], fun x hx => ⟨huni x hx, hok x hx⟩, vs, hl, fun j x u e e' => ⟨h2 j x u e e', hone j x u hok e (h2 j x u e e')⟩, fun w' hw' => ?_⟩
      exact run_firstCells_some w' z ys.length ⟨b, off, none⟩ ys.length cap vs (by rw [hl, flats_len huni]) (fun j v e => by rw [addr_add, hw']; exact h1 j v e)
  · rename_i l
    cases hy
    have hv := rel_str_inv r
    subst hv
    have hfl := flats_ones byteAV (fun _ => rfl) l
    by_cases hnil : l = []
    · subst hnil
      refine ⟨fun w' => by simp [Builtin.lenOf]; rfl, fun x hx => (by cases hx), [], rfl, fun j x u e => by simp [flats] at e, fun w' _ => ?_⟩
      simp [Builtin.firstCells]
    · have hzs := hz (by simpa using hnil)
      subst hzs
      refine ⟨fun w' => by simp [Builtin.lenOf, size_mk], fun x hx => ?_, l.map fun b => .int .u8 b.toNat, by rw [hfl]; simp, fun j x u e e' => ?_, fun w' _ => ?_⟩
      · obtain ⟨b, _, rfl⟩ := List.mem_map.1 hx
        exact ⟨rfl, rfl⟩
      · rw [hfl] at e
        simp only [List.getElem?_map] at e e'
        cases hb : l[j]? with
        | none => rw [hb] at e; cases e
        | some c =>
          rw [hb] at e e'
          cases e
          cases e'
          exact ⟨.lit _, rfl⟩
      · simp only [Builtin.firstCells, Sem.run_pure]
        congr 1
        apply Array.ext'
        simp
  · cases hy

def setOwn (G : Gh) (k : Nat) (a : Option Addr) (cap : Nat) : Gh := { G with own := fun i => if i = k then (a, cap) else G.own i }

/-- A slice whose capacity is its length, with a token of its own. -/
theorem mint (ot : Option TypeId) {G : Gh} {H : List AObj} {w : World} (hi : HInv G H w) {z : Nat} {xs : List AV} {a : Option Addr} {len cap : Nat} (r : Rel G H w (.sl .full z xs) (.slice a len cap)) {s : Nat} (hs : 0 < s) (hz : xs ≠ [] → z = s) (hot : ot ≠ none → a = none ∧ cap = 0) :
    HInv (setOwn G H.length a cap) (H ++ [.grow s xs.length ot]) w ∧ Step G H w (setOwn G H.length a cap) (H ++ [.grow s xs.length ot]) w ∧ Rel (setOwn G H.length a cap) (H ++ [.grow s xs.length ot]) w (.sl (.tok H.length) s xs) (.slice a len cap) := by
  have hown : ∀ k, k ≠ H.length → (setOwn G H.length a cap).own k = G.own k := fun k hk => by simp [setOwn, hk]
  have hnew : (setOwn G H.length a cap).own H.length = (a, cap) := by simp [setOwn]
  have st : Step G H w (setOwn G H.length a cap) (H ++ [.grow s xs.length ot]) w := by
    refine ⟨rfl, rfl, rfl, Nat.le_refl _, fun _ _ h => h, fun _ _ _ => rfl, fun _ _ => rfl, fun k => ?_⟩
    cases ek : H[k]? with
    | none => exact nl_snoc ek (fun _ _ e => by cases e)
    | some o =>
      have hk := lt_of_get ek
      have ea : (H ++ [.grow s xs.length ot])[k]? = some o := by rw [List.getElem?_append_left hk]; exact ek
      cases o with
      | cells t cs => exact ⟨⟨_, ea, rfl⟩, rfl, hown k (by omega)⟩
      | gone => exact ⟨ea, rfl, hown k (by omega)⟩
      | loop r E => exact ⟨ea, rfl, hown k (by omega)⟩
      | grow s n t => exact ⟨n, ea, Nat.le_refl _, fun _ => hown k (by omega)⟩
  have hcl : cap = xs.length := by
    cases r with
    | sl _ _ _ _ _ _ val hl hcap huni hc hr hf => rw [hf rfl, hl]
  refine ⟨⟨hi.lt, fun k sh cs ek => ?_, fun k s' n t ek => ?_, fun k k' b e1 e2 => ?_, hi.tabs.step st⟩, st, ?_⟩
  · rcases get_snoc ek with ⟨hk, ek⟩ | ⟨rfl, ek'⟩
    · obtain ⟨arr, T, fr, hb, hsz, hr, hf1, hf2, hf3⟩ := hi.cells k sh cs ek
      exact ⟨arr, T, fr, hb, hsz, fun j x v ex ev => (hr j x v ex ev).mono st, hf1, hf2, shapeOk_own (hown k (by omega)) hf3⟩
    · cases ek'
  · rcases get_snoc ek with ⟨hk, ek⟩ | ⟨rfl, ek'⟩
    · rw [hown k (by omega)]
      obtain ⟨h1, h2, h3, h4⟩ := hi.grow k s' n t ek
      exact ⟨h1, h2, h3, typedOk_keep h4 (hown k (by omega)) (Nat.le_refl _) (fun b arr e fr hb => ⟨arr, hb, rfl⟩) (fun _ _ _ _ _ _ _ _ _ hx _ => hx)⟩
    · cases ek'
      rw [hnew]
      refine ⟨hs, Nat.le_of_eq hcl.symm, fun h => absurd h (by simp only; omega), fun e he => .inl ?_⟩
      rw [hnew, (hot (by rw [he]; simp)).1, (hot (by rw [he]; simp)).2]
  · have hst : ∀ k b, site (setOwn G H.length a cap) (H ++ [.grow s xs.length ot]) k = some b → site G H k = some b := fun k b e => by
      unfold site at e ⊢
      cases ek : (H ++ [AObj.grow s xs.length ot])[k]? with
      | none => rw [ek] at e; cases e
      | some o =>
        rw [ek] at e
        rcases get_snoc ek with ⟨hk, ek'⟩ | ⟨rfl, ek'⟩
        · rw [ek']
          rw [hown k (by omega)] at e
          exact e
        · subst ek'
          simp only [hnew] at e
          cases a with
          | none => cases e
          | some a =>
            simp only at e
            rw [if_neg (by
              rintro (h | ⟨h, _⟩)
              · omega
              · have := (hot (by intro h0; rw [h0] at h; cases h)).1
                cases this)] at e
            cases e
    exact hi.apart k k' b (hst k b e1) (hst k' b e2)
  · cases r with
    | sl _ _ _ _ _ _ val hl hcap huni hc hr hf ha =>
      refine .sl (.tok H.length) s xs _ _ _ val hl hcap (fun x hx => ⟨?_, (huni x hx).2⟩) hc (fun j x e => (hr j x e).mono st) (fun e => by cases e) ha (fun k e => ?_)
      · rw [(huni x hx).1]; exact hz (by intro h; rw [h] at hx; cases hx)
      · cases e
        exact ⟨xs.length, ot, List.getElem?_concat_length, Nat.le_refl _, fun _ => hnew⟩

/-- A token's slice grows in place. -/
def addCells (G : Gh) (b lo hi : Nat) : Gh := { G with imm := fun c j => G.imm c j ∨ (c = b ∧ lo ≤ j ∧ j < hi) }
theorem grow_here {G : Gh} {H : List AObj} {w w' : World} (hi : HInv G H w) {k s n m : Nat} {ot : Option TypeId} (hk : H[k]? = some (.grow s n ot)) {b off : Nat} {arr : Array Value} {T : TypeId} {fr : Nat × Nat} (ea : (G.own k).1 = some ⟨b, off, none⟩)
    (hb : w.heap[b]? = some (.cells arr T fr)) (hsz : off + (G.own k).2 * s ≤ arr.size) (hj : ∀ j, off + n * s ≤ j → j < off + (G.own k).2 * s → ¬ G.imm b j ∧ w.frozen? ⟨b, j, none⟩ = false) (hm : 0 < m) (hcap : n + m ≤ (G.own k).2)
    {vs : List Value} (hvs : vs.length = m * s) {arr' : Array Value} (harr : arr' = (vs.zipIdx 0).foldl (fun cs (x : Value × Nat) => cs.setIfInBounds (off + n * s + x.2) x.1) arr) (ho : Over b arr' T fr w w') :
    HInv (addCells G b (off + n * s) (off + (n + m) * s)) (H.set k (.grow s (n + m) ot)) w' ∧ Step G H w (addCells G b (off + n * s) (off + (n + m) * s)) (H.set k (.grow s (n + m) ot)) w' ∧
    (∀ j, j < m * s → w'.cell? ⟨b, off + n * s + j, none⟩ = vs[j]?) := by
  have hs : 0 < s := (hi.grow k s n ot hk).1
  have hkl := lt_of_get hk
  have hle : (n + m) * s ≤ (G.own k).2 * s := Nat.mul_le_mul_right s hcap
  have hms : (n + m) * s = n * s + m * s := Nat.add_mul ..
  have hmpos : 0 < m * s := Nat.mul_pos hm hs
  have hget : (H.set k (.grow s (n + m) ot))[k]? = some (.grow s (n + m) ot) := by simp [hkl]
  obtain ⟨g1, g2⟩ := Great.foldl_set (off + n * s) vs 0 arr
  rw [← harr] at g1 g2
  have hsite : site G H k = some b := site_grow hk (by omega) ea
  have hold : ∀ j, ¬ (off + n * s ≤ j ∧ j < off + n * s + m * s) → w'.cell? ⟨b, j, none⟩ = w.cell? ⟨b, j, none⟩ := fun j hjn => by
    rw [cell_row ho.row, cell_row hb, g2 j, if_neg (by rw [hvs]; omega)]
  have hnewc : ∀ j, j < m * s → w'.cell? ⟨b, off + n * s + j, none⟩ = vs[j]? := fun j hj' => by
    rw [cell_row ho.row, g2, if_pos (by rw [hvs]; omega)]
    simp only [Nat.add_zero]
    rw [show off + n * s + j - (off + n * s) = j by omega]
  have hfz : ∀ c off, w'.frozen? ⟨c, off, none⟩ = w.frozen? ⟨c, off, none⟩ := fun c off => by
    by_cases e : c = b
    · subst e; simp [World.frozen?, ho.row, hb]
    · exact World.frozen?_of_block (w := w) (ho.other c e)
  have hnb : ¬ G.imm b (off + n * s) := (hj _ (Nat.le_refl _) (by omega)).1
  have st : Step G H w (addCells G b (off + n * s) (off + (n + m) * s)) (H.set k (.grow s (n + m) ot)) w' := by
    refine ⟨congrArg (fun o => (o, G.lp)) ho.os, ho.tape, ho.output, Nat.le_of_eq ho.size.symm, fun _ _ h => .inl h, fun c j h => ?_, fun c h => ho.other c fun e => hnb (e ▸ h _), fun i => ?_⟩
    · by_cases e : c = b
      · subst e
        exact hold j fun hin => (hj j hin.1 (by omega)).1 h
      · exact World.cell?_of_block (w := w) (ho.other c e)
    · cases ei : H[i]? with
      | none => exact nl_set ei
      | some o =>
        by_cases hik : i = k
        · subst hik
          rw [hk] at ei
          cases ei
          exact ⟨n + m, hget, by omega, fun _ => rfl⟩
        · have ea : (H.set k (.grow s (n + m) ot))[i]? = some o := by rw [List.getElem?_set_ne (fun h => hik h.symm)]; exact ei
          cases o with
          | cells t c => exact ⟨⟨_, ea, rfl⟩, rfl, rfl⟩
          | gone => exact ⟨ea, rfl, rfl⟩
          | loop r E => exact ⟨ea, rfl, rfl⟩
          | grow s n t => exact ⟨n, ea, Nat.le_refl _, fun _ => rfl⟩
  have himk : ∀ (c j : Nat) (a1 : Array Value) (e1 : TypeId) (f1 : Nat × Nat), w.heap[c]? = some (.cells a1 e1 f1) → (addCells G b (off + n * s) (off + (n + m) * s)).imm c j → a1.size ≤ j → G.imm c j := fun c j a1 e1 f1 hc h hj1 => by
    rcases h with h | ⟨rfl, h5, h6⟩
    · exact h
    · rw [hb] at hc
      cases hc
      omega
  refine ⟨⟨fun c j h => ?_, fun i sh c ei => ?_, fun i s' n' t ei => ?_, fun i j c e1 e2 => ?_, hi.tabs.step st⟩, st, hnewc⟩
  · rw [ho.size]
    rcases h with h | ⟨rfl, _⟩
    · exact hi.lt c j h
    · exact heap_lt hb
  · rcases get_set ei with ⟨hik, ei'⟩ | ⟨rfl, ei', _⟩
    · obtain ⟨a1, T1, f1, hb1, hs1, hr1, hg1, hg2, hg3⟩ := hi.cells i sh c ei'
      have hne : G.blk i ≠ b := fun e => hik (hi.apart i k b (by simp [site, ei', e]) hsite)
      refine ⟨a1, T1, f1, (ho.other _ hne).trans hb1, hs1, fun j x v ex ev => (hr1 j x v ex ev).mono st, fun off h => ?_, fun off h => (hfz _ _).trans (hg2 off h), hg3⟩
      rcases h with h | ⟨h, _⟩
      · exact hg1 off h
      · exact hne h
    · cases ei'
  · rcases get_set ei with ⟨hik, ei'⟩ | ⟨rfl, ei', _⟩
    · obtain ⟨h0, h1, h2, hty⟩ := hi.grow i s' n' t ei'
      refine ⟨h0, h1, fun hn => ?_, typedOk_keep hty rfl (Nat.le_refl _) (ho.rows hb g1) (fun c j a1 e1 f1 hc _ _ _ h hj => himk c j a1 e1 f1 hc h hj)⟩
      obtain ⟨b1, off1, a1, T1, f1, ea1, hb1, hsz1, hj1⟩ := h2 hn
      have hne : b1 ≠ b := fun e => hik (hi.apart i k b (e ▸ site_grow ei' hn ea1) hsite)
      refine ⟨b1, off1, a1, T1, f1, ea1, (ho.other _ hne).trans hb1, hsz1, fun j h3 h4 => ⟨?_, (hfz _ _).trans (hj1 j h3 h4).2⟩⟩
      rintro (h | ⟨h, _⟩)
      · exact (hj1 j h3 h4).1 h
      · exact hne h
    · cases ei'
      refine ⟨hs, hcap, fun hn => ?_, typedOk_keep (hi.grow i s n ot hk).2.2.2 rfl (by omega) (ho.rows hb g1) (fun c j a1 e1 f1 hc _ _ _ h hj => himk c j a1 e1 f1 hc h hj)⟩
      refine ⟨b, off, arr', T, fr, ea, ho.row, by rw [g1]; exact hsz, fun j h3 h4 => ⟨?_, (hfz _ _).trans (hj j (by omega) h4).2⟩⟩
      rintro (h | ⟨_, h5, h6⟩)
      · exact (hj j (by omega) h4).1 h
      · omega
  · have hst : ∀ i c, site (addCells G b (off + n * s) (off + (n + m) * s)) (H.set k (.grow s (n + m) ot)) i = some c → site G H i = some c := fun i c e => by
      by_cases hik : i = k
      · subst hik
        unfold site at e
        rw [hget] at e
        rw [hsite]
        have : (addCells G b (off + n * s) (off + (n + m) * s)).own i = (some ⟨b, off, none⟩, (G.own i).2) := by rw [← ea]; rfl
        rw [this] at e
        simp only at e
        split at e
        · cases e; rfl
        · cases e
      · unfold site at e ⊢
        rw [List.getElem?_set_ne (fun h => hik h.symm)] at e
        exact e
    exact hi.apart i j c (hst i c e1) (hst j c e2)

/-- A token's slice moves to a new block. -/
def moveTo (G : Gh) (k b hi cap : Nat) : Gh := { imm := fun c j => G.imm c j ∨ (c = b ∧ j < hi), blk := G.blk, own := fun i => if i = k then (some ⟨b, 0, none⟩, cap) else G.own i, lp := G.lp }
theorem grow_move {G : Gh} {H : List AObj} {w w1 : World} (hi : HInv G H w) (hm1 : More w w1) (hsz1 : w1.heap.size = w.heap.size) {k s n m : Nat} {ot : Option TypeId} (hk : H[k]? = some (.grow s n ot)) (hm : 0 < m) {cap : Nat} (hcap : n + m ≤ cap) {arr : Array Value} {e : TypeId}
    (harr : arr.size = cap * s) (hot : ∀ e', ot = some e' → e' = e) :
    HInv (moveTo G k w.heap.size ((n + m) * s) cap) (H.set k (.grow s (n + m) ot)) (w1.alloc (.cells arr e)) ∧ Step G H w (moveTo G k w.heap.size ((n + m) * s) cap) (H.set k (.grow s (n + m) ot)) (w1.alloc (.cells arr e)) ∧
    (∀ j, (w1.alloc (.cells arr e)).cell? ⟨w.heap.size, j, none⟩ = arr[j]?) := by
  have hs : 0 < s := (hi.grow k s n ot hk).1
  have hkl := lt_of_get hk
  have hm' := hm1.alloc (.cells arr e)
  have hb : (w1.alloc (.cells arr e)).heap[w.heap.size]? = some (.cells arr e) := by
    show (w1.heap.push (.cells arr e))[w.heap.size]? = _
    rw [← hsz1]
    simp
  have hget : (H.set k (.grow s (n + m) ot))[k]? = some (.grow s (n + m) ot) := by simp [hkl]
  have hown : ∀ i, i ≠ k → (moveTo G k w.heap.size ((n + m) * s) cap).own i = G.own i := fun i hi => by simp [moveTo, hi]
  have hnew : (moveTo G k w.heap.size ((n + m) * s) cap).own k = (some ⟨w.heap.size, 0, none⟩, cap) := by simp [moveTo]
  have st : Step G H w (moveTo G k w.heap.size ((n + m) * s) cap) (H.set k (.grow s (n + m) ot)) (w1.alloc (.cells arr e)) := by
    refine ⟨congrArg (fun o => (o, G.lp)) hm'.os, hm'.tape, hm'.output, hm'.size, fun _ _ h => .inl h, fun c j h => World.cell?_of_block (w := w) (hm'.old c (hi.lt c j h)), fun c h => hm'.old c (hi.lt c 0 (h 0)), fun i => ?_⟩
    cases ei : H[i]? with
    | none => exact nl_set ei
    | some o =>
      by_cases hik : i = k
      · subst hik
        rw [hk] at ei
        cases ei
        exact ⟨n + m, hget, by omega, fun h => by omega⟩
      · have ea : (H.set k (.grow s (n + m) ot))[i]? = some o := by rw [List.getElem?_set_ne (fun h => hik h.symm)]; exact ei
        cases o with
        | cells t c => exact ⟨⟨_, ea, rfl⟩, rfl, hown i hik⟩
        | gone => exact ⟨ea, rfl, hown i hik⟩
        | loop r E => exact ⟨ea, rfl, hown i hik⟩
        | grow s n t => exact ⟨n, ea, Nat.le_refl _, fun _ => hown i hik⟩
  refine ⟨⟨fun c j h => ?_, fun i sh c ei => ?_, fun i s' n' t ei => ?_, fun i j c e1 e2 => ?_, hi.tabs.step st⟩, st, fun j => by simp [World.cell?, hb]⟩
  · rcases h with h | ⟨rfl, _⟩
    · exact Nat.lt_of_lt_of_le (hi.lt c j h) hm'.size
    · exact heap_lt hb
  · rcases get_set ei with ⟨hik, ei'⟩ | ⟨rfl, ei', _⟩
    · obtain ⟨a1, T1, f1, hb1, hs1, hr1, hg1, hg2, hg3⟩ := hi.cells i sh c ei'
      have hlt := heap_lt hb1
      refine ⟨a1, T1, f1, (hm'.old _ hlt).trans hb1, hs1, fun j x v ex ev => (hr1 j x v ex ev).mono st, fun off h => ?_, fun off h => (World.frozen?_of_block (w := w) (hm'.old _ hlt)).trans (hg2 off h), shapeOk_own (hown i hik) hg3⟩
      rcases h with h | ⟨h, _⟩
      · exact hg1 off h
      · have : G.blk i = w.heap.size := h
        omega
    · cases ei'
  · rcases get_set ei with ⟨hik, ei'⟩ | ⟨rfl, ei', _⟩
    · rw [hown i hik]
      obtain ⟨h0, h1, h2, hty⟩ := hi.grow i s' n' t ei'
      refine ⟨h0, h1, fun hn => ?_, typedOk_keep hty (hown i hik) (Nat.le_refl _) (fun b arr e fr hb => ⟨arr, (hm'.old _ (heap_lt hb)).trans hb, rfl⟩) fun b off a1 e1 f1 hb1 _ _ _ hx _ => by
        rcases hx with hx | ⟨rfl, _⟩
        · exact hx
        · exact absurd (heap_lt hb1) (Nat.lt_irrefl _)⟩
      obtain ⟨b1, off1, a1, T1, f1, ea1, hb1, hsz1', hj1⟩ := h2 hn
      have hlt := heap_lt hb1
      refine ⟨b1, off1, a1, T1, f1, ea1, (hm'.old _ hlt).trans hb1, hsz1', fun j h3 h4 => ⟨?_, (World.frozen?_of_block (w := w) (hm'.old _ hlt)).trans (hj1 j h3 h4).2⟩⟩
      rintro (h | ⟨h, _⟩)
      · exact (hj1 j h3 h4).1 h
      · omega
    · cases ei'
      rw [hnew]
      refine ⟨hs, hcap, fun hn => ⟨w.heap.size, 0, arr, e, (0, 0), rfl, hb, by rw [harr]; simp, fun j h3 h4 => ⟨?_, ?_⟩⟩, fun e' he' => .inr ⟨w.heap.size, arr, (0, 0), by rw [hnew], by rw [hnew]; show 0 < cap; omega, by rw [hot e' he']; exact hb, by rw [hnew]; exact harr, .inl rfl, fun off' hl hx => by
        have hcs : (n + m) * s ≤ cap * s := Nat.mul_le_mul_right s hcap
        rcases hx with hx | ⟨_, hx⟩
        · exact Nat.lt_irrefl _ (hi.lt _ _ hx)
        · omega⟩⟩
      · rintro (h | ⟨_, h⟩)
        · exact Nat.lt_irrefl _ (hi.lt _ j h)
        · omega
      · simp [World.frozen?, hb]
  · have hst : ∀ i c, site (moveTo G k w.heap.size ((n + m) * s) cap) (H.set k (.grow s (n + m) ot)) i = some c → (i ≠ k ∧ site G H i = some c) ∨ (i = k ∧ c = w.heap.size) := fun i c e => by
      by_cases hik : i = k
      · right
        subst hik
        unfold site at e
        rw [hget] at e
        simp only [hnew] at e
        split at e
        · cases e; exact ⟨rfl, rfl⟩
        · cases e
      · left
        refine ⟨hik, ?_⟩
        unfold site at e ⊢
        rw [List.getElem?_set_ne (fun h => hik h.symm), hown i hik] at e
        exact e
    rcases hst i c e1 with ⟨h1, h2⟩ | ⟨h1, h2⟩ <;> rcases hst j c e2 with ⟨h3, h4⟩ | ⟨h3, h4⟩
    · exact hi.apart i j c h2 h4
    · have := hi.site_lt h2; omega
    · have := hi.site_lt h4; omega
    · omega

end Go.Proofs.YtdahdbnfknmmgaaGreatDoor.V
end

section
set_option linter.unusedSimpArgs false
set_option linter.unusedVariables false
namespace Go.Proofs.YtdahdbnfknmmgaaGreatDoor.V
open Go
variable {ds : List Deferred}

section
variable {P : Program} {env : Env} {H : List AObj} {dst : Option Tmp} {ty : TypeId} {pos : String} {after : Array Edge} {guard : Option (Nat × Bool)}

theorem store_none {w : World} (a : Addr) (i : Nat) : (storeCells a [] i).run P w = .ok () w := rfl

/-- The run of append at a token's slice. -/
theorem append_tok {L : Tab} (hL : TabOk P L) {t t2 e : TypeId} {G : Gh} {w : World} (hi : HInv G H w) {k s : Nat} {xs ys : List AV} {v v2 : Value} {y : AV} {z : Nat} (r : Rel G H w (.sl (.tok k) s xs) v) {ot : Option TypeId} (hk : H[k]? = some (.grow s xs.length ot)) (hot : ∀ e', ot = some e' → e' = e)
    (r2 : Rel G H w y v2) (hy : srcAV y = some (z, ys)) (hz : ys ≠ [] → z = s) (ht : (L t).k = .slice e) (ht2 : (∃ e', (L t2).k = .slice e') ∨ (L t2).k = .str) (he : known (L e) = true) (hse : s = (L e).size) (hby : 0 < (L e).bytes)
    (hroom : (xs.length + ys.length) * (L e).bytes ≤ 140737488355328) :
    ∃ v' w' G', (Builtin.append_ #[t, t2] ty #[v, v2]).run P w = .ok v' w' ∧ HInv G' (H.set k (.grow s (xs.length + ys.length) ot)) w' ∧ Step G H w G' (H.set k (.grow s (xs.length + ys.length) ot)) w' ∧ Rel G' (H.set k (.grow s (xs.length + ys.length) ot)) w' (.sl (.tok k) s (xs ++ ys)) v' := by
  have hs : 0 < s := (hi.grow k s _ _ hk).1
  have hu := (hL t (by rw [ht]; simp)).1
  rw [ht] at hu
  simp only [TKOk] at hu
  obtain ⟨_, ie, zv, hie, hisz, hiby, hzl, hzv, hzs, _⟩ := hL e (known_ne he)
  have hu2 : ∃ d, P.underlying t2 = some d ∧ (∀ q, d ≠ .int q) := by
    rcases ht2 with ⟨e', h⟩ | h
    · have := (hL t2 (by rw [h]; simp)).1
      rw [h] at this
      exact ⟨_, this, fun q => by simp⟩
    · have := (hL t2 (by rw [h]; simp)).1
      rw [h] at this
      exact ⟨_, this, fun q => by simp⟩
  obtain ⟨d2, hd2, hnint⟩ := hu2
  obtain ⟨hlen, huni2, vs, hvl, hvr, hfirst⟩ := src_run (P := P) r2 hy hz hs
  have hvl' : vs.length = ys.length * s := by rw [hvl, flats_len fun x hx => (huni2 x hx).1]
  have r' := r
  cases r with
  | sl _ _ _ a len cap val hl hcap huni hc hr hf ha ho =>
  subst hl
  obtain ⟨n0, t0, hn0, _, hown⟩ := ho k rfl
  rw [hk] at hn0
  cases hn0
  have hown := hown rfl
  have hcap2 : (G.own k).2 = cap := by rw [hown]
  have ha1 : (G.own k).1 = a := by rw [hown]
  have huniAll : ∀ x ∈ xs ++ ys, x.flat.length = s ∧ x.okv = true := fun x hx => by
    rcases List.mem_append.1 hx with h | h
    · exact huni x h
    · exact huni2 x h
  have hxl : (flats xs).length = xs.length * s := flats_len fun x hx => (huni x hx).1
  have hyl : (flats ys).length = ys.length * s := flats_len fun x hx => (huni2 x hx).1
  by_cases hfit : xs.length + ys.length ≤ cap
  · -- in place
    rcases Nat.eq_zero_or_pos ys.length with hm | hm
    · have hnil : ys = [] := List.eq_nil_of_length_eq_zero hm
      subst hnil
      have hvs0 : vs = [] := List.eq_nil_of_length_eq_zero (by rw [hvl']; simp)
      subst hvs0
      have hset : H.set k (.grow s (xs.length + ([] : List AV).length) ot) = H := by
        have : (H[k]'(lt_of_get hk)) = .grow s xs.length ot := by rw [List.getElem?_eq_getElem (lt_of_get hk)] at hk; exact Option.some.inj hk
        simp only [List.length_nil, Nat.add_zero]
        rw [← this, List.set_getElem_self]
      rw [hset, List.append_nil]
      refine ⟨.slice a xs.length cap, w, G, ?_, hi, .refl _ _ _, r'⟩
      have := hfirst w (fun _ => rfl)
      simp only [List.length_nil] at this hlen
      cases a with
      | none => simp [Builtin.append_, run_underlying hu, run_size hL (known_ne he), run_underlying hd2, hlen, hcap, ← hse, this]
      | some a => simp [Builtin.append_, run_underlying hu, run_size hL (known_ne he), run_underlying hd2, hlen, hcap, ← hse, this, store_none]
    · obtain ⟨_, _, hsp, _⟩ := hi.grow k s _ _ hk
      rw [hcap2, ha1] at hsp
      obtain ⟨b, off, arr, T, fr, rfl, hb, hsz, hj⟩ := hsp (by omega)
      have hle : (xs.length + ys.length) * s ≤ cap * s := Nat.mul_le_mul_right s hfit
      have hms : (xs.length + ys.length) * s = xs.length * s + ys.length * s := Nat.add_mul ..
      obtain ⟨w', hrun, hov⟩ := run_storeCells (P := P) (off + xs.length * s) vs 0 w arr hb (fun v hv => by
        obtain ⟨j, hj'⟩ := List.mem_iff_getElem?.1 hv
        have hjl : j < (flats ys).length := by rw [← hvl]; exact lt_of_get hj'
        exact (hvr j _ v (List.getElem?_eq_getElem hjl) hj').2) (by rw [hvl']; omega) (fun j h1 h2 => (hj j (by omega) (by omega)).2)
      obtain ⟨hi', hst, hnewc⟩ := grow_here (m := ys.length) hi hk ha1 hb (by rw [hcap2]; exact hsz) (by rw [hcap2]; exact hj) hm (by rw [hcap2]; exact hfit) hvl' rfl hov
      refine ⟨.slice (some ⟨b, off, none⟩) (xs.length + ys.length) cap, w', _, ?_, hi', hst, ?_⟩
      · have := hfirst w (fun _ => rfl)
        simp [Builtin.append_, run_underlying hu, run_size hL (known_ne he), run_underlying hd2, hlen, hfit, ← hse, this, addr_add, hrun]
      · refine .sl (.tok k) s _ _ _ _ (fun j => if j < xs.length * s then val j else vs.getD (j - xs.length * s) undef) (by simp) hfit huniAll (fun j x e => ?_) (fun j x e => ?_) (fun e => by cases e) (fun _ => rfl) (fun k' e => ?_)
        · refine ⟨b, off, rfl, ?_⟩
          rw [flats_append] at e
          by_cases hjx : j < xs.length * s
          · rw [List.getElem?_append_left (by omega)] at e
            obtain ⟨b', off', ea, him, hw⟩ := hc j x e
            cases ea
            rw [if_pos hjx]
            exact ⟨.inl him, (hst.cell _ _ him).trans hw⟩
          · rw [List.getElem?_append_right (by omega), hxl] at e
            rw [if_neg hjx]
            have hjy : j - xs.length * s < ys.length * s := by rw [← hyl]; exact lt_of_get e
            refine ⟨.inr ⟨rfl, by omega, by omega⟩, ?_⟩
            have h3 := hnewc (j - xs.length * s) hjy
            rw [show off + xs.length * s + (j - xs.length * s) = off + j by omega] at h3
            rw [h3]
            simp [List.getD, List.getElem?_eq_getElem (show j - xs.length * s < vs.length by omega)]
        · rw [flats_append] at e
          by_cases hjx : j < xs.length * s
          · rw [List.getElem?_append_left (by omega)] at e
            rw [if_pos hjx]
            exact (hr j x e).mono hst
          · rw [List.getElem?_append_right (by omega), hxl] at e
            rw [if_neg hjx]
            have hjy : j - xs.length * s < vs.length := by rw [hvl]; exact lt_of_get e
            exact (hvr _ x _ e (by simp [List.getD, List.getElem?_eq_getElem hjy])).1.mono hst
        · cases e
          exact ⟨xs.length + ys.length, ot, by simp [lt_of_get hk], by simp, fun _ => by rw [← hown]; rfl⟩
  · -- a new array
    have hm : 0 < ys.length := by omega
    have hneed : cap < xs.length + ys.length := by omega
    have hnoov : ¬ (Builtin.nextslicecap (xs.length + ys.length) cap * ie.bytes > 281474976710656) := by
      have := growslice_fits (need := xs.length + ys.length) (old := cap) (bytes := ie.bytes) hneed (by rw [hiby]; exact hroom)
      omega
    have hbz : ie.bytes ≠ 0 := by rw [hiby]; omega
    have hold : ∃ us : List Value, us.length = (flats xs).length ∧ (∀ (j : Nat) x u, (flats xs)[j]? = some x → us[j]? = some u → Rel G H w x u) ∧
        (∀ w', (∀ a, w'.cell? a = w.cell? a) → (Builtin.firstCells s xs.length (.slice a xs.length cap)).run P w' = .ok us.toArray w') := by
      rcases Nat.eq_zero_or_pos xs.length with h0 | h0
      · have hnil : xs = [] := List.eq_nil_of_length_eq_zero h0
        subst hnil
        refine ⟨[], rfl, fun j x u e => by simp [flats] at e, fun w' _ => ?_⟩
        cases a with
        | none => simp [Builtin.firstCells]
        | some a => simp [Builtin.firstCells, loadCells, loadCellsFrom]
      · obtain ⟨b, off, cap', ev, _, hcc⟩ := r'.sl_addr hs h0
        cases ev
        obtain ⟨us, hl, h1, h2⟩ := exists_vals (G := G) (H := H) (w := w) (b := b) (off := off) (flats xs) (fun j y e => (hcc j y e).2)
        exact ⟨us, hl, h2, fun w' hw' => run_firstCells_some w' s xs.length ⟨b, off, none⟩ xs.length cap us (by rw [hl, hxl]) (fun j v e => by rw [addr_add, hw']; exact h1 j v e)⟩
    obtain ⟨us, hul, hur, hufirst⟩ := hold
    have hcg : xs.length + ys.length ≤ grownCap w (xs.length + ys.length) cap e := grownCap_ge w _ cap e
    have hzsz : zv.cells.size = s := by
      have := (rel_zero (H := H) (G := G) (w := w) hzs).1
      rw [this, hzl, hse]
    have hrest : (Builtin.zeroCells zv.cells (grownCap w (xs.length + ys.length) cap e - (xs.length + ys.length))).size = (grownCap w (xs.length + ys.length) cap e - (xs.length + ys.length)) * s := by
      simp [Builtin.zeroCells, hzsz]
    have harr : (us.toArray ++ vs.toArray ++ Builtin.zeroCells zv.cells (grownCap w (xs.length + ys.length) cap e - (xs.length + ys.length))).size = grownCap w (xs.length + ys.length) cap e * s := by
      rw [Array.size_append, Array.size_append, hrest, List.size_toArray, List.size_toArray, hul, hvl, hxl, hyl, ← Nat.add_mul, ← Nat.add_mul]
      congr 1
      omega
    obtain ⟨hi', hst, hcell⟩ := grow_move (m := ys.length) (e := e) hi (More.refl w).drew rfl hk hm hcg harr hot
    refine ⟨.slice (some ⟨w.heap.size, 0, none⟩) (xs.length + ys.length) (grownCap w (xs.length + ys.length) cap e), _, _, ?_, hi', hst, ?_⟩
    · have hf1 := hufirst w.drew (fun _ => rfl)
      have hf2 := hfirst w.drew (fun _ => rfl)
      simp only [Builtin.append_, Sem.run_bind, run_underlying hu, run_size hL (known_ne he), run_underlying hd2, Result.andThen_ok, Sem.run_pure, List.getElem?_toArray, List.getElem?_cons_zero, List.getElem?_cons_succ]
      simp only [Bool.false_eq_true, if_false, hlen, Result.andThen_ok, if_neg hfit, typeInfo, Sem.run_bind, run_program, hie, Sem.run_pure, hbz, false_or, and_false]
      simp only [show (2 : Nat) ^ 48 = 281474976710656 from rfl, if_neg hnoov, Sem.run_bind, Sem.run_pure, Result.andThen_ok, run_choose_drew, Question.forced, Bool.false_eq_true, if_false, run_askRoom, ← hse, zeroValue, typeInfo, run_program, hie, hzv, newRow, run_newObj_alloc]
      rw [show (Question.appendCap (xs.length + ys.length) cap e).cut (w.tape w.drawn (Question.appendCap (xs.length + ys.length) cap e)) = grownCap w (xs.length + ys.length) cap e from rfl]
      simp [hf1, hf2]
      refine congrArg (fun c => w.drew.alloc (Obj.cells c e)) ?_
      apply Array.ext'
      simp
    · refine .sl (.tok k) s _ _ _ _ (fun j => if j < xs.length * s then us.getD j undef else vs.getD (j - xs.length * s) undef) (by simp) hcg huniAll (fun j x e => ?_) (fun j x e => ?_) (fun e => by cases e) (fun _ => rfl) (fun k' e => ?_)
      · refine ⟨w.heap.size, 0, rfl, ?_⟩
        rw [Nat.zero_add]
        have hjl : j < (xs.length + ys.length) * s := by
          have := lt_of_get e
          rwa [flats_append, List.length_append, hxl, hyl, ← Nat.add_mul] at this
        refine ⟨.inr ⟨rfl, hjl⟩, ?_⟩
        rw [hcell j]
        rw [Nat.add_mul] at hjl
        by_cases hjx : j < xs.length * s
        · rw [if_pos hjx]
          rw [Array.getElem?_append_left (by rw [Array.size_append, List.size_toArray, List.size_toArray]; omega), Array.getElem?_append_left (by rw [List.size_toArray]; omega)]
          simp [List.getD, List.getElem?_eq_getElem (show j < us.length by omega)]
        · rw [if_neg hjx]
          rw [Array.getElem?_append_left (by rw [Array.size_append, List.size_toArray, List.size_toArray]; omega), Array.getElem?_append_right (by rw [List.size_toArray]; omega)]
          rw [List.size_toArray, hul, hxl]
          simp [List.getD, List.getElem?_eq_getElem (show j - xs.length * s < vs.length by omega)]
      · rw [flats_append] at e
        by_cases hjx : j < xs.length * s
        · rw [List.getElem?_append_left (by omega)] at e
          rw [if_pos hjx]
          exact (hur j x _ e (by simp [List.getD, List.getElem?_eq_getElem (show j < us.length by omega)])).mono hst
        · rw [List.getElem?_append_right (by omega), hxl] at e
          rw [if_neg hjx]
          have hjy : j - xs.length * s < vs.length := by rw [hvl]; exact lt_of_get e
          exact (hvr _ x _ e (by simp [List.getD, List.getElem?_eq_getElem hjy])).1.mono hst
      · cases e
        exact ⟨xs.length + ys.length, ot, by simp [lt_of_get hk], by simp, fun _ => by simp [moveTo]⟩

/-- May append write behind a slice's end, or must it move? -/
def tokTy (o : Option AObj) : Option TypeId :=
  match o with
  | some (.grow _ _ t) => t
  | _ => none
def okTy (t : Option TypeId) (e : TypeId) : Prop :=
  match t with
  | none => True
  | some e' => e' = e
theorem tokTy_grow {s n : Nat} {t : Option TypeId} : tokTy (some (.grow s n t)) = t := rfl
theorem okTy_none {e : TypeId} : okTy none e = True := rfl
theorem okTy_some {a e : TypeId} : okTy (some a) e = (a = e) := rfl
theorem okTy_spec {t : Option TypeId} {e : TypeId} (h : okTy t e) : ∀ e', t = some e' → e' = e := fun e' h' => by subst h'; exact h
def canAppend (H : List AObj) (o : Own) (z : Nat) (xs : List AV) (s : Nat) (e : TypeId) : Prop :=
  match o with
  | .sh => False
  | .full => xs ≠ [] → z = s
  | .tok k => z = s ∧ H[k]? = some (.grow s xs.length (tokTy H[k]?)) ∧ okTy (tokTy H[k]?) e
def appRes (H : List AObj) (o : Own) (s n : Nat) : Own × List AObj :=
  match o with
  | .tok k => (.tok k, H.set k (.grow s n (tokTy H[k]?)))
  | _ => (.tok H.length, H ++ [.grow s n none])
def srcKind : TK → Bool
  | .slice _ | .str => true
  | _ => false

theorem aop_append {L : Tab} (hL : TabOk P L) {t t2 e : TypeId} {x y : Operand} {K : AV → List AObj → Prop} {o : Own} {z z2 : Nat} {xs ys : List AV} (hx : ev env x = .sl o z xs) (hy : srcAV (ev env y) = some (z2, ys)) (ht : (L t).k = .slice e)
    (hp : srcKind (L t2).k = true ∧ known (L e) = true ∧ 0 < (L e).size ∧ 0 < (L e).bytes ∧ canAppend H o z xs (L e).size e ∧ (ys ≠ [] → z2 = (L e).size) ∧ (xs.length + ys.length) * (L e).bytes ≤ 140737488355328)
    (hK : K (.sl (appRes H o (L e).size (xs.length + ys.length)).1 (L e).size (xs ++ ys)) (appRes H o (L e).size (xs.length + ys.length)).2) :
    AOp P ⟨dst, .call { callee := .builtin .append, args := #[x, y], argTypes := #[t, t2] }, ty, pos, after, guard⟩ env H K := .of_run fun n ds G a w s => by
  obtain ⟨h1, h2, h3, h4, h5, h6, h7⟩ := hp
  have rx := s.ev x
  have ry := s.ev y
  rw [hx] at rx
  have ht2 : (∃ e', (L t2).k = .slice e') ∨ (L t2).k = .str := by
    cases hk : (L t2).k <;> simp_all [srcKind]
  have hop : ∀ v v2 : Value, a.eval x = v → a.eval y = v2 → ∀ v' w', (Builtin.append_ #[t, t2] ty #[v, v2]).run P w = .ok v' w' →
      (execOp a.eval ⟨dst, .call { callee := .builtin .append, args := #[x, y], argTypes := #[t, t2] }, ty, pos, after, guard⟩).run P w = .ok (.value v') w' := fun v v2 e1 e2 v' w' hr => by
    simp [execOp, resolve, invoke, builtin, e1, e2, hr]
  cases o with
  | sh => exact h5.elim
  | tok k =>
    obtain ⟨hz, hk, hty⟩ := h5
    subst hz
    obtain ⟨v', w', G', hrun, hi', hst, hrel⟩ := append_tok (ty := ty) hL s.inv rx hk (okTy_spec hty) ry hy h6 ht ht2 h2 rfl h4 h7
    exact ⟨v', w', _, G', _, hop _ _ rfl rfl _ _ hrun, hi', hst, hrel, hK⟩
  | full =>
    generalize hv : a.eval x = v at rx
    have rx0 := rx
    cases rx with
    | sl _ _ _ ad len cap val hl =>
      obtain ⟨hi1, st1, r1⟩ := mint none s.inv rx0 h3 h5 (fun h => absurd rfl h)
      have hk : (H ++ [AObj.grow (L e).size xs.length none])[H.length]? = some (.grow (L e).size xs.length none) := List.getElem?_concat_length
      obtain ⟨v', w', G', hrun, hi', hst, hrel⟩ := append_tok (ty := ty) hL hi1 r1 hk (fun e' h => by cases h) (ry.mono st1) hy h6 ht ht2 h2 rfl h4 h7
      have hset : (H ++ [AObj.grow (L e).size xs.length none]).set H.length (.grow (L e).size (xs.length + ys.length) none) = H ++ [.grow (L e).size (xs.length + ys.length) none] := by
        rw [List.set_append_right _ _ (Nat.le_refl _)]
        simp
      rw [hset] at hi' hst hrel
      exact ⟨v', w', _, G', _, hop _ _ hv rfl _ _ hrun, hi', st1.trans hst, hrel, hK⟩
end
end Go.Proofs.YtdahdbnfknmmgaaGreatDoor.V
end

section
set_option linter.unusedSimpArgs false
set_option linter.unusedVariables false
namespace Go.Proofs.YtdahdbnfknmmgaaGreatDoor.V
open Go
variable {ds : List Deferred}
section
variable {P : Program} {env : Env} {H : List AObj} {dst : Option Tmp} {ty : TypeId} {pos : String} {after : Array Edge} {guard : Option (Nat × Bool)}

def qNil : AV → Option (Prop × AV)
  | .ip x => some (True, .ip x)
  | .mp k o => some (True, .mp k o)
  | .fn (.func g) fs cs => some (True, .fn (.func g) fs cs)
  | _ => none
theorem still_nil {x : Operand} {p : Prop} {z : AV} (h : qNil (ev env x) = some (p, z)) : Still P ⟨dst, .nilCheck x, ty, pos, after, guard⟩ env H p z := fun hp _ _ G a w s => by
  have rx := s.ev x
  unfold qNil at h
  split at h
  · rename_i y e
    rw [e] at rx
    cases h
    have rx0 := rx
    generalize hv : a.eval x = v at rx
    cases rx
    exact ⟨_, by simp [execOp, hv], hv ▸ rx0⟩
  · rename_i k o e
    rw [e] at rx
    cases h
    have rx0 := rx
    generalize hv : a.eval x = v at rx
    cases rx
    exact ⟨_, by simp [execOp, hv], hv ▸ rx0⟩
  · rename_i g fs cs e
    rw [e] at rx
    cases h
    have rx0 := rx
    generalize hv : a.eval x = v at rx
    cases rx
    exact ⟨_, by simp [execOp, hv], hv ▸ rx0⟩
  · cases h
theorem relAll_map' {n : Nat} {G : Gh} {a : Act} {w : World} (s : Sat n ds G env H a w) (xs : Array Operand) : RelAll G H w (xs.toList.map (ev env)) (xs.map a.eval) := by
  refine ⟨by simp, fun j x v e e' => ?_⟩
  simp only [List.getElem?_map, Array.getElem?_map, Array.getElem?_toList] at e e'
  cases h : xs[j]? with
  | none => rw [h] at e; cases e
  | some y =>
    rw [h] at e e'
    cases e
    cases e'
    exact s.ev y
theorem still_makeFunc {f : Fn} {fs cs : Array Operand} : Still P ⟨dst, .makeFunc f fs cs, ty, pos, after, guard⟩ env H True (.fn f (fs.toList.map (ev env)) (cs.toList.map (ev env))) := fun _ _ _ G a w s => by
  have h1 := relAll_map' s fs
  have h2 := relAll_map' s cs
  exact ⟨_, by simp [execOp, Instr.makeFunc], .fn f _ _ _ _ h1.1 h2.1 h1.2 h2.2⟩
def qLeast (great : Bool) : AV → AV → Option (Prop × AV)
  | .lit (.int k a), .lit (.int k' b) => if k = k' then some (True, .int k (if great then max a b else min a b)) else none
  | _, _ => none
theorem still_min {x y : Operand} {ats : Array TypeId} {p : Prop} {z : AV} (h : qLeast false (ev env x) (ev env y) = some (p, z)) : Still P ⟨dst, .call { callee := .builtin .min, args := #[x, y], argTypes := ats }, ty, pos, after, guard⟩ env H p z := fun hp _ _ G a w s => by
  have rx := s.ev x
  have ry := s.ev y
  unfold qLeast at h
  split at h
  · rename_i k i k' j e1 e2
    rw [e1] at rx
    rw [e2] at ry
    have ex := rel_lit_inv rx
    have ey := rel_lit_inv ry
    split at h
    · rename_i hk
      subst hk
      cases h
      refine ⟨.int k (min i j), ?_, .lit _⟩
      have : (if j < i then j else i) = min i j := by rw [Int.min_def]; split <;> split <;> omega
      simp [execOp, resolve, invoke, builtin, ex, ey, Builtin.min_, Builtin.min2, this]
    · cases h
  · cases h
theorem still_max {x y : Operand} {ats : Array TypeId} {p : Prop} {z : AV} (h : qLeast true (ev env x) (ev env y) = some (p, z)) : Still P ⟨dst, .call { callee := .builtin .max, args := #[x, y], argTypes := ats }, ty, pos, after, guard⟩ env H p z := fun hp _ _ G a w s => by
  have rx := s.ev x
  have ry := s.ev y
  unfold qLeast at h
  split at h
  · rename_i k i k' j e1 e2
    rw [e1] at rx
    rw [e2] at ry
    have ex := rel_lit_inv rx
    have ey := rel_lit_inv ry
    split at h
    · rename_i hk
      subst hk
      cases h
      refine ⟨.int k (max i j), ?_, .lit _⟩
      have : (if i < j then j else i) = max i j := by rw [Int.max_def]; split <;> split <;> omega
      simp [execOp, resolve, invoke, builtin, ex, ey, Builtin.max_, Builtin.max2, this]
    · cases h
  · cases h
def qCap (L : Tab) (t : TypeId) : AV → Option (Prop × AV)
  | .msl _ _ _ cap => match (L t).k with | .slice _ => some (True, .int .i64 cap) | _ => none
  | _ => none
theorem still_cap {L : Tab} (hL : TabOk P L) {x : Operand} {t : TypeId} {p : Prop} {z : AV} (h : qCap L t (ev env x) = some (p, z)) : Still P ⟨dst, .call { callee := .builtin .cap, args := #[x], argTypes := #[t] }, ty, pos, after, guard⟩ env H p z := fun hp _ _ G a w s => by
  have rx := s.ev x
  unfold qCap at h
  split at h
  · rename_i k off len cap e
    split at h
    · rename_i te hk
      have hu := (hL t (by rw [hk]; simp)).1
      rw [hk] at hu
      simp only [TKOk] at hu
      rw [e] at rx
      cases h
      generalize hv : a.eval x = v at rx
      cases rx
      refine ⟨_, ?_, .lit _⟩
      simp [execOp, resolve, invoke, builtin, hv, Builtin.cap_, run_underlying hu, goInt]
    · cases h
  · cases h
def qIface (L : Tab) (t : TypeId) (x : AV) : Option (Prop × AV) :=
  match (L t).k with
  | .other | .one | .iface => none
  | _ => some (True, .ifc t x)
theorem still_iface {L : Tab} (hL : TabOk P L) {x : Operand} {t : TypeId} {p : Prop} {z : AV} (h : qIface L t (ev env x) = some (p, z)) : Still P ⟨dst, .makeInterface t x, ty, pos, after, guard⟩ env H p z := fun hp _ _ G a w s => by
  have rx := s.ev x
  unfold qIface at h
  have key : (∃ d, P.underlying t = some d ∧ ∀ ms, d ≠ .interface ms) ∧ z = .ifc t (ev env x) := by
    have hk := (hL t (by intro e; rw [e] at h; cases h)).1
    split at h
    · cases h
    · cases h
    · cases h
    · rename_i h1 h2 h3
      cases h
      refine ⟨?_, rfl⟩
      generalize hq : (L t).k = q at hk
      cases q with
      | other => exact absurd hq h1
      | one => exact absurd hq h2
      | iface => exact absurd hq h3
      | struct fs => obtain ⟨a, ha, _⟩ := hk; exact ⟨_, ha, fun ms e => by cases e⟩
      | _ => exact ⟨_, hk, fun ms e => by cases e⟩
  obtain ⟨⟨d, hd, hne⟩, rfl⟩ := key
  refine ⟨.iface t (a.eval x), ?_, .ifc t _ _ rx⟩
  simp only [execOp, Instr.makeInterface, Sem.run_bind, run_underlying hd, Result.andThen_ok]
  cases d <;> simp_all

/-- A slice's array, of bytes and their like. -/
def qToArr (L : Tab) (t : TypeId) (x : AV) : Option (Prop × AV) :=
  match (L t).k, x with
  | .arr n _, .sl _ z xs => some (0 < n ∧ n ≤ xs.length ∧ z = 1, .ip (.agg ((flats xs).take n)))
  | _, _ => none
theorem still_toArr {L : Tab} (hL : TabOk P L) {x : Operand} {t : TypeId} {p : Prop} {z : AV} (h : qToArr L t (ev env x) = some (p, z)) : Still P ⟨dst, .sliceToArrayPointer t x, ty, pos, after, guard⟩ env H p z := fun hp _ _ G a w s => by
  have rx := s.ev x
  unfold qToArr at h
  split at h
  · rename_i n e o zz xs hk ex
    have hu := (hL t (by rw [hk]; simp)).1
    rw [hk] at hu
    rw [ex] at rx
    cases h
    obtain ⟨p1, p2, p3⟩ := hp
    subst p3
    generalize hv : a.eval x = v at rx
    cases rx with
    | sl _ _ _ ad len cap val hl hcap huni hc hr hf ha ho =>
    have hfl : (flats xs).length = xs.length := by have := flats_len (s := 1) fun y hy => (huni y hy).1; omega
    obtain ⟨b, off, ea, _⟩ := hc 0 _ (List.getElem?_eq_getElem (by omega))
    have hat : ∀ (j : Nat) y, (AV.agg ((flats xs).take n)).flat[j]? = some y → (flats xs)[j]? = some y := fun j y e => by
      simp only [AV.flat, List.getElem?_take] at e
      split at e
      · exact e
      · cases e
    refine ⟨.pointer ad, ?_, ?_⟩
    · have hlt : ¬ len < n := by omega
      simp [execOp, hv, Instr.arrayAt, run_underlying hu, hlt]
    · rw [ea]
      refine .ip _ b off val (fun j y e => ?_) (fun j y e => hr j y (hat j y e))
      obtain ⟨b', off', ea', q⟩ := hc j y (hat j y e)
      rw [ea] at ea'
      cases ea'
      exact q
  · cases h

/-- A slice held against nil: of an empty one nobody knows. -/
def nilCmp : Operand → Bool
  | .const (.slice none 0 0) => true
  | _ => false
def vcNil (L : Tab) (op : BinOp) (t : TypeId) (x : AV) (H : List AObj) (K : AV → List AObj → Prop) [Tag K] : Prop :=
  match (L t).k, op, x with
  | .slice _, .eql, .sl _ _ xs => (xs ≠ [] → K (.bool false) H) ∧ (xs = [] → ∀ b, K (.bool b) H)
  | .slice _, .neq, .sl _ _ xs => (xs ≠ [] → K (.bool true) H) ∧ (xs = [] → ∀ b, K (.bool b) H)
  | .slice _, .eql, .msl _ _ _ _ => K (.bool false) H
  | .slice _, .neq, .msl _ _ _ _ => K (.bool true) H
  | .slice _, .eql, .mrow _ _ => K (.bool false) H
  | .slice _, .neq, .mrow _ _ => K (.bool true) H
  | _, _, _ => False
theorem aop_nil {L : Tab} (hL : TabOk P L) {op : BinOp} {t t' : TypeId} {x y : Operand} {K : AV → List AObj → Prop} (hy : nilCmp y = true) (h : vcNil L op t (ev env x) H K) : AOp P ⟨dst, .binOp op t x y t', ty, pos, after, guard⟩ env H K := .of_run fun n ds G a w s => by
  have ey : a.eval y = .slice none 0 0 := by
    unfold nilCmp at hy
    split at hy
    · rfl
    · cases hy
  have rx := s.ev x
  unfold vcNil at h
  have fin : ∀ (o : Option Addr) (len cap : Nat), a.eval x = .slice o len cap → (∃ e, (L t).k = .slice e) → (op = .eql → ∃ z, z = AV.bool o.isNone ∧ K z H) → (op = .neq → ∃ z, z = AV.bool !o.isNone ∧ K z H) → (op = .eql ∨ op = .neq) →
      ∃ v w' x' G' H', (execOp a.eval ⟨dst, .binOp op t x y t', ty, pos, after, guard⟩).run P w = .ok (.value v) w' ∧ HInv G' H' w' ∧ Step G H w G' H' w' ∧ Rel G' H' w' x' v ∧ K x' H' := fun o len cap ex ⟨e, hk⟩ h1 h2 h3 => by
    have hu := (hL t (by rw [hk]; simp)).1
    rw [hk] at hu
    simp only [TKOk] at hu
    rcases h3 with rfl | rfl
    · obtain ⟨z, rfl, hK⟩ := h1 rfl
      exact ⟨_, w, _, G, H, by simp [execOp, ex, ey, eqGuard_plain, Lib.run_eql_slice_nil w t e o len cap 0 0 hu], s.inv, .refl _ _ _, .lit _, hK⟩
    · obtain ⟨z, rfl, hK⟩ := h2 rfl
      exact ⟨_, w, _, G, H, by simp [execOp, ex, ey, eqGuard_plain, Go.run_neq_slice_nil_any w t e o len cap 0 0 hu], s.inv, .refl _ _ _, .lit _, hK⟩
  split at h
  · rename_i e o z xs hk ex
    rw [ex] at rx
    generalize hv : a.eval x = v at rx
    cases rx with
    | sl _ _ _ ad len cap val hl hcap hs hc hr hf ha ho =>
      refine fin ad len cap hv ⟨_, hk⟩ (fun _ => ⟨_, rfl, ?_⟩) (fun e => by cases e) (.inl rfl)
      by_cases hx : xs = []
      · exact h.2 hx _
      · have := ha (by rw [hl]; exact List.length_pos_iff.2 hx)
        cases ad with
        | none => cases this
        | some _ => exact h.1 hx
  · rename_i e o z xs hk ex
    rw [ex] at rx
    generalize hv : a.eval x = v at rx
    cases rx with
    | sl _ _ _ ad len cap val hl hcap hs hc hr hf ha ho =>
      refine fin ad len cap hv ⟨_, hk⟩ (fun e => by cases e) (fun _ => ⟨_, rfl, ?_⟩) (.inr rfl)
      by_cases hx : xs = []
      · exact h.2 hx _
      · have := ha (by rw [hl]; exact List.length_pos_iff.2 hx)
        cases ad with
        | none => cases this
        | some _ => exact h.1 hx
  · rename_i e k off len cap hk ex
    rw [ex] at rx
    generalize hv : a.eval x = v at rx
    cases rx
    exact fin _ _ _ hv ⟨_, hk⟩ (fun _ => ⟨_, rfl, h⟩) (fun e => by cases e) (.inl rfl)
  · rename_i e k off len cap hk ex
    rw [ex] at rx
    generalize hv : a.eval x = v at rx
    cases rx
    exact fin _ _ _ hv ⟨_, hk⟩ (fun e => by cases e) (fun _ => ⟨_, rfl, h⟩) (.inr rfl)
  · rename_i e k len hk ex
    rw [ex] at rx
    generalize hv : a.eval x = v at rx
    cases rx
    exact fin _ _ _ hv ⟨_, hk⟩ (fun _ => ⟨_, rfl, h⟩) (fun e => by cases e) (.inl rfl)
  · rename_i e k len hk ex
    rw [ex] at rx
    generalize hv : a.eval x = v at rx
    cases rx
    exact fin _ _ _ hv ⟨_, hk⟩ (fun e => by cases e) (fun _ => ⟨_, rfl, h⟩) (.inr rfl)
  · exact h.elim
end
end Go.Proofs.YtdahdbnfknmmgaaGreatDoor.V
end

section
set_option linter.unusedSimpArgs false
set_option linter.unusedVariables false
namespace Go.Proofs.YtdahdbnfknmmgaaGreatDoor.V
open Go
variable {ds : List Deferred}

theorem shape_of {G : Gh} {H : List AObj} {w : World} (hi : HInv G H w) {k : Nat} {sh : Shape} {cs : List AV} (hk : H[k]? = some (.cells sh cs)) : site G H k = some (G.blk k) := by simp [site, hk]

/-- An object is let go. -/
theorem retire {G : Gh} {H : List AObj} {w : World} (hi : HInv G H w) {k : Nat} {sh : Shape} {cs : List AV} (hk : H[k]? = some (.cells sh cs)) : HInv G (H.set k .gone) w ∧ Step G H w G (H.set k .gone) w := by
  have hkl := lt_of_get hk
  have st : Step G H w G (H.set k .gone) w := by
    refine ⟨rfl, rfl, rfl, Nat.le_refl _, fun _ _ h => h, fun _ _ _ => rfl, fun _ _ => rfl, fun i => ?_⟩
    cases ei : H[i]? with
    | none => exact nl_set ei
    | some o =>
      by_cases hik : i = k
      · subst hik
        rw [hk] at ei
        cases ei
        exact ⟨⟨.gone, by simp [hkl], rfl⟩, rfl, rfl⟩
      · have ea : (H.set k .gone)[i]? = some o := by rw [List.getElem?_set_ne (fun h => hik h.symm)]; exact ei
        cases o with
        | cells t c => exact ⟨⟨_, ea, rfl⟩, rfl, rfl⟩
        | gone => exact ⟨ea, rfl, rfl⟩
        | loop r E => exact ⟨ea, rfl, rfl⟩
        | grow s n t => exact ⟨n, ea, Nat.le_refl _, fun _ => rfl⟩
  refine ⟨⟨hi.lt, fun i sh' c ei => ?_, fun i s n t ei => ?_, fun i j b e1 e2 => ?_, hi.tabs.step st⟩, st⟩
  · rcases get_set ei with ⟨hik, ei'⟩ | ⟨rfl, ei', _⟩
    · obtain ⟨arr, T, fr, hb, hs, hr, hf⟩ := hi.cells i sh' c ei'
      exact ⟨arr, T, fr, hb, hs, fun j x v ex ev => (hr j x v ex ev).mono st, hf⟩
    · cases ei'
  · rcases get_set ei with ⟨hik, ei'⟩ | ⟨rfl, ei', _⟩
    · exact hi.grow i s n t ei'
    · cases ei'
  · have hs : ∀ i b, site G (H.set k .gone) i = some b → site G H i = some b := fun i b e => by
      unfold site at e ⊢
      cases ei : (H.set k AObj.gone)[i]? with
      | none => rw [ei] at e; cases e
      | some o =>
        rw [ei] at e
        rcases get_set ei with ⟨_, ei'⟩ | ⟨rfl, ei', _⟩
        · rw [ei']; exact e
        · subst ei'; cases e
    exact hi.apart i j b (hs i b e1) (hs j b e2)

/-- An object's block, told anew: a new object. -/
theorem rename {G : Gh} {H : List AObj} {w : World} (hi : HInv G H w) {k : Nat} {sh : Shape} {cs : List AV} (hk : H[k]? = some (.cells sh cs)) {cs' : List AV} (sh' : Shape) (cap : Nat) {arr : Array Value} {T : TypeId} {fr : Nat × Nat}
    (hb : w.heap[G.blk k]? = some (.cells arr T fr)) (hr : RelLe G H w cs' arr) (hsh : match sh' with | .one t => T = t ∧ arr.size = cs'.length ∧ fr.2 = 0 | .raw t => T = t ∧ arr.size = cs'.length | .row s => 0 < s ∧ arr.size = cap * s | .prow s => 0 < s ∧ arr.size = cap * s ∧ fr.2 = 0) :
    HInv (addBlk G H (G.blk k) cap) (H.set k .gone ++ [.cells sh' cs']) w ∧ Step G H w (addBlk G H (G.blk k) cap) (H.set k .gone ++ [.cells sh' cs']) w ∧ (addBlk G H (G.blk k) cap).blk H.length = G.blk k ∧ (addBlk G H (G.blk k) cap).own H.length = (none, cap) := by
  obtain ⟨hi1, st1⟩ := retire hi hk
  obtain ⟨arr0, T0, fr0, hb0, hs0, hr0, hf1, hf2, _⟩ := hi.cells k sh cs hk
  rw [hb] at hb0
  cases hb0
  have hkl := lt_of_get hk
  have hlen : (H.set k .gone).length = H.length := List.length_set ..
  have hblk : ∀ i, i ≠ H.length → (addBlk G H (G.blk k) cap).blk i = G.blk i := fun i hi => by simp [addBlk, hi]
  have hown : ∀ i, i ≠ H.length → (addBlk G H (G.blk k) cap).own i = G.own i := fun i hi => by simp [addBlk, hi]
  have hnew : (addBlk G H (G.blk k) cap).blk H.length = G.blk k := by simp [addBlk]
  have hnewo : (addBlk G H (G.blk k) cap).own H.length = (none, cap) := by simp [addBlk]
  have st2 : Step G (H.set k .gone) w (addBlk G H (G.blk k) cap) (H.set k .gone ++ [.cells sh' cs']) w := by
    refine ⟨rfl, rfl, rfl, Nat.le_refl _, fun _ _ h => h, fun _ _ _ => rfl, fun _ _ => rfl, fun i => ?_⟩
    cases ei : (H.set k AObj.gone)[i]? with
    | none => exact nl_snoc ei (fun _ _ e => by cases e)
    | some o =>
      have hil := lt_of_get ei
      rw [hlen] at hil
      have ea : (H.set k .gone ++ [.cells sh' cs'])[i]? = some o := by rw [List.getElem?_append_left (by rw [hlen]; exact hil)]; exact ei
      cases o with
      | cells t c => exact ⟨⟨_, ea, rfl⟩, hblk i (by omega), hown i (by omega)⟩
      | gone => exact ⟨ea, hblk i (by omega), hown i (by omega)⟩
      | loop r E => exact ⟨ea, hblk i (by omega), hown i (by omega)⟩
      | grow s n t => exact ⟨n, ea, Nat.le_refl _, fun _ => hown i (by omega)⟩
  have snoc : ∀ {i : Nat} {o : AObj}, (H.set k .gone ++ [.cells sh' cs'])[i]? = some o → (i < H.length ∧ (H.set k .gone)[i]? = some o) ∨ (i = H.length ∧ o = .cells sh' cs') := fun {i o} e => by
    rcases get_snoc e with h | h
    · exact .inl ⟨by rw [← hlen]; exact h.1, h.2⟩
    · exact .inr ⟨by rw [← hlen]; exact h.1, h.2⟩
  refine ⟨⟨hi.lt, fun i sh1 c ei => ?_, fun i s n t ei => ?_, fun i j b e1 e2 => ?_, hi.tabs.step (st1.trans st2)⟩, st1.trans st2, hnew, hnewo⟩
  · rcases snoc ei with ⟨hil, ei'⟩ | ⟨rfl, ei'⟩
    · obtain ⟨arr1, T1, fr1, hb1, hs1, hr1, hg1, hg2, hg3⟩ := hi1.cells i sh1 c ei'
      rw [hblk i (by omega)]
      exact ⟨arr1, T1, fr1, hb1, hs1, fun j x v ex ev => (hr1 j x v ex ev).mono st2, hg1, hg2, shapeOk_own (hown i (by omega)) hg3⟩
    · cases ei'
      rw [hnew]
      refine ⟨arr, T, fr, hb, hr.1, fun j x v ex ev => (hr.2 j x v ex ev).mono (st1.trans st2), hf1, hf2, ?_⟩
      unfold shapeOk
      rw [hnewo]
      exact hsh
  · rcases snoc ei with ⟨hil, ei'⟩ | ⟨rfl, ei'⟩
    · rw [hown i (by omega)]
      obtain ⟨h1, h2, h3, h4⟩ := hi1.grow i s n t ei'
      exact ⟨h1, h2, h3, typedOk_keep h4 (hown i (by omega)) (Nat.le_refl _) (fun b arr e fr hb => ⟨arr, hb, rfl⟩) (fun _ _ _ _ _ _ _ _ _ hx _ => hx)⟩
    · cases ei'
  · have hs : ∀ i b, site (addBlk G H (G.blk k) cap) (H.set k .gone ++ [.cells sh' cs']) i = some b → (i < H.length ∧ i ≠ k ∧ site G H i = some b) ∨ (i = H.length ∧ b = G.blk k) := fun i b e => by
      unfold site at e
      cases ei : (H.set k .gone ++ [.cells sh' cs'])[i]? with
      | none => rw [ei] at e; cases e
      | some o =>
        rw [ei] at e
        rcases snoc ei with ⟨hil, ei'⟩ | ⟨rfl, ei'⟩
        · left
          rcases get_set ei' with ⟨hik, ei''⟩ | ⟨rfl, ei'', _⟩
          · refine ⟨hil, hik, ?_⟩
            unfold site
            rw [ei'']
            rw [hblk i (by omega), hown i (by omega)] at e
            exact e
          · subst ei''; cases e
        · right
          subst ei'
          simp only [hnew, Option.some.injEq] at e
          exact ⟨rfl, e.symm⟩
    rcases hs i b e1 with ⟨h1, h2, h3⟩ | ⟨h1, h2⟩ <;> rcases hs j b e2 with ⟨h4, h5, h6⟩ | ⟨h4, h5⟩
    · exact hi.apart i j b h3 h6
    · subst h5
      exact absurd (hi.apart i k _ h3 (shape_of hi hk)) h2
    · subst h2
      exact absurd (hi.apart j k _ h6 (shape_of hi hk)) h5
    · omega

section
variable {P : Program} {env : Env} {H : List AObj} {dst : Option Tmp} {ty : TypeId} {pos : String} {after : Array Edge} {guard : Option (Nat × Bool)}

/-- append, where there is no room. -/
theorem append_moves {L : Tab} (hL : TabOk P L) {t t2 e : TypeId} {w : World} {a : Option Addr} {n cap m s : Nat} {v2 : Value} {us vs : List Value} (ht : (L t).k = .slice e) (hd2 : ∃ d, P.underlying t2 = some d ∧ ∀ q, d ≠ .int q) (he : known (L e) = true)
    (hse : s = (L e).size) (hby : 0 < (L e).bytes) (hroom : (n + m) * (L e).bytes ≤ 140737488355328) (hfit : cap < n + m) (hlen : ∀ w', (Builtin.lenOf v2).run P w' = .ok m w')
    (hu1 : (Builtin.firstCells s n (.slice a n cap)).run P w.drew = .ok us.toArray w.drew) (hv1 : (Builtin.firstCells s m v2).run P w.drew = .ok vs.toArray w.drew) :
    ∃ zc : Array Value, zc.size = (grownCap w (n + m) cap e - (n + m)) * s ∧
      (Builtin.append_ #[t, t2] ty #[.slice a n cap, v2]).run P w = .ok (.slice (some ⟨w.heap.size, 0, none⟩) (n + m) (grownCap w (n + m) cap e)) (w.drew.alloc (.cells ((us ++ vs).toArray ++ zc) e)) := by
  have hu := (hL t (by rw [ht]; simp)).1
  rw [ht] at hu
  simp only [TKOk] at hu
  obtain ⟨_, ie, zv, hie, hisz, hiby, hzl, hzv, hzs, _⟩ := hL e (known_ne he)
  obtain ⟨d2, hd2, hnint⟩ := hd2
  have hnoov : ¬ (Builtin.nextslicecap (n + m) cap * ie.bytes > 281474976710656) := by
    have := growslice_fits (need := n + m) (old := cap) (bytes := ie.bytes) hfit (by rw [hiby]; exact hroom)
    omega
  have hbz : ie.bytes ≠ 0 := by rw [hiby]; omega
  have hzsz : zv.cells.size = s := by
    have := (rel_zero (H := []) (G := ⟨fun _ _ => False, fun _ => 0, fun _ => (none, 0), fun _ => none⟩) (w := w) hzs).1
    rw [this, hzl, hse]
  refine ⟨Builtin.zeroCells zv.cells (grownCap w (n + m) cap e - (n + m)), by simp [Builtin.zeroCells, hzsz], ?_⟩
  simp only [Builtin.append_, Sem.run_bind, run_underlying hu, run_size hL (known_ne he), run_underlying hd2, Result.andThen_ok, Sem.run_pure, List.getElem?_toArray, List.getElem?_cons_zero, List.getElem?_cons_succ]
  simp only [Bool.false_eq_true, if_false, hlen, Result.andThen_ok, if_neg (show ¬ (n + m ≤ cap) by omega), typeInfo, Sem.run_bind, run_program, hie, Sem.run_pure, hbz, false_or, and_false]
  simp only [show (2 : Nat) ^ 48 = 281474976710656 from rfl, if_neg hnoov, Sem.run_bind, Sem.run_pure, Result.andThen_ok, run_choose_drew, Question.forced, Bool.false_eq_true, if_false, run_askRoom, ← hse, zeroValue, typeInfo, run_program, hie, hzv, newRow, run_newObj_alloc]
  rw [show (Question.appendCap (n + m) cap e).cut (w.tape w.drawn (Question.appendCap (n + m) cap e)) = grownCap w (n + m) cap e from rfl]
  simp [hu1, hv1]
  refine congrArg (fun c => w.drew.alloc (Obj.cells c e)) ?_
  apply Array.ext'
  simp

/-- What a slice's first cells are, in memory that nobody writes. -/
theorem first_of_sl {G : Gh} {w : World} {o : Own} {s : Nat} {xs : List AV} {a : Option Addr} {n cap : Nat} (r : Rel G H w (.sl o s xs) (.slice a n cap)) (hs : 0 < s) :
    ∃ us : List Value, us.length = (flats xs).length ∧ (∀ (j : Nat) x u, (flats xs)[j]? = some x → us[j]? = some u → Rel G H w x u) ∧ (∀ w', (∀ a, w'.cell? a = w.cell? a) → (Builtin.firstCells s xs.length (.slice a n cap)).run P w' = .ok us.toArray w') := by
  have r' := r
  cases r with
  | sl _ _ _ _ len _ val hl hcap huni hc hr hf ha ho =>
  rcases Nat.eq_zero_or_pos xs.length with h0 | h0
  · have hnil : xs = [] := List.eq_nil_of_length_eq_zero h0
    subst hnil
    refine ⟨[], rfl, fun j x u e => by simp [flats] at e, fun w' _ => ?_⟩
    cases a with
    | none => simp [Builtin.firstCells]
    | some a => simp [Builtin.firstCells, loadCells, loadCellsFrom]
  · obtain ⟨b, off, cap', ev, _, hcc⟩ := r'.sl_addr hs h0
    cases ev
    obtain ⟨us, hl', h1, h2⟩ := exists_vals (G := G) (H := H) (w := w) (b := b) (off := off) (flats xs) (fun j y e => (hcc j y e).2)
    exact ⟨us, hl', h2, fun w' hw' => run_firstCells_some w' s xs.length ⟨b, off, none⟩ _ cap us (by rw [hl', flats_len fun x hx => (huni x hx).1]) (fun j v e => by rw [addr_add, hw']; exact h1 j v e)⟩
/-- .. in an object. -/
theorem first_of_cells {G : Gh} {w : World} (hi : HInv G H w) {k off m s n cap : Nat} {sh : Shape} {cs : List AV} (hk : H[k]? = some (.cells sh cs)) (hl : off + m * s ≤ cs.length) :
    ∃ us : List Value, us.length = m * s ∧ (∀ (j : Nat) x u, ((cs.drop off).take (m * s))[j]? = some x → us[j]? = some u → Rel G H w x u) ∧ (∀ w', (∀ a, w'.cell? a = w.cell? a) → (Builtin.firstCells s m (.slice (some ⟨G.blk k, off, none⟩) n cap)).run P w' = .ok us.toArray w') := by
  obtain ⟨arr, T, fr, hb, hsz, hr, hf1, hf2, hf3⟩ := hi.cells k sh cs hk
  obtain ⟨us, hul, h1, h2⟩ := exists_vals (G := G) (H := H) (w := w) (b := G.blk k) (off := off) ((cs.drop off).take (m * s)) (fun j u e => by
    rw [List.getElem?_take] at e
    split at e
    · rw [List.getElem?_drop] at e
      have hj := lt_of_get e
      exact ⟨arr[off + j], (cell_row hb).trans (Array.getElem?_eq_getElem (by omega)), hr _ _ _ e (Array.getElem?_eq_getElem (by omega))⟩
    · cases e)
  have hlen : ((cs.drop off).take (m * s)).length = m * s := by rw [List.length_take, List.length_drop]; omega
  exact ⟨us, by rw [hul, hlen], h2, fun w' hw' => run_firstCells_some w' s m ⟨G.blk k, off, none⟩ n cap us (by rw [hul, hlen]) (fun j v e => by rw [addr_add, hw']; exact h1 j v e)⟩

/-- A new row of an append. -/
theorem new_row {G : Gh} {w : World} (hi : HInv G H w) {e : TypeId} {s n cap : Nat} (hs : 0 < s) {cs : List AV} {us : List Value} {zc : Array Value} (hl : us.length = cs.length) (hcs : cs.length = n * s) (hc : n ≤ cap) (hz : zc.size = (cap - n) * s)
    (hr : ∀ (j : Nat) x u, cs[j]? = some x → us[j]? = some u → Rel G H w x u) :
    ∃ G', HInv G' (H ++ [.cells (.prow s) cs]) (w.drew.alloc (.cells (us.toArray ++ zc) e)) ∧ Step G H w G' (H ++ [.cells (.prow s) cs]) (w.drew.alloc (.cells (us.toArray ++ zc) e)) ∧
      Rel G' (H ++ [.cells (.prow s) cs]) (w.drew.alloc (.cells (us.toArray ++ zc) e)) (.mrow H.length n) (.slice (some ⟨w.heap.size, 0, none⟩) n cap) := by
  have hsz : (us.toArray ++ zc).size = cap * s := by
    rw [Array.size_append, List.size_toArray, hl, hcs, hz, ← Nat.add_mul]
    congr 1
    omega
  have hrc : RelLe G H w cs (us.toArray ++ zc) := by
    refine ⟨by rw [Array.size_append, List.size_toArray, hl]; omega, fun j x v e1 e2 => ?_⟩
    have hj := lt_of_get e1
    rw [Array.getElem?_append_left (by rw [List.size_toArray]; omega)] at e2
    exact hr j x v e1 (by simpa using e2)
  obtain ⟨hi', hst, hb, ho⟩ := new_cells hi (More.refl w).drew rfl hrc e (0, 0) (.inr rfl) (.prow s) cap ⟨hs, hsz, rfl⟩
  exact ⟨_, hi', hst, rel_mrow_new hb (by rw [ho]) hc⟩

theorem src_desc {L : Tab} (hL : TabOk P L) {t2 : TypeId} (h : srcKind (L t2).k = true) : ∃ d, P.underlying t2 = some d ∧ ∀ q, d ≠ .int q := by
  have ht2 : (∃ e', (L t2).k = .slice e') ∨ (L t2).k = .str := by
    cases hk : (L t2).k <;> simp_all [srcKind]
  rcases ht2 with ⟨e', h⟩ | h
  · have := (hL t2 (by rw [h]; simp)).1
    rw [h] at this
    exact ⟨_, this, fun q => by simp⟩
  · have := (hL t2 (by rw [h]; simp)).1
    rw [h] at this
    exact ⟨_, this, fun q => by simp⟩

/-- append to a slice whose capacity is its length, or to a row: a row. -/
def vcAppendM (L : Tab) (t t2 : TypeId) (x y : AV) (H : List AObj) (K : AV → List AObj → Prop) [Tag K] : Prop :=
  match (L t).k, x, srcAV y with
  | .slice e, .sl .full z xs, some (z2, ys) => (srcKind (L t2).k = true ∧ known (L e) = true ∧ 0 < (L e).size ∧ 0 < (L e).bytes ∧ (xs ≠ [] → z = (L e).size) ∧ ys ≠ [] ∧ z2 = (L e).size ∧ (xs.length + ys.length) * (L e).bytes ≤ 140737488355328) ∧
      K (.mrow H.length (xs.length + ys.length)) (H ++ [.cells (.prow (L e).size) (flats (xs ++ ys))])
  | _, _, _ => False
theorem aop_appendM {L : Tab} (hL : TabOk P L) {t t2 : TypeId} {x y : Operand} {K : AV → List AObj → Prop} (h : vcAppendM L t t2 (ev env x) (ev env y) H K) :
    AOp P ⟨dst, .call { callee := .builtin .append, args := #[x, y], argTypes := #[t, t2] }, ty, pos, after, guard⟩ env H K := .of_run fun n ds G a w s => by
  unfold vcAppendM at h
  split at h
  · rename_i e z xs z2 ys hk ex ey
    obtain ⟨⟨h1, h2, h3, h4, h5, h6, h7, h8⟩, hK⟩ := h
    have rx := s.ev x
    have ry := s.ev y
    rw [ex] at rx
    have hop : ∀ v v2 : Value, a.eval x = v → a.eval y = v2 → ∀ v' w', (Builtin.append_ #[t, t2] ty #[v, v2]).run P w = .ok v' w' →
        (execOp a.eval ⟨dst, .call { callee := .builtin .append, args := #[x, y], argTypes := #[t, t2] }, ty, pos, after, guard⟩).run P w = .ok (.value v') w' := fun v v2 e1 e2 v' w' hr => by
      simp [execOp, resolve, invoke, builtin, e1, e2, hr]
    generalize hv : a.eval x = v at rx
    have rx0 := rx
    cases rx with
    | sl _ _ _ ad len cap val hl hcap huni hc hr hf ha ho =>
    have hcl : cap = len := hf rfl
    subst hcl
    subst hl
    have rx1 : Rel G H w (.sl .full (L e).size xs) (.slice ad xs.length xs.length) := by
      by_cases hx : xs = []
      · subst hx
        exact .sl .full _ [] _ _ _ (fun _ => undef) rfl (Nat.le_refl _) (fun x hx => by cases hx) (fun j x e => by simp [flats] at e) (fun j x e => by simp [flats] at e) (fun _ => rfl) (fun h => absurd h (by simp)) (fun k e => by cases e)
      · rw [← h5 hx]; exact rx0
    obtain ⟨us, hul, hur, hu1⟩ := first_of_sl (P := P) rx1 h3
    obtain ⟨hlen, huni2, vs, hvl, hvr, hv1⟩ := src_run (P := P) ry ey (fun _ => h7) h3
    have hyp : 0 < ys.length := List.length_pos_iff.2 h6
    obtain ⟨zc, hzc, hrun⟩ := append_moves (ty := ty) (n := xs.length) (cap := xs.length) (m := ys.length) hL hk (src_desc hL h1) h2 rfl h4 h8 (by omega) hlen (hu1 w.drew fun _ => rfl) (hv1 w.drew fun _ => rfl)
    have huniX := rx1.sl_uni
    have hfl : (flats (xs ++ ys)).length = (xs.length + ys.length) * (L e).size := by
      rw [flats_append, List.length_append, flats_len huniX, flats_len fun x hx => (huni2 x hx).1, ← Nat.add_mul]
    obtain ⟨G', hi', hst, hrel⟩ := new_row (e := e) s.inv h3 (cs := flats (xs ++ ys)) (us := us ++ vs) (n := xs.length + ys.length) (cap := grownCap w (xs.length + ys.length) xs.length e) (by rw [flats_append, List.length_append, List.length_append, hul, hvl]) hfl (grownCap_ge w _ _ e) hzc (fun j x u e1 e2 => by
      rw [flats_append] at e1
      by_cases hj : j < (flats xs).length
      · rw [List.getElem?_append_left hj] at e1
        rw [List.getElem?_append_left (by rw [hul]; exact hj)] at e2
        exact hur j x u e1 e2
      · rw [List.getElem?_append_right (by omega)] at e1
        rw [List.getElem?_append_right (by omega), hul] at e2
        exact (hvr _ x u e1 e2).1)
    exact ⟨_, _, _, G', _, hop _ _ hv rfl _ _ hrun, hi', hst, hrel, hK⟩
  · exact h.elim

/-- append to a row: the row is let go, a new one is there. -/
def vcAppendR (L : Tab) (t t2 : TypeId) (x y : AV) (H : List AObj) (K : AV → List AObj → Prop) [Tag K] : Prop :=
  match (L t).k, x, srcAV y with
  | .slice e, .mrow k n, some (z2, ys) => match H[k]? with
    | some (.cells (.prow s) cs) => (srcKind (L t2).k = true ∧ known (L e) = true ∧ s = (L e).size ∧ 0 < (L e).bytes ∧ cs.length = n * s ∧ (ys ≠ [] → z2 = (L e).size) ∧ (n + ys.length) * (L e).bytes ≤ 140737488355328) ∧
      K (.mrow H.length (n + ys.length)) (H.set k .gone ++ [.cells (.prow s) (cs ++ flats ys)])
    | _ => False
  | _, _, _ => False
theorem aop_appendR {L : Tab} (hL : TabOk P L) {t t2 : TypeId} {x y : Operand} {K : AV → List AObj → Prop} (h : vcAppendR L t t2 (ev env x) (ev env y) H K) :
    AOp P ⟨dst, .call { callee := .builtin .append, args := #[x, y], argTypes := #[t, t2] }, ty, pos, after, guard⟩ env H K := .of_run fun n0 ds G a w st => by
  unfold vcAppendR at h
  split at h
  · rename_i e k n z2 ys hk ex ey
    split at h
    · rename_i s cs ho
      obtain ⟨⟨h1, h2, h3, h4, h5, h6, h8⟩, hK⟩ := h
      have rx := st.ev x
      have ry := st.ev y
      rw [ex] at rx
      have hkl := lt_of_get ho
      have hu := (hL t (by rw [hk]; simp)).1
      rw [hk] at hu
      simp only [TKOk] at hu
      have hop : ∀ v v2 : Value, a.eval x = v → a.eval y = v2 → ∀ v' w', (Builtin.append_ #[t, t2] ty #[v, v2]).run P w = .ok v' w' →
          (execOp a.eval ⟨dst, .call { callee := .builtin .append, args := #[x, y], argTypes := #[t, t2] }, ty, pos, after, guard⟩).run P w = .ok (.value v') w' := fun v v2 e1 e2 v' w' hr => by
        simp [execOp, resolve, invoke, builtin, e1, e2, hr]
      obtain ⟨arr, T, fr, hb, hsz, hr, hf1, hf2, hf3⟩ := st.inv.cells k _ cs ho
      have hs : 0 < s := hf3.1
      have hasz : arr.size = (G.own k).2 * s := hf3.2.1
      generalize hv : a.eval x = v at rx
      cases rx with
      | mrow _ _ o0 hk0 hb0 hcap =>
      obtain ⟨hlen, huni2, vs, hvl, hvr, hv1⟩ := src_run (P := P) ry ey h6 (by rw [← h3]; exact hs)
      rw [← h3] at huni2 hv1
      have hvl' : vs.length = ys.length * s := by rw [hvl, flats_len fun x hx => (huni2 x hx).1]
      have hfl : (cs ++ flats ys).length = (n + ys.length) * s := by rw [List.length_append, h5, flats_len fun x hx => (huni2 x hx).1, Nat.add_mul]
      by_cases hfit : n + ys.length ≤ (G.own k).2
      · have hle : (n + ys.length) * s ≤ (G.own k).2 * s := Nat.mul_le_mul_right s hfit
        rw [Nat.add_mul] at hle
        obtain ⟨w', hst, hov⟩ := run_storeCells (P := P) (n * s) vs 0 w arr hb (fun v hv => by
          obtain ⟨j, hj'⟩ := List.mem_iff_getElem?.1 hv
          have hjl : j < (flats ys).length := by rw [← hvl]; exact lt_of_get hj'
          exact (hvr j _ v (List.getElem?_eq_getElem hjl) hj').2) (by rw [hvl', hasz]; omega) (fun j _ h7 => hf2 j (by rw [hasz]; omega))
        obtain ⟨g1, g2⟩ := Great.foldl_set (n * s) vs 0 arr
        have hrel : RelLe G H w (cs ++ flats ys) ((vs.zipIdx 0).foldl (fun cs (x : Value × Nat) => cs.setIfInBounds (n * s + x.2) x.1) arr) := by
          refine ⟨by rw [g1, hfl, hasz, Nat.add_mul]; exact hle, fun j x v e1 e2 => ?_⟩
          rw [g2 j] at e2
          simp only [Nat.add_zero] at e2
          by_cases hj : j < cs.length
          · rw [List.getElem?_append_left hj] at e1
            rw [if_neg (by omega)] at e2
            exact hr j x v e1 e2
          · rw [List.getElem?_append_right (by omega)] at e1
            have hjl := lt_of_get e1
            rw [if_pos (by rw [hvl, hasz]; rw [flats_len fun x hx => (huni2 x hx).1] at hjl ⊢; omega)] at e2
            rw [h5] at e1
            exact (hvr _ x v e1 e2).1
        obtain ⟨hi1, st1⟩ := over_cells st.inv ho (fun h => absurd rfl (h s).2) hb g1 hov hrel
        have hget : (H.set k (.cells (.prow s) (cs ++ flats ys)))[k]? = some (.cells (.prow s) (cs ++ flats ys)) := by simp [hkl]
        obtain ⟨hi2, st2, hb2, ho2⟩ := rename hi1 hget (.prow s) (G.own k).2 hov.row (cs' := cs ++ flats ys) ⟨hrel.1, fun j x v e1 e2 => (hrel.2 j x v e1 e2).mono st1⟩ ⟨hs, by rw [g1]; exact hasz, hf3.2.2⟩
        have hss : (H.set k (.cells (.prow s) (cs ++ flats ys))).set k .gone = H.set k .gone := by simp
        rw [hss] at hi2 st2
        have hll : (H.set k (.cells (.prow s) (cs ++ flats ys))).length = H.length := by simp
        rw [hll] at hb2 ho2
        refine ⟨.slice (some ⟨G.blk k, 0, none⟩) (n + ys.length) (G.own k).2, w', _, _, _, hop _ _ hv rfl _ _ ?_, hi2, st1.trans st2, ?_, hK⟩
        · have := hv1 w (fun _ => rfl)
          obtain ⟨d2, hd2, hnint⟩ := src_desc hL h1
          simp [Builtin.append_, run_underlying hu, run_size hL (known_ne h2), run_underlying hd2, hlen, hfit, ← h3, this, addr_add, hst]
        · have hml : (H.set k .gone).length = H.length := by simp
          have := rel_mrow_new (G := addBlk G (H.set k (AObj.cells (Shape.prow s) (cs ++ flats ys))) (G.blk k) (G.own k).2) (H := H.set k .gone) (w := w') (sh := .prow s) (cs := cs ++ flats ys) (b := G.blk k) (cap := (G.own k).2) (len := n + ys.length) (by rw [hml]; exact hb2) (by rw [hml, ho2]) hfit
          rwa [hml] at this
      · obtain ⟨us, hul, hur, hu1⟩ := first_of_cells (P := P) st.inv ho (off := 0) (m := n) (s := s) (n := n) (cap := (G.own k).2) (by omega)
        rw [List.drop_zero, List.take_of_length_le (by omega)] at hur
        obtain ⟨zc, hzc, hrun⟩ := append_moves (ty := ty) (n := n) (cap := (G.own k).2) (m := ys.length) hL hk (src_desc hL h1) h2 h3 h4 h8 (by omega) hlen (hu1 w.drew fun _ => rfl) (hv1 w.drew fun _ => rfl)
        obtain ⟨G', hi', hst, hrel⟩ := new_row (e := e) st.inv hs (cs := cs ++ flats ys) (us := us ++ vs) (n := n + ys.length) (cap := grownCap w (n + ys.length) (G.own k).2 e) (by rw [List.length_append, List.length_append, hul, hvl, h5]) hfl (grownCap_ge w _ _ e) hzc (fun j x u e1 e2 => by
          by_cases hj : j < cs.length
          · rw [List.getElem?_append_left hj] at e1
            rw [List.getElem?_append_left (by omega)] at e2
            exact hur j x u e1 e2
          · rw [List.getElem?_append_right (by omega)] at e1
            rw [List.getElem?_append_right (by omega), hul, ← h5] at e2
            exact (hvr _ x u e1 e2).1)
        obtain ⟨hi2, st2⟩ := retire (k := k) hi' (sh := .prow s) (cs := cs) (by rw [List.getElem?_append_left hkl]; exact ho)
        rw [List.set_append_left _ _ hkl] at hi2 st2
        exact ⟨_, _, _, G', _, hop _ _ hv rfl _ _ hrun, hi2, hst.trans st2, hrel.mono st2, hK⟩
    · exact h.elim
  · exact h.elim

/-- append of new elements, where there is no room: a new block, all of whose cells are told. -/
def vcAppendZ (L : Tab) (t t2 : TypeId) (x y : AV) (H : List AObj) (K : AV → List AObj → Prop) [Tag K] : Prop :=
  match (L t).k, (L t2).k, x, y with
  | .slice e, .int .i64, .msl k off n cap, .lit (.int _ c) => match H[k]? with
    | some (.cells _ cs) => (known (L e) = true ∧ 0 < (L e).size ∧ 0 < (L e).bytes ∧ off + n * (L e).size ≤ cs.length ∧ 0 ≤ c ∧ (cap : Int) < n + c ∧ ((n : Int) + c) * (L e).bytes ≤ 140737488355328) ∧
      ∀ z, K (.msl H.length 0 (n + c.toNat) (n + c.toNat + z)) (H ++ [.cells (.raw e) ((cs.drop off).take (n * (L e).size) ++ List.replicate ((c.toNat + z) * (L e).size) .any)])
    | _ => False
  | _, _, _, _ => False
theorem aop_appendZ {L : Tab} (hL : TabOk P L) {t t2 : TypeId} {x y : Operand} {K : AV → List AObj → Prop} (h : vcAppendZ L t t2 (ev env x) (ev env y) H K) :
    AOp P ⟨dst, .call { callee := .builtin .append, args := #[x, y], argTypes := #[t, t2] }, ty, pos, after, guard⟩ env H K := .of_run fun n0 ds G a w st => by
  unfold vcAppendZ at h
  split at h
  · rename_i e k off n cap q c hk hk2 ex ey
    split at h
    · rename_i sh cs ho
      obtain ⟨⟨h1, h2, h3, h4, h5, h6, h7⟩, hK⟩ := h
      have rx := st.ev x
      have ry := st.ev y
      rw [ex] at rx
      rw [ey] at ry
      have hy := rel_lit_inv ry
      have hu := (hL t (by rw [hk]; simp)).1
      rw [hk] at hu
      simp only [TKOk] at hu
      have hu2 := (hL t2 (by rw [hk2]; simp)).1
      rw [hk2] at hu2
      simp only [TKOk] at hu2
      obtain ⟨_, ie, zv, hie, hisz, hiby, hzl, hzv, hzs, _⟩ := hL e (known_ne h1)
      generalize hv : a.eval x = v at rx
      cases rx with
      | msl _ _ _ _ o0 hk0 hb0 hcap =>
      obtain ⟨us, hul, hur, hu1⟩ := first_of_cells (P := P) st.inv ho (off := off) (m := n) (s := (L e).size) (n := n) (cap := cap) h4
      have hzsz : zv.cells.size = (L e).size := by
        have := (rel_zero (H := []) (G := G) (w := w) hzs).1
        rw [this, hzl]
      obtain ⟨m, rfl⟩ : ∃ m : Nat, c = m := ⟨c.toNat, by omega⟩
      simp only [Int.toNat_natCast] at hK
      have hroom : (n + m) * ie.bytes ≤ 140737488355328 := by
        have e1 : ((n : Int) + (m : Int)) * ((L e).bytes : Int) = (((n + m) * (L e).bytes : Nat) : Int) := by rw [Int.natCast_mul, Int.natCast_add]
        rw [e1] at h7
        rw [hiby]
        omega
      have hb1 : 1 ≤ ie.bytes := by rw [hiby]; exact h3
      have hm64 : n + m ≤ 140737488355328 := Nat.le_trans (Nat.le_mul_of_pos_right _ hb1) hroom
      have hmb : m * ie.bytes ≤ 140737488355328 := Nat.le_trans (Nat.mul_le_mul_right _ (by omega)) hroom
      have hw : IntKind.i64.wrap (m : Int) = m := by rw [IntKind.wrap_i64]; omega
      have hnoov : ¬ (281474976710656 < Builtin.nextslicecap (n + m) cap * ie.bytes) := by
        have := growslice_fits (need := n + m) (old := cap) (bytes := ie.bytes) (by omega) hroom
        omega
      have hnm : ¬ (281474976710656 < (m : Int) * (ie.bytes : Int)) := by rw [← Int.natCast_mul]; omega
      have hneg : ¬ ((m : Int) < 0) := by omega
      have hmp : 0 < m := by omega
      have hns : ¬ (m * ie.size = 0) := Nat.mul_ne_zero (by omega) (by rw [hisz]; omega)
      have h63 : ¬ (9223372036854775807 < ((n : Int) + (m : Int))) := by omega
      have hbz : ie.bytes ≠ 0 := by omega
      have hu1' := hu1 w.drew fun _ => rfl
      rw [← hisz] at hu1'
      have hrun : (Builtin.append_ #[t, t2] ty #[.slice (some ⟨G.blk k, off, none⟩) n cap, .int q m]).run P w =
          .ok (.slice (some ⟨w.heap.size, 0, none⟩) (n + m) (grownCap w (n + m) cap e)) (w.drew.alloc (.cells (us.toArray ++ Builtin.zeroCells zv.cells m ++ Builtin.zeroCells zv.cells (grownCap w (n + m) cap e - (n + m))) e)) := by
        have hfit : ¬ (n + m ≤ cap) := by omega
        simp [Builtin.append_, run_underlying hu, run_underlying hu2, sizeOf, typeInfo, zeroValue, hie, hzv, asInt, asIntOf, hw, hneg, hns, h63, hnoov, hnm, Question.forced, newRow, grownCap, hfit, hu1', hbz]
      have hcg : n + m ≤ grownCap w (n + m) cap e := grownCap_ge w _ cap e
      have hK' := hK (grownCap w (n + m) cap e - (n + m))
      rw [show n + m + (grownCap w (n + m) cap e - (n + m)) = grownCap w (n + m) cap e by omega] at hK'
      have hz1 : (Builtin.zeroCells zv.cells m).size = m * (L e).size := by simp [Builtin.zeroCells, hzsz]
      have hz2 : (Builtin.zeroCells zv.cells (grownCap w (n + m) cap e - (n + m))).size = (grownCap w (n + m) cap e - (n + m)) * (L e).size := by simp [Builtin.zeroCells, hzsz]
      have hdl : ((cs.drop off).take (n * (L e).size)).length = n * (L e).size := by rw [List.length_take, List.length_drop]; omega
      have hsz : (us.toArray ++ Builtin.zeroCells zv.cells m ++ Builtin.zeroCells zv.cells (grownCap w (n + m) cap e - (n + m))).size = ((cs.drop off).take (n * (L e).size) ++ List.replicate ((m + (grownCap w (n + m) cap e - (n + m))) * (L e).size) AV.any).length := by
        rw [Array.size_append, Array.size_append, List.size_toArray, hul, hz1, hz2, List.length_append, List.length_replicate, hdl, Nat.add_mul]
        omega
      have hrc : RelLe G H w ((cs.drop off).take (n * (L e).size) ++ List.replicate ((m + (grownCap w (n + m) cap e - (n + m))) * (L e).size) AV.any) (us.toArray ++ Builtin.zeroCells zv.cells m ++ Builtin.zeroCells zv.cells (grownCap w (n + m) cap e - (n + m))) := by
        refine ⟨Nat.le_of_eq hsz.symm, fun j x v e1 e2 => ?_⟩
        by_cases hj : j < n * (L e).size
        · rw [List.getElem?_append_left (by omega)] at e1
          rw [Array.append_assoc, Array.getElem?_append_left (by rw [List.size_toArray]; omega)] at e2
          exact hur j x v e1 (by simpa using e2)
        · rw [List.getElem?_append_right (by omega)] at e1
          rw [List.getElem?_replicate] at e1
          split at e1
          · cases e1; exact .any _
          · cases e1
      obtain ⟨hi', hst, hb, _⟩ := new_cells st.inv (More.refl w).drew rfl hrc e (0, 0) (.inr rfl) (.raw e) 0 ⟨rfl, hsz⟩
      refine ⟨.slice (some ⟨w.heap.size, 0, none⟩) (n + m) (grownCap w (n + m) cap e), _, _, _, _, ?_, hi', hst, ?_, hK'⟩
      · simp [execOp, resolve, invoke, builtin, hv, hy, hrun]
      · have := Rel.msl (G := addBlk G H w.heap.size 0) (H := H ++ [.cells (.raw e) ((cs.drop off).take (n * (L e).size) ++ List.replicate ((m + (grownCap w (n + m) cap e - (n + m))) * (L e).size) AV.any)]) (w := w.drew.alloc (.cells (us.toArray ++ Builtin.zeroCells zv.cells m ++ Builtin.zeroCells zv.cells (grownCap w (n + m) cap e - (n + m))) e (0, 0)))
          H.length 0 (n + m) (grownCap w (n + m) cap e) _ List.getElem?_concat_length rfl hcg
        rw [hb] at this
        exact this
    · exact h.elim
  · exact h.elim

/-- What is copied: how many elements, and their cells. -/
def copySrc (H : List AObj) (s dn : Nat) (y : AV) : Option (Prop × Nat × List AV) :=
  match y with
  | .msl k off n _ => match H[k]? with
    | some (.cells _ cs) => some (off + n * s ≤ cs.length ∧ (((cs.drop off).take (min n dn * s)).all AV.scalar = true), min n dn, (cs.drop off).take (min n dn * s))
    | _ => none
  | y => match srcAV y with
    | some (z, ys) => some ((ys ≠ [] → z = s) ∧ ys.length ≤ dn, ys.length, flats ys)
    | none => none
theorem copySrc_run {G : Gh} {w : World} (hi : HInv G H w) {s dn : Nat} (hs : 0 < s) {y : AV} {v : Value} (ry : Rel G H w y v) {p : Prop} {m : Nat} {zs : List AV} (h : copySrc H s dn y = some (p, m, zs)) (hp : p) :
    ∃ len, (Builtin.lenOf v).run P w = .ok len w ∧ Nat.min len dn = m ∧ m ≤ dn ∧ zs.length = m * s ∧ ∃ vs : List Value, vs.length = m * s ∧ (∀ (j : Nat) x u, zs[j]? = some x → vs[j]? = some u → Rel G H w x u) ∧ (∀ u ∈ vs, u.oneCell' = true) ∧ (Builtin.firstCells s m v).run P w = .ok vs.toArray w := by
  unfold copySrc at h
  split at h
  · rename_i k off n cap
    split at h
    · rename_i sh cs ho
      cases h
      obtain ⟨h1, h2⟩ := hp
      cases ry with
      | msl _ _ _ _ o0 hk0 hb0 hcap =>
      have hms : min n dn * s ≤ n * s := Nat.mul_le_mul_right s (Nat.min_le_left ..)
      obtain ⟨us, hul, hur, hu1⟩ := first_of_cells (P := P) hi ho (off := off) (m := min n dn) (s := s) (n := n) (cap := cap) (by omega)
      have hdl : ((cs.drop off).take (min n dn * s)).length = min n dn * s := by rw [List.length_take, List.length_drop]; omega
      refine ⟨n, by simp [Builtin.lenOf], rfl, Nat.min_le_right .., hdl, us, hul, hur, fun u hu => ?_, hu1 w fun _ => rfl⟩
      obtain ⟨j, hj⟩ := List.mem_iff_getElem?.1 hu
      have hjl := lt_of_get hj
      have hx : ((cs.drop off).take (min n dn * s))[j]? = some (((cs.drop off).take (min n dn * s))[j]'(by omega)) := List.getElem?_eq_getElem _
      exact (scalar_cells (hur j _ u hx hj) (List.all_eq_true.1 h2 _ (List.getElem_mem _))).2.1
    · cases h
  · rename_i y' _
    split at h
    · rename_i z ys ey
      cases h
      obtain ⟨h1, h2⟩ := hp
      obtain ⟨hlen, huni2, vs, hvl, hvr, hv1⟩ := src_run (P := P) ry ey h1 hs
      have hfl := flats_len (s := s) fun x hx => (huni2 x hx).1
      refine ⟨ys.length, hlen w, Nat.min_eq_left h2, h2, hfl, vs, by rw [hvl, hfl], fun j x u e e' => (hvr j x u e e').1, fun u hu => ?_, hv1 w fun _ => rfl⟩
      obtain ⟨j, hj⟩ := List.mem_iff_getElem?.1 hu
      have hjl : j < (flats ys).length := by rw [← hvl]; exact lt_of_get hj
      exact (hvr j _ u (List.getElem?_eq_getElem hjl) hj).2
    · cases h
/-- copy, into an object. -/
def vcCopy (L : Tab) (t : TypeId) (x y : AV) (H : List AObj) (K : AV → List AObj → Prop) [Tag K] : Prop :=
  match (L t).k, x with
  | .slice e, .msl k off dn _ => match H[k]?, copySrc H (L e).size dn y with
    | some (.cells sh cs), some (p, m, zs) => (known (L e) = true ∧ 0 < (L e).size ∧ off + m * (L e).size ≤ cs.length ∧ p) ∧ K (.int .i64 m) (H.set k (.cells sh (aset cs off zs)))
    | _, _ => False
  | _, _ => False
theorem aop_copy {L : Tab} (hL : TabOk P L) {t t2 : TypeId} {x y : Operand} {K : AV → List AObj → Prop} (h : vcCopy L t (ev env x) (ev env y) H K) :
    AOp P ⟨dst, .call { callee := .builtin .copy, args := #[x, y], argTypes := #[t, t2] }, ty, pos, after, guard⟩ env H K := .of_run fun n0 ds G a w st => by
  unfold vcCopy at h
  split at h
  · rename_i e k off dn cap hk ex
    split at h
    · rename_i sh cs p m zs ho hsrc
      obtain ⟨⟨h1, h2, h3, h4⟩, hK⟩ := h
      have rx := st.ev x
      have ry := st.ev y
      rw [ex] at rx
      have hu := (hL t (by rw [hk]; simp)).1
      rw [hk] at hu
      simp only [TKOk] at hu
      obtain ⟨len, hlen, hmin, hmd, hzl, vs, hvl, hvr, hv1c, hv1⟩ := copySrc_run (P := P) st.inv h2 ry hsrc h4
      obtain ⟨arr, T, fr, hb, hsz, hr, hf1, hf2, hf3⟩ := st.inv.cells k sh cs ho
      generalize hv : a.eval x = v at rx
      cases rx with
      | msl _ _ _ _ o0 hk0 hb0 hcap =>
      obtain ⟨w', hst, hov⟩ := run_storeCells (P := P) off vs 0 w arr hb hv1c (by omega) (fun j _ _ => hf2 j (by omega))
      have hrel := relcells_over (off := off) (xs := zs) (vs := vs) ⟨hsz, hr⟩ (by omega) hvr
      obtain ⟨hi', st'⟩ := over_cells st.inv ho (fun _ => by rw [aset_len]) hb (overAt_size ..) hov hrel
      refine ⟨.int .i64 m, w', _, G, _, ?_, hi', st', .lit _, hK⟩
      simp [execOp, resolve, invoke, builtin, hv, Builtin.copy_, run_underlying hu, run_size hL (known_ne h1), hlen, hmin, hv1, hst, goInt]
    · exact h.elim
  · exact h.elim

/-- A literal of a slice, in memory that is written. -/
def vcBuildM (L : Tab) (t : TypeId) (len : Nat) (parts : List (Nat × AV)) (H : List AObj) (K : AV → List AObj → Prop) [Tag K] : Prop :=
  match (L t).k with
  | .slice e => (len ≠ 0 ∧ known (L e) = true ∧ 0 < (L e).size ∧ (L e).zero.length = (L e).size ∧ len * (L e).size ≤ 16777216 ∧ (afill (fun i => some (i * (L e).size, (L e).size)) (zeroFlat (L e).zero (len * (L e).size)) parts).1) ∧
      K (.msl H.length 0 len len) (H ++ [.cells (.one e) (afill (fun i => some (i * (L e).size, (L e).size)) (zeroFlat (L e).zero (len * (L e).size)) parts).2])
  | _ => False
theorem aop_buildM {L : Tab} (hL : TabOk P L) {t : TypeId} {len : Nat} {parts : Array (Nat × Operand)} {K : AV → List AObj → Prop} (h : vcBuildM L t len (evParts env parts) H K) :
    AOp P ⟨dst, .buildSlice t len parts, ty, pos, after, guard⟩ env H K := .of_run fun n0 ds G a w st => by
  unfold vcBuildM at h
  split at h
  · rename_i e hk
    obtain ⟨⟨h0, h1, h2, h3, h4, h5⟩, hK⟩ := h
    have hu := (hL t (by rw [hk]; simp)).1
    rw [hk] at hu
    simp only [TKOk] at hu
    obtain ⟨arr', hrun, hb⟩ := build_run hL st hu h0 h1 h2 h3 h4 h5
    obtain ⟨hi', hst, hb', _⟩ := new_cells st.inv (More.refl w) rfl hb.le e (0, 0) (.inr rfl) (.one e) 0 ⟨rfl, hb.1, rfl⟩
    refine ⟨.slice (some ⟨w.heap.size, 0, none⟩) len len, _, _, _, _, by simp only [execOp, Sem.run_bind, hrun, Result.andThen_ok, Sem.run_pure], hi', hst, ?_, hK⟩
    have := Rel.msl (G := addBlk G H w.heap.size 0) (H := H ++ [.cells (.one e) (afill (fun i => some (i * (L e).size, (L e).size)) (zeroFlat (L e).zero (len * (L e).size)) (evParts env parts)).2]) (w := w.alloc (.cells arr' e (0, 0)))
      H.length 0 len len _ List.getElem?_concat_length rfl (Nat.le_refl _)
    rw [hb'] at this
    exact this
  · exact h.elim

/-- A new slice of zeros, in memory that is written. -/
def vcMake (L : Tab) (t : TypeId) (x y : AV) (H : List AObj) (K : AV → List AObj → Prop) [Tag K] : Prop :=
  match (L t).k, x, y with
  | .slice e, .lit (.int _ n), .lit (.int _ c) => (known (L e) = true ∧ 0 < (L e).size ∧ (L e).zero.length = (L e).size ∧ 0 ≤ n ∧ n ≤ c ∧ c ≤ 9223372036854775807 ∧ ((L e).bytes : Int) * c ≤ 281474976710656) ∧
      K (.msl H.length 0 n.toNat c.toNat) (H ++ [.cells (.one e) (zeroFlat (L e).zero (c.toNat * (L e).size))])
  | _, _, _ => False
theorem aop_make {L : Tab} (hL : TabOk P L) {t : TypeId} {x y : Operand} {K : AV → List AObj → Prop} (h : vcMake L t (ev env x) (ev env y) H K) :
    AOp P ⟨dst, .makeSlice t x y, ty, pos, after, guard⟩ env H K := .of_run fun n0 ds G a w st => by
  unfold vcMake at h
  split at h
  · rename_i e q n q' c hk ex ey
    obtain ⟨⟨h1, h2, h3, h4, h5, h6, h7⟩, hK⟩ := h
    have rx := st.ev x
    have ry := st.ev y
    rw [ex] at rx
    rw [ey] at ry
    have hx := rel_lit_inv rx
    have hy := rel_lit_inv ry
    have hu := (hL t (by rw [hk]; simp)).1
    rw [hk] at hu
    simp only [TKOk] at hu
    obtain ⟨_, ie, zv, hie, hisz, hiby, hzl, hzv, hzs, _⟩ := hL e (known_ne h1)
    have hzr := rel_zero (H := H) (G := G) (w := w) hzs
    have hzl' : zv.cells.size = (L e).size := by rw [hzr.1, h3]
    have hrun := run_make (P := P) w t e ie zv hu hie hzv q q' n c h4 h5 (by rw [hiby]; exact h7) h6
    rw [hisz] at hrun
    have hrc : RelCells G H w (zeroFlat (L e).zero (c.toNat * (L e).size)) (madeCells zv.cells (c.toNat * (L e).size)) := by
      refine ⟨by simp [zeroFlat, madeCells], fun j x v e1 e2 => ?_⟩
      have hj : j < c.toNat * (L e).size := by simpa [zeroFlat] using lt_of_get e1
      have hmod : j % (L e).size < (L e).size := Nat.mod_lt _ h2
      simp only [zeroFlat, List.getElem?_map, List.getElem?_range hj, Option.map_some, Option.some.injEq] at e1
      have e2' : zv.cells[j % zv.cells.size]! = v := by
        unfold madeCells at e2
        rw [Array.getElem?_map, Array.getElem?_range] at e2
        rw [if_pos hj] at e2
        simpa using e2
      subst e1
      rw [← e2', h3]
      refine hzr.2 (j % (L e).size) _ _ (by simp [List.getD, List.getElem?_eq_getElem (show j % (L e).size < (L e).zero.length by omega)]) ?_
      rw [hzl', Array.getElem?_eq_getElem (by omega)]
      simp [getElem!_def, Array.getElem?_eq_getElem (show j % (L e).size < zv.cells.size by omega)]
    obtain ⟨hi', hst, hb', _⟩ := new_cells st.inv (More.refl w) rfl hrc.le e (0, 0) (.inr rfl) (.one e) 0 ⟨rfl, hrc.1, rfl⟩
    refine ⟨.slice (some ⟨w.heap.size, 0, none⟩) n.toNat c.toNat, _, _, _, _, by simp only [execOp, hx, hy, Sem.run_bind, hrun, Result.andThen_ok, Sem.run_pure], hi', hst, ?_, hK⟩
    have := Rel.msl (G := addBlk G H w.heap.size 0) (H := H ++ [.cells (.one e) (zeroFlat (L e).zero (c.toNat * (L e).size))]) (w := w.alloc (.cells (madeCells zv.cells (c.toNat * (L e).size)) e (0, 0)))
      H.length 0 n.toNat c.toNat _ List.getElem?_concat_length rfl (by omega)
    rw [hb'] at this
    exact this
  · exact h.elim

/-- Which buffer's element type a new variable's nil slice has a token for. -/
def bufOf : List Nat → Nat → Option Nat
  | [], _ => none
  | c :: r, d => if c = 3000000000 + d * 1000 + c % 1000 then some (c % 1000) else bufOf r d
def mintNil (m : Nat) : List AV → List AV
  | [] => []
  | .sl .full 0 [] :: r => .sl (.tok m) 1 [] :: r
  | x :: r => x :: mintNil m r
theorem mintNil_len (m : Nat) : ∀ l, (mintNil m l).length = l.length
  | [] => rfl
  | x :: r => by
    unfold mintNil
    split
    · rename_i h; cases h
    · rename_i h; cases h; rfl
    · rename_i h; cases h; rw [List.length_cons, List.length_cons, mintNil_len m r]
theorem mintNil_rel {G : Gh} {w : World} {m : Nat} {e : TypeId} (hm : H[m]? = some (.grow 1 0 (some e))) (ho : G.own m = (none, 0)) : ∀ (vs : List Value) (zs : List AV), vs.map ofCell = zs → (∀ (j : Nat) x v, (mintNil m zs)[j]? = some x → vs[j]? = some v → Rel G H w x v)
  | [], zs, h, j, x, v, e1, e2 => by simp at e2
  | u :: us, zs, h, j, x, v, e1, e2 => by
    subst h
    rw [List.map_cons] at e1
    have tok : Rel G H w (.sl (.tok m) 1 []) (.slice none 0 0) := .sl (.tok m) 1 [] none 0 0 (fun _ => undef) rfl (Nat.le_refl _) (fun x hx => by cases hx) (fun j x e => by simp [flats] at e) (fun j x e => by simp [flats] at e) (fun e => by cases e) (fun h => absurd h (by omega)) (fun k e => by
      cases e
      exact ⟨0, some _, hm, Nat.le_refl _, fun _ => ho⟩)
    have rest : ∀ (j : Nat) x v, (us.map ofCell)[j]? = some x → us[j]? = some v → Rel G H w x v := fun j x v e1 e2 => by
      rw [List.getElem?_map, e2] at e1
      cases e1
      exact rel_ofCell v
    unfold mintNil at e1
    split at e1
    · rename_i heq; simp at heq
    · rename_i r heq
      simp only [List.cons.injEq] at heq
      obtain ⟨hu, rfl⟩ := heq
      cases j with
      | zero =>
        simp at e1 e2
        subst e1
        subst e2
        have : u = .slice none 0 0 := by
          unfold ofCell at hu
          split at hu <;> first | rfl | cases hu
        rw [this]
        exact tok
      | succ j => exact rest j x v (by simpa using e1) (by simpa using e2)
    · rename_i y r _ heq
      simp only [List.cons.injEq] at heq
      obtain ⟨hu, rfl⟩ := heq
      cases j with
      | zero =>
        simp at e1 e2
        subst e1
        subst e2
        rw [← hu]
        exact rel_ofCell u
      | succ j => exact mintNil_rel hm ho us _ rfl j x v (by simpa using e1) (by simpa using e2)
/-- A new variable that holds a buffer. -/
theorem aop_allocB {L : Tab} (hL : TabOk P L) {e u : TypeId} {K : AV → List AObj → Prop} (hx : known (L e) = true) (hk : K (.mp H.length 0) (H ++ [.cells (.one e) (mintNil (H.length + 1) (L e).zero), .grow 1 0 (some u)])) : AOp P ⟨dst, .alloc e, ty, pos, after, guard⟩ env H K := .of_run fun n ds G a w s => by
  obtain ⟨_, i, z, hi', _, _, _, hz, hzs, _⟩ := hL e (known_ne hx)
  have hzr := rel_zero (H := H) (G := G) (w := w) hzs
  obtain ⟨hi, hst, hb, hown⟩ := new_cells s.inv (More.refl w) rfl hzr.le e (0, 0) (.inr rfl) (.one e) 0 ⟨rfl, hzr.1, rfl⟩
  have hnil := rel_nil (G := addBlk G H w.heap.size 0) (H := H ++ [.cells (.one e) (L e).zero]) (w := w.alloc (.cells z.cells e (0, 0))) 0
  obtain ⟨hi2, st2, _⟩ := mint (some u) hi hnil (s := 1) (by omega) (fun h => absurd rfl h) (fun _ => ⟨rfl, rfl⟩)
  have hl1 : (H ++ [AObj.cells (.one e) (L e).zero]).length = H.length + 1 := by simp
  rw [hl1, List.length_nil] at hi2 st2
  have hk0 : (H ++ [AObj.cells (.one e) (L e).zero] ++ [.grow 1 0 (some u)])[H.length]? = some (.cells (.one e) (L e).zero) := by
    rw [List.append_assoc, List.getElem?_append_right (Nat.le_refl _), Nat.sub_self]; rfl
  have hk1 : (H ++ [AObj.cells (.one e) (L e).zero] ++ [.grow 1 0 (some u)])[H.length + 1]? = some (.grow 1 0 (some u)) := by
    rw [← hl1]; exact List.getElem?_concat_length
  have hrow : (w.alloc (.cells z.cells e (0, 0))).heap[(setOwn (addBlk G H w.heap.size 0) (H.length + 1) none 0).blk H.length]? = some (.cells z.cells e (0, 0)) := by
    show (w.heap.push (.cells z.cells e (0, 0)))[(addBlk G H w.heap.size 0).blk H.length]? = _
    rw [hb]
    simp
  have hlen : (mintNil (H.length + 1) (L e).zero).length = (L e).zero.length := mintNil_len _ _
  obtain ⟨hi3, st3⟩ := over_cells hi2 hk0 (cs' := mintNil (H.length + 1) (L e).zero) (fun _ => hlen) hrow rfl ⟨rfl, rfl, rfl, rfl, fun _ _ => rfl, hrow⟩ ⟨by rw [hlen]; exact Nat.le_of_eq hzr.1.symm, fun j x v e1 e2 => mintNil_rel hk1 (by simp [setOwn]) z.cells.toList _ hzs j x v e1 (by simpa using e2)⟩
  have hset : (H ++ [AObj.cells (.one e) (L e).zero] ++ [AObj.grow 1 0 (some u)]).set H.length (AObj.cells (.one e) (mintNil (H.length + 1) (L e).zero)) = H ++ [AObj.cells (.one e) (mintNil (H.length + 1) (L e).zero), AObj.grow 1 0 (some u)] := by
    rw [List.append_assoc, List.set_append_right _ _ (Nat.le_refl _), Nat.sub_self]; rfl
  rw [hset] at hi3 st3
  refine ⟨.pointer (some ⟨w.heap.size, 0, none⟩), _, .mp H.length 0, _, _, by simp [execOp, Instr.alloc, zeroValue, typeInfo, hi', hz, newVar, newRow], hi3, (hst.trans st2).trans st3, ?_, hk⟩
  have := Rel.mp (G := setOwn (addBlk G H w.heap.size 0) (H.length + 1) none 0) (H := H ++ [.cells (.one e) (mintNil (H.length + 1) (L e).zero), .grow 1 0 (some u)]) (w := w.alloc (.cells z.cells e (0, 0))) H.length 0 (.cells (.one e) (mintNil (H.length + 1) (L e).zero)) (by rw [List.getElem?_append_right (Nat.le_refl _), Nat.sub_self]; rfl) rfl
  rw [show (setOwn (addBlk G H w.heap.size 0) (H.length + 1) none 0).blk H.length = w.heap.size from hb] at this
  exact this

/-- A buffer's bytes are told as a string: the world remembers that they are written no more. -/
theorem frozen_world {G : Gh} {w : World} (hi : HInv G H w) {k n cap : Nat} {e : TypeId} {b : Nat} (hk : H[k]? = some (.grow 1 n (some e))) (ho : G.own k = (some ⟨b, 0, none⟩, cap)) (hn : 0 < n) :
    HInv G H (w.freeze ⟨b, 0, none⟩ n) ∧ Step G H w G H (w.freeze ⟨b, 0, none⟩ n) := by
  obtain ⟨_, hcap, _, hty⟩ := hi.grow k 1 n _ hk
  rw [ho] at hcap
  rcases hty e rfl with h | ⟨b', arr, ⟨lo, hi0⟩, h1, h2, h3, h4, h5, h6⟩
  · rw [ho] at h; cases h
  rw [ho] at h1 h2 h4
  cases h1
  simp only at hcap h2 h4 h5
  have hsite : site G H k = some b := by
    unfold site
    rw [hk, ho]
    simp only
    rw [if_pos (.inr ⟨rfl, h2⟩)]
  obtain ⟨fr', hfr', hrow⟩ : ∃ fr' : Nat × Nat, fr'.2 ≤ n ∧ (w.freeze ⟨b, 0, none⟩ n).heap[b]? = some (.cells arr e fr') := by
    refine ⟨if lo == hi0 then (0, 0 + n) else (min lo 0, max hi0 (0 + n)), ?_, ?_⟩
    · by_cases hl : lo = hi0
      · simp [hl]
      · have h5' : hi0 ≤ n := by rcases h5 with h | h; exact absurd h hl; omega
        simp only [beq_iff_eq, hl, if_false]
        omega
    · unfold World.freeze
      rw [if_neg (by omega)]
      simp [Array.getElem?_modify, h3]
  have hother : ∀ c, c ≠ b → (w.freeze ⟨b, 0, none⟩ n).heap[c]? = w.heap[c]? := fun c hc => by
    unfold World.freeze
    rw [if_neg (by omega)]
    simp [Array.getElem?_modify, show ¬ b = c from fun h => hc h.symm]
  have hsize : (w.freeze ⟨b, 0, none⟩ n).heap.size = w.heap.size := by
    unfold World.freeze
    rw [if_neg (by omega)]
    simp
  have hos : (w.freeze ⟨b, 0, none⟩ n).os = w.os ∧ (w.freeze ⟨b, 0, none⟩ n).tape = w.tape ∧ (w.freeze ⟨b, 0, none⟩ n).output = w.output := by
    unfold World.freeze
    rw [if_neg (by omega)]
    exact ⟨rfl, rfl, rfl⟩
  have hcell : ∀ c off, (w.freeze ⟨b, 0, none⟩ n).cell? ⟨c, off, none⟩ = w.cell? ⟨c, off, none⟩ := fun c off => by
    by_cases hc : c = b
    · subst hc; rw [cell_row hrow, cell_row h3]
    · exact World.cell?_of_block (w := w) (hother c hc)
  generalize w.freeze ⟨b, 0, none⟩ n = w' at *
  have st : Step G H w G H w' := ⟨congrArg (fun o => (o, G.lp)) hos.1, hos.2.1, hos.2.2, Nat.le_of_eq hsize.symm, fun _ _ h => h, fun c off _ => hcell c off, fun c hc => hother c fun e => by subst e; exact h6 arr.size (Nat.le_refl _) (hc _), (Step.refl G H w).obj⟩
  refine ⟨⟨fun c off h => by rw [hsize]; exact hi.lt c off h, fun i sh c ei => ?_, fun i s m t ei => ?_, hi.apart, hi.tabs.step st⟩, st⟩
  · obtain ⟨a1, T1, f1, hb1, hs1, hr1, hg1, hg2, hg3⟩ := hi.cells i sh c ei
    have hne : G.blk i ≠ b := fun e => by
      have := hi.apart i k b (by simp [site, ei, e]) hsite
      subst this
      rw [hk] at ei
      cases ei
    exact ⟨a1, T1, f1, (hother _ hne).trans hb1, hs1, fun j x v ex ev => (hr1 j x v ex ev).mono st, hg1, fun off h => (World.frozen?_of_block (w := w) (hother _ hne)).trans (hg2 off h), hg3⟩
  · obtain ⟨g0, g1, g2, g3⟩ := hi.grow i s m t ei
    by_cases hik : i = k
    · subst hik
      rw [hk] at ei
      cases ei
      refine ⟨g0, g1, fun hlt => ?_, fun e' he' => .inr ⟨b, arr, fr', by rw [ho], by rw [ho]; exact h2, ?_, by rw [ho]; exact h4, .inr (by omega), h6⟩⟩
      · obtain ⟨b1, off1, a1, T1, f1, ea1, hb1, hsz1, hj1⟩ := g2 hlt
        rw [ho] at ea1
        cases ea1
        rw [h3] at hb1
        cases hb1
        refine ⟨b, 0, arr, e, fr', by rw [ho], hrow, hsz1, fun j h7 h8 => ⟨(hj1 j h7 h8).1, ?_⟩⟩
        obtain ⟨f1, f2⟩ := fr'
        simp only [World.frozen?, hrow, Bool.and_eq_false_iff, decide_eq_false_iff_not]
        simp only at hfr'
        omega
      · cases he'
        exact hrow
    · refine ⟨g0, g1, fun hlt => ?_, ?_⟩
      · obtain ⟨b1, off1, a1, T1, f1, ea1, hb1, hsz1, hj1⟩ := g2 hlt
        have hne : b1 ≠ b := fun e => hik (hi.apart i k b (e ▸ site_grow ei hlt ea1) hsite)
        exact ⟨b1, off1, a1, T1, f1, ea1, (hother _ hne).trans hb1, hsz1, fun j h7 h8 => ⟨(hj1 j h7 h8).1, (World.frozen?_of_block (w := w) (hother _ hne)).trans (hj1 j h7 h8).2⟩⟩
      · intro e' he'
        rcases g3 e' he' with h | ⟨b1, a1, f1, h7, h8, h9, h10⟩
        · exact .inl h
        · have hne : b1 ≠ b := fun e => by
            have hs1 : site G H i = some b1 := by
              unfold site
              rw [ei, show G.own i = (some ⟨b1, 0, none⟩, (G.own i).2) by rw [← h7]]
              simp only
              rw [if_pos (.inr ⟨by rw [he']; rfl, h8⟩)]
            exact hik (hi.apart i k b (e ▸ hs1) hsite)
          exact .inr ⟨b1, a1, f1, h7, h8, (hother _ hne).trans h9, h10⟩

/-- unsafe.SliceData of a buffer; unsafe.String of it. -/
def qSliceData (H : List AObj) (x : AV) : Option (Prop × AV) :=
  match x with
  | .sl (.tok k) 1 xs => match H[k]? with
    | some (.grow 1 n (some _)) => some (n = xs.length, .data (.sl (.tok k) 1 xs))
    | _ => none
  | _ => none
theorem still_sliceData {x : Operand} {ats : Array TypeId} {p : Prop} {z : AV} (h : qSliceData H (ev env x) = some (p, z)) : Still P ⟨dst, .call { callee := .builtin .unsafeSliceData, args := #[x], argTypes := ats }, ty, pos, after, guard⟩ env H p z := fun hp _ _ G a w s => by
  have rx := s.ev x
  unfold qSliceData at h
  split at h
  · rename_i k xs ex
    split at h
    · rename_i n e hk
      cases h
      rw [ex] at rx
      generalize hv : a.eval x = v at rx
      have rx0 := rx
      cases rx with
      | sl _ _ _ ad len cap val hl hcap huni hc hr hf ha ho =>
      obtain ⟨n', t', hn', hle, hown⟩ := ho k rfl
      rw [hk] at hn'
      cases hn'
      have hown := hown hp.symm
      obtain ⟨_, _, _, hty⟩ := s.inv.grow k 1 n _ hk
      have key : cap ≠ 0 ∨ ad = none := by
        rcases hty e rfl with h | ⟨b, arr, fr, h1, h2, _⟩
        · rw [hown] at h; cases h; exact .inr rfl
        · rw [hown] at h2; simp only at h2; exact .inl (by omega)
      refine ⟨.pointer ad, ?_, .data _ ad len cap rx0 key⟩
      have hrun : (Builtin.unsafeSliceData_ ats ty #[.slice ad len cap]).run P w = .ok (.pointer ad) w := by
        cases ad with
        | none => rfl
        | some ad => exact Lib.run_unsafeSliceData_row w ats ty ad len cap (by rcases key with h | h; exact h; cases h)
      simp [execOp, resolve, invoke, builtin, hv, hrun]
    · cases h
  · cases h
def qString (L : Tab) (H : List AObj) (pt : TypeId) (x y : AV) : Option (Prop × AV) :=
  match (L pt).k, x, y with
  | .ptr e, .data (.sl (.tok k) 1 xs), .lit (.int .i64 c) => match H[k]? with
    | some (.grow 1 n (some e')) => some (n = xs.length ∧ c = xs.length ∧ e' = e ∧ (L e).k = .int .u8 ∧ (L e).size = 1 ∧ xs.length ≤ 140737488355328 ∧ isBytes xs, .str (unbytes xs))
    | _ => none
  | _, _, _ => none
theorem quiet_string {L : Tab} (hL : TabOk P L) {x y : Operand} {pt it : TypeId} {p : Prop} {z : AV} (h : qString L H pt (ev env x) (ev env y) = some (p, z)) : Quiet P ⟨dst, .call { callee := .builtin .unsafeString, args := #[x, y], argTypes := #[pt, it] }, ty, pos, after, guard⟩ env H p z := fun hp _ _ G a w s => by
  have rx := s.ev x
  have ry := s.ev y
  unfold qString at h
  split at h
  · rename_i e k xs c hpk ex ey
    split at h
    · rename_i n e' hk
      cases h
      obtain ⟨h1, h2, rfl, h4, h5, h6, h7⟩ := hp
      rw [ex] at rx
      rw [ey] at ry
      have hy := rel_lit_inv ry
      have hpt := (hL pt (by rw [hpk]; simp)).1
      rw [hpk] at hpt
      simp only [TKOk] at hpt
      obtain ⟨_, i, _, hinfo, hisz, _⟩ := hL e' (by rw [h4]; simp)
      have hcells : P.cellsOf e' = 1 := by
        unfold Program.cellsOf
        simp [hinfo, hisz, h5]
      generalize hv : a.eval x = v at rx
      cases rx with
      | data _ ad len cap hsl hcc =>
      cases hsl with
      | sl _ _ _ _ _ _ val hl hcap huni hc hr hf ha ho =>
      obtain ⟨n', t', hn', hle, hown⟩ := ho k rfl
      rw [hk] at hn'
      cases hn'
      have hown := hown h1.symm
      unfold isBytes at h7
      generalize unbytes xs = l at h7
      have hll : l.length = xs.length := by rw [h7]; simp
      have hop : ∀ v' w', (Builtin.unsafeString_ #[pt, it] ty #[.pointer ad, .int .i64 (l.length : Nat)]).run P w = .ok v' w' →
          (execOp a.eval ⟨dst, .call { callee := .builtin .unsafeString, args := #[x, y], argTypes := #[pt, it] }, ty, pos, after, guard⟩).run P w = .ok (.value v') w' := fun v' w' hr => by
        rw [hll, ← h2] at hr
        simp [execOp, resolve, invoke, builtin, hv, hy, hr]
      by_cases hnil : l = []
      · subst hnil
        exact ⟨.string .empty, w, G, hop _ _ (Lib.run_unsafeString_none w pt it ty ad), s.inv, .refl _ _ _, .str []⟩
      · have hpos : 0 < l.length := List.length_pos_iff.2 hnil
        obtain ⟨_, _, _, hty⟩ := s.inv.grow k 1 n _ hk
        rcases hty e' rfl with h | ⟨b, arr, fr, g1, g2, g3, g4, _⟩
        · rw [hown] at h; cases h; omega
        rw [hown] at g1 g2 g4
        cases g1
        simp only at g2 g4
        obtain ⟨hi', hst⟩ := frozen_world s.inv hk hown (by omega)
        have hsh : w.shape? b = some (e', arr.size) := by simp [World.shape?, g3]
        have hfl := flats_ones byteAV (fun _ => rfl) l
        have hrun := Lib.run_unsafeString_row (P := P) w pt it ty e' hpt hcells b arr.size hsh l hnil (by rw [g4]; omega) (by omega) (fun j x0 ej => by
          have hj := lt_of_get ej
          have hfj : (flats xs)[j]? = some (byteAV x0) := by rw [h7, hfl, List.getElem?_map, ej]; rfl
          obtain ⟨b', off', ea, _, hcell⟩ := hc j _ hfj
          cases ea
          have hrj := hr j _ hfj
          have := rel_lit_inv hrj
          rw [addr_add, hcell, this])
        rw [show n = l.length by omega] at hi' hst
        exact ⟨.string ⟨l.toArray⟩, _, G, hop _ _ hrun, hi', hst, .str l⟩
    · cases h
  · cases h
/-- unsafe.String of an object's bytes: the object is written no more. -/
def vcStrObj (L : Tab) (pt : TypeId) (k off : Nat) (y : AV) (H : List AObj) (K : AV → List AObj → Prop) [Tag K] : Prop :=
  match (L pt).k, y, H[k]? with
  | .ptr e, .lit (.int .i64 c), some (.cells (.one T) cs) => (T = e ∧ off = 0 ∧ (L e).k = .int .u8 ∧ (L e).size = 1 ∧ c = cs.length ∧ 0 < cs.length ∧ cs.length ≤ 140737488355328 ∧ isBytes cs) ∧ K (.str (unbytes cs)) (H.set k .gone)
  | _, _, _ => False
theorem freeze_obj {G : Gh} {w : World} (hi : HInv G H w) {k : Nat} {sh : Shape} {cs : List AV} (hk : H[k]? = some (.cells sh cs)) (n : Nat) : HInv G (H.set k .gone) (w.freeze ⟨G.blk k, 0, none⟩ n) ∧ Step G H w G (H.set k .gone) (w.freeze ⟨G.blk k, 0, none⟩ n) := by
  obtain ⟨hi1, st1⟩ := retire hi hk
  by_cases hn : n = 0
  · subst hn
    exact ⟨hi1, st1⟩
  obtain ⟨arr, T, ⟨lo, hi0⟩, hb, hs, hr, hf1, hf2, _⟩ := hi.cells k sh cs hk
  obtain ⟨fr', hrow⟩ : ∃ fr' : Nat × Nat, (w.freeze ⟨G.blk k, 0, none⟩ n).heap[G.blk k]? = some (.cells arr T fr') := by
    refine ⟨if lo == hi0 then (0, 0 + n) else (min lo 0, max hi0 (0 + n)), ?_⟩
    unfold World.freeze
    rw [if_neg hn]
    simp [Array.getElem?_modify, hb]
  have hother : ∀ c, c ≠ G.blk k → (w.freeze ⟨G.blk k, 0, none⟩ n).heap[c]? = w.heap[c]? := fun c hc => by
    unfold World.freeze
    rw [if_neg hn]
    simp [Array.getElem?_modify, show ¬ G.blk k = c from fun h => hc h.symm]
  have hsize : (w.freeze ⟨G.blk k, 0, none⟩ n).heap.size = w.heap.size := by
    unfold World.freeze
    rw [if_neg hn]
    simp
  have hos : (w.freeze ⟨G.blk k, 0, none⟩ n).os = w.os ∧ (w.freeze ⟨G.blk k, 0, none⟩ n).tape = w.tape ∧ (w.freeze ⟨G.blk k, 0, none⟩ n).output = w.output := by
    unfold World.freeze
    rw [if_neg hn]
    exact ⟨rfl, rfl, rfl⟩
  have hcell : ∀ c off, (w.freeze ⟨G.blk k, 0, none⟩ n).cell? ⟨c, off, none⟩ = w.cell? ⟨c, off, none⟩ := fun c off => by
    by_cases hc : c = G.blk k
    · subst hc; rw [cell_row hrow, cell_row hb]
    · exact World.cell?_of_block (w := w) (hother c hc)
  generalize w.freeze ⟨G.blk k, 0, none⟩ n = w' at *
  have hsk := shape_of hi hk
  have st : Step G (H.set k .gone) w G (H.set k .gone) w' := ⟨congrArg (fun o => (o, G.lp)) hos.1, hos.2.1, hos.2.2, Nat.le_of_eq hsize.symm, fun _ _ h => h, fun c off _ => hcell c off, fun c hc => hother c fun e => by subst e; exact hf1 0 (hc 0), (Step.refl G _ w).obj⟩
  refine ⟨⟨fun c off h => by rw [hsize]; exact hi.lt c off h, fun i sh1 c ei => ?_, fun i s m t ei => ?_, hi1.apart, hi1.tabs.step st⟩, st1.trans st⟩
  · rcases get_set ei with ⟨hik, ei'⟩ | ⟨rfl, ei', _⟩
    · obtain ⟨a1, T1, f1, hb1, hs1, hr1, hg1, hg2, hg3⟩ := hi1.cells i sh1 c ei
      have hne : G.blk i ≠ G.blk k := fun e => hik (hi.apart i k (G.blk k) (by simp [site, ei', e]) hsk)
      exact ⟨a1, T1, f1, (hother _ hne).trans hb1, hs1, fun j x v ex ev => (hr1 j x v ex ev).mono st, hg1, fun off h => (World.frozen?_of_block (w := w) (hother _ hne)).trans (hg2 off h), hg3⟩
    · cases ei'
  · rcases get_set ei with ⟨hik, ei'⟩ | ⟨rfl, ei', _⟩
    · obtain ⟨g0, g1, g2, g3⟩ := hi1.grow i s m t ei
      refine ⟨g0, g1, fun hlt => ?_, ?_⟩
      · obtain ⟨b1, off1, a1, T1, f1, ea1, hb1, hsz1, hj1⟩ := g2 hlt
        have hne : b1 ≠ G.blk k := fun e => hik (hi.apart i k (G.blk k) (e ▸ site_grow ei' hlt ea1) hsk)
        exact ⟨b1, off1, a1, T1, f1, ea1, (hother _ hne).trans hb1, hsz1, fun j h7 h8 => ⟨(hj1 j h7 h8).1, (World.frozen?_of_block (w := w) (hother _ hne)).trans (hj1 j h7 h8).2⟩⟩
      · intro e' he'
        rcases g3 e' he' with h | ⟨b1, a1, f1, h7, h8, h9, h10⟩
        · exact .inl h
        · have hne : b1 ≠ G.blk k := fun e => by
            have hs1 : site G H i = some b1 := by
              unfold site
              rw [ei', show G.own i = (some ⟨b1, 0, none⟩, (G.own i).2) by rw [← h7]]
              simp only
              rw [if_pos (.inr ⟨by rw [he']; rfl, h8⟩)]
            exact hik (hi.apart i k (G.blk k) (e ▸ hs1) hsk)
          exact .inr ⟨b1, a1, f1, h7, h8, (hother _ hne).trans h9, h10⟩
    · cases ei'
theorem aop_strObj {L : Tab} (hL : TabOk P L) {x y : Operand} {pt it : TypeId} {k off : Nat} {K : AV → List AObj → Prop} (hx : ev env x = .mp k off) (h : vcStrObj L pt k off (ev env y) H K) :
    AOp P ⟨dst, .call { callee := .builtin .unsafeString, args := #[x, y], argTypes := #[pt, it] }, ty, pos, after, guard⟩ env H K := .of_run fun n0 ds G a w s => by
  unfold vcStrObj at h
  split at h
  · rename_i e c T cs hpk ey hk
    obtain ⟨⟨rfl, rfl, h4, h5, h6, h7, h8, h9⟩, hK⟩ := h
    have rx := s.ev x
    have ry := s.ev y
    rw [hx] at rx
    rw [ey] at ry
    have hy := rel_lit_inv ry
    have hpt := (hL pt (by rw [hpk]; simp)).1
    rw [hpk] at hpt
    simp only [TKOk] at hpt
    obtain ⟨_, i, _, hinfo, hisz, _⟩ := hL T (by rw [h4]; simp)
    have hcells : P.cellsOf T = 1 := by
      unfold Program.cellsOf
      simp [hinfo, hisz, h5]
    obtain ⟨arr, T', fr, hb, hs, hr, hf1, hf2, hf3⟩ := s.inv.cells k _ cs hk
    obtain ⟨rfl, hasz, _⟩ := hf3
    unfold isBytes at h9
    generalize unbytes cs = l at h9 hK
    have hll : l.length = cs.length := by rw [h9]; simp
    have hne : l ≠ [] := by intro e; subst e; simp at hll; omega
    generalize hv : a.eval x = v at rx
    cases rx with
    | mp _ _ o0 hk0 hb0 =>
    have hsh : w.shape? (G.blk k) = some (T', arr.size) := by simp [World.shape?, hb]
    have hrun := Lib.run_unsafeString_row (P := P) w pt it ty T' hpt hcells (G.blk k) arr.size hsh l hne (by omega) (by omega) (fun j x0 ej => by
      have hj := lt_of_get ej
      have hfj : cs[j]? = some (byteAV x0) := by rw [h9, List.getElem?_map, ej]; rfl
      have ha : arr[j]? = some (arr[j]'(by omega)) := Array.getElem?_eq_getElem _
      have := rel_lit_inv (hr j _ _ hfj ha)
      rw [addr_add, Nat.zero_add, cell_row hb, ha, this])
    obtain ⟨hi', hst⟩ := freeze_obj s.inv hk l.length
    refine ⟨.string ⟨l.toArray⟩, _, .str l, _, _, ?_, hi', hst, .str l, hK⟩
    rw [hll, ← h6] at hrun
    rw [hll]
    simp [execOp, resolve, invoke, builtin, hv, hy, hrun]
  · exact h.elim
end
end Go.Proofs.YtdahdbnfknmmgaaGreatDoor.V
end

section
set_option linter.unusedSimpArgs false
set_option linter.unusedVariables false
namespace Go.Proofs.YtdahdbnfknmmgaaGreatDoor.V
open Go
variable {ds : List Deferred}

/-- What is asked, and what it gives. -/
def lift (q : Option (Prop × AV)) (K : AV → List AObj → Prop) (H : List AObj) [Tag K] : Prop :=
  match q with
  | some (p, z) => p ∧ K z H
  | none => False
theorem lift_some {p : Prop} {z : AV} {K : AV → List AObj → Prop} {H : List AObj} : lift (some (p, z)) K H = (p ∧ K z H) := rfl
theorem lift_none {K : AV → List AObj → Prop} {H : List AObj} : lift none K H = False := rfl

def qTrue (z : AV) : Option (Prop × AV) := some (True, z)
def qPick (c a b : AV) : Option (Prop × AV) :=
  match c with
  | .lit (.bool t) => some (True, if t then a else b)
  | _ => none
def qUn' (op : UnOp) (x : AV) : Option (Prop × AV) := (qUn op x).map fun z => (True, z)
def qLen' (L : Tab) (t : TypeId) (x : AV) : Option (Prop × AV) := (qLen L t x).map fun z => (True, z)
def qExtract (x : AV) (i : Nat) : Option (Prop × AV) :=
  match x with
  | .tup xs => (xs[i]?).map fun z => (True, z)
  | _ => none
def qBox (x : AV) : Option (Prop × AV) := some (x.okv = true, .ip x)

/-- A store, at an object. -/
def vcStore (L : Tab) (t : TypeId) (ad x : AV) (H : List AObj) (K : AV → List AObj → Prop) [Tag K] : Prop :=
  match ad with
  | .mp k off => match H[k]? with
    | some (.cells sh cs) => (known (L t) = true ∧ x.okv = true ∧ x.flat.length = (L t).size ∧ off + (L t).size ≤ cs.length) ∧ K .any (H.set k (.cells sh (aset cs off x.flat)))
    | _ => False
  | _ => False

def vcAppend (L : Tab) (t t2 : TypeId) (x y : AV) (H : List AObj) (K : AV → List AObj → Prop) [Tag K] : Prop :=
  match (L t).k, x, srcAV y with
  | .slice e, .sl o z xs, some (z2, ys) => (srcKind (L t2).k = true ∧ known (L e) = true ∧ 0 < (L e).size ∧ 0 < (L e).bytes ∧ canAppend H o z xs (L e).size e ∧ (ys ≠ [] → z2 = (L e).size) ∧ (xs.length + ys.length) * (L e).bytes ≤ 140737488355328) ∧
      K (.sl (appRes H o (L e).size (xs.length + ys.length)).1 (L e).size (xs ++ ys)) (appRes H o (L e).size (xs.length + ys.length)).2
  | _, _, _ => False


/-- A call of a function value. -/
def vcCall (P : Program) (f : AV) (args : List AV) (H : List AObj) (K : AV → List AObj → Prop) [Tag K] : Prop :=
  match f with
  | .fn (.func g) fs cs => ACalls P g (fs ++ args ++ cs) H K
  | .yld k => AYields P k args H K
  | _ => False

def vcMut (e : TypeId) (x : AV) (H : List AObj) (K : AV → List AObj → Prop) [Tag K] : Prop := x.okv = true ∧ K (.mp H.length 0) (H ++ [.cells (.one e) x.flat])

/-- A builtin function. -/
def vcApp (m : Bool) (L : Tab) (t t2 : TypeId) (x y : AV) (H : List AObj) (K : AV → List AObj → Prop) [Tag K] : Prop :=
  match x with
  | .mrow _ _ => vcAppendR L t t2 x y H K
  | .msl _ _ _ _ => vcAppendZ L t t2 x y H K
  | _ => if m then vcAppendM L t t2 x y H K else vcAppend L t t2 x y H K
def vcBuiltin (m : Bool) (L : Tab) (b : Builtin) (args : List AV) (ts : List TypeId) (H : List AObj) (K : AV → List AObj → Prop) [Tag K] : Prop :=
  match b, args, ts with
  | .len, [x], [t] => lift (qLen' L t x) K H
  | .append, [x, y], [t, t2] => vcApp m L t t2 x y H K
  | .copy, [x, y], [t, _] => vcCopy L t x y H K
  | .cap, [x], [t] => lift (qCap L t x) K H
  | .min, [x, y], [_, _] => lift (qLeast false x y) K H
  | .max, [x, y], [_, _] => lift (qLeast true x y) K H
  | .unsafeSliceData, [x], [_] => lift (qSliceData H x) K H
  | .unsafeString, [x, y], [pt, _] => match x with
    | .mp k off => vcStrObj L pt k off y H K
    | _ => lift (qString L H pt x y) K H
  | _, _, _ => False

/-- One operation. 'mu': the slots whose new variables are objects that are written. -/
def vcOp (P : Program) (L : Tab) (mu : List Nat) (o : Oper) (env : Env) (H : List AObj) (K : AV → List AObj → Prop) : Prop :=
  match o.op with
  | .move x | .assign x => lift (qTrue (ev env x)) K H
  | .pick c a b => lift (qPick (ev env c) (ev env a) (ev env b)) K H
  | .binOp op t x y _ => if nilCmp y then vcNil L op t (ev env x) H K else lift (qBin L op t (isConst y) (ev env x) (ev env y)) K H
  | .unOp op _ x => lift (qUn' op (ev env x)) K H
  | .convert s d x => if mu.contains (o.dst.getD 0) then vcBytes L s d (ev env x) H K else lift (qConvH P L H s d (ev env x)) K H
  | .extract x i => lift (qExtract (ev env x) i) K H
  | .indexAddr t x i => lift (qIndexAddr L t (ev env x) (ev env i)) K H
  | .index t x i => lift (qIndex L t (ev env x) (ev env i)) K H
  | .load t x => lift (qLoad L H t (ev env x)) K H
  | .slice t x lo hi mx => lift (qSlice L t (ev env x) (evO env lo) (evO env hi) (evO env mx)) K H
  | .fieldAddr t x f => lift (qFieldAddr L t (ev env x) f) K H
  | .field t x f => lift (qField L t (ev env x) f) K H
  | .build t parts => lift (qBuild L t (evParts env parts)) K H
  | .buildSlice t len parts => if mu.contains (o.dst.getD 0) then vcBuildM L t len (evParts env parts) H K else if len = 0 ∧ parts.size ≠ 0 then False else lift (qBuildSlice L t len (evParts env parts)) K H
  | .box e x => if mu.contains (o.dst.getD 0) then vcMut e (ev env x) H K else lift (qBox (ev env x)) K H
  | .alloc e => known (L e) = true ∧ (match bufOf mu (o.dst.getD 0) with
    | none => K (.mp H.length 0) (H ++ [.cells (.one e) (L e).zero])
    | some u => K (.mp H.length 0) (H ++ [.cells (.one e) (mintNil (H.length + 1) (L e).zero), .grow 1 0 (some u)]))
  | .store t a x => vcStore L t (ev env a) (ev env x) H K
  | .call c => match c.callee with
    | .builtin b => vcBuiltin (mu.contains (o.dst.getD 0)) L b (c.args.toList.map (ev env)) c.argTypes.toList H K
    | .value f => vcCall P (ev env f) (c.args.toList.map (ev env)) H K
    | .invoke _ _ => False
  | .nilCheck x => lift (qNil (ev env x)) K H
  | .makeSlice t x y => vcMake L t (ev env x) (ev env y) H K
  | .makeFunc f fs cs => lift (qTrue (.fn f (fs.toList.map (ev env)) (cs.toList.map (ev env)))) K H
  | .makeInterface t x => lift (qIface L t (ev env x)) K H
  | .sliceToArrayPointer t x => lift (qToArr L t (ev env x)) K H
  | _ => False

theorem still_aop {P : Program} {o : Oper} {env : Env} {H : List AObj} {p : Prop} {z : AV} {K : AV → List AObj → Prop} (h : Still P o env H p z) (hp : p) (hk : K z H) : AOp P o env H K := .of_run fun n ds G a w s =>
  let ⟨v, hr, hx⟩ := h hp n ds G a w s
  ⟨v, w, z, G, H, hr, s.inv, .refl _ _ _, hx, hk⟩
theorem quiet_aop {P : Program} {o : Oper} {env : Env} {H : List AObj} {p : Prop} {z : AV} {K : AV → List AObj → Prop} (h : Quiet P o env H p z) (hp : p) (hk : K z H) : AOp P o env H K := .of_run fun n ds G a w s =>
  let ⟨v, w', G', hr, hi, hs, hx⟩ := h hp n ds G a w s
  ⟨v, w', z, G', H, hr, hi, hs, hx, hk⟩
theorem lift_still {P : Program} {o : Oper} {env : Env} {H : List AObj} {q : Option (Prop × AV)} {K : AV → List AObj → Prop} (h : ∀ p z, q = some (p, z) → Still P o env H p z) (hk : lift q K H) : AOp P o env H K := by
  unfold lift at hk
  split at hk
  · exact still_aop (h _ _ rfl) hk.1 hk.2
  · exact hk.elim
theorem lift_quiet {P : Program} {o : Oper} {env : Env} {H : List AObj} {q : Option (Prop × AV)} {K : AV → List AObj → Prop} (h : ∀ p z, q = some (p, z) → Quiet P o env H p z) (hk : lift q K H) : AOp P o env H K := by
  unfold lift at hk
  split at hk
  · exact quiet_aop (h _ _ rfl) hk.1 hk.2
  · exact hk.elim

section
variable {P : Program} {env : Env} {H : List AObj} {dst : Option Tmp} {ty : TypeId} {pos : String} {after : Array Edge} {guard : Option (Nat × Bool)}

theorem relAll_map {n : Nat} {G : Gh} {a : Act} {w : World} (s : Sat n ds G env H a w) (xs : Array Operand) : RelAll G H w (xs.toList.map (ev env)) (xs.map a.eval) := by
  refine ⟨by simp, fun j x v e e' => ?_⟩
  simp only [List.getElem?_map, Array.getElem?_map, Array.getElem?_toList] at e e'
  cases h : xs[j]? with
  | none => rw [h] at e; cases e
  | some y =>
    rw [h] at e e'
    cases e
    cases e'
    exact s.ev y
theorem relAll_append {G : Gh} {w : World} {xs ys : List AV} {vs us : Array Value} (h : RelAll G H w xs vs) (k : RelAll G H w ys us) : RelAll G H w (xs ++ ys) (vs ++ us) := by
  refine ⟨by simp [h.1, k.1], fun j x v e e' => ?_⟩
  by_cases hj : j < xs.length
  · rw [List.getElem?_append_left hj] at e
    rw [Array.getElem?_append_left (by rw [h.1]; exact hj)] at e'
    exact h.2 j x v e e'
  · rw [List.getElem?_append_right (by omega)] at e
    rw [Array.getElem?_append_right (by rw [h.1]; omega), h.1] at e'
    exact k.2 _ x v e e'

theorem aop_call {f : Operand} {args : Array Operand} {ats : Array TypeId} {K : AV → List AObj → Prop} (h : vcCall P (ev env f) (args.toList.map (ev env)) H K) : AOp P ⟨dst, .call { callee := .value f, args, argTypes := ats }, ty, pos, after, guard⟩ env H K := by
  intro ro N Q n ds G a w s
  have rf := s.ev f
  refine ⟨fun _ _ => trivial, ?_⟩
  rw [Oper.semAt_eq _ _ _ (fun c e => by cases e)]
  unfold vcCall at h
  split at h
  · rename_i g fs cs ef
    rw [ef] at rf
    generalize hv : a.eval f = v at rf
    cases rf with
    | fn _ _ _ fa ca hf hc hrf hrc =>
      have hargs : RelAll G H w (fs ++ args.toList.map (ev env) ++ cs) (fa ++ args.map a.eval ++ ca) := relAll_append (relAll_append ⟨hf, hrf⟩ (relAll_map s args)) ⟨hc, hrc⟩
      have hinv : (execOp a.eval ⟨dst, .call { callee := .value f, args, argTypes := ats }, ty, pos, after, guard⟩).run P w = (callFunc g (fa ++ args.map a.eval ++ ca)).run P w := by
        simp [execOp, resolve, hv, Deferred.ofValue, invoke]
      rcases h G w _ s.inv hargs with ⟨fn, hfn, hbody, hname, hcall⟩ | ⟨v, w', hcall, x, G', H', hi, hs, hx, hk⟩
      · have hb : fn.body ≠ none := by intro e; rw [e] at hbody; cases hbody
        have hn : fn.name ≠ "runtime.NumGoroutine" := by simpa using hname
        have hrun : (execOp a.eval ⟨dst, .call { callee := .value f, args, argTypes := ats }, ty, pos, after, guard⟩).run P w = .ok (.enter g (fa ++ args.map a.eval ++ ca)) w := by
          rw [hinv]
          simp [callFunc, hfn, hb, hn]
        rw [hrun, Oper.uponIn_enter]
        refine ⟨fun e => by simp [fw, Fence.wide] at e, callsIn_fw (hcall.mono ?_)⟩
        rintro e w' ⟨v, rfl, x, G', H', hi, hs, hx, hk⟩
        exact ⟨v, x, G', H', rfl, hi, hs, hx, hk⟩
      · rw [hinv, hcall]
        exact ⟨v, x, G', H', rfl, hi, hs, hx, hk⟩
  · rename_i k ef
    rw [ef] at rf
    generalize hv : a.eval f = v at rf
    cases rf with
    | yld _ l o ho hlp =>
      have hinv : (execOp a.eval ⟨dst, .call { callee := .value f, args, argTypes := ats }, ty, pos, after, guard⟩).run P w = (Instr.yield l (args.map a.eval)).run P w := by
        simp [execOp, resolve, hv, Deferred.ofValue, invoke]
      obtain ⟨fn, tmps, assign, body, hrun, hround⟩ := h ro (N - 1) G w _ l s.inv (relAll_map s args) hlp
      rw [hinv, hrun, Oper.uponIn_round]
      refine ⟨fun e => by simp [fw, Fence.wide] at e, hround.mono ?_⟩
      rintro e w' ⟨v, x, G', H', rfl, hi, hs, hx, hk⟩
      exact ⟨v, x, G', H', rfl, hi, hs, hx, hk⟩
  · exact h.elim

theorem vcOp_sound {L : Tab} (hL : TabOk P L) {mu : List Nat} {o : Oper} {K : AV → List AObj → Prop} (h : vcOp P L mu o env H K) : AOp P o env H K := by
  obtain ⟨dst, op, ty, pos, after, guard⟩ := o
  unfold vcOp at h
  simp only at h
  split at h
  · exact lift_still (fun p z e => by cases e; exact still_move) h
  · exact lift_still (fun p z e => by cases e; exact still_assign) h
  · refine lift_still (fun p z e => ?_) h
    unfold qPick at e
    split at e
    · rename_i t et
      cases e
      exact still_pick et
    · cases e
  · split at h
    · rename_i hn
      exact aop_nil hL hn h
    · exact lift_still (fun p z e => still_bin hL e) h
  · refine lift_still (fun p z e => ?_) h
    unfold qUn' at e
    rename_i op' _ x
    cases e' : qUn op' (ev env x) with
    | none => rw [e'] at e; cases e
    | some u => rw [e'] at e; cases e; exact still_un e'
  · split at h
    · exact aop_bytes hL h
    · exact lift_quiet (fun p z e => quiet_convH hL e) h
  · rename_i x' i'
    refine lift_still (fun p z e => ?_) h
    unfold qExtract at e
    split at e
    · rename_i xs ex
      cases e' : xs[i']? with
      | none => rw [e'] at e; cases e
      | some u => rw [e'] at e; cases e; exact still_extract ex e'
    · cases e
  · exact lift_still (fun p z e => still_indexAddr hL e) h
  · exact lift_still (fun p z e => still_index hL e) h
  · exact lift_still (fun p z e => still_load hL e) h
  · exact lift_still (fun p z e => still_slice hL e) h
  · exact lift_still (fun p z e => still_fieldAddr hL e) h
  · exact lift_still (fun p z e => still_field hL e) h
  · exact lift_still (fun p z e => still_build hL e) h
  · split at h
    · exact aop_buildM hL h
    split at h
    · exact h.elim
    · rename_i hne
      refine lift_quiet (fun p z e => quiet_buildSlice hL e fun h0 => Array.eq_empty_of_size_eq_zero (Classical.byContradiction fun hs => hne ⟨h0, hs⟩)) h
  · split at h
    · exact aop_box_mut h.1 h.2
    · exact lift_quiet (fun p z e => by cases e; exact quiet_box) h
  · obtain ⟨h1, h2⟩ := h
    split at h2
    · exact aop_alloc hL h1 h2
    · exact aop_allocB hL h1 h2
  · unfold vcStore at h
    split at h
    · rename_i k off ea
      split at h
      · rename_i sh cs hk
        exact aop_store hL ea hk h.1 h.2
      · exact h.elim
    · exact h.elim
  · rename_i c
    obtain ⟨callee, args, ats⟩ := c
    simp only at h
    split at h
    · rename_i b
      unfold vcBuiltin at h
      split at h
      · rename_i x t hx ht
        obtain ⟨y, rfl, rfl⟩ : ∃ y, args = #[y] ∧ x = ev env y := by
          obtain ⟨l⟩ := args
          match l, hx with
          | [y], hx => exact ⟨y, rfl, by simpa using hx.symm⟩
        obtain rfl : ats = #[t] := Array.ext' (by simpa using ht)
        refine lift_still (fun p z e => ?_) h
        unfold qLen' at e
        cases e' : qLen L t (ev env y) with
        | none => rw [e'] at e; cases e
        | some u => rw [e'] at e; cases e; exact still_len hL e'
      · rename_i x y t t2 hx ht
        obtain ⟨x', y', rfl, rfl, rfl⟩ : ∃ x' y', args = #[x', y'] ∧ x = ev env x' ∧ y = ev env y' := by
          obtain ⟨l⟩ := args
          match l, hx with
          | [x', y'], hx => exact ⟨x', y', rfl, by simp at hx; exact hx.1.symm, by simp at hx; exact hx.2.symm⟩
        obtain rfl : ats = #[t, t2] := Array.ext' (by simpa using ht)
        unfold vcApp at h
        split at h
        · exact aop_appendR hL h
        · exact aop_appendZ hL h
        · split at h
          · exact aop_appendM hL h
          · unfold vcAppend at h
            split at h
            · rename_i h1 h2 h3
              exact aop_append hL h2 h3 h1 h.1 h.2
            · exact h.elim
      · rename_i x y t t2 hx ht
        obtain ⟨x', y', rfl, rfl, rfl⟩ : ∃ x' y', args = #[x', y'] ∧ x = ev env x' ∧ y = ev env y' := by
          obtain ⟨l⟩ := args
          match l, hx with
          | [x', y'], hx => exact ⟨x', y', rfl, by simp at hx; exact hx.1.symm, by simp at hx; exact hx.2.symm⟩
        obtain rfl : ats = #[t, t2] := Array.ext' (by simpa using ht)
        exact aop_copy hL h
      · rename_i x t hx ht
        obtain ⟨y, rfl, rfl⟩ : ∃ y, args = #[y] ∧ x = ev env y := by
          obtain ⟨l⟩ := args
          match l, hx with
          | [y], hx => exact ⟨y, rfl, by simpa using hx.symm⟩
        obtain rfl : ats = #[t] := Array.ext' (by simpa using ht)
        exact lift_still (fun p z e => still_cap hL e) h
      · rename_i x y t t2 hx ht
        obtain ⟨x', y', rfl, rfl, rfl⟩ : ∃ x' y', args = #[x', y'] ∧ x = ev env x' ∧ y = ev env y' := by
          obtain ⟨l⟩ := args
          match l, hx with
          | [x', y'], hx => exact ⟨x', y', rfl, by simp at hx; exact hx.1.symm, by simp at hx; exact hx.2.symm⟩
        exact lift_still (fun p z e => still_min e) h
      · rename_i x y t t2 hx ht
        obtain ⟨x', y', rfl, rfl, rfl⟩ : ∃ x' y', args = #[x', y'] ∧ x = ev env x' ∧ y = ev env y' := by
          obtain ⟨l⟩ := args
          match l, hx with
          | [x', y'], hx => exact ⟨x', y', rfl, by simp at hx; exact hx.1.symm, by simp at hx; exact hx.2.symm⟩
        exact lift_still (fun p z e => still_max e) h
      · rename_i x t hx ht
        obtain ⟨y, rfl, rfl⟩ : ∃ y, args = #[y] ∧ x = ev env y := by
          obtain ⟨l⟩ := args
          match l, hx with
          | [y], hx => exact ⟨y, rfl, by simpa using hx.symm⟩
        exact lift_still (fun p z e => still_sliceData e) h
      · rename_i x y t t2 hx ht
        obtain ⟨x', y', rfl, rfl, rfl⟩ : ∃ x' y', args = #[x', y'] ∧ x = ev env x' ∧ y = ev env y' := by
          obtain ⟨l⟩ := args
          match l, hx with
          | [x', y'], hx => exact ⟨x', y', rfl, by simp at hx; exact hx.1.symm, by simp at hx; exact hx.2.symm⟩
        obtain rfl : ats = #[t, t2] := Array.ext' (by simpa using ht)
        split at h
        · rename_i hx'
          exact aop_strObj hL hx' h
        · exact lift_quiet (fun p z e => quiet_string hL e) h
      · exact h.elim
    · exact aop_call h
    · exact h.elim
  · exact lift_still (fun p z e => still_nil e) h
  · exact aop_make hL h
  · exact lift_still (fun p z e => by cases e; exact still_makeFunc) h
  · exact lift_still (fun p z e => still_iface hL e) h
  · exact lift_still (fun p z e => still_toArr hL e) h
  · exact h.elim
end

/-- The value of the operation that a guard hangs on. -/
def gval (all : List Oper) (env : Env) (j : Nat) : AV := match (all[j]?).bind (·.dst) with | some d => get env d | none => .any
def vcGuard (g : AV) (want : Bool) (run skip skip0 : Prop) [Tag run] [Tag skip] [Tag skip0] : Prop :=
  match g with
  | .lit (.bool b) => (b = want → run) ∧ (b ≠ want → skip)
  | .lit (.tuple _) => skip0
  | _ => False
theorem vcGuard_tt {r s z : Prop} : vcGuard (.lit (.bool true)) true r s z = r := by simp [vcGuard]
theorem vcGuard_ff {r s z : Prop} : vcGuard (.lit (.bool false)) false r s z = r := by simp [vcGuard]
theorem vcGuard_tf {r s z : Prop} : vcGuard (.lit (.bool true)) false r s z = s := by simp [vcGuard]
theorem vcGuard_ft {r s z : Prop} : vcGuard (.lit (.bool false)) true r s z = s := by simp [vcGuard]
theorem vcGuard_u {r s z : Prop} {b : Bool} {a : Array Value} : vcGuard (.lit (.tuple a)) b r s z = z := rfl
theorem vcGuard_b {r s z : Prop} {t : Bool} : vcGuard (.lit (.bool t)) true r s z = ((t = true → Hold r) ∧ (t = false → Hold s)) := by cases t <;> simp [vcGuard, hold_eq]
theorem vcGuard_b' {r s z : Prop} {t : Bool} : vcGuard (.lit (.bool t)) false r s z = ((t = true → Hold s) ∧ (t = false → Hold r)) := by cases t <;> simp [vcGuard, hold_eq]
/-- The guard's slot, once it is known. -/
def known1 (all : List Oper) (j : Nat) (b : Bool) (env : Env) : Env := put ((all[j]?).bind (·.dst)) (.lit (.bool b)) env

def vcOps (P : Program) (L : Tab) (mu : List Nat) (all : List Oper) : List Oper → Env → List AObj → (Env → List AObj → Prop) → Prop
  | [], env, H, K => K env H
  | o :: rest, env, H, K =>
    match o.guard with
    | none => vcOp P L mu o env H fun v H' => vcOps P L mu all rest (put o.dst v env) H' K
    | some (j, want) => vcGuard (gval all env j) want (vcOp P L mu o (known1 all j want env) H fun v H' => vcOps P L mu all rest (put o.dst v (known1 all j want env)) H' K) (vcOps P L mu all rest (put o.dst (.lit undef) (known1 all j (!want) env)) H K) (vcOps P L mu all rest (put o.dst (.lit undef) env) H K)

def dstsOk (n : Nat) (ops : List Oper) : Bool := ops.all fun o => match o.dst with | some d => decide (d < n) | none => true

theorem wanted_of {n : Nat} {G : Gh} {env : Env} {H : List AObj} {a : Act} {w : World} (s : Sat n ds G env H a w) {all : Array Oper} {o : Oper} {j : Nat} {want b : Bool} (hg : o.guard = some (j, want)) (hb : gval all.toList env j = .lit (.bool b)) (hd : dstsOk n all.toList = true) :
    Region.wanted o (yielded all a.tmps) = decide (b = want) := by
  unfold gval at hb
  simp only [Region.wanted, hg, yielded]
  split at hb
  · rename_i d hj
    rw [Array.getElem?_toList] at hj
    rw [hj]
    have r := s.env d
    rw [hb] at r
    have e := rel_lit_inv r
    have hdn : d < n := by
      cases ho : all[j]? with
      | none => rw [ho] at hj; cases hj
      | some oj =>
        rw [ho] at hj
        have := List.all_eq_true.1 hd oj (by rw [Array.mem_toList_iff]; exact Array.mem_of_getElem? ho)
        simp only [Option.bind_some] at hj
        rw [hj] at this
        simpa using this
    have hlt : d < a.tmps.size := by rw [s.size]; exact hdn
    have : a.tmps[d]? = some (.bool b) := by
      rw [Array.getD_eq_getD_getElem?, Array.getElem?_eq_getElem hlt] at e
      rw [Array.getElem?_eq_getElem hlt]
      exact congrArg some e
    simp only [Option.bind_some, this]
    cases b <;> cases want <;> rfl
  · cases hb

theorem wanted_undef {n : Nat} {G : Gh} {env : Env} {H : List AObj} {a : Act} {w : World} (s : Sat n ds G env H a w) {all : Array Oper} {o : Oper} {j : Nat} {want : Bool} {ar : Array Value} (hg : o.guard = some (j, want)) (hb : gval all.toList env j = .lit (.tuple ar)) (hd : dstsOk n all.toList = true) :
    Region.wanted o (yielded all a.tmps) = false := by
  unfold gval at hb
  simp only [Region.wanted, hg, yielded]
  split at hb
  · rename_i d hj
    rw [Array.getElem?_toList] at hj
    rw [hj]
    have r := s.env d
    rw [hb] at r
    have e := rel_lit_inv r
    rw [Array.getD_eq_getD_getElem?] at e
    simp only [Option.bind_some]
    cases h : a.tmps[d]? with
    | none => cases want <;> rfl
    | some v =>
      rw [h] at e
      simp only [Option.getD_some] at e
      subst e
      cases want <;> rfl
  · cases hb

theorem Sat.known {n : Nat} {G : Gh} {env : Env} {H : List AObj} {a : Act} {w : World} (s : Sat n ds G env H a w) {all : List Oper} {j : Nat} {b : Bool} (hb : gval all env j = .lit (.bool b)) : Sat n ds G (known1 all j b env) H a w := by
  refine ⟨s.size, s.defers, fun t => ?_, s.inv⟩
  unfold known1 V.put
  unfold gval at hb
  split at hb
  · rename_i d hd
    rw [hd]
    simp only [get]
    split
    · rename_i e
      subst e
      rw [← hb]
      exact s.env d
    · exact s.env t
  · cases hb

theorem opIn_mono {F : Fence} {N : Nat} {P : Program} {o : Oper} {a : Act} {w : World} {K K' : Act → World → Prop} {Q Q' : Exit → Act → World → Prop} (h : ∀ a w, K a w → K' a w) (hq : ∀ e a w, Q e a w → Q' e a w)
    (hh : o.wpIn F N P a w K Q) : o.wpIn F N P a w K' Q' := by
  have hl : LetsOut Q → LetsOut Q' := fun ⟨a, w, q⟩ => ⟨a, w, hq _ _ _ q⟩
  refine ⟨hh.1, ?_⟩
  have hh := hh.2
  generalize (o.semAt F.round a.eval).run P w = r at *
  cases r with
  | ok x w' =>
    cases x <;> simp only [Oper.uponIn] at hh ⊢ <;>
      first
        | exact h _ _ hh
        | exact ⟨hh.1, CallsIn.mono hh.2 (fun e w'' he => by cases e <;> first | exact h _ _ he | exact hq _ _ _ he | exact hl he)⟩
        | exact ⟨hh.1, RowsIn.mono hh.2 (fun _ _ he => h _ _ he)⟩
        | exact ⟨hh.1, RoundIn.mono hh.2 (fun e w'' he => by cases e <;> first | exact h _ _ he | exact hq _ _ _ he | exact hl he)⟩
  | halt x w' =>
    cases x <;> simp only [Oper.uponIn] at hh ⊢
    all_goals first | exact hq _ _ _ hh | exact hh
theorem listIn_mono {F : Fence} {N : Nat} {P : Program} {all : Array Oper} {Q Q' : Exit → Act → World → Prop} (hq : ∀ e a w, Q e a w → Q' e a w) : ∀ (l : List Oper) (a : Act) (w : World), wpListIn F N P all Q l a w → wpListIn F N P all Q' l a w
  | [], a, w, h => hq _ _ _ h
  | o :: r, a, w, h => by
    unfold wpListIn at h ⊢
    split at h
    · rename_i hw
      rw [if_pos hw]
      exact opIn_mono (fun a w h => listIn_mono hq r a w h) hq h
    · rename_i hw
      rw [if_neg hw]
      exact ⟨h.1, listIn_mono hq r _ _ h.2⟩
theorem vcOps_sound {P : Program} {L : Tab} (hL : TabOk P L) {mu : List Nat} {n : Nat} {all : Array Oper} (hall : dstsOk n all.toList = true) {Q : Exit → Env → List AObj → Prop} :
    ∀ (rest : List Oper) (env : Env) (H : List AObj), dstsOk n rest = true → vcOps P L mu all.toList rest env H (Q .normal) → ∀ ro N ds G a w, Sat n ds G env H a w → wpListIn (fw ro) N P all (Post n ds G H w Q) rest a w
  | [], env, H, _, h, ro, N, ds, G, a, w, s => ⟨G, env, H, s, .refl _ _ _, h⟩
  | o :: rest, env, H, hd, h, ro, N, ds, G, a, w, s => by
    simp only [dstsOk, List.all_cons, Bool.and_eq_true] at hd
    obtain ⟨hd1, hd2⟩ := hd
    have hdst : ∀ t, o.dst = some t → t < n := fun t e => by rw [e] at hd1; simpa using hd1
    have run : ∀ env, Sat n ds G env H a w → vcOp P L mu o env H (fun v H' => vcOps P L mu all.toList rest (put o.dst v env) H' (Q .normal)) → o.wpIn (fw ro) N P a w (wpListIn (fw ro) N P all (Post n ds G H w Q) rest) (Post n ds G H w Q) := fun env s hv => by
      refine Oper.wpIn_mono (fun a' w' hx => ?_) (vcOp_sound hL hv ro N (Post n ds G H w Q) n ds G a w s)
      obtain ⟨v, x, G', H', rfl, hi, hs, hx, hk⟩ := hx
      have s' := s.put hs hi hx hdst
      exact listIn_mono (fun _ _ _ h => h.trans hs) _ _ _ (vcOps_sound hL hall (Q := Q) rest _ H' hd2 hk ro N ds G' _ w' s')
    unfold vcOps at h
    unfold wpListIn
    cases hg : o.guard with
    | none =>
      rw [hg] at h
      have hw : Region.wanted o (yielded all a.tmps) = true := by simp [Region.wanted, hg]
      rw [if_pos hw]
      exact run env s h
    | some jw =>
      obtain ⟨j, want⟩ := jw
      rw [hg] at h
      simp only [vcGuard] at h
      split at h
      · rename_i b hb
        have hwd := wanted_of s hg hb hall
        rw [hwd]
        by_cases e : b = want
        · rw [if_pos (by simpa using e)]
          exact run _ (s.known (e ▸ hb)) (h.1 e)
        · rw [if_neg (by simpa using e)]
          have hb' : gval all.toList env j = .lit (.bool !want) := by rw [hb]; cases b <;> cases want <;> simp_all
          exact ⟨fun _ _ => trivial, vcOps_sound hL hall (Q := Q) rest _ H hd2 (h.2 e) ro N ds G _ w ((s.known hb').put (.refl _ _ _) s.inv (.lit _) hdst)⟩
      · rename_i ar hb
        rw [wanted_undef s hg hb hall]
        rw [if_neg (by simp)]
        exact ⟨fun _ _ => trivial, vcOps_sound hL hall (Q := Q) rest _ H hd2 h ro N ds G _ w (s.put (.refl _ _ _) s.inv (.lit _) hdst)⟩
      · exact h.elim

/-- A region whose order is the text's. -/
theorem aw_region {P : Program} {L : Tab} (hL : TabOk P L) (mu : List Nat) {n : Nat} {id : Nat} {ops : List Oper} (hops : dstsOk n ops = true) {Q : Exit → Env → List AObj → Prop} {env : Env} {H : List AObj}
    (h : vcOps P L mu ops ops env H (Q .normal)) : AW P n (.region id ops.toArray false) Q env H := fun ro N ds G a w s =>
  wpIn_region_list (vcOps_sound (all := ops.toArray) hL (by simpa using hops) ops env H hops (by simpa using h) ro N ds G a w s)

end Go.Proofs.YtdahdbnfknmmgaaGreatDoor.V
end

section
set_option linter.unusedSimpArgs false
set_option linter.unusedVariables false
namespace Go.Proofs.YtdahdbnfknmmgaaGreatDoor.V
open Go
variable {ds : List Deferred}

def initEnv : Nat → List AV → Env
  | _, [] => []
  | i, x :: r => (i, x) :: initEnv (i + 1) r
theorem get_init : ∀ (l : List AV) (i t : Nat), get (initEnv i l) t = if i ≤ t then (l[t - i]?).getD .any else .any
  | [], i, t => by simp [initEnv, get]
  | x :: r, i, t => by
    simp only [initEnv, get, get_init r]
    by_cases h : i = t
    · subst h; simp
    · simp only [h, if_false]
      by_cases h2 : i + 1 ≤ t
      · rw [if_pos h2, if_pos (by omega), show t - i = (t - (i + 1)) + 1 by omega, List.getElem?_cons_succ]
      · rw [if_neg h2, if_neg (by omega)]

def resOne (L : Tab) (env : Env) (H : List AObj) : ResultVar → Option (Prop × AV)
  | .tmp t => some (True, get env t)
  | .cell a t => qLoad L H t (get env a)
def resList (L : Tab) (env : Env) (H : List AObj) : List ResultVar → Option (Prop × List AV)
  | [] => some (True, [])
  | r :: rs => match resOne L env H r, resList L env H rs with
    | some (p, x), some (q, xs) => some (p ∧ q, x :: xs)
    | _, _ => none
def resTop : List AV → AV
  | [x] => x
  | xs => .tup xs

/-- x over the objects H may be told as y over H', where a call began with H₀. -/
def Ends (H₀ : List AObj) (x : AV) (H : List AObj) (y : AV) (H' : List AObj) : Prop :=
  ∀ G₀ w₀ G w v, HInv G₀ H₀ w₀ → HInv G H w → Step G₀ H₀ w₀ G H w → Rel G H w x v → ∃ G', HInv G' H' w ∧ Step G₀ H₀ w₀ G' H' w ∧ Rel G' H' w y v
theorem ends_le {H₀ H : List AObj} {x y : AV} (h : Le x y) : Ends H₀ x H y H := fun _ _ G w v _ hi hs r => ⟨G, hi, hs, h _ _ _ _ r⟩
theorem ends_trans {H₀ H H' H'' : List AObj} {x y z : AV} (h : Ends H₀ x H y H') (k : Ends H₀ y H' z H'') : Ends H₀ x H z H'' := fun G₀ w₀ G w v h0 hi hs r => by
  obtain ⟨G1, hi1, hs1, r1⟩ := h G₀ w₀ G w v h0 hi hs r
  exact k G₀ w₀ G1 w v h0 hi1 hs1 r1
/-- The objects from m on are dropped. -/
theorem ends_cut {H₀ H : List AObj} {x y : AV} {m : Nat} (hle : Le x y) (hm : H₀.length ≤ m) (hl : Low m y) (hobj : ∀ k sh cs, k < m → H[k]? = some (.cells sh cs) → H₀[k]? = some (.cells sh cs) ∨ ∀ y ∈ cs, Low m y) : Ends H₀ x H y (H.take m) := fun G₀ w₀ G w v h0 hi hs r => by
  refine ⟨G, hi.cut m fun k sh cs hk e y hy => ?_, hs.cut hm, (hle _ _ _ _ r).cut m hl⟩
  rcases hobj k sh cs hk e with h | h
  · obtain ⟨arr, T, fr, hb', hsz, hr', _⟩ := h0.cells k sh cs h
    obtain ⟨j, hj⟩ := List.mem_iff_getElem?.1 hy
    have hja : j < arr.size := Nat.lt_of_lt_of_le (lt_of_get hj) hsz
    exact ((hr' j y _ hj (Array.getElem?_eq_getElem hja)).low).mono hm
  · exact h y hy

/-- Values whose objects from m on nobody writes any more. -/
inductive Frz (m : Nat) (H : List AObj) : AV → AV → Prop
  | low (x : AV) (h : Low m x) : Frz m H x x
  | any (x : AV) : Frz m H x .any
  | row (k len s : Nat) (sh : Shape) (cs xs : List AV) (hk : m ≤ k) (ho : H[k]? = some (.cells sh cs)) (hx : xs.length = len) (hs : ∀ x ∈ xs, x.flat.length = s ∧ x.okv = true) (hl : (flats xs).length ≤ cs.length)
      (h : ∀ (j : Nat) c y, cs[j]? = some c → (flats xs)[j]? = some y → Frz m H c y) : Frz m H (.mrow k len) (.sl .sh s xs)
  | msl (k off len cap s : Nat) (sh : Shape) (cs xs : List AV) (hk : m ≤ k) (ho : H[k]? = some (.cells sh cs)) (hx : xs.length = len) (hs : ∀ x ∈ xs, x.flat.length = s ∧ x.okv = true) (hl : off + (flats xs).length ≤ cs.length)
      (h : ∀ (j : Nat) c y, cs[off + j]? = some c → (flats xs)[j]? = some y → Frz m H c y) : Frz m H (.msl k off len cap) (.sl .sh s xs)
  | mp (k off : Nat) (sh : Shape) (cs : List AV) (x : AV) (hk : m ≤ k) (ho : H[k]? = some (.cells sh cs)) (hl : off + x.flat.length ≤ cs.length)
      (h : ∀ (j : Nat) c y, cs[off + j]? = some c → x.flat[j]? = some y → Frz m H c y) : Frz m H (.mp k off) (.ip x)
  | agg (cs ds : List AV) (hl : ds.length = cs.length) (h : ∀ (j : Nat) c d, cs[j]? = some c → ds[j]? = some d → Frz m H c d) : Frz m H (.agg cs) (.agg ds)
  | tup (cs ds : List AV) (hl : ds.length = cs.length) (h : ∀ (j : Nat) c d, cs[j]? = some c → ds[j]? = some d → Frz m H c d) : Frz m H (.tup cs) (.tup ds)
  | ifc (t : TypeId) (x y : AV) (h : Frz m H x y) : Frz m H (.ifc t x) (.ifc t y)
def frzG (G : Gh) (H : List AObj) (m : Nat) : Gh := { G with imm := fun b off => G.imm b off ∨ ∃ k sh cs, m ≤ k ∧ H[k]? = some (.cells sh cs) ∧ b = G.blk k }
theorem frz_step {G : Gh} {H : List AObj} {w : World} (hi : HInv G H w) (m : Nat) : Step G (H.take m) w (frzG G H m) (H.take m) w :=
  ⟨rfl, rfl, rfl, Nat.le_refl _, fun _ _ h => .inl h, fun _ _ _ => rfl, fun _ _ => rfl, fun k => by
    cases e : (H.take m)[k]? with
    | none => exact nl_none e
    | some o =>
      cases o with
      | cells t c => exact ⟨⟨_, e, rfl⟩, rfl, rfl⟩
      | gone => exact ⟨e, rfl, rfl⟩
      | loop r E => exact ⟨e, rfl, rfl⟩
      | grow s n t => exact ⟨n, e, Nat.le_refl _, fun _ => rfl⟩⟩
theorem frz_inv {G : Gh} {H : List AObj} {w : World} (hi : HInv G H w) (m : Nat) (hl : ∀ k sh cs, k < m → H[k]? = some (.cells sh cs) → ∀ x ∈ cs, Low m x) : HInv (frzG G H m) (H.take m) w := by
  have hc := hi.cut m hl
  have st := frz_step hi m
  have tk : ∀ {k : Nat} {o : AObj}, (H.take m)[k]? = some o → k < m ∧ H[k]? = some o := fun {k o} e => by
    rw [List.getElem?_take] at e
    split at e
    · exact ⟨by assumption, e⟩
    · cases e
  refine ⟨fun b off h => ?_, fun k sh cs e => ?_, fun k s n t e => ?_, hc.apart, hc.tabs.step st⟩
  · rcases h with h | ⟨k, sh, cs, _, hk, rfl⟩
    · exact hi.lt b off h
    · obtain ⟨arr, T, fr, hb, _⟩ := hi.cells k sh cs hk
      exact heap_lt hb
  · obtain ⟨arr, T, fr, hb, hs, hr, hf1, hf2⟩ := hc.cells k sh cs e
    obtain ⟨hkm, e'⟩ := tk e
    refine ⟨arr, T, fr, hb, hs, fun j x v ex ev => (hr j x v ex ev).mono st, fun off h => ?_, hf2⟩
    rcases h with h | ⟨k', sh', cs', hm', hk', hbb⟩
    · exact hf1 off h
    · have hbb' : G.blk k = G.blk k' := hbb
      have := hi.apart k k' (G.blk k) (by simp [site, e']) (by simp [site, hk', hbb'])
      omega
  · obtain ⟨h0, h1, h2, h3⟩ := hc.grow k s n t e
    obtain ⟨hkm, e'⟩ := tk e
    refine ⟨h0, h1, fun hn => ?_, typedOk_keep h3 rfl (Nat.le_refl _) (fun b arr e fr hb => ⟨arr, hb, rfl⟩) fun b off arr e fr hb ea hc ht hx _ => ?_⟩
    rotate_left
    · rcases hx with hx | ⟨k', sh', cs', hm', hk', hbb⟩
      · exact hx
      · have hs : site G H k = some b := by
          unfold site
          rw [e', show G.own k = (some ⟨b, 0, none⟩, (G.own k).2) by rw [← ea]]
          simp only
          rw [if_pos (.inr ⟨ht, hc⟩)]
        have := hi.apart k k' b hs (by simp [site, hk', hbb])
        omega
    obtain ⟨b, off, arr, T, fr, ea, hb, hsz, hj⟩ := h2 hn
    refine ⟨b, off, arr, T, fr, ea, hb, hsz, fun j h4 h5 => ⟨?_, (hj j h4 h5).2⟩⟩
    rintro (h | ⟨k', sh', cs', hm', hk', hbb⟩)
    · exact (hj j h4 h5).1 h
    · have := hi.apart k k' b (site_grow e' hn ea) (by simp [site, hk', hbb])
      omega
theorem frz_rel {G : Gh} {H : List AObj} {w : World} (hi : HInv G H w) {m : Nat} {x y : AV} (f : Frz m H x y) : ∀ v, Rel G H w x v → Rel (frzG G H m) (H.take m) w y v := by
  have st := frz_step hi m
  have cell : ∀ (k : Nat) sh cs, m ≤ k → H[k]? = some (.cells sh cs) → ∃ arr : Array Value, cs.length ≤ arr.size ∧ (∀ (j : Nat) x v, cs[j]? = some x → arr[j]? = some v → Rel G H w x v) ∧ ∀ j, (frzG G H m).imm (G.blk k) j ∧ w.cell? ⟨G.blk k, j, none⟩ = arr[j]? := fun k sh cs hk ho => by
    obtain ⟨arr, T, fr, hb, hsz, hr, _⟩ := hi.cells k sh cs ho
    exact ⟨arr, hsz, hr, fun j => ⟨.inr ⟨k, sh, cs, hk, ho, rfl⟩, cell_row hb⟩⟩
  induction f with
  | low x h => intro v r; exact (r.cut m h).mono st
  | any x => intro v r; exact .any v
  | row k len s sh cs xs hk ho hx hs hl h ih =>
    intro v r
    obtain ⟨arr, hsz, hr, hc⟩ := cell k _ cs hk ho
    cases r with
    | mrow _ _ o h1 h2 hcap =>
      refine .sl .sh s xs _ _ _ (fun j => (arr[j]?).getD undef) hx.symm hcap hs (fun j y e => ?_) (fun j y e => ?_) (fun e => by cases e) (fun _ => rfl) (fun k e => by cases e)
      · have hj := lt_of_get e
        have ha : arr[j]? = some (arr[j]'(by omega)) := Array.getElem?_eq_getElem _
        refine ⟨G.blk k, 0, rfl, ?_, ?_⟩
        · rw [Nat.zero_add]; exact (hc j).1
        · rw [Nat.zero_add, (hc j).2, ha]; rfl
      · have hj := lt_of_get e
        have ha : arr[j]? = some (arr[j]'(by omega)) := Array.getElem?_eq_getElem _
        have hcj : cs[j]? = some (cs[j]'(by omega)) := List.getElem?_eq_getElem _
        have := ih j _ y hcj e _ (hr j _ _ hcj ha)
        rw [ha]
        exact this
  | msl k off len cap s sh cs xs hk ho hx hs hl h ih =>
    intro v r
    obtain ⟨arr, hsz, hr, hc⟩ := cell k _ cs hk ho
    cases r with
    | msl _ _ _ _ o h1 h2 hcap =>
      refine .sl .sh s xs _ _ _ (fun j => (arr[off + j]?).getD undef) hx.symm hcap hs (fun j y e => ?_) (fun j y e => ?_) (fun e => by cases e) (fun _ => rfl) (fun k e => by cases e)
      · have hj := lt_of_get e
        have ha : arr[off + j]? = some (arr[off + j]'(by omega)) := Array.getElem?_eq_getElem _
        refine ⟨G.blk k, off, rfl, (hc _).1, ?_⟩
        rw [(hc _).2, ha]; rfl
      · have hj := lt_of_get e
        have ha : arr[off + j]? = some (arr[off + j]'(by omega)) := Array.getElem?_eq_getElem _
        have hcj : cs[off + j]? = some (cs[off + j]'(by omega)) := List.getElem?_eq_getElem _
        have := ih j _ y hcj e _ (hr _ _ _ hcj ha)
        rw [ha]
        exact this
  | mp k off sh cs x hk ho hl h ih =>
    intro v r
    obtain ⟨arr, hsz, hr, hc⟩ := cell k _ cs hk ho
    cases r with
    | mp _ _ o h1 h2 =>
      refine .ip x _ _ (fun j => (arr[off + j]?).getD undef) (fun j y e => ?_) (fun j y e => ?_)
      · have hj := lt_of_get e
        have ha : arr[off + j]? = some (arr[off + j]'(by omega)) := Array.getElem?_eq_getElem _
        refine ⟨(hc _).1, ?_⟩
        rw [(hc _).2, ha]; rfl
      · have hj := lt_of_get e
        have ha : arr[off + j]? = some (arr[off + j]'(by omega)) := Array.getElem?_eq_getElem _
        have hcj : cs[off + j]? = some (cs[off + j]'(by omega)) := List.getElem?_eq_getElem _
        have := ih j _ y hcj e _ (hr _ _ _ hcj ha)
        rw [ha]
        exact this
  | agg cs ds hl h ih =>
    intro v r
    cases r with
    | agg _ arr ha hr =>
      refine .agg ds arr (ha.trans hl.symm) fun j y u e e' => ?_
      have hj := lt_of_get e
      have hcj : cs[j]? = some (cs[j]'(by omega)) := List.getElem?_eq_getElem _
      exact ih j _ y hcj e _ (hr j _ u hcj e')
  | tup cs ds hl h ih =>
    intro v r
    cases r with
    | tup _ arr ha hr =>
      refine .tup ds arr (ha.trans hl.symm) fun j y u e e' => ?_
      have hj := lt_of_get e
      have hcj : cs[j]? = some (cs[j]'(by omega)) := List.getElem?_eq_getElem _
      exact ih j _ y hcj e _ (hr j _ u hcj e')
  | ifc t x y h ih =>
    intro v r
    cases r with
    | ifc _ _ u hr => exact .ifc t y u (ih u hr)
/-- The objects from m on are written no more. -/
theorem ends_frz {H₀ H : List AObj} {x x' y : AV} {m : Nat} (hle : Le x x') (hm : H₀.length ≤ m) (f : Frz m H x' y) (hobj : ∀ k sh cs, k < m → H[k]? = some (.cells sh cs) → H₀[k]? = some (.cells sh cs) ∨ ∀ y ∈ cs, Low m y) : Ends H₀ x H y (H.take m) := fun G₀ w₀ G w v h0 hi hs r => by
  have hl : ∀ k sh cs, k < m → H[k]? = some (.cells sh cs) → ∀ x ∈ cs, Low m x := fun k sh cs hk e y hy => by
    rcases hobj k sh cs hk e with h | h
    · obtain ⟨arr, T, fr, hb', hsz, hr', _⟩ := h0.cells k sh cs h
      obtain ⟨j, hj⟩ := List.mem_iff_getElem?.1 hy
      have hja : j < arr.size := Nat.lt_of_lt_of_le (lt_of_get hj) hsz
      exact ((hr' j y _ hj (Array.getElem?_eq_getElem hja)).low).mono hm
    · exact h y hy
  exact ⟨frzG G H m, frz_inv hi m hl, (hs.cut hm).trans (frz_step hi m), frz_rel hi f v (hle _ _ _ _ r)⟩

/-- What a body must end with. -/
def Fin (L : Tab) (rs : List ResultVar) (H₀ : List AObj) (R : AV → List AObj → Prop) (env : Env) (H : List AObj) : Prop :=
  match resList L env H rs with
  | some (p, xs) => p ∧ ∃ y H', Ends H₀ (resTop xs) H y H' ∧ R y H'
  | none => False
def BodyQ (L : Tab) (rs : List ResultVar) (H₀ : List AObj) (R : AV → List AObj → Prop) : Exit → Env → List AObj → Prop
  | .normal, env, H => Fin L rs H₀ R env H
  | .ret, env, H => Fin L rs H₀ R env H
  | _, _, _ => False

def resSem (tmps : Array Value) : ResultVar → Sem Value
  | .tmp t => pure (tmps.getD t undef)
  | .cell b t => do loadVar t (← asAddr (tmps.getD b undef))
theorem results_eq (fn : Func) (tmps : Array Value) : results fn tmps = (do let vs ← fn.results.mapM (resSem tmps); pure (if h : vs.size = 1 then vs[0] else .tuple vs)) := by
  unfold results
  congr 2
theorem res_run {P : Program} {L : Tab} (hL : TabOk P L) {n : Nat} {G : Gh} {env : Env} {H : List AObj} {a : Act} {w : World} (s : Sat n ds G env H a w) : ∀ (rs : List ResultVar) {p : Prop} {xs : List AV}, resList L env H rs = some (p, xs) → p →
    ∃ vs : List Value, (rs.mapM (resSem a.tmps) : Sem (List Value)).run P w = .ok vs w ∧ vs.length = xs.length ∧ (∀ (j : Nat) x v, xs[j]? = some x → vs[j]? = some v → Rel G H w x v)
  | [], p, xs, h, hp => by
    simp only [resList, Option.some.injEq, Prod.mk.injEq] at h
    obtain ⟨_, rfl⟩ := h
    exact ⟨[], by simp, rfl, fun j x v e => by simp at e⟩
  | r :: rs, p, xs, h, hp => by
    simp only [resList] at h
    split at h
    · rename_i p1 x1 p2 xs2 h1 h2
      simp only [Option.some.injEq, Prod.mk.injEq] at h
      obtain ⟨rfl, rfl⟩ := h
      obtain ⟨vs, hr, hl, hrel⟩ := res_run hL s rs h2 hp.2
      have : ∃ v, (resSem a.tmps r).run P w = .ok v w ∧ Rel G H w x1 v := by
        cases r with
        | tmp t =>
          simp only [resOne, Option.some.injEq, Prod.mk.injEq] at h1
          obtain ⟨_, rfl⟩ := h1
          exact ⟨_, rfl, s.env t⟩
        | cell b t =>
          obtain ⟨ad, u, hv, hrun, hz⟩ := load_run hL (show qLoad L H t (get env b) = some (p1, x1) from h1) hp.1 s.inv (s.env b)
          exact ⟨u, by simp only [resSem, Sem.run_bind]; rw [hv]; simp [asAddr, hrun], hz⟩
      obtain ⟨v, hv, hz⟩ := this
      refine ⟨v :: vs, ?_, by simp [hl], fun j x u e e' => ?_⟩
      · rw [List.mapM_cons]
        simp only [Sem.run_bind]
        rw [hv]
        simp only [Result.andThen_ok, hr, Sem.run_pure]
      · cases j with
        | zero => simp at e e'; subst e; subst e'; exact hz
        | succ j => exact hrel j x u (by simpa using e) (by simpa using e')
    · cases h

theorem acalls_of_aw {P : Program} {L : Tab} (hL : TabOk P L) {f : FuncId} {fn : Func} {c : Code} {n : Nat} {rs : List ResultVar} {args : List AV} {H : List AObj} {R : AV → List AObj → Prop} (hf : P.funcs[f]? = some fn) (hb : fn.body = some c) (hname : (fn.name == "runtime.NumGoroutine") = false) (hn : fn.ntmps = n)
    (hrs : fn.results.toList = rs) (hargs : args.length ≤ n) (h : AW P n c (BodyQ L rs H R) (initEnv 0 args) H) : ACalls P f args H R := by
  intro G w vs hi hr
  refine .inl ⟨fn, hf, by rw [hb]; rfl, hname, ?_⟩
  refine calls_of_wp hf hb (wpIn_wide.1 (wpIn_mono (n := 0) (h none 0 [] G { tmps := vs ++ Array.replicate (fn.ntmps - vs.size) undef, defers := [] } w ⟨by simp [hr.1]; omega, rfl, fun t => ?_, hi⟩) fun e a w' hq => ?_))
  · rw [get_init]
    simp only [Nat.zero_le, if_true, Nat.sub_zero]
    by_cases ht : t < args.length
    · rw [List.getElem?_eq_getElem ht]
      have hv : t < vs.size := by rw [hr.1]; exact ht
      rw [Array.getD_eq_getD_getElem?, Array.getElem?_append_left hv, Array.getElem?_eq_getElem hv]
      exact hr.2 t _ _ (List.getElem?_eq_getElem ht) (Array.getElem?_eq_getElem hv)
    · rw [List.getElem?_eq_none (by omega)]
      exact .any _
  · obtain ⟨G', env', H', s, st, q⟩ := hq
    have key : Fin L rs H R env' H' → a.defers = [] ∧ ∃ v, (results fn a.tmps).run P w' = .ok v w' ∧ ∃ v', Ending.returned v = .returned v' ∧ ∃ x G'' H'', HInv G'' H'' w' ∧ Step G H w G'' H'' w' ∧ Rel G'' H'' w' x v' ∧ R x H'' := fun hfin => by
      unfold Fin at hfin
      split at hfin
      · rename_i p xs hres
        obtain ⟨hp, x, H'', hends, hR⟩ := hfin
        obtain ⟨us, hrun, hlen, hrel⟩ := res_run (P := P) hL s rs hres hp
        have hres' : (results fn a.tmps).run P w' = .ok (if h : us.length = 1 then us[0] else .tuple us.toArray) w' := by
          rw [results_eq, Array.mapM_eq_mapM_toList, hrs]
          simp only [Sem.run_bind, Sem.run_map]
          rw [hrun]
          simp only [Result.andThen_ok, Sem.run_pure, List.size_toArray, List.getElem_toArray]
        have hrx : Rel G' H' w' (resTop xs) (if h : us.length = 1 then us[0] else .tuple us.toArray) := by
          unfold resTop
          split
          · have h1 : us.length = 1 := by simpa using hlen
            rw [dif_pos h1]
            exact hrel 0 _ _ rfl (by simp [h1])
          · rename_i hne
            have h1 : us.length ≠ 1 := by
              intro h1
              rw [hlen] at h1
              obtain ⟨y, hy⟩ := List.length_eq_one_iff.1 h1
              exact hne y hy
            rw [dif_neg h1]
            exact .tup _ _ (by simpa using hlen) fun j x v e e' => hrel j x v e (by simpa using e')
        obtain ⟨G'', hi'', st'', hrx''⟩ := hends G w G' w' _ hi s.inv st hrx
        exact ⟨s.defers, _, hres', _, rfl, x, G'', H'', hi'', st'', hrx'', hR⟩
      · exact hfin.elim
    cases e with
    | normal =>
      obtain ⟨h1, v, h2, h3⟩ := key q
      exact ⟨h1, v, h2, h3⟩
    | ret =>
      obtain ⟨h1, v, h2, h3⟩ := key q
      exact ⟨h1, v, h2, h3⟩
    | exit _ => exact q.elim
    | goto _ => exact q.elim
    | panic _ => exact q.elim
    | outgrown => exact q.elim
end Go.Proofs.YtdahdbnfknmmgaaGreatDoor.V
end

section
set_option linter.unusedSimpArgs false
set_option linter.unusedVariables false
namespace Go.Proofs.YtdahdbnfknmmgaaGreatDoor.V
open Go
variable {ds : List Deferred} {ro : Option Nat} {N : Nat}

/-- An operation that leaves the objects alone, with one result. -/
def vcQuiet (P : Program) (L : Tab) (o : Oper) (env : Env) (H : List AObj) (z : AV) : Prop := vcOp P L [] o env H fun x H' => x = z ∧ H' = H

theorem ev_congr {env env' : Env} {x : Operand} (h : ∀ t, x = .tmp t → get env t = get env' t) : ev env x = ev env' x := by
  cases x with
  | tmp t => exact h t rfl
  | _ => rfl
theorem vcOp_congr {P : Program} {L : Tab} {mu : List Nat} {o : Oper} {env env' : Env} {H : List AObj} {K : AV → List AObj → Prop} (h : ∀ x ∈ o.op.operands.toList, ∀ t, x = .tmp t → get env t = get env' t) : vcOp P L mu o env H K = vcOp P L mu o env' H K := by
  obtain ⟨dst, op, ty, pos, after, guard⟩ := o
  have e1 : ∀ x, x ∈ op.operands.toList → ev env x = ev env' x := fun x hx => ev_congr (h x hx)
  cases op <;> simp only [vcOp] <;> simp only [Op.operands] at e1
  case move x => rw [e1 x (by simp)]
  case assign x => rw [e1 x (by simp)]
  case pick a b c => rw [e1 a (by simp), e1 b (by simp), e1 c (by simp)]
  case box e x => rw [e1 x (by simp)]
  case build t parts =>
    have : evParts env parts = evParts env' parts := List.map_congr_left fun p hp => by rw [e1 p.2 (by simpa using ⟨p.1, by simpa using hp⟩)]
    rw [this]
  case buildSlice t len parts =>
    have : evParts env parts = evParts env' parts := List.map_congr_left fun p hp => by rw [e1 p.2 (by simpa using ⟨p.1, by simpa using hp⟩)]
    rw [this]
  case load t x => rw [e1 x (by simp)]
  case store t a x => rw [e1 a (by simp), e1 x (by simp)]
  case binOp op t x y t' => rw [e1 x (by simp), e1 y (by simp)]
  case unOp op t x => rw [e1 x (by simp)]
  case convert s d x => rw [e1 x (by simp)]
  case slice t x lo hi mx =>
    have eo : ∀ z, (z = lo ∨ z = hi ∨ z = mx) → evO env z = evO env' z := fun z hz => by
      cases z with
      | none => rfl
      | some y => simp only [evO, Option.map_some]; rw [e1 y (by rcases hz with rfl | rfl | rfl <;> simp)]
    rw [e1 x (by simp), eo lo (.inl rfl), eo hi (.inr (.inl rfl)), eo mx (.inr (.inr rfl))]
  case fieldAddr t x f => rw [e1 x (by simp)]
  case field t x f => rw [e1 x (by simp)]
  case indexAddr t x i => rw [e1 x (by simp), e1 i (by simp)]
  case index t x i => rw [e1 x (by simp), e1 i (by simp)]
  case extract x i => rw [e1 x (by simp)]
  case nilCheck x => rw [e1 x (by simp)]
  case makeSlice t x y => rw [e1 x (by simp), e1 y (by simp)]
  case makeInterface t x => rw [e1 x (by simp)]
  case sliceToArrayPointer t x => rw [e1 x (by simp)]
  case makeFunc f fs cs =>
    have h1 : fs.toList.map (ev env) = fs.toList.map (ev env') := List.map_congr_left fun x hx => e1 x (by rw [Array.toList_append, List.mem_append]; exact .inl hx)
    have h2 : cs.toList.map (ev env) = cs.toList.map (ev env') := List.map_congr_left fun x hx => e1 x (by rw [Array.toList_append, List.mem_append]; exact .inr hx)
    rw [h1, h2]
  case call c =>
    obtain ⟨callee, args, ats⟩ := c
    simp only [Call.operands] at e1
    have ea : args.toList.map (ev env) = args.toList.map (ev env') := List.map_congr_left fun x hx => e1 x (by simp only [Array.toList_append, List.mem_append]; exact .inr hx)
    rw [ea]
    cases callee with
    | builtin b => rfl
    | value f => simp only []; rw [e1 f (by simp)]
    | invoke r m => rfl

/-- The environment when just the listed operations have been carried out. -/
def envAt (listed : Nat → Bool) (zs : Nat → AV) : Nat → List Oper → Env → Env
  | _, [], env => env
  | i, o :: r, env => envAt listed zs (i + 1) r (if listed i then put o.dst (zs i) env else env)

theorem get_put (d : Option Nat) (v : AV) (env : Env) (t : Nat) : get (put d v env) t = if d = some t then v else get env t := by
  cases d with
  | none => simp [put]
  | some d => simp [put, get]
theorem envAt_congr {zs : Nat → AV} {l l' : Nat → Bool} {t : Nat} : ∀ (ops : List Oper) (i : Nat) (env env' : Env), get env t = get env' t → (∀ (j : Nat) o, ops[j]? = some o → o.dst = some t → l (i + j) = l' (i + j)) → get (envAt l zs i ops env) t = get (envAt l' zs i ops env') t
  | [], _, _, _, h, _ => h
  | o :: r, i, env, env', h, hl => by
    simp only [envAt]
    refine envAt_congr r (i + 1) _ _ ?_ fun j o' e hd => by have := hl (j + 1) o' (by simpa using e) hd; rwa [show i + (j + 1) = i + 1 + j by omega] at this
    by_cases hd : o.dst = some t
    · have := hl 0 o rfl hd
      rw [Nat.add_zero] at this
      rw [this]
      cases l' i
      · simpa using h
      · simp [get_put, hd]
    · cases l i <;> cases l' i <;> simp [get_put, hd, h]
theorem envAt_put {zs : Nat → AV} {l : Nat → Bool} {t : Nat} : ∀ (ops : List Oper) (i : Nat) (env : Env) (k : Nat) (o : Oper), ops[k]? = some o → l (i + k) = false → (∀ (j : Nat) o', k < j → ops[j]? = some o' → l (i + j) = true → o.dst = some t → o'.dst ≠ some t) →
    get (envAt (fun j => if j = i + k then true else l j) zs i ops env) t = get (put o.dst (zs (i + k)) (envAt l zs i ops env)) t
  | [], _, _, _, _, e, _, _ => by simp at e
  | o :: r, i, env, 0, o', e, hl, h => by
    simp only [List.getElem?_cons_zero, Option.some.injEq] at e
    subst e
    simp only [Nat.add_zero] at hl ⊢
    simp only [envAt, if_true, hl, Bool.false_eq_true, if_false]
    rw [get_put]
    by_cases hd : o.dst = some t
    · rw [if_pos hd]
      have : ∀ (ops : List Oper) (i' : Nat) (env : Env), (∀ (j : Nat) o', ops[j]? = some o' → (fun j => if j = i then true else l j) (i' + j) = true → o'.dst ≠ some t) → get (envAt (fun j => if j = i then true else l j) zs i' ops env) t = get env t := by
        intro ops
        induction ops with
        | nil => intro _ _ _; rfl
        | cons o r ih =>
          intro i' env hh
          simp only [envAt]
          rw [ih (i' + 1) _ fun j o' e he => hh (j + 1) o' (by simpa using e) (by rwa [show i' + (j + 1) = i' + 1 + j by omega])]
          by_cases hi : (if i' = i then true else l i') = true
          · rw [if_pos hi, get_put, if_neg (hh 0 o rfl (by simpa using hi))]
          · rw [if_neg hi]
      rw [this r (i + 1) _ fun j o' e he => h (j + 1) o' (by omega) (by simpa using e) (by
        simp only [show ¬ (i + 1 + j = i) by omega, if_false] at he
        rwa [show i + (j + 1) = i + 1 + j by omega]) hd, get_put, if_pos hd]
    · rw [if_neg hd]
      refine envAt_congr r (i + 1) _ _ (by rw [get_put, if_neg hd]) fun j o' e _ => by simp [show ¬ (i + 1 + j = i) by omega]
  | o :: r, i, env, k + 1, o', e, hl, h => by
    simp only [List.getElem?_cons_succ] at e
    have hne : ¬ (i = i + (k + 1)) := by omega
    simp only [envAt, hne, if_false]
    have := envAt_put r (i + 1) (if l i then put o.dst (zs i) env else env) k o' e (by rw [show i + 1 + k = i + (k + 1) by omega]; exact hl) (t := t) (zs := zs) (l := l) fun j o'' hj e' he hd => h (j + 1) o'' (by omega) (by simpa using e') (by rw [show i + (j + 1) = i + 1 + j by omega]; exact he) hd
    rw [show i + 1 + k = i + (k + 1) by omega] at this
    exact this

/-- The slots that an operation names. -/
def touches (all : List Oper) (o : Oper) : List Nat :=
  (o.op.operands.toList.filterMap fun | .tmp t => some t | _ => none) ++ (match o.guard with | some (j, _) => ((all[j]?).bind (·.dst)).toList | none => []) ++ o.dst.toList
/-- What surely comes ahead of each operation. -/
def befores : List Oper → List (List Nat) → List (List Nat)
  | [], acc => acc
  | o :: r, acc => befores r (acc ++ [(o.after.toList.flatMap fun e => if Region.binds .any e then e.on :: acc.getD e.on [] else []).eraseDups])
def ordered (bs : List (List Nat)) (ops : List Oper) (i : Nat) (o : Oper) : Nat → List Oper → Bool
  | _, [] => true
  | j, q :: r => (match q.dst with
      | some d => if j = i then true else if (touches ops o).contains d then (if j < i then (bs.getD i []).contains j else (bs.getD j []).contains i) else true
      | none => true) && ordered bs ops i o (j + 1) r
def allOrdered (bs : List (List Nat)) (ops : List Oper) : Nat → List Oper → Bool
  | _, [] => true
  | i, o :: r => ordered bs ops i o 0 ops && (o.after.toList.all fun e => !Region.binds .any e || decide (e.on < i)) && allOrdered bs ops (i + 1) r
def drawOk (ops : List Oper) : Bool := allOrdered (befores ops []) ops 0 ops

/-- Carried out are whole pasts alone. -/
def Past (ops : List Oper) (l : Nat → Bool) : Prop := ∀ (i : Nat) o, ops[i]? = some o → l i = true → ∀ e ∈ o.after.toList, Region.binds .any e = true → l e.on = true

theorem befores_spec {ops : List Oper} {l : Nat → Bool} (hp : Past ops l) : ∀ (r done : List Oper) (acc : List (List Nat)), ops = done ++ r → acc.length = done.length →
    (∀ i j o, i < acc.length → j ∈ acc.getD i [] → ops[i]? = some o → (∀ e ∈ o.after.toList, Region.binds .any e = true → l e.on = true) → l j = true) →
    ∀ i j o, j ∈ (befores r acc).getD i [] → ops[i]? = some o → (∀ e ∈ o.after.toList, Region.binds .any e = true → l e.on = true) → l j = true
  | [], done, acc, _, _, h, i, j, o, hj, ho, hl => by
    simp only [befores] at hj
    by_cases hi : i < acc.length
    · exact h i j o hi hj ho hl
    · simp [List.getD, List.getElem?_eq_none (by omega : acc.length ≤ i)] at hj
  | q :: r, done, acc, he, hlen, h, i, j, o, hj, ho, hl => by
    refine befores_spec hp r (done ++ [q]) _ (by simp [he]) (by simp [hlen]) (fun i j o hi hj ho hl => ?_) i j o hj ho hl
    by_cases hi' : i < acc.length
    · have : (acc ++ [(q.after.toList.flatMap fun e => if Region.binds .any e then e.on :: acc.getD e.on [] else []).eraseDups]).getD i [] = acc.getD i [] := by simp [List.getD, List.getElem?_append_left hi']
      rw [this] at hj
      exact h i j o hi' hj ho hl
    · have hi2 : i = acc.length := by simp at hi; omega
      subst hi2
      have hq : o = q := by
        rw [he, List.getElem?_append_right (by omega), hlen, Nat.sub_self] at ho
        exact (Option.some.inj ho).symm
      subst hq
      simp only [List.getD, List.getElem?_append_right (Nat.le_refl _), Nat.sub_self, List.getElem?_cons_zero, Option.getD_some, List.mem_eraseDups] at hj
      obtain ⟨e, hem, hje⟩ := List.mem_flatMap.1 hj
      split at hje
      · rename_i hb
        have hle := hl e hem hb
        rcases List.mem_cons.1 hje with rfl | hje
        · exact hle
        · have hee : e.on < acc.length := by
            rcases Nat.lt_or_ge e.on acc.length with h1 | h1
            · exact h1
            · simp [List.getElem?_eq_none h1] at hje
          cases hoe : ops[e.on]? with
          | none =>
            have : ops.length ≤ e.on := by simpa using hoe
            rw [he] at this
            simp at this
            omega
          | some oe => exact h e.on j oe hee hje hoe fun e' he' hb' => hp e.on oe hoe hle e' he' hb'
      · cases hje

theorem ordered_spec {bs : List (List Nat)} {ops : List Oper} {i : Nat} {o : Oper} : ∀ (r : List Oper) (j : Nat), ordered bs ops i o j r = true → ∀ (k : Nat) q d, r[k]? = some q → q.dst = some d → j + k ≠ i → d ∈ touches ops o → (j + k < i → (j + k) ∈ bs.getD i []) ∧ (i < j + k → i ∈ bs.getD (j + k) [])
  | [], _, _, k, q, d, e, _, _, _ => by simp at e
  | q :: r, j, h, 0, q', d, e, hd, hne, ht => by
    simp only [List.getElem?_cons_zero, Option.some.injEq] at e
    subst e
    simp only [ordered, Bool.and_eq_true, hd] at h
    have h1 := h.1
    simp only [Nat.add_zero] at hne ⊢
    rw [if_neg hne, if_pos (by simpa using ht)] at h1
    refine ⟨fun hlt => by rw [if_pos hlt] at h1; simpa using h1, fun hgt => by rw [if_neg (by omega)] at h1; simpa using h1⟩
  | q :: r, j, h, k + 1, q', d, e, hd, hne, ht => by
    simp only [ordered, Bool.and_eq_true] at h
    have := ordered_spec r (j + 1) h.2 k q' d (by simpa using e) hd (by omega) ht
    rwa [show j + 1 + k = j + (k + 1) by omega] at this
theorem allOrdered_spec {bs : List (List Nat)} {ops : List Oper} : ∀ (r : List Oper) (s : Nat), allOrdered bs ops s r = true → ∀ (i : Nat) o, r[i]? = some o → ordered bs ops (s + i) o 0 ops = true ∧ ∀ e ∈ o.after.toList, Region.binds .any e = true → e.on < s + i
  | [], _, _, i, o, e => by simp at e
  | q :: r, s, h, 0, o, e => by
    simp only [List.getElem?_cons_zero, Option.some.injEq] at e
    subst e
    simp only [allOrdered, Bool.and_eq_true, List.all_eq_true, Bool.or_eq_true, Bool.not_eq_true', decide_eq_true_eq] at h
    exact ⟨h.1.1, fun e he hb => by
      rcases h.1.2 e he with h' | h'
      · rw [hb] at h'; cases h'
      · simpa using h'⟩
  | q :: r, s, h, i + 1, o, e => by
    simp only [allOrdered, Bool.and_eq_true] at h
    have := allOrdered_spec r (s + 1) h.2 i o (by simpa using e)
    rwa [show s + 1 + i = s + (i + 1) by omega] at this

/-- What the text's order gives: each operation's result, or that it is passed over. -/
def Does (P : Program) (L : Tab) (all : List Oper) (o : Oper) (env : Env) (H : List AObj) (z : AV) : Prop :=
  match o.guard with
  | none => vcQuiet P L o env H z
  | some (j, want) => (∃ b, gval all env j = .lit (.bool b) ∧ ((b = want ∧ vcQuiet P L o env H z) ∨ (b ≠ want ∧ z = .lit undef))) ∨ (∃ ar, gval all env j = .lit (.tuple ar) ∧ z = .lit undef)

theorem does_congr {P : Program} {L : Tab} {all : List Oper} {o : Oper} {env env' : Env} {H : List AObj} {z : AV} (h : ∀ t ∈ touches all o, t ∉ o.dst.toList ∨ True → get env t = get env' t) : Does P L all o env H z → Does P L all o env' H z := by
  have h' : ∀ t ∈ touches all o, get env t = get env' t := fun t ht => h t ht (.inr trivial)
  have hq : vcQuiet P L o env H z = vcQuiet P L o env' H z := by
    unfold vcQuiet
    exact vcOp_congr fun x hx t ht => h' t (by
      unfold touches
      refine List.mem_append.2 (.inl (List.mem_append.2 (.inl (List.mem_filterMap.2 ⟨x, hx, by rw [ht]⟩))))
      )
  unfold Does
  cases hg : o.guard with
  | none => simp only; rw [hq]; exact id
  | some jw =>
    obtain ⟨j, want⟩ := jw
    simp only
    have hgv : gval all env j = gval all env' j := by
      unfold gval
      cases hj : (all[j]?).bind (·.dst) with
      | none => rfl
      | some d => exact h' d (by unfold touches; rw [hg]; simp [hj])
    rw [hq, hgv]
    exact id
theorem Sat.of_get {n : Nat} {G : Gh} {env env' : Env} {H : List AObj} {a : Act} {w : World} (s : Sat n ds G env H a w) (h : ∀ t, get env t = get env' t) : Sat n ds G env' H a w :=
  ⟨s.size, s.defers, fun t => h t ▸ s.env t, s.inv⟩

theorem step_drew {G : Gh} {H : List AObj} {w : World} : Step G H w G H w.drew := ⟨rfl, rfl, rfl, Nat.le_refl _, fun _ _ h => h, fun _ _ _ => rfl, fun _ _ => rfl, (Step.refl G H w).obj⟩
theorem inv_drew {G : Gh} {H : List AObj} {w : World} (h : HInv G H w) : HInv G H w.drew := by
  refine ⟨h.lt, fun k sh cs e => ?_, h.grow, h.apart, h.tabs.step (H := H) step_drew⟩
  obtain ⟨arr, T, fr, hb, hs, hr, hf⟩ := h.cells k sh cs e
  exact ⟨arr, T, fr, hb, hs, fun j x v ex ev => (hr j x v ex ev).mono step_drew, hf⟩
/-- One operation of a region, in whatever state its past was carried out. -/
theorem does_wp {P : Program} {L : Tab} (hL : TabOk P L) {n : Nat} {all : Array Oper} (hops : dstsOk n all.toList = true) {i : Nat} {o : Oper} (ho : all[i]? = some o) {env : Env} {H : List AObj} {z : AV} (hd : Does P L all.toList o env H z)
    {G : Gh} {a : Act} {w : World} (s : Sat n ds G env H a w) {K : Act → World → Prop} {Q : Exit → Act → World → Prop} (hK : ∀ G' a' w', Sat n ds G' (put o.dst z env) H a' w' → Step G H w G' H w' → K a' w') : wpOpIn (fw ro) N P all Q i K a w := by
  have hdst : ∀ t, o.dst = some t → t < n := fun t e => by
    have := List.all_eq_true.1 hops o (by rw [Array.mem_toList_iff]; exact Array.mem_of_getElem? ho)
    rw [e] at this
    simpa using this
  have hq : vcQuiet P L o env H z → o.wpIn (fw ro) N P a w K Q := fun hq => by
    refine Oper.wpIn_mono (fun a' w' hx => ?_) (vcOp_sound hL hq ro N Q n ds G a w s)
    obtain ⟨v, x, G', H', rfl, hi, hs, hx, rfl, rfl⟩ := hx
    exact hK G' _ w' (s.put hs hi hx hdst) hs
  unfold wpOpIn
  rw [ho]
  simp only
  unfold Does at hd
  cases hg : o.guard with
  | none =>
    rw [hg] at hd
    rw [if_pos (by simp [Region.wanted, hg])]
    exact hq hd
  | some jw =>
    obtain ⟨j, want⟩ := jw
    rw [hg] at hd
    rcases hd with ⟨b, hb, hd⟩ | ⟨ar, hb, rfl⟩
    · rw [wanted_of s hg hb hops]
      rcases hd with ⟨e, hd⟩ | ⟨e, rfl⟩
      · rw [if_pos (by simpa using e)]
        exact hq hd
      · rw [if_neg (by simpa using e)]
        exact ⟨fun _ _ => trivial, hK G _ w (s.put (.refl _ _ _) s.inv (.lit _) hdst) (.refl _ _ _)⟩
    · rw [wanted_undef s hg hb hops]
      rw [if_neg (by simp)]
      exact ⟨fun _ _ => trivial, hK G _ w (s.put (.refl _ _ _) s.inv (.lit _) hdst) (.refl _ _ _)⟩

theorem aw_region_draw_ {P : Program} {L : Tab} (hL : TabOk P L) (hm : P.follows .mixedOrders = true) {n : Nat} {rid : Nat} {ops : List Oper} (hops : dstsOk n ops = true) (hdr : drawOk ops = true) {Q : Exit → Env → List AObj → Prop} {env : Env} {H : List AObj} (zs : Nat → AV)
    (hdoes : ∀ (i : Nat) o, ops[i]? = some o → Does P L ops o (envAt (fun j => decide (j < i)) zs 0 ops env) H (zs i)) (env' : Env) (henv : ∀ t, get (envAt (fun _ => true) zs 0 ops env) t = get env' t) (hQ : Q .normal env' H) : AW P n (.region rid ops.toArray true) Q env H := fun ro N ds G a w s => by
  refine wpIn_region_draw fun t => ?_
  simp only [Region.schedule, hm, Bool.true_or, if_true]
  have hord : ∀ (i : Nat) o, ops[i]? = some o → ordered (befores ops []) ops i o 0 ops = true ∧ ∀ e ∈ o.after.toList, Region.binds .any e = true → e.on < i := fun i o e => by
    have := allOrdered_spec ops 0 hdr i o e
    rwa [Nat.zero_add] at this
  -- one step, whatever has been carried out
  have key : ∀ (fuel : Nat) (listed : Array Bool) (a : Act) (w' : World) (G' : Gh), listed.size = ops.length → Past ops (fun j => listed.getD j false) → Step G H w G' H w' → Sat n ds G' (envAt (fun j => listed.getD j false) zs 0 ops env) H a w' →
      (∀ i, i < ops.length → listed.getD i false = false → 0 < fuel) → (fuel + (listed.toList.filter id).length = ops.length) → wpAnyIn (fw ro) N P .any ops.toArray (Post n ds G H w Q) fuel listed a w' := by
    intro fuel
    induction fuel with
    | zero =>
      intro listed a w' G' hsz hpast hst hs hf _
      have hall : ∀ i, i < ops.length → listed.getD i false = true := fun i hi => by
        cases hl : listed.getD i false with
        | true => rfl
        | false => exact absurd (hf i hi hl) (Nat.lt_irrefl _)
      refine ⟨?_, G', _, H, hs.of_get fun t => (envAt_congr ops 0 env env rfl fun j o e _ => by rw [Nat.zero_add]; exact hall j (lt_of_get e)).trans (henv t), hst, hQ⟩
      unfold Region.ready
      rw [List.filter_eq_nil_iff]
      intro i hi
      have hi' : i < ops.length := by simpa using hi
      have := hall i hi'
      have h2 : listed.getD i true = true := by
        rw [Array.getD_eq_getD_getElem?, Array.getElem?_eq_getElem (by omega)] at this ⊢
        exact this
      simp [h2]
    | succ fuel ih =>
      intro listed a w' G' hsz hpast hst hs hf hcount
      refine ⟨fun hnil => ?_, fun i hi => ?_⟩
      · -- nothing is ready: all is done
        have hall : ∀ i, i < ops.length → listed.getD i false = true := by
          intro i
          induction i using Nat.strongRecOn with
          | _ i ihi =>
            intro hi
            cases hl : listed.getD i false with
            | true => rfl
            | false =>
              exfalso
              have hmem : i ∈ Region.ready .any ops.toArray listed := by
                unfold Region.ready
                rw [List.mem_filter]
                refine ⟨by simpa using hi, ?_⟩
                have h2 : listed.getD i true = false := by
                  rw [Array.getD_eq_getD_getElem?, Array.getElem?_eq_getElem (by omega)] at hl ⊢
                  exact hl
                have ho : ops.toArray[i]? = some ops[i] := by simp [hi]
                rw [h2, ho]
                simp only [Bool.not_false, Bool.true_and, Option.map_some, Option.getD_some]
                rw [Array.all_eq_true_iff_forall_mem]
                intro e he
                have := (hord i ops[i] (List.getElem?_eq_getElem hi)).2 e (Array.mem_toList_iff.2 he)
                cases hb : Region.binds .any e with
                | false => rfl
                | true =>
                  have h3 := this hb
                  rw [ihi e.on h3 (by omega)]
                  rfl
              rw [hnil] at hmem
              cases hmem
        exact ⟨G', _, H, hs.of_get fun t => (envAt_congr ops 0 env env rfl fun j o e _ => by rw [Nat.zero_add]; exact hall j (lt_of_get e)).trans (henv t), hst, hQ⟩
      · unfold Region.ready at hi
        rw [List.mem_filter] at hi
        obtain ⟨hi1, hi2⟩ := hi
        have hi' : i < ops.length := by simpa using hi1
        have ho : ops.toArray[i]? = some ops[i] := by simp [hi']
        rw [ho] at hi2
        simp only [Option.map_some, Option.getD_some, Bool.and_eq_true, Bool.not_eq_true'] at hi2
        obtain ⟨hl0, hready⟩ := hi2
        have hl : listed.getD i false = false := by
          rw [Array.getD_eq_getD_getElem?, Array.getElem?_eq_getElem (by omega)] at hl0 ⊢
          exact hl0
        have hpre : ∀ e ∈ (ops[i]).after.toList, Region.binds .any e = true → listed.getD e.on false = true := fun e he hb => by
          rw [Array.all_eq_true_iff_forall_mem] at hready
          have := hready e (Array.mem_toList_iff.1 he)
          rw [hb] at this
          simpa using this
        have hoi : ops[i]? = some ops[i] := List.getElem?_eq_getElem hi'
        obtain ⟨hor, hback⟩ := hord i ops[i] hoi
        have hbi : ∀ j, j ∈ (befores ops []).getD i [] → listed.getD j false = true := fun j hj =>
          befores_spec hpast ops [] [] rfl rfl (fun i j o hi => by simp at hi) i j ops[i] hj hoi hpre
        have hlater : ∀ (j : Nat) q, ops[j]? = some q → i ∈ (befores ops []).getD j [] → listed.getD j false = false := fun j q hq hij => by
          cases hlj : listed.getD j false with
          | false => rfl
          | true =>
            have := befores_spec hpast ops [] [] rfl rfl (fun i j o hi => by simp at hi) j i q hij hq (hpast j q hq hlj)
            rw [hl] at this
            cases this
        -- what it reads is what it read in the text's order
        have hsame : ∀ t ∈ touches ops ops[i], get (envAt (fun j => decide (j < i)) zs 0 ops env) t = get (envAt (fun j => listed.getD j false) zs 0 ops env) t := fun t ht => by
          refine envAt_congr ops 0 env env rfl fun j q hq hd => ?_
          rw [Nat.zero_add]
          by_cases hji : j = i
          · subst hji
            rw [hl]
            simp
          · have hsp := ordered_spec ops 0 hor j q t hq hd (by omega) ht
            rw [Nat.zero_add] at hsp
            rcases Nat.lt_or_ge j i with h1 | h1
            · rw [hbi j (hsp.1 h1)]
              simpa using h1
            · rw [hlater j q hq (hsp.2 (by omega))]
              simpa using h1
        have hdo := does_congr (fun t ht _ => hsame t ht) (hdoes i ops[i] hoi)
        refine does_wp hL (all := ops.toArray) (by simpa using hops) ho hdo hs fun G'' a'' w'' hs'' hst'' => ?_
        have hget : ∀ t, get (put (ops[i]).dst (zs i) (envAt (fun j => listed.getD j false) zs 0 ops env)) t = get (envAt (fun j => (listed.setIfInBounds i true).getD j false) zs 0 ops env) t := fun t => by
          have h1 := envAt_put (zs := zs) (l := fun j => listed.getD j false) (t := t) ops 0 env i ops[i] hoi (by rw [Nat.zero_add]; exact hl) (fun j q hj hq hlj hd => by
            intro hqd
            rw [Nat.zero_add] at hlj
            have hsp := ordered_spec ops 0 hor j q t hq hqd (by omega) (by unfold touches; rw [hd]; simp)
            rw [Nat.zero_add] at hsp
            have hlj' : listed.getD j false = true := hlj
            rw [hlater j q hq (hsp.2 hj)] at hlj'
            cases hlj')
          rw [Nat.zero_add] at h1
          rw [← h1]
          refine envAt_congr ops 0 env env rfl fun j q hq _ => ?_
          rw [Nat.zero_add]
          simp only [Array.getD_eq_getD_getElem?, Array.getElem?_setIfInBounds]
          by_cases hji : j = i
          · subst hji
            simp [show j < listed.size by omega]
          · simp [hji, show ¬ (i = j) from fun h => hji h.symm]
        have hgd : ∀ j, (listed.setIfInBounds i true).getD j false = if j = i then true else listed.getD j false := fun j => by
          simp only [Array.getD_eq_getD_getElem?, Array.getElem?_setIfInBounds]
          by_cases hji : j = i
          · subst hji
            simp [show j < listed.size by omega]
          · simp [hji, show ¬ (i = j) from fun h => hji h.symm]
        have hcnt : fuel + ((listed.setIfInBounds i true).toList.filter id).length = ops.length := by
          have : ((listed.setIfInBounds i true).toList.filter id).length = (listed.toList.filter id).length + 1 := by
            rw [Array.toList_setIfInBounds]
            have hli : i < listed.toList.length := by simp; omega
            have hlf : listed.toList[i] = false := by
              rw [Array.getD_eq_getD_getElem?, Array.getElem?_eq_getElem (by omega)] at hl
              simpa using hl
            have key2 : ∀ (l : List Bool) (i : Nat) (hi : i < l.length), l[i] = false → ((l.set i true).filter id).length = (l.filter id).length + 1 := by
              intro l
              induction l with
              | nil => intro i hi; simp at hi
              | cons b r ih =>
                intro i hi he
                cases i with
                | zero => simp at he; subst he; simp
                | succ i =>
                  simp only [List.set_cons_succ, List.filter_cons]
                  have := ih i (by simpa using hi) (by simpa using he)
                  cases b <;> simp [this]
            exact key2 _ i hli hlf
          omega
        refine ih _ _ _ G'' (by simp [hsz]) (fun j q hq hlj e he hb => ?_) (hst.trans hst'') (hs''.of_get hget) (fun j hj hlj => ?_) hcnt
        · simp only [hgd] at hlj ⊢
          by_cases hji : j = i
          · subst hji
            have hqe : q = ops[j] := by rw [hoi] at hq; exact (Option.some.inj hq).symm
            subst hqe
            split
            · rfl
            · exact hpre e he hb
          · rw [if_neg hji] at hlj
            split
            · rfl
            · exact hpast j q hq hlj e he hb
        · -- something is left, so there is fuel
          rcases Nat.eq_zero_or_pos fuel with h0 | h0
          · exfalso
            rw [h0, Nat.zero_add] at hcnt
            have hfull : ∀ (l : List Bool), (l.filter id).length = l.length → ∀ b ∈ l, b = true := fun l hl b hb => by
              have := List.filter_eq_self.1 (List.Sublist.eq_of_length (List.filter_sublist (l := l) (p := id)) hl) b hb
              simpa using this
            have hlen : ((listed.setIfInBounds i true).toList.filter id).length = (listed.setIfInBounds i true).toList.length := by rw [hcnt]; simp [hsz]
            have hjs : j < (listed.setIfInBounds i true).size := by simp; omega
            have := hfull _ hlen ((listed.setIfInBounds i true)[j]) (by rw [Array.mem_toList_iff]; exact Array.getElem_mem hjs)
            rw [Array.getD_eq_getD_getElem?, Array.getElem?_eq_getElem hjs] at hlj
            simp only [Option.getD_some] at hlj
            rw [this] at hlj
            cases hlj
          · exact h0
  have hcap : Sat n ds G (envAt (fun j => (Array.replicate ops.toArray.size false).getD j false) zs 0 ops env) H a { w with drawn := w.drawn + 1 } := by
    have h0 : ∀ t, get env t = get (envAt (fun j => (Array.replicate ops.toArray.size false).getD j false) zs 0 ops env) t := fun t => by
      have : ∀ (r : List Oper) (i : Nat) (env : Env), get env t = get (envAt (fun j => (Array.replicate ops.toArray.size false).getD j false) zs i r env) t := by
        intro r
        induction r with
        | nil => intro _ _; rfl
        | cons o r ih =>
          intro i env
          simp only [envAt]
          have : (Array.replicate ops.toArray.size false).getD i false = false := by
            rw [Array.getD_eq_getD_getElem?, Array.getElem?_replicate]
            split <;> rfl
          simp only [this, Bool.false_eq_true, if_false]
          exact ih (i + 1) env
      exact this ops 0 env
    exact Sat.of_get (env := env) (s.step step_drew (inv_drew s.inv)) h0
  refine wpAnyIn_sound ops.toArray.size t _ a _ (key ops.toArray.size _ a _ G (by simp) (fun i o ho hl => ?_) step_drew hcap (fun i hi _ => by simp; omega) (by simp))
  simp only [Array.getD_eq_getD_getElem?, Array.getElem?_replicate] at hl
  split at hl <;> cases hl

end Go.Proofs.YtdahdbnfknmmgaaGreatDoor.V
end

section
set_option linter.unusedSimpArgs false
set_option linter.unusedVariables false
namespace Go.Proofs.YtdahdbnfknmmgaaGreatDoor.V
open Go

/-- What an operation that leaves the objects alone asks and gives; none: it is none of these. -/
def qOp (P : Program) (L : Tab) (o : Oper) (env : Env) (H : List AObj) : Option (Prop × AV) :=
  match o.op with
  | .move x | .assign x => qTrue (ev env x)
  | .pick c a b => qPick (ev env c) (ev env a) (ev env b)
  | .binOp op t x y _ => if nilCmp y then none else qBin L op t (isConst y) (ev env x) (ev env y)
  | .nilCheck x => qNil (ev env x)
  | .makeFunc f fs cs => qTrue (.fn f (fs.toList.map (ev env)) (cs.toList.map (ev env)))
  | .makeInterface t x => qIface L t (ev env x)
  | .sliceToArrayPointer t x => qToArr L t (ev env x)
  | .unOp op _ x => qUn' op (ev env x)
  | .convert s d x => qConvH P L H s d (ev env x)
  | .extract x i => qExtract (ev env x) i
  | .indexAddr t x i => qIndexAddr L t (ev env x) (ev env i)
  | .index t x i => qIndex L t (ev env x) (ev env i)
  | .load t x => qLoad L H t (ev env x)
  | .slice t x lo hi mx => qSlice L t (ev env x) (evO env lo) (evO env hi) (evO env mx)
  | .fieldAddr t x f => qFieldAddr L t (ev env x) f
  | .field t x f => qField L t (ev env x) f
  | .build t parts => qBuild L t (evParts env parts)
  | .box _ x => qBox (ev env x)
  | _ => none
theorem qOp_vc {P : Program} {L : Tab} {o : Oper} {env : Env} {H : List AObj} {p : Prop} {z : AV} (h : qOp P L o env H = some (p, z)) (hp : p) : vcQuiet P L o env H z := by
  obtain ⟨dst, op, ty, pos, after, guard⟩ := o
  have key : ∀ (q : Option (Prop × AV)) (K : AV → List AObj → Prop), q = some (p, z) → K z H → lift q K H := fun q K e hk => by rw [e]; exact ⟨hp, hk⟩
  unfold vcQuiet
  cases op <;> simp only [qOp] at h <;> first | (simp at h; done) | (simp only [vcOp, List.contains_nil, Bool.false_eq_true, if_false]; exact key _ _ h ⟨rfl, rfl⟩) | skip
  case binOp op t x y t' =>
    simp only [vcOp]
    split at h
    · cases h
    · rename_i hn
      rw [if_neg hn]
      exact key _ _ h ⟨rfl, rfl⟩

/-- A call that leaves the objects alone, with one result. -/
def vcCallD (P : Program) (f : AV) (args : List AV) (H : List AObj) (K : AV → Prop) [Tag K] : Prop :=
  match f with
  | .fn (.func g) fs cs => ∃ z, ACalls P g (fs ++ args ++ cs) H (fun x H' => x = z ∧ H' = H) ∧ K z
  | _ => False
def liftD (q : Option (Prop × AV)) (K : AV → Prop) [Tag K] : Prop :=
  match q with
  | some (p, z) => p ∧ K z
  | none => False
theorem liftD_some {p : Prop} {z : AV} {K : AV → Prop} : liftD (some (p, z)) K = (p ∧ K z) := rfl
theorem liftD_none {K : AV → Prop} : liftD none K = False := rfl
def vcBuiltinD (L : Tab) (H : List AObj) (b : Builtin) (args : List AV) (ts : List TypeId) (K : AV → Prop) [Tag K] : Prop :=
  match b, args, ts with
  | .len, [x], [t] => liftD (qLen' L t x) K
  | .cap, [x], [t] => liftD (qCap L t x) K
  | .min, [x, y], [_, _] => liftD (qLeast false x y) K
  | .max, [x, y], [_, _] => liftD (qLeast true x y) K
  | .unsafeSliceData, [x], [_] => liftD (qSliceData H x) K
  | .unsafeString, [x, y], [pt, _] => liftD (qString L H pt x y) K
  | _, _, _ => False
def vcOpD (P : Program) (L : Tab) (o : Oper) (env : Env) (H : List AObj) (K : AV → Prop) : Prop :=
  match o.op with
  | .call c => match c.callee with
    | .value f => vcCallD P (ev env f) (c.args.toList.map (ev env)) H K
    | .builtin b => vcBuiltinD L H b (c.args.toList.map (ev env)) c.argTypes.toList K
    | _ => False
  | .buildSlice t len parts => if len = 0 ∧ parts.size ≠ 0 then False else liftD (qBuildSlice L t len (evParts env parts)) K
  | _ => liftD (qOp P L o env H) K
theorem vcOpD_sound {P : Program} {L : Tab} {o : Oper} {env : Env} {H : List AObj} {K : AV → Prop} (h : vcOpD P L o env H K) : ∃ z, vcQuiet P L o env H z ∧ K z := by
  have key : ∀ q, q = qOp P L o env H → liftD q K → ∃ z, vcQuiet P L o env H z ∧ K z := fun q e hk => by
    unfold liftD at hk
    split at hk
    · exact ⟨_, qOp_vc e.symm hk.1, hk.2⟩
    · exact hk.elim
  unfold vcOpD at h
  split at h
  · rename_i c ho
    split at h
    · rename_i f hf
      unfold vcCallD at h
      split at h
      · rename_i g fs cs ef
        obtain ⟨z, hz, hk⟩ := h
        refine ⟨z, ?_, hk⟩
        unfold vcQuiet vcOp
        rw [ho]
        simp only
        rw [hf]
        simp only
        unfold vcCall
        rw [ef]
        exact hz
      · exact h.elim
    · rename_i b hb
      unfold vcBuiltinD at h
      split at h
      case _ x t hx ht | _ x t hx ht | _ x y _ _ hx ht | _ x y _ _ hx ht | _ x _ hx ht | _ x y _ _ hx ht =>
        unfold liftD at h
        split at h
        · rename_i p z hq
          refine ⟨z, ?_, h.2⟩
          unfold vcQuiet vcOp
          rw [ho]
          simp only
          rw [hb]
          simp only
          rw [hx, ht]
          unfold vcBuiltin
          simp only
          try (split; · simp [qString] at hq)
          rw [hq]
          exact ⟨h.1, rfl, rfl⟩
        · exact h.elim
      · exact h.elim
    · exact h.elim
  · rename_i t len parts ho
    split at h
    · exact h.elim
    · rename_i hne
      unfold liftD at h
      split at h
      · rename_i p z hq
        refine ⟨z, ?_, h.2⟩
        unfold vcQuiet vcOp
        rw [ho]
        simp only
        rw [if_neg hne, hq]
        exact ⟨h.1, rfl, rfl⟩
      · exact h.elim
  · exact key _ rfl h

def vcDraw (P : Program) (L : Tab) (all : List Oper) : List Oper → Env → List AObj → (Env → List AObj → Prop) → Prop
  | [], env, H, K => K env H
  | o :: rest, env, H, K =>
    match o.guard with
    | none => vcOpD P L o env H fun z => vcDraw P L all rest (put o.dst z env) H K
    | some (j, want) => vcGuard (gval all env j) want (vcOpD P L o (known1 all j want env) H fun z => vcDraw P L all rest (put o.dst z (known1 all j want env)) H K) (vcDraw P L all rest (put o.dst (.lit undef) (known1 all j (!want) env)) H K) (vcDraw P L all rest (put o.dst (.lit undef) env) H K)

theorem envAt_none {zs : Nat → AV} {l : Nat → Bool} : ∀ (r : List Oper) (i : Nat) (env : Env), (∀ j, j < r.length → l (i + j) = false) → envAt l zs i r env = env
  | [], _, _, _ => rfl
  | o :: r, i, env, h => by
    have h0 := h 0 (by simp)
    rw [Nat.add_zero] at h0
    simp only [envAt, h0, Bool.false_eq_true, if_false]
    exact envAt_none r (i + 1) env fun j hj => by have := h (j + 1) (by simp; omega); rwa [show i + (j + 1) = i + 1 + j by omega] at this
theorem envAt_zs {zs zs' : Nat → AV} {l l' : Nat → Bool} : ∀ (r : List Oper) (i : Nat) (env : Env), (∀ j, j < r.length → zs (i + j) = zs' (i + j) ∧ l (i + j) = l' (i + j)) → envAt l zs i r env = envAt l' zs' i r env
  | [], _, _, _ => rfl
  | o :: r, i, env, h => by
    obtain ⟨h0, h1⟩ := h 0 (by simp)
    rw [Nat.add_zero] at h0 h1
    simp only [envAt, h0, h1]
    exact envAt_zs r (i + 1) _ fun j hj => by have := h (j + 1) (by simp; omega); rwa [show i + (j + 1) = i + 1 + j by omega] at this

theorem get_known {all : List Oper} {j : Nat} {b : Bool} {env : Env} (hb : gval all env j = .lit (.bool b)) (t : Nat) : get (known1 all j b env) t = get env t := by
  unfold known1
  rw [get_put]
  unfold gval at hb
  split
  · rename_i hd
    rw [hd] at hb
    exact hb.symm
  · rfl
theorem gval_congr {all : List Oper} {j : Nat} {env env' : Env} (h : ∀ t, get env t = get env' t) : gval all env j = gval all env' j := by
  unfold gval
  split
  · exact h _
  · rfl
theorem vcDraw_sound {P : Program} {L : Tab} {all : List Oper} {H : List AObj} {K : Env → List AObj → Prop} : ∀ (r : List Oper) (i : Nat) (env env₀ : Env), (∀ t, get env t = get env₀ t) → vcDraw P L all r env H K →
    ∃ (zs : Nat → AV) (env' : Env), (∀ (k : Nat) o, r[k]? = some o → Does P L all o (envAt (fun j => decide (j < i + k)) zs i r env₀) H (zs (i + k))) ∧ (∀ t, get (envAt (fun _ => true) zs i r env₀) t = get env' t) ∧ K env' H
  | [], i, env, env₀, he, h => ⟨fun _ => .any, env, fun k o e => by simp at e, fun t => (he t).symm, h⟩
  | o :: r, i, env, env₀, he, h => by
    have fin : ∀ z env₁, (∀ t, get env₁ t = get env₀ t) → Does P L all o env₀ H z → vcDraw P L all r (put o.dst z env₁) H K →
        ∃ (zs : Nat → AV) (env' : Env), (∀ (k : Nat) q, (o :: r)[k]? = some q → Does P L all q (envAt (fun j => decide (j < i + k)) zs i (o :: r) env₀) H (zs (i + k))) ∧ (∀ t, get (envAt (fun _ => true) zs i (o :: r) env₀) t = get env' t) ∧ K env' H := fun z env₁ he₁ hz hr => by
      obtain ⟨zs, env', h1, h2, h3⟩ := vcDraw_sound r (i + 1) _ (put o.dst z env₀) (fun t => by rw [get_put, get_put, he₁ t]) hr
      refine ⟨fun j => if j = i then z else zs j, env', fun k q e => ?_, fun t => ?_, h3⟩
      · cases k with
        | zero =>
          simp only [List.getElem?_cons_zero, Option.some.injEq] at e
          subst e
          rw [envAt_none _ _ _ fun j _ => by simp]
          simpa using hz
        | succ k =>
          have := h1 k q (by simpa using e)
          have e1 : envAt (fun j => decide (j < i + (k + 1))) (fun j => if j = i then z else zs j) i (o :: r) env₀ = envAt (fun j => decide (j < i + 1 + k)) zs (i + 1) r (put o.dst z env₀) := by
            simp only [envAt, show i < i + (k + 1) by omega, decide_true, if_true]
            exact envAt_zs r (i + 1) _ fun j _ => ⟨by rw [if_neg (by omega)], by rw [show i + (k + 1) = i + 1 + k by omega]⟩
          rw [e1]
          simp only [show ¬ (i + (k + 1) = i) by omega, if_false]
          rwa [show i + (k + 1) = i + 1 + k by omega]
      · have e1 : envAt (fun _ => true) (fun j => if j = i then z else zs j) i (o :: r) env₀ = envAt (fun _ => true) zs (i + 1) r (put o.dst z env₀) := by
          simp only [envAt, if_true]
          exact envAt_zs r (i + 1) _ fun j _ => ⟨by rw [if_neg (by omega)], rfl⟩
        rw [e1]
        exact h2 t
    have hq : ∀ env₁ z, (∀ t, get env₁ t = get env₀ t) → vcQuiet P L o env₁ H z → vcQuiet P L o env₀ H z := fun env₁ z he₁ hz => by
      unfold vcQuiet at hz ⊢
      rwa [← vcOp_congr (env := env₁) fun x _ t _ => he₁ t]
    unfold vcDraw at h
    cases hg : o.guard with
    | none =>
      rw [hg] at h
      obtain ⟨z, hz, hk⟩ := vcOpD_sound h
      exact fin z env he (by unfold Does; rw [hg]; exact hq env z he hz) hk
    | some jw =>
      obtain ⟨j, want⟩ := jw
      rw [hg] at h
      simp only [vcGuard] at h
      split at h
      · rename_i b hb
        have hb0 : gval all env₀ j = .lit (.bool b) := by rw [← gval_congr he]; exact hb
        by_cases e : b = want
        · subst e
          have he₁ : ∀ t, get (known1 all j b env) t = get env₀ t := fun t => (get_known hb t).trans (he t)
          obtain ⟨z, hz, hk⟩ := vcOpD_sound (h.1 rfl)
          exact fin z _ he₁ (by unfold Does; rw [hg]; exact .inl ⟨b, hb0, .inl ⟨rfl, hq _ z he₁ hz⟩⟩) hk
        · have hbn : b = !want := by cases b <;> cases want <;> simp_all
          have he₁ : ∀ t, get (known1 all j (!want) env) t = get env₀ t := fun t => (get_known (hbn ▸ hb) t).trans (he t)
          exact fin (.lit undef) _ he₁ (by unfold Does; rw [hg]; exact .inl ⟨b, hb0, .inr ⟨e, rfl⟩⟩) (h.2 e)
      · rename_i ar hb
        exact fin (.lit undef) env he (by unfold Does; rw [hg]; exact .inr ⟨ar, by rw [← gval_congr he]; exact hb, rfl⟩) h
      · exact h.elim
theorem aw_region_draw {P : Program} {L : Tab} (hL : TabOk P L) (hm : P.follows .mixedOrders = true) {n : Nat} {rid : Nat} {ops : List Oper} (hops : dstsOk n ops = true) (hdr : drawOk ops = true) {Q : Exit → Env → List AObj → Prop} {env : Env} {H : List AObj}
    (h : vcDraw P L ops ops env H (Q .normal)) : AW P n (.region rid ops.toArray true) Q env H := by
  obtain ⟨zs, env', h1, h2, h3⟩ := vcDraw_sound ops 0 env env (fun _ => rfl) h
  exact aw_region_draw_ hL hm hops hdr zs (fun i o e => by have := h1 i o e; rwa [Nat.zero_add] at this) env' h2 h3

end Go.Proofs.YtdahdbnfknmmgaaGreatDoor.V
end
