/- slices.Insert, slices.Clone, of texts and of trees: written by gen_insert.py. -/
import Derived.Test.YtdahdbnfknmmgaaGreatDoorW4
import Derived.Lib.TrimUEq
import Derived.Lib.ItoaNum
section
set_option linter.unusedSimpArgs false
set_option linter.unusedVariables false
namespace Go.Proofs.YtdahdbnfknmmgaaGreatDoor
open Go V
set_option maxRecDepth 10000
set_option maxHeartbeats 4000000
theorem aset_mid {A B C B' : List AV} {n : Nat} (hn : n = A.length) (h : B.length = B'.length) : aset (A ++ B ++ C) n B' = A ++ B' ++ C := by
  subst hn
  refine List.ext_getElem? fun k => ?_
  rw [aset_get]
  simp only [List.length_append]
  by_cases h1 : k < A.length
  · rw [if_neg (by omega), List.append_assoc, List.append_assoc, List.getElem?_append_left h1, List.getElem?_append_left h1]
  · by_cases h2 : k < A.length + B'.length
    · rw [if_pos (by omega), List.getElem?_append_left (by simp; omega), List.getElem?_append_right (by omega)]
    · rw [if_neg (by omega), List.getElem?_append_right (by simp; omega), List.getElem?_append_right (by simp; omega)]
      congr 1
      simp
      omega
theorem flats_insert {xs : List AV} {x : AV} {i : Nat} (hi : i ≤ xs.length) : flats (xs.insertIdx i x) = flats (xs.take i) ++ x.flat ++ flats (xs.drop i) := by
  induction xs generalizing i with
  | nil => obtain rfl : i = 0 := by simpa using hi
           simp [flats]
  | cons a xs ih =>
    cases i with
    | zero => simp [flats]
    | succ i =>
      rw [List.insertIdx_succ_cons, flats_cons, ih (by simpa using hi), List.take_succ_cons, List.drop_succ_cons, flats_cons]
      simp
theorem mul_sub1 {n i s : Nat} : (n - i) * s = n * s - i * s := Nat.sub_mul n i s
/-- In place. -/
theorem ins_here {xs : List AV} {x : AV} {P : List AV} {s n i : Nat} (hu : ∀ y ∈ xs, y.flat.length = s) (hx : x.flat.length = s) (hn : xs.length = n) (hi : i ≤ n) (hP : s ≤ P.length) :
    (aset (aset (flats xs ++ P) ((i + 1) * s) (((flats xs ++ P).drop (i * s)).take ((n - i) * s))) (i * s) x.flat).take ((n + 1) * s) = flats (xs.insertIdx i x) := by
  have hA : (flats (xs.take i)).length = i * s := by rw [flats_len (s := s) fun y hy => hu y (List.mem_of_mem_take hy), List.length_take, Nat.min_eq_left (by omega)]
  have hB : (flats (xs.drop i)).length = (n - i) * s := by rw [flats_len (s := s) fun y hy => hu y (List.mem_of_mem_drop hy), List.length_drop, hn]
  have hsp : flats xs = flats (xs.take i) ++ flats (xs.drop i) := by rw [← flats_append, List.take_append_drop]
  rw [flats_insert (by omega), hsp]
  generalize flats (xs.take i) = A at *
  generalize flats (xs.drop i) = B at *
  have hz : ((A ++ B ++ P).drop (i * s)).take ((n - i) * s) = B := by
    rw [List.append_assoc, ← hA, List.drop_left, ← hB, List.take_left]
  rw [hz]
  have hW : ∃ U V, B ++ P.take s = U ++ V ∧ U.length = s ∧ V.length = B.length := ⟨(B ++ P.take s).take s, (B ++ P.take s).drop s, (List.take_append_drop ..).symm, by rw [List.length_take, List.length_append, List.length_take]; omega, by rw [List.length_drop, List.length_append, List.length_take]; omega⟩
  obtain ⟨U, V, hUV, hU, hV⟩ := hW
  have e1 : A ++ B ++ P = (A ++ U) ++ V ++ P.drop s := by
    rw [List.append_assoc A U V, ← hUV]
    simp
  rw [e1, aset_mid (by rw [List.length_append, hA, hU, Nat.add_mul, Nat.one_mul]) hV]
  have e2 : (A ++ U) ++ B ++ P.drop s = A ++ U ++ (B ++ P.drop s) := by simp
  rw [e2, aset_mid hA.symm (by rw [hU, hx])]
  have e3 : A ++ x.flat ++ (B ++ P.drop s) = (A ++ x.flat ++ B) ++ P.drop s := by simp
  rw [e3]
  have hl : (A ++ x.flat ++ B).length = (n + 1) * s := by
    rw [List.length_append, List.length_append, hA, hx, hB, mul_sub1, Nat.add_mul, Nat.one_mul]
    have := Nat.mul_le_mul_right s hi
    omega
  rw [← hl, List.take_left]
/-- In a new block. -/
theorem ins_new {xs : List AV} {x : AV} {s n i m : Nat} (hu : ∀ y ∈ xs, y.flat.length = s) (hx : x.flat.length = s) (hn : xs.length = n) (hi : i ≤ n) (hm : (n + 1 - i) * s ≤ m) :
    (aset (aset ((flats xs).take (i * s) ++ List.replicate m .any) (i * s) x.flat) ((i + 1) * s) ((flats xs).drop (i * s))).take ((n + 1) * s) = flats (xs.insertIdx i x) := by
  have hA : (flats (xs.take i)).length = i * s := by rw [flats_len (s := s) fun y hy => hu y (List.mem_of_mem_take hy), List.length_take, Nat.min_eq_left (by omega)]
  have hB : (flats (xs.drop i)).length = (n - i) * s := by rw [flats_len (s := s) fun y hy => hu y (List.mem_of_mem_drop hy), List.length_drop, hn]
  have hsp : flats xs = flats (xs.take i) ++ flats (xs.drop i) := by rw [← flats_append, List.take_append_drop]
  have hm2 : (n + 1 - i) * s = s + (n - i) * s := by rw [show n + 1 - i = (n - i) + 1 by omega, Nat.add_mul, Nat.one_mul, Nat.add_comm]
  rw [flats_insert (by omega), hsp]
  generalize flats (xs.take i) = A at *
  generalize flats (xs.drop i) = B at *
  have hz : (A ++ B).drop (i * s) = B := by rw [← hA, List.drop_left]
  have hy : (A ++ B).take (i * s) = A := by rw [← hA, List.take_left]
  rw [hz, hy]
  obtain ⟨r, hr⟩ : ∃ r, m = s + ((n - i) * s + r) := ⟨m - s - (n - i) * s, by omega⟩
  have e1 : A ++ List.replicate m AV.any = A ++ List.replicate s .any ++ (List.replicate ((n - i) * s) .any ++ List.replicate r .any) := by
    rw [hr, List.append_assoc, List.replicate_append_replicate, List.replicate_append_replicate]
  rw [e1, aset_mid hA.symm (by rw [List.length_replicate, hx])]
  have e2 : A ++ x.flat ++ (List.replicate ((n - i) * s) AV.any ++ List.replicate r .any) = (A ++ x.flat) ++ List.replicate ((n - i) * s) .any ++ List.replicate r .any := by simp
  rw [e2, aset_mid (by rw [List.length_append, hA, hx, Nat.add_mul, Nat.one_mul]) (by rw [List.length_replicate, hB])]
  have hl : (A ++ x.flat ++ B).length = (n + 1) * s := by
    rw [List.length_append, List.length_append, hA, hx, hB, mul_sub1, Nat.add_mul, Nat.one_mul]
    have := Nat.mul_le_mul_right s hi
    omega
  rw [← hl, List.take_left]
theorem okv_all {x : AV} (h : x.okv = true) : x.flat.all AV.scalar = true := by
  cases x <;> simp_all [AV.okv, AV.flat, AV.scalar]
theorem flats_all {xs : List AV} (h : ∀ y ∈ xs, y.okv = true) : (flats xs).all AV.scalar = true := by
  rw [List.all_eq_true]
  intro c hc
  unfold flats at hc
  obtain ⟨y, hy, hcy⟩ := List.mem_flatMap.1 hc
  exact List.all_eq_true.1 (okv_all (h y hy)) c hcy
theorem ins_uni {xs : List AV} {x : AV} {s i : Nat} (hu : ∀ y ∈ xs, y.flat.length = s ∧ y.okv = true) (hx : x.flat.length = s ∧ x.okv = true) (hi : i ≤ xs.length) : ∀ y ∈ xs.insertIdx i x, y.flat.length = s ∧ y.okv = true := fun y hy => by
  rcases (List.mem_insertIdx hi).1 hy with rfl | hy
  · exact hx
  · exact hu y hy
/-- Cells that are told in full may be told as a slice's elements. -/
theorem frz_msl {H : List AObj} {k s n cap : Nat} {sh : Shape} {cs xs : List AV} (ho : H[k]? = some (.cells sh cs)) (hx : xs.length = n) (hu : ∀ x ∈ xs, x.flat.length = s ∧ x.okv = true) (h : cs.take (n * s) = flats xs) : Frz1 H k (.msl k 0 n cap) (.sl .sh s xs) := by
  have hl : (flats xs).length ≤ cs.length := by rw [← h, List.length_take]; omega
  refine .msl 0 n cap s sh cs xs ho hx hu (by omega) fun j c y e1 e2 => ?_
  rw [Nat.zero_add] at e1
  have hj := lt_of_get e2
  rw [← h, List.getElem?_take] at e2
  split at e2
  · rw [e1] at e2
    cases e2
    exact .keep _
  · cases e2
theorem frz_row {H : List AObj} {sh : Shape} {k s n : Nat} {cs xs : List AV} (ho : H[k]? = some (.cells sh cs)) (hx : xs.length = n) (hu : ∀ x ∈ xs, x.flat.length = s ∧ x.okv = true) (h : cs = flats xs) : Frz1 H k (.mrow k n) (.sl .sh s xs) := by
  subst h
  refine .row n s sh _ xs ho hx hu (Nat.le_refl _) fun j c y e1 e2 => ?_
  rw [e1] at e2
  cases e2
  exact .keep _
theorem done_cut1 {H₀ M : List AObj} {R : AV → List AObj → Prop} {x : AV} {a : Nat} (hx : Low H₀.length x) (hr : R x (H₀.set a .gone)) : Done H₀ R x (H₀.set a .gone ++ M) := by
  unfold Done
  have hl : (H₀.set a AObj.gone).length = H₀.length := by simp
  refine ⟨x, (H₀.set a .gone ++ M).take H₀.length, ends_cut (Le.refl x) (Nat.le_refl _) hx fun i sh cs hi e => .inl ?_, ?_⟩
  · rw [List.getElem?_append_left (by rw [hl]; exact hi)] at e
    rcases get_set e with ⟨_, e'⟩ | ⟨_, e', _⟩
    · exact e'
    · cases e'
  · rw [List.take_append_of_le_length (by rw [hl]; exact Nat.le_refl _), List.take_of_length_le (by rw [hl]; exact Nat.le_refl _)]
    exact hr
theorem run_overlaps_b {P : Program} (w : World) (tS tR e : TypeId) (ht : P.underlying tS = some (.slice e)) (size : Nat) (hz : ∀ w, (Go.sizeOf e).run P w = .ok size w)
    (a b : Addr) (la ca lb cb : Nat) (hne : a.block ≠ b.block) (tA tB : TypeId) (kA kB : Nat)
    (hsa : w.shape? a.block = some (tA, kA)) (hsb : w.shape? b.block = some (tB, kB)) (hkA : kA ≠ 0) (hkB : kB ≠ 0)
    (hfb : w.frozen? b = false) (hfe : w.frozen? { block := b.block, off := kB } = false) :
    (Extern.SlicesOverlaps.overlaps #[tS, tS] #[tR] #[.slice (some a) la ca, .slice (some b) lb cb]).run P w = .ok (.bool false) w := by
  have hnb : (a.block != b.block) = true := by simpa using hne
  have hnb' : (a.block == b.block) = false := by simpa using hne
  change Sem.run P (α := Value) (do
    let some t := (#[tS, tS] : Array TypeId)[0]? | stuck "slices.overlaps: no parameter types"
    let .slice elem ← underlying t | stuck "slices.overlaps: slice type expected"
    let size ← sizeOf elem
    match (some a : Option Addr), (some b : Option Addr) with
    | some a, some b =>
      if la = 0 ∨ lb = 0 ∨ size = 0 then pure (Value.bool false)
      else if a.block != b.block && (← frozen a) && (← frozen b) then unsupported .addressObserved
      else do
        if a.block != b.block then do
          noView a; noView b
          if ← mayBeOne a b then return Value.bool ((← choose (.extern "sameAddr.stringBytes" 2)) == 1)
        pure (Value.bool (a.block == b.block && a.off < b.off + lb * size && b.off < a.off + la * size))
    | _, _ => pure (Value.bool false)) w = _
  by_cases h0 : la = 0 ∨ lb = 0 ∨ size = 0
  · simp [run_underlying ht, hz, h0]
  · obtain ⟨kA, rfl⟩ : ∃ n, kA = n + 1 := ⟨kA - 1, by omega⟩
    cases kB with
    | zero => exact absurd rfl hkB
    | succ kB =>
      cases hfa : w.frozen? a <;> cases hfx : w.frozen? ⟨a.block, kA + 1, none⟩ <;>
        simp [run_underlying ht, hz, h0, hnb, hnb', frozen, noView, viewAt, mayBeOne, stringish, shape, Sem.run, hsa, hsb, hfb, hfe, hfa, hfx]
/-- A slice that is empty gets a token. -/
theorem done_mint0 {H₀ H : List AObj} {R : AV → List AObj → Prop} {z s : Nat} (hs : 0 < s) (hr : Done H₀ R (.sl (.tok H.length) s []) (H ++ [.grow s 0 none])) : Done H₀ R (.sl .full z []) H := by
  unfold Done at hr ⊢
  obtain ⟨y, H'', he, hR⟩ := hr
  refine ⟨y, H'', ends_trans (fun G₀ w₀ G w v h0 hi hst r => ?_) he, hR⟩
  cases r with
  | sl _ _ _ ad len cap val hl hcap hs' hc hr' hf ha ho =>
    have r0 : Rel G H w (.sl .full z []) (.slice ad len cap) := .sl .full z [] ad len cap val hl hcap hs' hc hr' hf ha ho
    obtain ⟨hi', st', hr''⟩ := mint none hi r0 hs (fun h => absurd rfl h) (fun h => absurd rfl h)
    exact ⟨_, hi', hst.trans st', hr''⟩
theorem overlaps_s {o : Own} {s k off n cap : Nat} {T : TypeId} {cs xs : List AV} {H : List AObj} (hx : flats xs ≠ []) (hk : H[k]? = some (.cells (.one T) cs)) (hcs : cs ≠ []) : ACalls Tryz.prog 97 [.sl o s xs, .msl k off n cap] H (fun y H' => y = .bool false ∧ H' = H) :=
  acalls_extern (e := Extern.SlicesOverlaps.overlaps #[26, 26] #[4]) Tryz.func97 (by kernel_rfl) (by kernel_rfl) (by kernel_rfl) (by kernel_rfl) fun G w vs hi ha => by
    obtain ⟨v, u, rfl, hv, hu⟩ := relAll_2 ha
    obtain ⟨arr, T1, fr, hb, hs, hr, hf, hg, hh⟩ := hi.cells k _ cs hk
    obtain ⟨rfl, h2, h3⟩ := hh
    have hp1 : 0 < (flats xs).length := List.length_pos_iff.2 hx
    have hp2 : 0 < cs.length := List.length_pos_iff.2 hcs
    cases hv with
    | sl _ _ _ ad len cap' val hl hcap hs' hc hr' hf' ha' ho =>
    cases hu with
    | msl _ _ _ _ o2 g4 g5 g6 =>
    obtain ⟨b1, off1, rfl, himm, hcell⟩ := hc 0 _ (List.getElem?_eq_getElem hp1)
    have hne : b1 ≠ G.blk k := fun e => hf _ (e ▸ himm)
    obtain ⟨a1, e1, f1, hb1⟩ : ∃ a1 e1 f1, w.heap[b1]? = some (.cells a1 e1 f1) := by
      unfold World.cell? at hcell
      simp only at hcell
      split at hcell
      · rename_i h; exact ⟨_, _, _, h⟩
      · cases hcell
    have hka : a1.size ≠ 0 := by
      rw [cell_row hb1] at hcell
      intro e
      rw [Array.getElem?_eq_none (by omega)] at hcell
      cases hcell
    refine ⟨_, w, _, G, H, run_overlaps_b w 26 4 9 Tryz.underlying26 1 (fun w => by simp) ⟨b1, off1, none⟩ ⟨G.blk k, off, none⟩ _ _ n cap hne e1 T1 a1.size arr.size (by simp [World.shape?, hb1]) (by simp [World.shape?, hb]) hka (by omega) ?_ ?_, hi, .refl _ _ _, .lit _, rfl, rfl⟩
    all_goals simp [World.frozen?, hb, h3]
theorem Insert_s {k n i : Nat} {xs : List AV} {x : AV} {H : List AObj} (hk : H[k]? = some (.cells (.prow 1) (flats xs))) (hn : xs.length = n) (hu : ∀ y ∈ xs, y.flat.length = 1 ∧ y.okv = true) (hx : x.flat.length = 1 ∧ x.okv = true) (hi : i ≤ n) (hl : n ≤ 100000)
    (hlow : ∀ m, Low m (.sl .sh 1 (xs.insertIdx i x))) : ACalls Tryz.prog 67 [.mrow k n, .lit (.int .i64 i), .sl .full 1 [x]] H (fun y H' => y = .sl .sh 1 (xs.insertIdx i x) ∧ H' = H.set k .gone) := by
  have hkl := lt_of_get hk
  have hfl : (flats xs).length = n * 1 := by rw [flats_len (s := 1) fun y hy => (hu y hy).1, hn]
  by_cases hin : i = n
  · subst hin
    have hins : xs.insertIdx i x = xs ++ [x] := by rw [← hn]; exact List.insertIdx_length_self
    · have hll : (H.set k AObj.gone).length = H.length := by simp
      refine acalls_vc L_ok mixed [1000011, 1000015] (rs := [.tmp 6]) (n := 95) Tryz.func67 rfl rfl rfl rfl (Nat.le_of_ble_eq_true rfl) (by kernel_rfl) ?_
      repeat' (first | refine unhold ?_ | (simp -dsimp -implicitDefEqProofs (disch := (first | assumption | omega | (simp only [ll1, ll2, ll3, ll4, ll5, ll6, ll7, ll8]; omega))) only [go_sem, hk, hfl, hx.1, hx.2]) | refine vcI (fun _ => ?_) (fun _ => ?_) | (refine vcA ?_ ?_; focus (repeat' (first | omega | assumption | refine vcA ?_ ?_); done)) | omega | refine imp_in (fun _ => ?_))
      have hnew : (H.set k AObj.gone ++ [AObj.cells (.prow 1) (flats xs ++ flats [x])])[H.length]? = some (.cells (.prow 1) (flats xs ++ flats [x])) := by rw [← hll]; exact h_at0
      refine done_fr1 (H' := []) hnew (frz_row (xs := xs ++ [x]) hnew (by simp [hn]) (by rw [← hins]; exact ins_uni hu hx (by omega)) (by rw [flats_append])) ?_
      rw [hs0 hll.symm, List.set_cons_zero]
      have := hlow H.length
      rw [hins] at this ⊢
      exact done_cut' (o := .gone) this rfl (fun sh cs e => by cases e) ⟨rfl, rfl⟩
  · refine acalls_open (xs1 := []) hk (by rw [hfl]) fun T cap hcap => ?_
    rw [List.nil_append]
    generalize hP : List.replicate ((cap - n) * 1) AV.any = P
    have hPl : P.length = (cap - n) * 1 := by rw [← hP, List.length_replicate]
    have hall := flats_all fun y hy => (hu y hy).2
    have hsc : (((flats xs ++ P).drop (i * 1)).take ((n - i) * 1)).all AV.scalar = true := by
      have hle := Nat.mul_le_mul_right 1 hi
      rw [List.drop_append_of_le_length (by omega), List.take_append_of_le_length (by rw [List.length_drop]; omega), List.all_eq_true]
      intro c hc
      exact List.all_eq_true.1 hall c (List.mem_of_mem_drop (List.mem_of_mem_take hc))
    have hsd : ((flats xs).drop (i * 1)).all AV.scalar = true := by
      rw [List.all_eq_true]
      intro c hc
      exact List.all_eq_true.1 hall c (List.mem_of_mem_drop hc)
    try simp only [Nat.mul_one] at hsc hsd
    have hmin : min (n + 1 - i) (n + 1 - (i + 1)) = n - i := by omega
    have hxs := okv_all hx.2
    have hfx : flats [x] = x.flat := by simp [flats]
    have hx0 : x.flat ≠ [] := fun e => by have := hx.1; rw [e] at this; cases this
    have hf0 : flats xs ++ P ≠ [] := fun e => by have := congrArg List.length e; rw [List.length_append, hfl] at this; simp only [List.length_nil] at this; omega
    have hov := fun off m c => overlaps_s (o := .full) (s := 1) (xs := [x]) (off := off) (n := m) (cap := c) (H := H.set k (.cells (.one T) (flats xs ++ P))) (by simp [flats, hx0]) (hss hkl) hf0
    have hI : ((i : Int) + 1).toNat = i + 1 := by omega
    have hN1 : ((n : Int) + 1).toNat = n + 1 := by omega
    have hNI : ((n : Int) + 1 - (i : Int)).toNat = n + 1 - i := by omega
    have hsum : i + (n + 1 - i) = n + 1 := by omega
    have hci : ((cap : Int) = (i : Int)) = False := eq_false (by omega)
    have hin' : ((i : Int) = (n : Int)) = False := eq_false (by omega)
    by_cases hc : n + 1 ≤ cap
    · have hcI : ((cap : Int) = (i : Int) + 1) = False := eq_false (by omega)
      have hcc : (((cap : Nat) : Int) < (n : Int) + 1) = False := eq_false (by omega)
      refine acalls_vc L_ok mixed [1000011, 1000015] (rs := [.tmp 6]) (n := 95) Tryz.func67 rfl rfl rfl rfl (Nat.le_of_ble_eq_true rfl) (by kernel_rfl) ?_
      repeat' (first | refine unhold ?_ | (simp -dsimp -implicitDefEqProofs (disch := (first | assumption | omega | (simp only [ll1, ll2, ll3, ll4, ll5, ll6, ll7, ll8]; omega))) only [go_sem, hsn, hss, hPl, hfl, hsc, hxs, hx.1, hx.2, hI, hN1, hNI, hsum, hci, hin', hcI, hcc, Nat.sub_zero, aset_len, hmin]) | refine acalls_same (hov _ _ _) ?_ | refine ⟨_, hov _ _ _, ?_⟩ | refine ⟨_, _, hov _ _ _, ?_⟩ | refine vcI (fun _ => ?_) (fun _ => ?_) | (refine vcA ?_ ?_; focus (repeat' (first | omega | assumption | refine vcA ?_ ?_); done)) | omega | refine imp_in (fun _ => ?_))
      have hres := ins_here (s := 1) (P := P) (fun y hy => (hu y hy).1) hx.1 hn hi (by omega)
      try simp only [Nat.mul_one] at hres
      refine done_fr1 (H' := []) (k := k) (hss hkl) (frz_msl (s := 1) (xs := xs.insertIdx i x) (hss hkl) (by rw [List.length_insertIdx_of_le_length (by omega)]; omega) (ins_uni hu hx (by omega)) (by rw [hfx]; first | exact hres | (rw [Nat.mul_one]; exact hres))) ?_
      rw [List.set_set]
      exact done_keep _ (Le.refl _) (by simp) ⟨rfl, rfl⟩
    · have hcc : (((cap : Nat) : Int) < (n : Int) + 1) = True := eq_true (by omega)
      obtain rfl : cap = n := by omega
      have hP0 : P = [] := by rw [← hP, Nat.sub_self, Nat.zero_mul]; rfl
      rw [hP0, List.append_nil]
      clear hov hsc hf0
      refine acalls_vc L_ok mixed [1000011, 1000015] (rs := [.tmp 6]) (n := 95) Tryz.func67 rfl rfl rfl rfl (Nat.le_of_ble_eq_true rfl) (by kernel_rfl) ?_
      repeat' (first | refine unhold ?_ | (simp -dsimp -implicitDefEqProofs (disch := (first | assumption | omega | (simp only [ll1, ll2, ll3, ll4, ll5, ll6, ll7, ll8]; omega))) only [go_sem, hsn, hss, hfl, hsd, hxs, hx.1, hx.2, hI, hN1, hNI, hsum, hci, hin', hcc, Nat.sub_zero, aset_len]) | refine vcI (fun _ => ?_) (fun _ => ?_) | (refine vcA ?_ ?_; focus (repeat' (first | omega | assumption | refine vcA ?_ ?_); done)) | omega | refine imp_in (fun _ => ?_))
      intro z
      have hz1 : (((cap + 1 + z : Nat) : Int) = (i : Int)) = False := eq_false (by omega)
      have hz2 : (((cap + 1 + z : Nat) : Int) = (i : Int) + 1) = False := eq_false (by omega)
      repeat' (first | refine unhold ?_ | (simp -dsimp -implicitDefEqProofs (disch := (first | assumption | omega | (simp only [ll1, ll2, ll3, ll4, ll5, ll6, ll7, ll8]; omega))) only [go_sem, hsn, hss, hfl, hsd, hxs, hx.1, hx.2, hI, hN1, hNI, hsum, hci, hin', hcc, Nat.sub_zero, lk_b, st_b, hz1, hz2, aset_len]) | refine vcI (fun _ => ?_) (fun _ => ?_) | (refine vcA ?_ ?_; focus (repeat' (first | omega | assumption | refine vcA ?_ ?_); done)) | omega | refine imp_in (fun _ => ?_))
      have hres := ins_new (s := 1) (m := (cap + 1 - i + z) * 1) (fun y hy => (hu y hy).1) hx.1 hn hi (Nat.mul_le_mul_right _ (by omega))
      try simp only [Nat.mul_one] at hres
      refine done_fr1 (H' := []) (k := H.length) lk_b (frz_msl (s := 1) (xs := xs.insertIdx i x) lk_b (by rw [List.length_insertIdx_of_le_length (by omega)]; omega) (ins_uni hu hx (by omega)) (by rw [hfx]; first | exact hres | (rw [Nat.mul_one]; exact hres))) ?_
      rw [st_b, List.set_cons_zero]
      refine done_fr1 (H' := []) (k := k) (lk_k hkl) (.keep _) ?_
      rw [st_k hkl]
      rw [show (H.set k AObj.gone) = (H.set k (AObj.cells (.one T) (flats xs))).set k .gone from (List.set_set ..).symm]
      exact done_cut1 (hlow _) ⟨rfl, rfl⟩
theorem overlaps_j {o : Own} {s k off n cap : Nat} {T : TypeId} {cs xs : List AV} {H : List AObj} (hx : flats xs ≠ []) (hk : H[k]? = some (.cells (.one T) cs)) (hcs : cs ≠ []) : ACalls Tryz.prog 99 [.sl o s xs, .msl k off n cap] H (fun y H' => y = .bool false ∧ H' = H) :=
  acalls_extern (e := Extern.SlicesOverlaps.overlaps #[27, 27] #[4]) Tryz.func99 (by kernel_rfl) (by kernel_rfl) (by kernel_rfl) (by kernel_rfl) fun G w vs hi ha => by
    obtain ⟨v, u, rfl, hv, hu⟩ := relAll_2 ha
    obtain ⟨arr, T1, fr, hb, hs, hr, hf, hg, hh⟩ := hi.cells k _ cs hk
    obtain ⟨rfl, h2, h3⟩ := hh
    have hp1 : 0 < (flats xs).length := List.length_pos_iff.2 hx
    have hp2 : 0 < cs.length := List.length_pos_iff.2 hcs
    cases hv with
    | sl _ _ _ ad len cap' val hl hcap hs' hc hr' hf' ha' ho =>
    cases hu with
    | msl _ _ _ _ o2 g4 g5 g6 =>
    obtain ⟨b1, off1, rfl, himm, hcell⟩ := hc 0 _ (List.getElem?_eq_getElem hp1)
    have hne : b1 ≠ G.blk k := fun e => hf _ (e ▸ himm)
    obtain ⟨a1, e1, f1, hb1⟩ : ∃ a1 e1 f1, w.heap[b1]? = some (.cells a1 e1 f1) := by
      unfold World.cell? at hcell
      simp only at hcell
      split at hcell
      · rename_i h; exact ⟨_, _, _, h⟩
      · cases hcell
    have hka : a1.size ≠ 0 := by
      rw [cell_row hb1] at hcell
      intro e
      rw [Array.getElem?_eq_none (by omega)] at hcell
      cases hcell
    refine ⟨_, w, _, G, H, run_overlaps_b w 27 4 29 Tryz.underlying27 5 (fun w => by simp) ⟨b1, off1, none⟩ ⟨G.blk k, off, none⟩ _ _ n cap hne e1 T1 a1.size arr.size (by simp [World.shape?, hb1]) (by simp [World.shape?, hb]) hka (by omega) ?_ ?_, hi, .refl _ _ _, .lit _, rfl, rfl⟩
    all_goals simp [World.frozen?, hb, h3]
theorem Insert_j {k n i : Nat} {xs : List AV} {x : AV} {H : List AObj} (hk : H[k]? = some (.cells (.prow 5) (flats xs))) (hn : xs.length = n) (hu : ∀ y ∈ xs, y.flat.length = 5 ∧ y.okv = true) (hx : x.flat.length = 5 ∧ x.okv = true) (hi : i ≤ n) (hl : n ≤ 100000)
    (hlow : ∀ m, Low m (.sl .sh 5 (xs.insertIdx i x))) : ACalls Tryz.prog 68 [.mrow k n, .lit (.int .i64 i), .sl .full 5 [x]] H (fun y H' => y = .sl .sh 5 (xs.insertIdx i x) ∧ H' = H.set k .gone) := by
  have hkl := lt_of_get hk
  have hfl : (flats xs).length = n * 5 := by rw [flats_len (s := 5) fun y hy => (hu y hy).1, hn]
  by_cases hin : i = n
  · subst hin
    have hins : xs.insertIdx i x = xs ++ [x] := by rw [← hn]; exact List.insertIdx_length_self
    · have hll : (H.set k AObj.gone).length = H.length := by simp
      refine acalls_vc L_ok mixed [1000011, 1000015] (rs := [.tmp 6]) (n := 95) Tryz.func68 rfl rfl rfl rfl (Nat.le_of_ble_eq_true rfl) (by kernel_rfl) ?_
      repeat' (first | refine unhold ?_ | (simp -dsimp -implicitDefEqProofs (disch := (first | assumption | omega | (simp only [ll1, ll2, ll3, ll4, ll5, ll6, ll7, ll8]; omega))) only [go_sem, hk, hfl, hx.1, hx.2]) | refine vcI (fun _ => ?_) (fun _ => ?_) | (refine vcA ?_ ?_; focus (repeat' (first | omega | assumption | refine vcA ?_ ?_); done)) | omega | refine imp_in (fun _ => ?_))
      have hnew : (H.set k AObj.gone ++ [AObj.cells (.prow 5) (flats xs ++ flats [x])])[H.length]? = some (.cells (.prow 5) (flats xs ++ flats [x])) := by rw [← hll]; exact h_at0
      refine done_fr1 (H' := []) hnew (frz_row (xs := xs ++ [x]) hnew (by simp [hn]) (by rw [← hins]; exact ins_uni hu hx (by omega)) (by rw [flats_append])) ?_
      rw [hs0 hll.symm, List.set_cons_zero]
      have := hlow H.length
      rw [hins] at this ⊢
      exact done_cut' (o := .gone) this rfl (fun sh cs e => by cases e) ⟨rfl, rfl⟩
  · refine acalls_open (xs1 := []) hk (by rw [hfl]) fun T cap hcap => ?_
    rw [List.nil_append]
    generalize hP : List.replicate ((cap - n) * 5) AV.any = P
    have hPl : P.length = (cap - n) * 5 := by rw [← hP, List.length_replicate]
    have hall := flats_all fun y hy => (hu y hy).2
    have hsc : (((flats xs ++ P).drop (i * 5)).take ((n - i) * 5)).all AV.scalar = true := by
      have hle := Nat.mul_le_mul_right 5 hi
      rw [List.drop_append_of_le_length (by omega), List.take_append_of_le_length (by rw [List.length_drop]; omega), List.all_eq_true]
      intro c hc
      exact List.all_eq_true.1 hall c (List.mem_of_mem_drop (List.mem_of_mem_take hc))
    have hsd : ((flats xs).drop (i * 5)).all AV.scalar = true := by
      rw [List.all_eq_true]
      intro c hc
      exact List.all_eq_true.1 hall c (List.mem_of_mem_drop hc)
    try simp only [Nat.mul_one] at hsc hsd
    have hmin : min (n + 1 - i) (n + 1 - (i + 1)) = n - i := by omega
    have hxs := okv_all hx.2
    have hfx : flats [x] = x.flat := by simp [flats]
    have hx0 : x.flat ≠ [] := fun e => by have := hx.1; rw [e] at this; cases this
    have hf0 : flats xs ++ P ≠ [] := fun e => by have := congrArg List.length e; rw [List.length_append, hfl] at this; simp only [List.length_nil] at this; omega
    have hov := fun off m c => overlaps_j (o := .full) (s := 5) (xs := [x]) (off := off) (n := m) (cap := c) (H := H.set k (.cells (.one T) (flats xs ++ P))) (by simp [flats, hx0]) (hss hkl) hf0
    have hI : ((i : Int) + 1).toNat = i + 1 := by omega
    have hN1 : ((n : Int) + 1).toNat = n + 1 := by omega
    have hNI : ((n : Int) + 1 - (i : Int)).toNat = n + 1 - i := by omega
    have hsum : i + (n + 1 - i) = n + 1 := by omega
    have hci : ((cap : Int) = (i : Int)) = False := eq_false (by omega)
    have hin' : ((i : Int) = (n : Int)) = False := eq_false (by omega)
    by_cases hc : n + 1 ≤ cap
    · have hcI : ((cap : Int) = (i : Int) + 1) = False := eq_false (by omega)
      have hcc : (((cap : Nat) : Int) < (n : Int) + 1) = False := eq_false (by omega)
      refine acalls_vc L_ok mixed [1000011, 1000015] (rs := [.tmp 6]) (n := 95) Tryz.func68 rfl rfl rfl rfl (Nat.le_of_ble_eq_true rfl) (by kernel_rfl) ?_
      repeat' (first | refine unhold ?_ | (simp -dsimp -implicitDefEqProofs (disch := (first | assumption | omega | (simp only [ll1, ll2, ll3, ll4, ll5, ll6, ll7, ll8]; omega))) only [go_sem, hsn, hss, hPl, hfl, hsc, hxs, hx.1, hx.2, hI, hN1, hNI, hsum, hci, hin', hcI, hcc, Nat.sub_zero, aset_len, hmin]) | refine acalls_same (hov _ _ _) ?_ | refine ⟨_, hov _ _ _, ?_⟩ | refine ⟨_, _, hov _ _ _, ?_⟩ | refine vcI (fun _ => ?_) (fun _ => ?_) | (refine vcA ?_ ?_; focus (repeat' (first | omega | assumption | refine vcA ?_ ?_); done)) | omega | refine imp_in (fun _ => ?_))
      have hres := ins_here (s := 5) (P := P) (fun y hy => (hu y hy).1) hx.1 hn hi (by omega)
      try simp only [Nat.mul_one] at hres
      refine done_fr1 (H' := []) (k := k) (hss hkl) (frz_msl (s := 5) (xs := xs.insertIdx i x) (hss hkl) (by rw [List.length_insertIdx_of_le_length (by omega)]; omega) (ins_uni hu hx (by omega)) (by rw [hfx]; first | exact hres | (rw [Nat.mul_one]; exact hres))) ?_
      rw [List.set_set]
      exact done_keep _ (Le.refl _) (by simp) ⟨rfl, rfl⟩
    · have hcc : (((cap : Nat) : Int) < (n : Int) + 1) = True := eq_true (by omega)
      obtain rfl : cap = n := by omega
      have hP0 : P = [] := by rw [← hP, Nat.sub_self, Nat.zero_mul]; rfl
      rw [hP0, List.append_nil]
      clear hov hsc hf0
      refine acalls_vc L_ok mixed [1000011, 1000015] (rs := [.tmp 6]) (n := 95) Tryz.func68 rfl rfl rfl rfl (Nat.le_of_ble_eq_true rfl) (by kernel_rfl) ?_
      repeat' (first | refine unhold ?_ | (simp -dsimp -implicitDefEqProofs (disch := (first | assumption | omega | (simp only [ll1, ll2, ll3, ll4, ll5, ll6, ll7, ll8]; omega))) only [go_sem, hsn, hss, hfl, hsd, hxs, hx.1, hx.2, hI, hN1, hNI, hsum, hci, hin', hcc, Nat.sub_zero, aset_len]) | refine vcI (fun _ => ?_) (fun _ => ?_) | (refine vcA ?_ ?_; focus (repeat' (first | omega | assumption | refine vcA ?_ ?_); done)) | omega | refine imp_in (fun _ => ?_))
      intro z
      have hz1 : (((cap + 1 + z : Nat) : Int) = (i : Int)) = False := eq_false (by omega)
      have hz2 : (((cap + 1 + z : Nat) : Int) = (i : Int) + 1) = False := eq_false (by omega)
      repeat' (first | refine unhold ?_ | (simp -dsimp -implicitDefEqProofs (disch := (first | assumption | omega | (simp only [ll1, ll2, ll3, ll4, ll5, ll6, ll7, ll8]; omega))) only [go_sem, hsn, hss, hfl, hsd, hxs, hx.1, hx.2, hI, hN1, hNI, hsum, hci, hin', hcc, Nat.sub_zero, lk_b, st_b, hz1, hz2, aset_len]) | refine vcI (fun _ => ?_) (fun _ => ?_) | (refine vcA ?_ ?_; focus (repeat' (first | omega | assumption | refine vcA ?_ ?_); done)) | omega | refine imp_in (fun _ => ?_))
      have hres := ins_new (s := 5) (m := (cap + 1 - i + z) * 5) (fun y hy => (hu y hy).1) hx.1 hn hi (Nat.mul_le_mul_right _ (by omega))
      try simp only [Nat.mul_one] at hres
      refine done_fr1 (H' := []) (k := H.length) lk_b (frz_msl (s := 5) (xs := xs.insertIdx i x) lk_b (by rw [List.length_insertIdx_of_le_length (by omega)]; omega) (ins_uni hu hx (by omega)) (by rw [hfx]; first | exact hres | (rw [Nat.mul_one]; exact hres))) ?_
      rw [st_b, List.set_cons_zero]
      refine done_fr1 (H' := []) (k := k) (lk_k hkl) (.keep _) ?_
      rw [st_k hkl]
      rw [show (H.set k AObj.gone) = (H.set k (AObj.cells (.one T) (flats xs))).set k .gone from (List.set_set ..).symm]
      exact done_cut1 (hlow _) ⟨rfl, rfl⟩
end Go.Proofs.YtdahdbnfknmmgaaGreatDoor
end

section
set_option linter.unusedSimpArgs false
set_option linter.unusedVariables false
namespace Go.Proofs.YtdahdbnfknmmgaaGreatDoor
open Go V
set_option maxRecDepth 10000
set_option maxHeartbeats 4000000
theorem tw_len {p : UInt8 → Bool} : ∀ {r : bytes} {n : Nat}, n ≤ r.length → (∀ j, j < n → p (r.getD j 0) = true) → (n < r.length → p (r.getD n 0) = false) → (r.takeWhile p).length = n
  | [], n, h, _, _ => by simp at h; simp [h]
  | a :: r, n, h, h1, h2 => by
    rw [List.takeWhile_cons]
    cases n with
    | zero =>
      have := h2 (by simp)
      simp at this
      simp [this]
    | succ n =>
      have := h1 0 (by omega)
      simp at this
      rw [this]
      simp only [if_true, List.length_cons]
      rw [tw_len (r := r) (n := n) (by simpa using h) (fun j hj => by simpa using h1 (j + 1) (by omega)) (fun hn => by simpa using h2 (by simpa using hn))]
theorem suf_get {r t : bytes} (h : r <:+ t) (n : Nat) : t.getD (t.length - r.length + n) 0 = r.getD n 0 := by
  obtain ⟨p, rfl⟩ := h
  have : (p ++ r).length - r.length = p.length := by simp
  rw [this, List.getD, List.getElem?_append_right (by omega), Nat.add_sub_cancel_left, List.getD]
theorem digit_iff (c : UInt8) : isDigit c = decide (48 ≤ (c.toNat : Int) ∧ (c.toNat : Int) ≤ 57) := by
  unfold isDigit
  rw [decide_eq_decide]
  omega
theorem digits_c {k : Nat} {t r : bytes} {e : Int} {H : List AObj} (hk : H[k]? = some (pObj t r e)) (hs : r <:+ t) (hl : t.length ≤ 10000) :
    ACalls Tryz.prog 76 [.mp k 0] H (fun x H' => x = .int .i64 ((r.takeWhile isDigit).length : Nat) ∧ H' = H) := by
  have h1 := suf_len hs
  unfold pObj at *
  refine acalls_vc L_ok mixed [1000002] (rs := [.tmp 2]) (n := 53) Tryz.func76 rfl rfl rfl rfl (Nat.le_of_ble_eq_true rfl) (by kernel_rfl) ?_
  repeat' (first | refine unhold ?_ | (simp -dsimp -implicitDefEqProofs (disch := (first | assumption | omega | (simp only [ll1, ll2, ll3, ll4, ll5, ll6, ll7, ll8]; omega))) only [go_sem]) | refine vcI (fun _ => ?_) (fun _ => ?_) | (refine vcA ?_ ?_; focus (repeat' (first | omega | assumption | refine vcA ?_ ?_); done)) | omega | refine imp_in (fun _ => ?_))
  refine vc_loopk L_ok mixed [1000002] [0, 2] (fun n : Nat => n ≤ r.length ∧ ∀ j, j < n → isDigit (r.getD j 0) = true) (fun n => [(3, .int .i64 n)]) (fun _ => H) (fun n => r.length - n) (by kernel_rfl) ?_ 0 ⟨by omega, fun j hj => by omega⟩ env_ok rfl
  rintro n ⟨hn, hp⟩
  have hg : t.getD (((t.length - r.length : Nat) : Int) + (n : Int)).toNat 0 = r.getD n 0 := by rw [← suf_get hs n]; congr 1
  have hd := digit_iff (r.getD n 0)
  repeat' (first | refine unhold ?_ | (simp -dsimp -implicitDefEqProofs (disch := (first | assumption | omega | (simp only [ll1, ll2, ll3, ll4, ll5, ll6, ll7, ll8]; omega))) only [go_sem, hk, hg]) | refine vcI (fun _ => ?_) (fun _ => ?_) | (refine vcA ?_ ?_; focus (repeat' (first | omega | assumption | refine vcA ?_ ?_); done)) | omega | refine imp_in (fun _ => ?_))
  · rename_i e1 e2 e3
    refine again (n + 1) ?_ ?_ rfl env_ok
    · omega
    · exact ⟨by omega, upto_succ hp (by rw [hd]; exact decide_eq_true ⟨by omega, by omega⟩)⟩
  all_goals
    refine done_same ⟨int_eq ?_, rfl⟩
    rw [tw_len hn hp fun h => by rw [hd]; exact decide_eq_false fun h2 => by omega]
theorem tw_le (p : UInt8 → Bool) (r : bytes) : (r.takeWhile p).length ≤ r.length := (List.takeWhile_sublist p).length_le
theorem tw_get {p : UInt8 → Bool} : ∀ {r : bytes} {j : Nat}, j < (r.takeWhile p).length → p (r.getD j 0) = true
  | [], j, h => by simp at h
  | a :: r, j, h => by
    rw [List.takeWhile_cons] at h
    split at h
    · rename_i ha
      cases j with
      | zero => simpa using ha
      | succ j => simpa using tw_get (r := r) (j := j) (by simpa using h)
    · simp at h
theorem numLen_le (r : bytes) : numLen r ≤ r.length := by
  unfold numLen
  split
  · rename_i h
    exact peek_pos (by rw [h]; decide)
  · exact tw_le _ _
theorem numLen_digit {r : bytes} {j : Nat} (h : j < numLen r) : isDigit (r.getD j 0) = true := by
  unfold numLen at h
  split at h
  · rename_i h0
    obtain rfl : j = 0 := by omega
    have := peek_pos (r := r) (by rw [h0]; decide)
    cases r with
    | nil => simp at this
    | cons a r => simp only [peek, List.headD_cons] at h0; subst h0; rfl
  · exact tw_get h
theorem take_getD {r : bytes} {n j : Nat} (h : j < n) : (r.take n).getD j 0 = r.getD j 0 := by
  rw [List.getD, List.getElem?_take, if_pos h, List.getD]
theorem num_digits {r : bytes} {n : Nat} (hn : n = numLen r) : ∀ i, i < (r.take n).length → 48 ≤ ((r.take n).getD i 0).toNat ∧ ((r.take n).getD i 0).toNat ≤ 57 := fun i hi => by
  rw [List.length_take] at hi
  have := numLen_digit (r := r) (j := i) (by omega)
  rw [take_getD (by omega)]
  exact of_decide_eq_true this
theorem intE_val {n : Nat} (h : n < 9223372036854775808) : intE n = .tup [.lit (.int .i64 n), .lit .nilIface] := if_pos h
theorem intE_big {n : Nat} (h : ¬ n < 9223372036854775808) : intE n = .tup [.lit (.int .i64 9223372036854775807), .ifc 162 .any] := if_neg h
theorem suf_numGo {b : Bool} {r t : bytes} (h : r <:+ t) : (numGo b r).2.1 <:+ t := by
  unfold numGo
  split
  · exact h
  · split
    · exact suf_drop_n h _
    · exact suf_drop_n h _
theorem suf_num {r t : bytes} (h : r <:+ t) : (numP r).2.1 <:+ t := by
  unfold numP
  cases e : skipW [45] r with
  | none => exact suf_numGo h
  | some r2 => exact suf_numGo (suf_skip h e)
theorem number_c {k : Nat} {t r : bytes} {H : List AObj} (hk : H[k]? = some (pObj t r 0)) (hs : r <:+ t) (hl : t.length ≤ 10000) :
    ACalls Tryz.prog 56 [.mp k 0] H (fun x H' => x = .int .i64 (numP r).1 ∧ H' = H.set k (pObj t (numP r).2.1 (numP r).2.2)) := by
  have hkl := lt_of_get hk
  have hc := skip_c (w := [45]) hk hs hl (by decide)
  obtain ⟨b, r1, hb, hnp, hs1⟩ : ∃ b r1, ((skipW [45] r).isSome = b ∧ (skipW [45] r).getD r = r1) ∧ numP r = numGo b r1 ∧ r1 <:+ t := by
    cases e : skipW [45] r with
    | none => exact ⟨false, r, ⟨rfl, rfl⟩, by rw [numP, e], hs⟩
    | some r2 => exact ⟨true, r2, ⟨rfl, rfl⟩, by rw [numP, e], suf_skip hs e⟩
  rw [hb.1, hb.2] at hc
  rw [hnp]
  clear hb hnp
  have hrl := suf_len hs1
  have hnl := numLen_le r1
  have hdg := digits_c (e := 0) (hss (H := H) hkl) hs1 hl
  have hpk := peek_c (e := 0) (hss (H := H) hkl) hs1 hl
  have htw := tw_le isDigit r1
  have hnum : numLen r1 = if peek r1 = 48 then 1 else (r1.takeWhile isDigit).length := rfl
  have hdd := num_digits (r := r1) rfl
  have hdrop : t.drop (t.length - r1.length) = r1 := suf_drop hs1
  by_cases c48 : peek r1 = 48
  · have h48 : ((peek r1).toNat : Int) = 48 := by rw [c48]; rfl
    rw [if_pos c48] at hnum
    cases b with
    | true =>
      have hgo : numGo true r1 = (0, r1, 2) := by rw [numGo, if_pos (by exact .inr ⟨rfl, c48⟩)]
      rw [hgo]
      refine acalls_vc L_ok mixed [1000008] (rs := [.tmp 2]) (n := 76) Tryz.func56 rfl rfl rfl rfl (Nat.le_of_ble_eq_true rfl) (by kernel_rfl) ?_
      repeat' (first | refine unhold ?_ | (simp -dsimp -implicitDefEqProofs (disch := (first | assumption | omega | (simp only [ll1, ll2, ll3, ll4, ll5, ll6, ll7, ll8]; omega))) only [go_sem, h48]) | refine acalls_same (hc) ?_ | refine ⟨_, hc, ?_⟩ | refine ⟨_, _, hc, ?_⟩ | refine acalls_same (hdg) ?_ | refine ⟨_, hdg, ?_⟩ | refine ⟨_, _, hdg, ?_⟩ | refine acalls_same (hpk) ?_ | refine ⟨_, hpk, ?_⟩ | refine ⟨_, _, hpk, ?_⟩ | refine acalls_same (fail_c (hss hkl)) ?_ | refine ⟨_, fail_c (hss hkl), ?_⟩ | refine ⟨_, _, fail_c (hss hkl), ?_⟩ | refine vcI (fun _ => ?_) (fun _ => ?_) | (refine vcA ?_ ?_; focus (repeat' (first | omega | assumption | refine vcA ?_ ?_); done)) | omega | refine imp_in (fun _ => ?_))
      all_goals exact done_keep _ (Le.refl _) len_set ⟨rfl, rfl⟩
    | false =>
      have hn : numLen r1 = 1 := by exact hnum
      have hcond : ¬ (numLen r1 = 0 ∨ (false = true ∧ peek r1 = 48)) := by rw [hnum]; simp
      rw [hn] at hnl hdd hcond
      have hgo1 : (((t.length - r1.length : Nat) : Int) + 1).toNat - (t.length - r1.length) = 1 := by omega
      have hcl : AObj.cells (.one 59) [.str t, .lit (.int .i64 (((t.length - r1.length : Nat) : Int) + 1)), .lit (.int .i64 0)] = pObj t (r1.drop 1) 0 := pc (by rw [List.length_drop]; omega)
      have hfl : ACalls Tryz.prog 30 [.mp k 0, .lit (.int .i64 5)] (H.set k (AObj.cells (.one 59) [.str t, .lit (.int .i64 (((t.length - r1.length : Nat) : Int) + 1)), .lit (.int .i64 0)])) (fun x H' => x = .tup [] ∧ H' = H.set k (pObj t (r1.drop 1) 5)) := by
        rw [hcl]
        exact (fail_c (hss hkl)).mono fun x H' h => ⟨h.1, by rw [h.2, List.set_set, if_pos rfl]⟩
      have hne : r1.take 1 ≠ [] := by
        intro e
        have := congrArg List.length e
        rw [List.length_take, List.length_nil] at this
        omega
      have hpi := fun H => ParseInt10_c (r1.take 1) H hne (by rw [List.length_take]; omega) hdd
      have hgo : numGo false r1 = if 9007199254740991 < decVal (r1.take 1) then (0, r1.drop 1, 5) else ((decVal (r1.take 1) : Int), r1.drop 1, 0) := by rw [numGo, hn, if_neg hcond]; rfl
      rw [hgo]
      by_cases v1 : decVal (r1.take 1) < 9223372036854775808
      · rw [intE_val v1] at hpi
        by_cases v2 : 9007199254740991 < decVal (r1.take 1)
        · rw [if_pos v2]
          refine acalls_vc L_ok mixed [1000008] (rs := [.tmp 2]) (n := 76) Tryz.func56 rfl rfl rfl rfl (Nat.le_of_ble_eq_true rfl) (by kernel_rfl) ?_
          repeat' (first | refine unhold ?_ | (simp -dsimp -implicitDefEqProofs (disch := (first | assumption | omega | (simp only [ll1, ll2, ll3, ll4, ll5, ll6, ll7, ll8]; omega))) only [go_sem, h48, hdrop, hgo1, pObj]) | refine acalls_same (hc) ?_ | refine ⟨_, hc, ?_⟩ | refine ⟨_, _, hc, ?_⟩ | refine acalls_same (hdg) ?_ | refine ⟨_, hdg, ?_⟩ | refine ⟨_, _, hdg, ?_⟩ | refine acalls_same (hpk) ?_ | refine ⟨_, hpk, ?_⟩ | refine ⟨_, _, hpk, ?_⟩ | refine acalls_same (hpi _) ?_ | refine ⟨_, hpi _, ?_⟩ | refine ⟨_, _, hpi _, ?_⟩ | refine acalls_same (hfl) ?_ | refine ⟨_, hfl, ?_⟩ | refine ⟨_, _, hfl, ?_⟩ | refine vcI (fun _ => ?_) (fun _ => ?_) | (refine vcA ?_ ?_; focus (repeat' (first | omega | assumption | refine vcA ?_ ?_); done)) | omega | refine imp_in (fun _ => ?_))
          all_goals first | exact done_keep _ (Le.refl _) len_set ⟨rfl, congrArg _ (pc (by omega))⟩ | exact done_keep _ (Le.refl _) len_set ⟨int_eq (by omega), congrArg _ (pc (by omega))⟩
        · rw [if_neg v2]
          refine acalls_vc L_ok mixed [1000008] (rs := [.tmp 2]) (n := 76) Tryz.func56 rfl rfl rfl rfl (Nat.le_of_ble_eq_true rfl) (by kernel_rfl) ?_
          repeat' (first | refine unhold ?_ | (simp -dsimp -implicitDefEqProofs (disch := (first | assumption | omega | (simp only [ll1, ll2, ll3, ll4, ll5, ll6, ll7, ll8]; omega))) only [go_sem, h48, hdrop, hgo1, pObj]) | refine acalls_same (hc) ?_ | refine ⟨_, hc, ?_⟩ | refine ⟨_, _, hc, ?_⟩ | refine acalls_same (hdg) ?_ | refine ⟨_, hdg, ?_⟩ | refine ⟨_, _, hdg, ?_⟩ | refine acalls_same (hpk) ?_ | refine ⟨_, hpk, ?_⟩ | refine ⟨_, _, hpk, ?_⟩ | refine acalls_same (hpi _) ?_ | refine ⟨_, hpi _, ?_⟩ | refine ⟨_, _, hpi _, ?_⟩ | refine acalls_same (hfl) ?_ | refine ⟨_, hfl, ?_⟩ | refine ⟨_, _, hfl, ?_⟩ | refine vcI (fun _ => ?_) (fun _ => ?_) | (refine vcA ?_ ?_; focus (repeat' (first | omega | assumption | refine vcA ?_ ?_); done)) | omega | refine imp_in (fun _ => ?_))
          all_goals first | exact done_keep _ (Le.refl _) len_set ⟨rfl, congrArg _ (pc (by omega))⟩ | exact done_keep _ (Le.refl _) len_set ⟨int_eq (by omega), congrArg _ (pc (by omega))⟩
      · rw [intE_big v1] at hpi
        rw [if_pos (by omega)]
        refine acalls_vc L_ok mixed [1000008] (rs := [.tmp 2]) (n := 76) Tryz.func56 rfl rfl rfl rfl (Nat.le_of_ble_eq_true rfl) (by kernel_rfl) ?_
        repeat' (first | refine unhold ?_ | (simp -dsimp -implicitDefEqProofs (disch := (first | assumption | omega | (simp only [ll1, ll2, ll3, ll4, ll5, ll6, ll7, ll8]; omega))) only [go_sem, h48, hdrop, hgo1, pObj]) | refine acalls_same (hc) ?_ | refine ⟨_, hc, ?_⟩ | refine ⟨_, _, hc, ?_⟩ | refine acalls_same (hdg) ?_ | refine ⟨_, hdg, ?_⟩ | refine ⟨_, _, hdg, ?_⟩ | refine acalls_same (hpk) ?_ | refine ⟨_, hpk, ?_⟩ | refine ⟨_, _, hpk, ?_⟩ | refine acalls_same (hpi _) ?_ | refine ⟨_, hpi _, ?_⟩ | refine ⟨_, _, hpi _, ?_⟩ | refine acalls_same (hfl) ?_ | refine ⟨_, hfl, ?_⟩ | refine ⟨_, _, hfl, ?_⟩ | refine vcI (fun _ => ?_) (fun _ => ?_) | (refine vcA ?_ ?_; focus (repeat' (first | omega | assumption | refine vcA ?_ ?_); done)) | omega | refine imp_in (fun _ => ?_))
        all_goals first | exact done_keep _ (Le.refl _) len_set ⟨rfl, congrArg _ (pc (by omega))⟩ | exact done_keep _ (Le.refl _) len_set ⟨int_eq (by omega), congrArg _ (pc (by omega))⟩
  · have h48 : ¬ ((peek r1).toNat : Int) = 48 := fun h => c48 (UInt8.toNat_inj.1 (by simpa using (by omega : (peek r1).toNat = 48)))
    rw [if_neg c48] at hnum
    generalize hd : (r1.takeWhile isDigit).length = d at *
    by_cases d0 : d = 0
    · subst d0
      cases b with
      | true =>
        have hgo : numGo true r1 = (0, r1, 2) := by rw [numGo, if_pos (by exact .inl hnum)]
        rw [hgo]
        refine acalls_vc L_ok mixed [1000008] (rs := [.tmp 2]) (n := 76) Tryz.func56 rfl rfl rfl rfl (Nat.le_of_ble_eq_true rfl) (by kernel_rfl) ?_
        repeat' (first | refine unhold ?_ | (simp -dsimp -implicitDefEqProofs (disch := (first | assumption | omega | (simp only [ll1, ll2, ll3, ll4, ll5, ll6, ll7, ll8]; omega))) only [go_sem, h48]) | refine acalls_same (hc) ?_ | refine ⟨_, hc, ?_⟩ | refine ⟨_, _, hc, ?_⟩ | refine acalls_same (hdg) ?_ | refine ⟨_, hdg, ?_⟩ | refine ⟨_, _, hdg, ?_⟩ | refine acalls_same (hpk) ?_ | refine ⟨_, hpk, ?_⟩ | refine ⟨_, _, hpk, ?_⟩ | refine acalls_same (fail_c (hss hkl)) ?_ | refine ⟨_, fail_c (hss hkl), ?_⟩ | refine ⟨_, _, fail_c (hss hkl), ?_⟩ | refine vcI (fun _ => ?_) (fun _ => ?_) | (refine vcA ?_ ?_; focus (repeat' (first | omega | assumption | refine vcA ?_ ?_); done)) | omega | refine imp_in (fun _ => ?_))
        all_goals exact done_keep _ (Le.refl _) len_set ⟨rfl, rfl⟩
      | false =>
        have hgo : numGo false r1 = (0, r1, 2) := by rw [numGo, if_pos (by exact .inl hnum)]
        rw [hgo]
        refine acalls_vc L_ok mixed [1000008] (rs := [.tmp 2]) (n := 76) Tryz.func56 rfl rfl rfl rfl (Nat.le_of_ble_eq_true rfl) (by kernel_rfl) ?_
        repeat' (first | refine unhold ?_ | (simp -dsimp -implicitDefEqProofs (disch := (first | assumption | omega | (simp only [ll1, ll2, ll3, ll4, ll5, ll6, ll7, ll8]; omega))) only [go_sem, h48]) | refine acalls_same (hc) ?_ | refine ⟨_, hc, ?_⟩ | refine ⟨_, _, hc, ?_⟩ | refine acalls_same (hdg) ?_ | refine ⟨_, hdg, ?_⟩ | refine ⟨_, _, hdg, ?_⟩ | refine acalls_same (hpk) ?_ | refine ⟨_, hpk, ?_⟩ | refine ⟨_, _, hpk, ?_⟩ | refine acalls_same (fail_c (hss hkl)) ?_ | refine ⟨_, fail_c (hss hkl), ?_⟩ | refine ⟨_, _, fail_c (hss hkl), ?_⟩ | refine vcI (fun _ => ?_) (fun _ => ?_) | (refine vcA ?_ ?_; focus (repeat' (first | omega | assumption | refine vcA ?_ ?_); done)) | omega | refine imp_in (fun _ => ?_))
        all_goals exact done_keep _ (Le.refl _) len_set ⟨rfl, rfl⟩
    · cases b with
      | true =>
        have hn : numLen r1 = d := by exact hnum
        have hcond : ¬ (numLen r1 = 0 ∨ (true = true ∧ peek r1 = 48)) := by rw [hnum]; rintro (h | ⟨_, h⟩); exact d0 h; exact c48 h
        rw [hn] at hnl hdd hcond
        have hgo1 : (((t.length - r1.length : Nat) : Int) + (d : Int)).toNat - (t.length - r1.length) = d := by omega
        have hcl : AObj.cells (.one 59) [.str t, .lit (.int .i64 (((t.length - r1.length : Nat) : Int) + (d : Int))), .lit (.int .i64 0)] = pObj t (r1.drop d) 0 := pc (by rw [List.length_drop]; omega)
        have hfl : ACalls Tryz.prog 30 [.mp k 0, .lit (.int .i64 5)] (H.set k (AObj.cells (.one 59) [.str t, .lit (.int .i64 (((t.length - r1.length : Nat) : Int) + (d : Int))), .lit (.int .i64 0)])) (fun x H' => x = .tup [] ∧ H' = H.set k (pObj t (r1.drop d) 5)) := by
          rw [hcl]
          exact (fail_c (hss hkl)).mono fun x H' h => ⟨h.1, by rw [h.2, List.set_set, if_pos rfl]⟩
        have hne : r1.take d ≠ [] := by
          intro e
          have := congrArg List.length e
          rw [List.length_take, List.length_nil] at this
          omega
        have hpi := fun H => ParseInt10_c (r1.take d) H hne (by rw [List.length_take]; omega) hdd
        have hgo : numGo true r1 = if 9007199254740991 < decVal (r1.take d) then (0, r1.drop d, 5) else (-(decVal (r1.take d) : Int), r1.drop d, 0) := by rw [numGo, hn, if_neg hcond]; rfl
        rw [hgo]
        by_cases v1 : decVal (r1.take d) < 9223372036854775808
        · rw [intE_val v1] at hpi
          by_cases v2 : 9007199254740991 < decVal (r1.take d)
          · rw [if_pos v2]
            refine acalls_vc L_ok mixed [1000008] (rs := [.tmp 2]) (n := 76) Tryz.func56 rfl rfl rfl rfl (Nat.le_of_ble_eq_true rfl) (by kernel_rfl) ?_
            repeat' (first | refine unhold ?_ | (simp -dsimp -implicitDefEqProofs (disch := (first | assumption | omega | (simp only [ll1, ll2, ll3, ll4, ll5, ll6, ll7, ll8]; omega))) only [go_sem, h48, hdrop, hgo1, pObj]) | refine acalls_same (hc) ?_ | refine ⟨_, hc, ?_⟩ | refine ⟨_, _, hc, ?_⟩ | refine acalls_same (hdg) ?_ | refine ⟨_, hdg, ?_⟩ | refine ⟨_, _, hdg, ?_⟩ | refine acalls_same (hpk) ?_ | refine ⟨_, hpk, ?_⟩ | refine ⟨_, _, hpk, ?_⟩ | refine acalls_same (hpi _) ?_ | refine ⟨_, hpi _, ?_⟩ | refine ⟨_, _, hpi _, ?_⟩ | refine acalls_same (hfl) ?_ | refine ⟨_, hfl, ?_⟩ | refine ⟨_, _, hfl, ?_⟩ | refine vcI (fun _ => ?_) (fun _ => ?_) | (refine vcA ?_ ?_; focus (repeat' (first | omega | assumption | refine vcA ?_ ?_); done)) | omega | refine imp_in (fun _ => ?_))
            all_goals first | exact done_keep _ (Le.refl _) len_set ⟨rfl, congrArg _ (pc (by omega))⟩ | exact done_keep _ (Le.refl _) len_set ⟨int_eq (by omega), congrArg _ (pc (by omega))⟩
          · rw [if_neg v2]
            refine acalls_vc L_ok mixed [1000008] (rs := [.tmp 2]) (n := 76) Tryz.func56 rfl rfl rfl rfl (Nat.le_of_ble_eq_true rfl) (by kernel_rfl) ?_
            repeat' (first | refine unhold ?_ | (simp -dsimp -implicitDefEqProofs (disch := (first | assumption | omega | (simp only [ll1, ll2, ll3, ll4, ll5, ll6, ll7, ll8]; omega))) only [go_sem, h48, hdrop, hgo1, pObj]) | refine acalls_same (hc) ?_ | refine ⟨_, hc, ?_⟩ | refine ⟨_, _, hc, ?_⟩ | refine acalls_same (hdg) ?_ | refine ⟨_, hdg, ?_⟩ | refine ⟨_, _, hdg, ?_⟩ | refine acalls_same (hpk) ?_ | refine ⟨_, hpk, ?_⟩ | refine ⟨_, _, hpk, ?_⟩ | refine acalls_same (hpi _) ?_ | refine ⟨_, hpi _, ?_⟩ | refine ⟨_, _, hpi _, ?_⟩ | refine acalls_same (hfl) ?_ | refine ⟨_, hfl, ?_⟩ | refine ⟨_, _, hfl, ?_⟩ | refine vcI (fun _ => ?_) (fun _ => ?_) | (refine vcA ?_ ?_; focus (repeat' (first | omega | assumption | refine vcA ?_ ?_); done)) | omega | refine imp_in (fun _ => ?_))
            all_goals first | exact done_keep _ (Le.refl _) len_set ⟨rfl, congrArg _ (pc (by omega))⟩ | exact done_keep _ (Le.refl _) len_set ⟨int_eq (by omega), congrArg _ (pc (by omega))⟩
        · rw [intE_big v1] at hpi
          rw [if_pos (by omega)]
          refine acalls_vc L_ok mixed [1000008] (rs := [.tmp 2]) (n := 76) Tryz.func56 rfl rfl rfl rfl (Nat.le_of_ble_eq_true rfl) (by kernel_rfl) ?_
          repeat' (first | refine unhold ?_ | (simp -dsimp -implicitDefEqProofs (disch := (first | assumption | omega | (simp only [ll1, ll2, ll3, ll4, ll5, ll6, ll7, ll8]; omega))) only [go_sem, h48, hdrop, hgo1, pObj]) | refine acalls_same (hc) ?_ | refine ⟨_, hc, ?_⟩ | refine ⟨_, _, hc, ?_⟩ | refine acalls_same (hdg) ?_ | refine ⟨_, hdg, ?_⟩ | refine ⟨_, _, hdg, ?_⟩ | refine acalls_same (hpk) ?_ | refine ⟨_, hpk, ?_⟩ | refine ⟨_, _, hpk, ?_⟩ | refine acalls_same (hpi _) ?_ | refine ⟨_, hpi _, ?_⟩ | refine ⟨_, _, hpi _, ?_⟩ | refine acalls_same (hfl) ?_ | refine ⟨_, hfl, ?_⟩ | refine ⟨_, _, hfl, ?_⟩ | refine vcI (fun _ => ?_) (fun _ => ?_) | (refine vcA ?_ ?_; focus (repeat' (first | omega | assumption | refine vcA ?_ ?_); done)) | omega | refine imp_in (fun _ => ?_))
          all_goals first | exact done_keep _ (Le.refl _) len_set ⟨rfl, congrArg _ (pc (by omega))⟩ | exact done_keep _ (Le.refl _) len_set ⟨int_eq (by omega), congrArg _ (pc (by omega))⟩
      | false =>
        have hn : numLen r1 = d := by exact hnum
        have hcond : ¬ (numLen r1 = 0 ∨ (false = true ∧ peek r1 = 48)) := by rw [hnum]; rintro (h | ⟨_, h⟩); exact d0 h; exact c48 h
        rw [hn] at hnl hdd hcond
        have hgo1 : (((t.length - r1.length : Nat) : Int) + (d : Int)).toNat - (t.length - r1.length) = d := by omega
        have hcl : AObj.cells (.one 59) [.str t, .lit (.int .i64 (((t.length - r1.length : Nat) : Int) + (d : Int))), .lit (.int .i64 0)] = pObj t (r1.drop d) 0 := pc (by rw [List.length_drop]; omega)
        have hfl : ACalls Tryz.prog 30 [.mp k 0, .lit (.int .i64 5)] (H.set k (AObj.cells (.one 59) [.str t, .lit (.int .i64 (((t.length - r1.length : Nat) : Int) + (d : Int))), .lit (.int .i64 0)])) (fun x H' => x = .tup [] ∧ H' = H.set k (pObj t (r1.drop d) 5)) := by
          rw [hcl]
          exact (fail_c (hss hkl)).mono fun x H' h => ⟨h.1, by rw [h.2, List.set_set, if_pos rfl]⟩
        have hne : r1.take d ≠ [] := by
          intro e
          have := congrArg List.length e
          rw [List.length_take, List.length_nil] at this
          omega
        have hpi := fun H => ParseInt10_c (r1.take d) H hne (by rw [List.length_take]; omega) hdd
        have hgo : numGo false r1 = if 9007199254740991 < decVal (r1.take d) then (0, r1.drop d, 5) else ((decVal (r1.take d) : Int), r1.drop d, 0) := by rw [numGo, hn, if_neg hcond]; rfl
        rw [hgo]
        by_cases v1 : decVal (r1.take d) < 9223372036854775808
        · rw [intE_val v1] at hpi
          by_cases v2 : 9007199254740991 < decVal (r1.take d)
          · rw [if_pos v2]
            refine acalls_vc L_ok mixed [1000008] (rs := [.tmp 2]) (n := 76) Tryz.func56 rfl rfl rfl rfl (Nat.le_of_ble_eq_true rfl) (by kernel_rfl) ?_
            repeat' (first | refine unhold ?_ | (simp -dsimp -implicitDefEqProofs (disch := (first | assumption | omega | (simp only [ll1, ll2, ll3, ll4, ll5, ll6, ll7, ll8]; omega))) only [go_sem, h48, hdrop, hgo1, pObj]) | refine acalls_same (hc) ?_ | refine ⟨_, hc, ?_⟩ | refine ⟨_, _, hc, ?_⟩ | refine acalls_same (hdg) ?_ | refine ⟨_, hdg, ?_⟩ | refine ⟨_, _, hdg, ?_⟩ | refine acalls_same (hpk) ?_ | refine ⟨_, hpk, ?_⟩ | refine ⟨_, _, hpk, ?_⟩ | refine acalls_same (hpi _) ?_ | refine ⟨_, hpi _, ?_⟩ | refine ⟨_, _, hpi _, ?_⟩ | refine acalls_same (hfl) ?_ | refine ⟨_, hfl, ?_⟩ | refine ⟨_, _, hfl, ?_⟩ | refine vcI (fun _ => ?_) (fun _ => ?_) | (refine vcA ?_ ?_; focus (repeat' (first | omega | assumption | refine vcA ?_ ?_); done)) | omega | refine imp_in (fun _ => ?_))
            all_goals first | exact done_keep _ (Le.refl _) len_set ⟨rfl, congrArg _ (pc (by omega))⟩ | exact done_keep _ (Le.refl _) len_set ⟨int_eq (by omega), congrArg _ (pc (by omega))⟩
          · rw [if_neg v2]
            refine acalls_vc L_ok mixed [1000008] (rs := [.tmp 2]) (n := 76) Tryz.func56 rfl rfl rfl rfl (Nat.le_of_ble_eq_true rfl) (by kernel_rfl) ?_
            repeat' (first | refine unhold ?_ | (simp -dsimp -implicitDefEqProofs (disch := (first | assumption | omega | (simp only [ll1, ll2, ll3, ll4, ll5, ll6, ll7, ll8]; omega))) only [go_sem, h48, hdrop, hgo1, pObj]) | refine acalls_same (hc) ?_ | refine ⟨_, hc, ?_⟩ | refine ⟨_, _, hc, ?_⟩ | refine acalls_same (hdg) ?_ | refine ⟨_, hdg, ?_⟩ | refine ⟨_, _, hdg, ?_⟩ | refine acalls_same (hpk) ?_ | refine ⟨_, hpk, ?_⟩ | refine ⟨_, _, hpk, ?_⟩ | refine acalls_same (hpi _) ?_ | refine ⟨_, hpi _, ?_⟩ | refine ⟨_, _, hpi _, ?_⟩ | refine acalls_same (hfl) ?_ | refine ⟨_, hfl, ?_⟩ | refine ⟨_, _, hfl, ?_⟩ | refine vcI (fun _ => ?_) (fun _ => ?_) | (refine vcA ?_ ?_; focus (repeat' (first | omega | assumption | refine vcA ?_ ?_); done)) | omega | refine imp_in (fun _ => ?_))
            all_goals first | exact done_keep _ (Le.refl _) len_set ⟨rfl, congrArg _ (pc (by omega))⟩ | exact done_keep _ (Le.refl _) len_set ⟨int_eq (by omega), congrArg _ (pc (by omega))⟩
        · rw [intE_big v1] at hpi
          rw [if_pos (by omega)]
          refine acalls_vc L_ok mixed [1000008] (rs := [.tmp 2]) (n := 76) Tryz.func56 rfl rfl rfl rfl (Nat.le_of_ble_eq_true rfl) (by kernel_rfl) ?_
          repeat' (first | refine unhold ?_ | (simp -dsimp -implicitDefEqProofs (disch := (first | assumption | omega | (simp only [ll1, ll2, ll3, ll4, ll5, ll6, ll7, ll8]; omega))) only [go_sem, h48, hdrop, hgo1, pObj]) | refine acalls_same (hc) ?_ | refine ⟨_, hc, ?_⟩ | refine ⟨_, _, hc, ?_⟩ | refine acalls_same (hdg) ?_ | refine ⟨_, hdg, ?_⟩ | refine ⟨_, _, hdg, ?_⟩ | refine acalls_same (hpk) ?_ | refine ⟨_, hpk, ?_⟩ | refine ⟨_, _, hpk, ?_⟩ | refine acalls_same (hpi _) ?_ | refine ⟨_, hpi _, ?_⟩ | refine ⟨_, _, hpi _, ?_⟩ | refine acalls_same (hfl) ?_ | refine ⟨_, hfl, ?_⟩ | refine ⟨_, _, hfl, ?_⟩ | refine vcI (fun _ => ?_) (fun _ => ?_) | (refine vcA ?_ ?_; focus (repeat' (first | omega | assumption | refine vcA ?_ ?_); done)) | omega | refine imp_in (fun _ => ?_))
          all_goals first | exact done_keep _ (Le.refl _) len_set ⟨rfl, congrArg _ (pc (by omega))⟩ | exact done_keep _ (Le.refl _) len_set ⟨int_eq (by omega), congrArg _ (pc (by omega))⟩
end Go.Proofs.YtdahdbnfknmmgaaGreatDoor
end

section
set_option linter.unusedSimpArgs false
set_option linter.unusedVariables false
namespace Go.Proofs.YtdahdbnfknmmgaaGreatDoor
open Go V
set_option maxRecDepth 10000
set_option maxHeartbeats 4000000
theorem suf_quoted {r t : bytes} (h : r <:+ t) : (quotedP r).2.1 <:+ t := (quoted_len r).1.trans h
theorem nameP_eq (v : JV) (r : bytes) : nameP v r = (match skipW [58] (blanks (quotedP (blanks r)).2.1) with
    | none => ((quotedP (blanks r)).1, blanks (quotedP (blanks r)).2.1, if (if (jget v (quotedP (blanks r)).1).isSome ∧ (quotedP (blanks r)).2.2 = 0 then 6 else (quotedP (blanks r)).2.2) = 0 then 2 else (if (jget v (quotedP (blanks r)).1).isSome ∧ (quotedP (blanks r)).2.2 = 0 then 6 else (quotedP (blanks r)).2.2))
    | some r4 => ((quotedP (blanks r)).1, r4, if (jget v (quotedP (blanks r)).1).isSome ∧ (quotedP (blanks r)).2.2 = 0 then 6 else (quotedP (blanks r)).2.2)) := rfl
theorem suf_name {v : JV} {r t : bytes} (h : r <:+ t) : (nameP v r).2.1 <:+ t := by
  have h1 := suf_blanks (suf_quoted (suf_blanks h))
  rw [nameP_eq]
  cases e : skipW [58] (blanks (quotedP (blanks r)).2.1) with
  | none => exact h1
  | some r4 => exact suf_skip h1 e
theorem name_c {k : Nat} {t r : bytes} {H : List AObj} (v : JV) (hv1 : v.names.length ≤ 100000) (hv2 : v.items.length ≤ 100000) (hk : H[k]? = some (pObj t r 0)) (hs : r <:+ t) (hl : t.length ≤ 10000) :
    ACalls Tryz.prog 78 [.mp k 0, jAV v] H (fun x H' => x = .str (nameP v r).1 ∧ H' = H.set k (pObj t (nameP v r).2.1 (nameP v r).2.2)) := by
  have hkl := lt_of_get hk
  have hs1 := suf_blanks hs
  have hs2 := suf_quoted hs1
  have hs3 := suf_blanks hs2
  have hb1 := blanks_c hk hs hl
  have hq := quoted_c (r := blanks r) (t := t) (H := H.set k (pObj t (blanks r) 0)) (hss hkl) hs1 hl
  rw [nameP_eq]
  generalize quotedP (blanks r) = q at *
  obtain ⟨s, r2, e⟩ := q
  dsimp only at hs2 hs3 hq ⊢
  cases hj : jget v s with
  | none =>
    have hg : getAV v s = .tup [jAV zeroJ, .bool false] := by rw [getAV, hj]; rfl
    cases hsk : skipW [58] (blanks r2) with
    | none =>
      refine acalls_vc L_ok mixed [] (rs := [.tmp 4]) (n := 42) Tryz.func78 rfl rfl rfl rfl (Nat.le_of_ble_eq_true rfl) (by kernel_rfl) ?_
      repeat' (first | refine unhold ?_ | (simp -dsimp -implicitDefEqProofs (disch := (first | assumption | omega | (simp only [ll1, ll2, ll3, ll4, ll5, ll6, ll7, ll8]; omega))) only [go_sem, lk_k hkl, st_k hkl, lk_b, st_b, hg, hsk]) | refine acalls_same (hb1) ?_ | refine ⟨_, hb1, ?_⟩ | refine ⟨_, _, hb1, ?_⟩ | refine acalls_same (hq) ?_ | refine ⟨_, hq, ?_⟩ | refine ⟨_, _, hq, ?_⟩ | refine acalls_same (Get_c v s _ hv1 hv2) ?_ | refine ⟨_, Get_c v s _ hv1 hv2, ?_⟩ | refine ⟨_, _, Get_c v s _ hv1 hv2, ?_⟩ | refine acalls_same (blanks_c (lk_k hkl) hs2 hl) ?_ | refine ⟨_, blanks_c (lk_k hkl) hs2 hl, ?_⟩ | refine ⟨_, _, blanks_c (lk_k hkl) hs2 hl, ?_⟩ | refine acalls_same (skip_c (w := [58]) (lk_k hkl) hs3 hl (by decide)) ?_ | refine ⟨_, skip_c (w := [58]) (lk_k hkl) hs3 hl (by decide), ?_⟩ | refine ⟨_, _, skip_c (w := [58]) (lk_k hkl) hs3 hl (by decide), ?_⟩ | refine acalls_same (fail_c (lk_k hkl)) ?_ | refine ⟨_, fail_c (lk_k hkl), ?_⟩ | refine ⟨_, _, fail_c (lk_k hkl), ?_⟩ | refine vcI (fun _ => ?_) (fun _ => ?_) | (refine vcA ?_ ?_; focus (repeat' (first | omega | assumption | refine vcA ?_ ?_); done)) | omega | refine imp_in (fun _ => ?_))
      all_goals first | exact done_cut' (.str _) rfl low_pObj ⟨rfl, by simp [hj]⟩
    | some r4 =>
      refine acalls_vc L_ok mixed [] (rs := [.tmp 4]) (n := 42) Tryz.func78 rfl rfl rfl rfl (Nat.le_of_ble_eq_true rfl) (by kernel_rfl) ?_
      repeat' (first | refine unhold ?_ | (simp -dsimp -implicitDefEqProofs (disch := (first | assumption | omega | (simp only [ll1, ll2, ll3, ll4, ll5, ll6, ll7, ll8]; omega))) only [go_sem, lk_k hkl, st_k hkl, lk_b, st_b, hg, hsk]) | refine acalls_same (hb1) ?_ | refine ⟨_, hb1, ?_⟩ | refine ⟨_, _, hb1, ?_⟩ | refine acalls_same (hq) ?_ | refine ⟨_, hq, ?_⟩ | refine ⟨_, _, hq, ?_⟩ | refine acalls_same (Get_c v s _ hv1 hv2) ?_ | refine ⟨_, Get_c v s _ hv1 hv2, ?_⟩ | refine ⟨_, _, Get_c v s _ hv1 hv2, ?_⟩ | refine acalls_same (blanks_c (lk_k hkl) hs2 hl) ?_ | refine ⟨_, blanks_c (lk_k hkl) hs2 hl, ?_⟩ | refine ⟨_, _, blanks_c (lk_k hkl) hs2 hl, ?_⟩ | refine acalls_same (skip_c (w := [58]) (lk_k hkl) hs3 hl (by decide)) ?_ | refine ⟨_, skip_c (w := [58]) (lk_k hkl) hs3 hl (by decide), ?_⟩ | refine ⟨_, _, skip_c (w := [58]) (lk_k hkl) hs3 hl (by decide), ?_⟩ | refine acalls_same (fail_c (lk_k hkl)) ?_ | refine ⟨_, fail_c (lk_k hkl), ?_⟩ | refine ⟨_, _, fail_c (lk_k hkl), ?_⟩ | refine vcI (fun _ => ?_) (fun _ => ?_) | (refine vcA ?_ ?_; focus (repeat' (first | omega | assumption | refine vcA ?_ ?_); done)) | omega | refine imp_in (fun _ => ?_))
      all_goals first | exact done_cut' (.str _) rfl low_pObj ⟨rfl, by simp [hj]⟩
  | some y =>
    have hg : getAV v s = .tup [jAV y, .bool true] := by rw [getAV, hj]; rfl
    by_cases he : e = 0
    · subst he
      cases hsk : skipW [58] (blanks r2) with
      | none =>
        refine acalls_vc L_ok mixed [] (rs := [.tmp 4]) (n := 42) Tryz.func78 rfl rfl rfl rfl (Nat.le_of_ble_eq_true rfl) (by kernel_rfl) ?_
        repeat' (first | refine unhold ?_ | (simp -dsimp -implicitDefEqProofs (disch := (first | assumption | omega | (simp only [ll1, ll2, ll3, ll4, ll5, ll6, ll7, ll8]; omega))) only [go_sem, lk_k hkl, st_k hkl, lk_b, st_b, hg, hsk]) | refine acalls_same (hb1) ?_ | refine ⟨_, hb1, ?_⟩ | refine ⟨_, _, hb1, ?_⟩ | refine acalls_same (hq) ?_ | refine ⟨_, hq, ?_⟩ | refine ⟨_, _, hq, ?_⟩ | refine acalls_same (Get_c v s _ hv1 hv2) ?_ | refine ⟨_, Get_c v s _ hv1 hv2, ?_⟩ | refine ⟨_, _, Get_c v s _ hv1 hv2, ?_⟩ | refine acalls_same (blanks_c (lk_k hkl) hs2 hl) ?_ | refine ⟨_, blanks_c (lk_k hkl) hs2 hl, ?_⟩ | refine ⟨_, _, blanks_c (lk_k hkl) hs2 hl, ?_⟩ | refine acalls_same (skip_c (w := [58]) (lk_k hkl) hs3 hl (by decide)) ?_ | refine ⟨_, skip_c (w := [58]) (lk_k hkl) hs3 hl (by decide), ?_⟩ | refine ⟨_, _, skip_c (w := [58]) (lk_k hkl) hs3 hl (by decide), ?_⟩ | refine acalls_same (fail_c (lk_k hkl)) ?_ | refine ⟨_, fail_c (lk_k hkl), ?_⟩ | refine ⟨_, _, fail_c (lk_k hkl), ?_⟩ | refine vcI (fun _ => ?_) (fun _ => ?_) | (refine vcA ?_ ?_; focus (repeat' (first | omega | assumption | refine vcA ?_ ?_); done)) | omega | refine imp_in (fun _ => ?_))
        all_goals first | exact done_cut' (.str _) rfl low_pObj ⟨rfl, by simp [hj]⟩
      | some r4 =>
        refine acalls_vc L_ok mixed [] (rs := [.tmp 4]) (n := 42) Tryz.func78 rfl rfl rfl rfl (Nat.le_of_ble_eq_true rfl) (by kernel_rfl) ?_
        repeat' (first | refine unhold ?_ | (simp -dsimp -implicitDefEqProofs (disch := (first | assumption | omega | (simp only [ll1, ll2, ll3, ll4, ll5, ll6, ll7, ll8]; omega))) only [go_sem, lk_k hkl, st_k hkl, lk_b, st_b, hg, hsk]) | refine acalls_same (hb1) ?_ | refine ⟨_, hb1, ?_⟩ | refine ⟨_, _, hb1, ?_⟩ | refine acalls_same (hq) ?_ | refine ⟨_, hq, ?_⟩ | refine ⟨_, _, hq, ?_⟩ | refine acalls_same (Get_c v s _ hv1 hv2) ?_ | refine ⟨_, Get_c v s _ hv1 hv2, ?_⟩ | refine ⟨_, _, Get_c v s _ hv1 hv2, ?_⟩ | refine acalls_same (blanks_c (lk_k hkl) hs2 hl) ?_ | refine ⟨_, blanks_c (lk_k hkl) hs2 hl, ?_⟩ | refine ⟨_, _, blanks_c (lk_k hkl) hs2 hl, ?_⟩ | refine acalls_same (skip_c (w := [58]) (lk_k hkl) hs3 hl (by decide)) ?_ | refine ⟨_, skip_c (w := [58]) (lk_k hkl) hs3 hl (by decide), ?_⟩ | refine ⟨_, _, skip_c (w := [58]) (lk_k hkl) hs3 hl (by decide), ?_⟩ | refine acalls_same (fail_c (lk_k hkl)) ?_ | refine ⟨_, fail_c (lk_k hkl), ?_⟩ | refine ⟨_, _, fail_c (lk_k hkl), ?_⟩ | refine vcI (fun _ => ?_) (fun _ => ?_) | (refine vcA ?_ ?_; focus (repeat' (first | omega | assumption | refine vcA ?_ ?_); done)) | omega | refine imp_in (fun _ => ?_))
        all_goals first | exact done_cut' (.str _) rfl low_pObj ⟨rfl, by simp [hj]⟩
    · skip
      cases hsk : skipW [58] (blanks r2) with
      | none =>
        refine acalls_vc L_ok mixed [] (rs := [.tmp 4]) (n := 42) Tryz.func78 rfl rfl rfl rfl (Nat.le_of_ble_eq_true rfl) (by kernel_rfl) ?_
        repeat' (first | refine unhold ?_ | (simp -dsimp -implicitDefEqProofs (disch := (first | assumption | omega | (simp only [ll1, ll2, ll3, ll4, ll5, ll6, ll7, ll8]; omega))) only [go_sem, lk_k hkl, st_k hkl, lk_b, st_b, hg, hsk, he]) | refine acalls_same (hb1) ?_ | refine ⟨_, hb1, ?_⟩ | refine ⟨_, _, hb1, ?_⟩ | refine acalls_same (hq) ?_ | refine ⟨_, hq, ?_⟩ | refine ⟨_, _, hq, ?_⟩ | refine acalls_same (Get_c v s _ hv1 hv2) ?_ | refine ⟨_, Get_c v s _ hv1 hv2, ?_⟩ | refine ⟨_, _, Get_c v s _ hv1 hv2, ?_⟩ | refine acalls_same (blanks_c (lk_k hkl) hs2 hl) ?_ | refine ⟨_, blanks_c (lk_k hkl) hs2 hl, ?_⟩ | refine ⟨_, _, blanks_c (lk_k hkl) hs2 hl, ?_⟩ | refine acalls_same (skip_c (w := [58]) (lk_k hkl) hs3 hl (by decide)) ?_ | refine ⟨_, skip_c (w := [58]) (lk_k hkl) hs3 hl (by decide), ?_⟩ | refine ⟨_, _, skip_c (w := [58]) (lk_k hkl) hs3 hl (by decide), ?_⟩ | refine acalls_same (fail_c (lk_k hkl)) ?_ | refine ⟨_, fail_c (lk_k hkl), ?_⟩ | refine ⟨_, _, fail_c (lk_k hkl), ?_⟩ | refine vcI (fun _ => ?_) (fun _ => ?_) | (refine vcA ?_ ?_; focus (repeat' (first | omega | assumption | refine vcA ?_ ?_); done)) | omega | refine imp_in (fun _ => ?_))
        all_goals first | exact done_cut' (.str _) rfl low_pObj ⟨rfl, by simp [hj, he]⟩
      | some r4 =>
        refine acalls_vc L_ok mixed [] (rs := [.tmp 4]) (n := 42) Tryz.func78 rfl rfl rfl rfl (Nat.le_of_ble_eq_true rfl) (by kernel_rfl) ?_
        repeat' (first | refine unhold ?_ | (simp -dsimp -implicitDefEqProofs (disch := (first | assumption | omega | (simp only [ll1, ll2, ll3, ll4, ll5, ll6, ll7, ll8]; omega))) only [go_sem, lk_k hkl, st_k hkl, lk_b, st_b, hg, hsk, he]) | refine acalls_same (hb1) ?_ | refine ⟨_, hb1, ?_⟩ | refine ⟨_, _, hb1, ?_⟩ | refine acalls_same (hq) ?_ | refine ⟨_, hq, ?_⟩ | refine ⟨_, _, hq, ?_⟩ | refine acalls_same (Get_c v s _ hv1 hv2) ?_ | refine ⟨_, Get_c v s _ hv1 hv2, ?_⟩ | refine ⟨_, _, Get_c v s _ hv1 hv2, ?_⟩ | refine acalls_same (blanks_c (lk_k hkl) hs2 hl) ?_ | refine ⟨_, blanks_c (lk_k hkl) hs2 hl, ?_⟩ | refine ⟨_, _, blanks_c (lk_k hkl) hs2 hl, ?_⟩ | refine acalls_same (skip_c (w := [58]) (lk_k hkl) hs3 hl (by decide)) ?_ | refine ⟨_, skip_c (w := [58]) (lk_k hkl) hs3 hl (by decide), ?_⟩ | refine ⟨_, _, skip_c (w := [58]) (lk_k hkl) hs3 hl (by decide), ?_⟩ | refine acalls_same (fail_c (lk_k hkl)) ?_ | refine ⟨_, fail_c (lk_k hkl), ?_⟩ | refine ⟨_, _, fail_c (lk_k hkl), ?_⟩ | refine vcI (fun _ => ?_) (fun _ => ?_) | (refine vcA ?_ ?_; focus (repeat' (first | omega | assumption | refine vcA ?_ ?_); done)) | omega | refine imp_in (fun _ => ?_))
        all_goals first | exact done_cut' (.str _) rfl low_pObj ⟨rfl, by simp [hj, he]⟩
end Go.Proofs.YtdahdbnfknmmgaaGreatDoor
end

section
set_option linter.unusedSimpArgs false
set_option linter.unusedVariables false
namespace Go.Proofs.YtdahdbnfknmmgaaGreatDoor
open Go V
set_option maxRecDepth 10000
set_option maxHeartbeats 4000000
theorem Clone_s {xs : List AV} {H : List AObj} (hu : ∀ y ∈ xs, y.flat.length = 1 ∧ y.okv = true) (hne : xs ≠ []) (hl : xs.length ≤ 100000) : ACalls Tryz.prog 65 [.sl .sh 1 xs] H (fun y H' => y = .mrow H.length xs.length ∧ H' = H ++ [.cells (.prow 1) (flats xs)]) := by
  have hpos := List.length_pos_iff.2 hne
  refine acalls_vc L_ok mixed [7] (rs := [.tmp 2]) (n := 8) Tryz.func65 rfl rfl rfl rfl (Nat.le_of_ble_eq_true rfl) (by kernel_rfl) ?_
  repeat' (first | refine unhold ?_ | (simp -dsimp -implicitDefEqProofs (disch := (first | assumption | omega | (simp only [ll1, ll2, ll3, ll4, ll5, ll6, ll7, ll8]; omega))) only [go_sem, hne]) | refine vcI (fun _ => ?_) (fun _ => ?_) | (refine vcA ?_ ?_; focus (repeat' (first | omega | assumption | refine vcA ?_ ?_); done)) | omega | refine imp_in (fun _ => ?_))
  exact done_grow ⟨rfl, rfl⟩
theorem Clone0_s {H : List AObj} : ACalls Tryz.prog 65 [.sl .sh 1 []] H (fun y H' => y = .sl (.tok H.length) 1 [] ∧ H' = H ++ [.grow 1 0 none]) := by
  refine acalls_vc L_ok mixed [] (rs := [.tmp 2]) (n := 8) Tryz.func65 rfl rfl rfl rfl (Nat.le_of_ble_eq_true rfl) (by kernel_rfl) ?_
  repeat' (first | refine unhold ?_ | (simp -dsimp -implicitDefEqProofs (disch := (first | assumption | omega | (simp only [ll1, ll2, ll3, ll4, ll5, ll6, ll7, ll8]; omega))) only [go_sem]) | refine vcI (fun _ => ?_) (fun _ => ?_) | (refine vcA ?_ ?_; focus (repeat' (first | omega | assumption | refine vcA ?_ ?_); done)) | omega | refine imp_in (fun _ => ?_))
  intro b
  cases b
  all_goals
    repeat' (first | refine unhold ?_ | (simp -dsimp -implicitDefEqProofs (disch := (first | assumption | omega | (simp only [ll1, ll2, ll3, ll4, ll5, ll6, ll7, ll8]; omega))) only [go_sem]) | refine vcI (fun _ => ?_) (fun _ => ?_) | (refine vcA ?_ ?_; focus (repeat' (first | omega | assumption | refine vcA ?_ ?_); done)) | omega | refine imp_in (fun _ => ?_))
    first
      | exact done_grow ⟨rfl, rfl⟩
      | exact done_mint0 (by decide) (done_grow ⟨rfl, rfl⟩)
theorem Insert0_s {k : Nat} {x : AV} {H : List AObj} (hk : H[k]? = some (.grow 1 0 none)) (hx : x.flat.length = 1 ∧ x.okv = true) : ACalls Tryz.prog 67 [.sl (.tok k) 1 [], .lit (.int .i64 0), .sl .full 1 [x]] H (fun y H' => y = .sl (.tok k) 1 [x] ∧ H' = H.set k (.grow 1 1 none)) := by
  refine acalls_vc L_ok mixed [1000011, 1000015] (rs := [.tmp 6]) (n := 95) Tryz.func67 rfl rfl rfl rfl (Nat.le_of_ble_eq_true rfl) (by kernel_rfl) ?_
  repeat' (first | refine unhold ?_ | (simp -dsimp -implicitDefEqProofs (disch := (first | assumption | omega | (simp only [ll1, ll2, ll3, ll4, ll5, ll6, ll7, ll8]; omega))) only [go_sem, hk]) | refine vcI (fun _ => ?_) (fun _ => ?_) | (refine vcA ?_ ?_; focus (repeat' (first | omega | assumption | refine vcA ?_ ?_); done)) | omega | refine imp_in (fun _ => ?_))
  exact done_keep _ (Le.refl _) (by simp) ⟨rfl, rfl⟩
theorem Clone_j {xs : List AV} {H : List AObj} (hu : ∀ y ∈ xs, y.flat.length = 5 ∧ y.okv = true) (hne : xs ≠ []) (hl : xs.length ≤ 100000) : ACalls Tryz.prog 66 [.sl .sh 5 xs] H (fun y H' => y = .mrow H.length xs.length ∧ H' = H ++ [.cells (.prow 5) (flats xs)]) := by
  have hpos := List.length_pos_iff.2 hne
  refine acalls_vc L_ok mixed [7] (rs := [.tmp 2]) (n := 8) Tryz.func66 rfl rfl rfl rfl (Nat.le_of_ble_eq_true rfl) (by kernel_rfl) ?_
  repeat' (first | refine unhold ?_ | (simp -dsimp -implicitDefEqProofs (disch := (first | assumption | omega | (simp only [ll1, ll2, ll3, ll4, ll5, ll6, ll7, ll8]; omega))) only [go_sem, hne]) | refine vcI (fun _ => ?_) (fun _ => ?_) | (refine vcA ?_ ?_; focus (repeat' (first | omega | assumption | refine vcA ?_ ?_); done)) | omega | refine imp_in (fun _ => ?_))
  exact done_grow ⟨rfl, rfl⟩
theorem Clone0_j {H : List AObj} : ACalls Tryz.prog 66 [.sl .sh 5 []] H (fun y H' => y = .sl (.tok H.length) 5 [] ∧ H' = H ++ [.grow 5 0 none]) := by
  refine acalls_vc L_ok mixed [] (rs := [.tmp 2]) (n := 8) Tryz.func66 rfl rfl rfl rfl (Nat.le_of_ble_eq_true rfl) (by kernel_rfl) ?_
  repeat' (first | refine unhold ?_ | (simp -dsimp -implicitDefEqProofs (disch := (first | assumption | omega | (simp only [ll1, ll2, ll3, ll4, ll5, ll6, ll7, ll8]; omega))) only [go_sem]) | refine vcI (fun _ => ?_) (fun _ => ?_) | (refine vcA ?_ ?_; focus (repeat' (first | omega | assumption | refine vcA ?_ ?_); done)) | omega | refine imp_in (fun _ => ?_))
  intro b
  cases b
  all_goals
    repeat' (first | refine unhold ?_ | (simp -dsimp -implicitDefEqProofs (disch := (first | assumption | omega | (simp only [ll1, ll2, ll3, ll4, ll5, ll6, ll7, ll8]; omega))) only [go_sem]) | refine vcI (fun _ => ?_) (fun _ => ?_) | (refine vcA ?_ ?_; focus (repeat' (first | omega | assumption | refine vcA ?_ ?_); done)) | omega | refine imp_in (fun _ => ?_))
    first
      | exact done_grow ⟨rfl, rfl⟩
      | exact done_mint0 (by decide) (done_grow ⟨rfl, rfl⟩)
theorem Insert0_j {k : Nat} {x : AV} {H : List AObj} (hk : H[k]? = some (.grow 5 0 none)) (hx : x.flat.length = 5 ∧ x.okv = true) : ACalls Tryz.prog 68 [.sl (.tok k) 5 [], .lit (.int .i64 0), .sl .full 5 [x]] H (fun y H' => y = .sl (.tok k) 5 [x] ∧ H' = H.set k (.grow 5 1 none)) := by
  refine acalls_vc L_ok mixed [1000011, 1000015] (rs := [.tmp 6]) (n := 95) Tryz.func68 rfl rfl rfl rfl (Nat.le_of_ble_eq_true rfl) (by kernel_rfl) ?_
  repeat' (first | refine unhold ?_ | (simp -dsimp -implicitDefEqProofs (disch := (first | assumption | omega | (simp only [ll1, ll2, ll3, ll4, ll5, ll6, ll7, ll8]; omega))) only [go_sem, hk]) | refine vcI (fun _ => ?_) (fun _ => ?_) | (refine vcA ?_ ?_; focus (repeat' (first | omega | assumption | refine vcA ?_ ?_); done)) | omega | refine imp_in (fun _ => ?_))
  exact done_keep _ (Le.refl _) (by simp) ⟨rfl, rfl⟩
theorem s_uni {ns : List bytes} : ∀ y ∈ ns.map AV.str, y.flat.length = 1 ∧ y.okv = true := fun y hy => by
  obtain ⟨s, _, rfl⟩ := List.mem_map.1 hy
  exact ⟨rfl, rfl⟩
theorem j_len {v : JV} : (jAV v).flat.length = 5 := by rw [flat_j]; rfl
theorem j_uni {is : List JV} : ∀ y ∈ is.map jAV, y.flat.length = 5 ∧ y.okv = true := fun y hy => by
  obtain ⟨s, _, rfl⟩ := List.mem_map.1 hy
  exact ⟨j_len, okv_j⟩
theorem frz_row' {H : List AObj} {sh : Shape} {m k s n : Nat} {cs xs : List AV} (hk : m ≤ k) (ho : H[k]? = some (.cells sh cs)) (hx : xs.length = n) (hu : ∀ x ∈ xs, x.flat.length = s ∧ x.okv = true) (hlow : ∀ y ∈ flats xs, Low m y) (h : cs = flats xs) : Frz m H (.mrow k n) (.sl .sh s xs) := by
  subst h
  refine .row k n s sh _ xs hk ho hx hu (Nat.le_refl _) fun j c y e1 e2 => ?_
  rw [e1] at e2
  cases e2
  exact .low _ (hlow _ (List.mem_iff_getElem?.2 ⟨j, e1⟩))
theorem low_flats_s {m : Nat} {ns : List bytes} : ∀ y ∈ flats (ns.map AV.str), Low m y := fun y hy => by
  rw [flats_strs] at hy
  obtain ⟨s, _, rfl⟩ := List.mem_map.1 hy
  exact .str _
theorem low_flats_j {m : Nat} {is : List JV} : ∀ y ∈ flats (is.map jAV), Low m y := fun y hy => by
  have := low_jsl (m := m) (l := is)
  cases this with
  | sl _ _ _ _ h => exact h y hy
theorem flats_set {xs : List AV} {x : AV} {s i : Nat} (hu : ∀ y ∈ xs, y.flat.length = s) (hx : x.flat.length = s) (hi : i < xs.length) : aset (flats xs) (i * s) x.flat = flats (xs.set i x) := by
  have hA : (flats (xs.take i)).length = i * s := by rw [flats_len (s := s) fun y hy => hu y (List.mem_of_mem_take hy), List.length_take, Nat.min_eq_left (by omega)]
  have hxi : xs[i].flat.length = s := hu _ (List.getElem_mem hi)
  have e1 : flats xs = flats (xs.take i) ++ xs[i].flat ++ flats (xs.drop (i + 1)) := by
    conv => lhs; rw [← List.take_append_drop i xs, List.drop_eq_getElem_cons hi]
    rw [flats_append, flats_cons, List.append_assoc]
  have e2 : flats (xs.set i x) = flats (xs.take i) ++ x.flat ++ flats (xs.drop (i + 1)) := by
    rw [List.set_eq_take_append_cons_drop, if_pos hi, flats_append, flats_cons, List.append_assoc]
  rw [e1, e2, aset_mid hA.symm (by rw [hxi, hx])]
/-- Objects: as many items as names, that rise. -/
def objOk (v : JV) : Prop := v.names.length = v.items.length ∧ srt v.names = true ∧ v.names.length ≤ 20000
theorem jput_new {v x : JV} {s : bytes} (h : v.names[pos v.names s]? ≠ some s) : jput v s x = .mk v.kind v.num v.text (v.names.insertIdx (pos v.names s) s) (v.items.insertIdx (pos v.names s) x) := if_neg h
theorem jput_old {v x : JV} {s : bytes} (h : v.names[pos v.names s]? = some s) : jput v s x = .mk v.kind v.num v.text v.names (v.items.set (pos v.names s) x) := if_pos h
theorem map_insert {α β : Type} {f : α → β} : ∀ {l : List α} {i : Nat} {x : α}, (l.map f).insertIdx i (f x) = (l.insertIdx i x).map f
  | [], 0, x => rfl
  | [], i + 1, x => rfl
  | a :: l, 0, x => rfl
  | a :: l, i + 1, x => by
    rw [List.map_cons, List.insertIdx_succ_cons, List.insertIdx_succ_cons, List.map_cons, map_insert]
theorem put_c (v : JV) (s : bytes) (x : JV) (H : List AObj) (hv : objOk v) : ACalls Tryz.prog 45 [jAV v, .str s, jAV x] H (fun y H' => y = jAV (jput v s x) ∧ H' = H) := by
  obtain ⟨hv1, hv2, hv3⟩ := hv
  have hpl := pos_le v.names s
  by_cases hnil : v.names = []
  · have hit : v.items = [] := List.eq_nil_of_length_eq_zero (by rw [← hv1, hnil]; rfl)
    rw [jput_new (by rw [hnil]; simp), hnil, hit]
    refine acalls_vc L_ok mixed [3, 1000002, 1000002004002, 1000006, 1000006007005, 1000006009005, 1000006010005] (rs := [.cell 6 29]) (n := 46) Tryz.func45 rfl rfl rfl rfl (Nat.le_of_ble_eq_true rfl) (by kernel_rfl) ?_
    repeat' (first | refine unhold ?_ | (simp -dsimp -implicitDefEqProofs (disch := (first | assumption | omega | (simp only [ll1, ll2, ll3, ll4, ll5, ll6, ll7, ll8]; omega))) only [go_sem, hnil, hit, lk_k, hg0, hg1, hg2]) | refine acalls_same (Search_c [] s _ (by simp) rfl) ?_ | refine ⟨_, Search_c [] s _ (by simp) rfl, ?_⟩ | refine ⟨_, _, Search_c [] s _ (by simp) rfl, ?_⟩ | refine acalls_same (Clone0_s) ?_ | refine ⟨_, Clone0_s, ?_⟩ | refine ⟨_, _, Clone0_s, ?_⟩ | refine acalls_same (Clone0_j) ?_ | refine ⟨_, Clone0_j, ?_⟩ | refine ⟨_, _, Clone0_j, ?_⟩ | refine acalls_same (Insert0_s (x := .str s) (by simp; done) ⟨rfl, rfl⟩) ?_ | refine ⟨_, Insert0_s (x := .str s) (by simp; done) ⟨rfl, rfl⟩, ?_⟩ | refine ⟨_, _, Insert0_s (x := .str s) (by simp; done) ⟨rfl, rfl⟩, ?_⟩ | refine acalls_same (Insert0_j (x := jAV x) (by simp; done) ⟨j_len, okv_j⟩) ?_ | refine ⟨_, Insert0_j (x := jAV x) (by simp; done) ⟨j_len, okv_j⟩, ?_⟩ | refine ⟨_, _, Insert0_j (x := jAV x) (by simp; done) ⟨j_len, okv_j⟩, ?_⟩ | refine vcI (fun _ => ?_) (fun _ => ?_) | (refine vcA ?_ ?_; focus (repeat' (first | omega | assumption | refine vcA ?_ ?_); done)) | omega | refine imp_in (fun _ => ?_))
    · rename_i h
      simp at h
    · refine done_cut (jAV (.mk v.kind v.num v.text [s] [x])) (le_j le_sh le_sh) (low_jAV _) ⟨?_, rfl⟩
      have : pos [] s = 0 := rfl
      rw [this]
      rfl
  · have hit : v.items ≠ [] := fun e => hnil (List.eq_nil_of_length_eq_zero (by rw [hv1, e]; rfl))
    have hns : v.names.map AV.str ≠ [] := by simpa using hnil
    have hns2 : v.items.map jAV ≠ [] := by simpa using hit
    by_cases hf : v.names[pos v.names s]? = some s
    · have hlt := lt_of_get hf
      rw [jput_old hf]
      have hsr := fun H => Search_c (o := .sh) v.names s H (by omega) hv2
      rw [decide_eq_true hf] at hsr
      have hps : pos v.names s * 5 + 5 ≤ (flats (v.items.map jAV)).length := by
        rw [flats_len (s := 5) fun y hy => (j_uni y hy).1, List.length_map]
        omega
      refine acalls_vc L_ok mixed [3, 1000002, 1000002004002, 1000006, 1000006007005, 1000006009005, 1000006010005] (rs := [.cell 6 29]) (n := 46) Tryz.func45 rfl rfl rfl rfl (Nat.le_of_ble_eq_true rfl) (by kernel_rfl) ?_
      repeat' (first | refine unhold ?_ | (simp -dsimp -implicitDefEqProofs (disch := (first | assumption | omega | (simp only [ll1, ll2, ll3, ll4, ll5, ll6, ll7, ll8]; omega))) only [go_sem, lk_k, hg0, hg1, hg2, hps]) | refine acalls_same (hsr _) ?_ | refine ⟨_, hsr _, ?_⟩ | refine ⟨_, _, hsr _, ?_⟩ | refine acalls_same (Clone_s s_uni hns (by simp; omega)) ?_ | refine ⟨_, Clone_s s_uni hns (by simp; omega), ?_⟩ | refine ⟨_, _, Clone_s s_uni hns (by simp; omega), ?_⟩ | refine acalls_same (Clone_j j_uni hns2 (by simp; omega)) ?_ | refine ⟨_, Clone_j j_uni hns2 (by simp; omega), ?_⟩ | refine ⟨_, _, Clone_j j_uni hns2 (by simp; omega), ?_⟩ | refine vcI (fun _ => ?_) (fun _ => ?_) | (refine vcA ?_ ?_; focus (repeat' (first | omega | assumption | refine vcA ?_ ?_); done)) | omega | refine imp_in (fun _ => ?_))
      have hset : aset (flats (v.items.map jAV)) (pos v.names s * 5) (jAV x).flat = flats ((v.items.set (pos v.names s) x).map jAV) := by
        rw [flats_set (fun y hy => (j_uni y hy).1) j_len (by rw [List.length_map]; omega), List.map_set]
      rw [flat_j] at hset
      simp only [aset] at hset
      rw [jAV_eq]
      refine done_frz _ (Frz.agg _ [.lit (.int .i64 v.kind), .lit (.int .i64 v.num), .str v.text, .sl .sh 1 (v.names.map .str), .sl .sh 5 ((v.items.set (pos v.names s) x).map jAV)] rfl fun j c d e1 e2 => ?_) ⟨rfl, rfl⟩
      · match j, e1, e2 with
        | 0, e1, e2 => simp at e1 e2; subst e1; subst e2; exact .low _ (.lit _)
        | 1, e1, e2 => simp at e1 e2; subst e1; subst e2; exact .low _ (.lit _)
        | 2, e1, e2 => simp at e1 e2; subst e1; subst e2; exact .low _ (.str _)
        | 3, e1, e2 =>
          simp at e1 e2; subst e1; subst e2
          exact frz_row' (cs := v.names.map AV.str) (by omega) (by simp; rfl) (by simp) s_uni low_flats_s (flats_strs ..).symm
        | 4, e1, e2 =>
          simp only [List.getElem?_cons_succ, List.getElem?_cons_zero, Option.some.injEq] at e1 e2; subst e1; subst e2
          exact frz_row' (sh := .prow 5) (by omega) (by rw [List.getElem?_append_right (by omega), Nat.add_sub_cancel_left]; rfl) (by simp) j_uni low_flats_j hset
    · rw [jput_new hf]
      have hsr := fun H => Search_c (o := .sh) v.names s H (by omega) hv2
      rw [decide_eq_false hf] at hsr
      refine acalls_vc L_ok mixed [3, 1000002, 1000002004002, 1000006, 1000006007005, 1000006009005, 1000006010005] (rs := [.cell 6 29]) (n := 46) Tryz.func45 rfl rfl rfl rfl (Nat.le_of_ble_eq_true rfl) (by kernel_rfl) ?_
      have hlowS : ∀ m, Low m (.sl .sh 1 ((v.names.map AV.str).insertIdx (pos v.names s) (.str s))) := fun m => by rw [map_insert]; exact low_ssl
      have hlowJ : ∀ m, Low m (.sl .sh 5 ((v.items.map jAV).insertIdx (pos v.names s) (jAV x))) := fun m => by rw [map_insert]; exact low_jsl
      have cS := fun k H hk => Insert_s (k := k) (n := v.names.length) (i := pos v.names s) (x := .str s) (xs := v.names.map .str) (H := H) hk (by simp) s_uni ⟨rfl, rfl⟩ hpl (by omega) hlowS
      have cJ := fun k H hk => Insert_j (k := k) (n := v.items.length) (i := pos v.names s) (x := jAV x) (xs := v.items.map jAV) (H := H) hk (by simp) j_uni ⟨j_len, okv_j⟩ (by omega) (by omega) hlowJ
      rw [flats_strs] at cS
      repeat' (first | refine unhold ?_ | (simp -dsimp -implicitDefEqProofs (disch := (first | assumption | omega | (simp only [ll1, ll2, ll3, ll4, ll5, ll6, ll7, ll8]; omega))) only [go_sem, lk_k, hg0, hg1, hg2]) | refine acalls_same (hsr _) ?_ | refine ⟨_, hsr _, ?_⟩ | refine ⟨_, _, hsr _, ?_⟩ | refine acalls_same (Clone_s s_uni hns (by simp; omega)) ?_ | refine ⟨_, Clone_s s_uni hns (by simp; omega), ?_⟩ | refine ⟨_, _, Clone_s s_uni hns (by simp; omega), ?_⟩ | refine acalls_same (Clone_j j_uni hns2 (by simp; omega)) ?_ | refine ⟨_, Clone_j j_uni hns2 (by simp; omega), ?_⟩ | refine ⟨_, _, Clone_j j_uni hns2 (by simp; omega), ?_⟩ | refine acalls_same (cS _ _ (by simp; done)) ?_ | refine ⟨_, cS _ _ (by simp; done), ?_⟩ | refine ⟨_, _, cS _ _ (by simp; done), ?_⟩ | refine acalls_same (cJ _ _ (by simp; done)) ?_ | refine ⟨_, cJ _ _ (by simp; done), ?_⟩ | refine ⟨_, _, cJ _ _ (by simp; done), ?_⟩ | refine vcI (fun _ => ?_) (fun _ => ?_) | (refine vcA ?_ ?_; focus (repeat' (first | omega | assumption | refine vcA ?_ ?_); done)) | omega | refine imp_in (fun _ => ?_))
      rw [map_insert, map_insert]
      exact done_cut (jAV (.mk v.kind v.num v.text _ _)) (le_j (Le.refl _) (Le.refl _)) (low_jAV _) ⟨rfl, rfl⟩
end Go.Proofs.YtdahdbnfknmmgaaGreatDoor
end

section
set_option linter.unusedSimpArgs false
set_option linter.unusedVariables false
namespace Go.Proofs.YtdahdbnfknmmgaaGreatDoor
open Go V
set_option maxRecDepth 10000
set_option maxHeartbeats 4000000
theorem treeEnd_congr {k k' : JV → bytes → JV × bytes × Int} {e : UInt8} {v : JV} {r : bytes} {err : Int} (h : ∀ r4, r4.length < r.length → k v r4 = k' v r4) : treeEnd k e v r err = treeEnd k' e v r err := by
  unfold treeEnd
  split
  · rfl
  · cases skipW [e] (blanks r) with
    | some r4 => rfl
    | none =>
      cases hs : skipW [44] (blanks r) with
      | none => rfl
      | some r4 =>
        have h1 := skip_len hs
        have h2 := (suf_blanks (List.suffix_refl r)).length_le
        simp only [List.length_cons, List.length_nil] at h1
        exact h r4 (by omega)
theorem treeGo_fuel {f : bytes → JV × bytes × Int} {e : UInt8} (hf : ∀ r, (f r).2.1 <:+ r) : ∀ (n m : Nat) (v : JV) (r : bytes), r.length < n → r.length < m → treeGo f e n v r = treeGo f e m v r
  | 0, _, _, _, h, _ => by omega
  | _ + 1, 0, _, _, _, h => by omega
  | n + 1, m + 1, v, r, h1, h2 => by
    unfold treeGo
    have hn := (suf_name (v := v) (List.suffix_refl r)).length_le
    have hg := (hf (nameP v r).2.1).length_le
    have hg2 := (hf r).length_le
    split
    · split
      · rfl
      · exact treeEnd_congr fun r4 h => treeGo_fuel hf n m _ _ (by omega) (by omega)
    · exact treeEnd_congr fun r4 h => treeGo_fuel hf n m _ _ (by omega) (by omega)
def treeR (f : bytes → JV × bytes × Int) (e : UInt8) (v : JV) (r : bytes) : JV × bytes × Int := treeGo f e (r.length + 1) v r
theorem treeR_eq {f : bytes → JV × bytes × Int} {e : UInt8} (hf : ∀ r, (f r).2.1 <:+ r) (v : JV) (r : bytes) : treeR f e v r =
    if v.kind = 6 then
      if (nameP v r).2.2 ≠ 0 then (zeroJ, (nameP v r).2.1, (nameP v r).2.2)
      else treeEnd (treeR f e) e (jput v (nameP v r).1 (f (nameP v r).2.1).1) (f (nameP v r).2.1).2.1 (f (nameP v r).2.1).2.2
    else treeEnd (treeR f e) e (addJ v (f r).1) (f r).2.1 (f r).2.2 := by
  have hn := (suf_name (v := v) (List.suffix_refl r)).length_le
  have hg := (hf (nameP v r).2.1).length_le
  have hg2 := (hf r).length_le
  rw [treeR, treeGo]
  split
  · split
    · rfl
    · exact treeEnd_congr fun r4 h => treeGo_fuel hf _ _ _ _ (by omega) (by omega)
  · exact treeEnd_congr fun r4 h => treeGo_fuel hf _ _ _ _ (by omega) (by omega)
theorem suf_treeGo {f : bytes → JV × bytes × Int} {e : UInt8} (hf : ∀ r, (f r).2.1 <:+ r) : ∀ (n : Nat) (v : JV) (r : bytes), (treeGo f e n v r).2.1 <:+ r
  | 0, _, r => List.suffix_refl r
  | n + 1, v, r => by
    have hE : ∀ (v' : JV) (r2 : bytes) (err : Int), r2 <:+ r → (treeEnd (treeGo f e n) e v' r2 err).2.1 <:+ r := fun v' r2 err h => by
      unfold treeEnd
      split
      · exact suf_blanks h
      · cases hs : skipW [e] (blanks r2) with
        | some r4 => exact suf_skip (suf_blanks h) hs
        | none =>
          cases hs2 : skipW [44] (blanks r2) with
          | none => exact suf_blanks h
          | some r4 => exact (suf_treeGo hf n v' r4).trans (suf_skip (suf_blanks h) hs2)
    unfold treeGo
    split
    · split
      · exact suf_name (List.suffix_refl r)
      · exact hE _ _ _ ((hf _).trans (suf_name (List.suffix_refl r)))
    · exact hE _ _ _ (hf r)
theorem suf_treeP {f : bytes → JV × bytes × Int} {e : UInt8} (hf : ∀ r, (f r).2.1 <:+ r) {v : JV} {r t : bytes} (h : r <:+ t) : (treeP f e v r).2.1 <:+ t := by
  unfold treeP
  cases hs : skipW [e] (blanks r) with
  | some r2 => exact suf_skip (suf_blanks h) hs
  | none => exact (suf_treeGo hf _ _ _).trans (suf_blanks h)
theorem suf_leaf {r t : bytes} {x : JV × bytes × Int} (h : r <:+ t) (e : leafP r = some x) : x.2.1 <:+ t := by
  unfold leafP at e
  split at e
  · rename_i hs; cases e; exact suf_skip h hs
  · split at e
    · rename_i hs; cases e; exact suf_skip h hs
    · split at e
      · rename_i hs; cases e; exact suf_skip h hs
      · split at e
        · cases e; exact suf_quoted h
        · split at e
          · cases e; exact suf_num h
          · split at e
            · cases e; exact h
            · cases e
theorem suf_value : ∀ (n : Nat) (r : bytes), (valueP n r).2.1 <:+ r
  | 0, r => by
    unfold valueP
    have h := suf_blanks (List.suffix_refl r)
    cases e : leafP (blanks r) with
    | none => exact h
    | some x => exact suf_leaf h e
  | n + 1, r => by
    unfold valueP
    have h := suf_blanks (List.suffix_refl r)
    cases e : leafP (blanks r) with
    | some x => exact suf_leaf h e
    | none =>
      rw [Option.getD_none]
      split
      · exact suf_treeP (suf_value n) (suf_drop_n h 1)
      · exact suf_treeP (suf_value n) (suf_drop_n h 1)
theorem done_weak {H₀ H : List AObj} {R : AV → List AObj → Prop} {x y : AV} (h : Le x y) (hr : Done H₀ R y H) : Done H₀ R x H := by
  unfold Done at hr ⊢
  obtain ⟨z, H', he, hR⟩ := hr
  exact ⟨z, H', fun G₀ w₀ G w v h0 hi hs r => he G₀ w₀ G w v h0 hi hs (h _ _ _ _ r), hR⟩
/-- The state of a tree's loop. -/
structure TS where
  r : bytes
  v : JV
  e : Int
abbrev jCells (v : JV) : List AV := [.lit (.int .i64 v.kind), .lit (.int .i64 v.num), .str v.text, .sl .sh 1 (v.names.map .str), .sl .sh 5 (v.items.map jAV)]
abbrev zCells : List AV := [.lit (.int .i64 0), .lit (.int .i64 0), .str [], .sl .full 0 [], .sl .full 0 []]
theorem le_zero : Le (.agg zCells) (jAV zeroJ) := le_j (ns := []) (is := []) le_nil le_nil
theorem put_ok {v x : JV} {s : bytes} (h : objOk v) (hn : v.names.length < 20000) : objOk (jput v s x) ∧ (jput v s x).names.length ≤ v.names.length + 1 ∧ (jput v s x).kind = v.kind := by
  obtain ⟨h1, h2, h3⟩ := h
  have hp := pos_le v.names s
  by_cases hf : v.names[pos v.names s]? = some s
  · rw [jput_old hf]
    exact ⟨⟨by simp [JV.names, JV.items] at h1 ⊢; exact h1, h2, h3⟩, by show v.names.length ≤ _; omega, rfl⟩
  · rw [jput_new hf]
    have hl : (v.names.insertIdx (pos v.names s) s).length = v.names.length + 1 := List.length_insertIdx_of_le_length hp _
    have hl2 : (v.items.insertIdx (pos v.names s) x).length = v.items.length + 1 := List.length_insertIdx_of_le_length (by omega) _
    exact ⟨⟨by show (v.names.insertIdx _ _).length = (v.items.insertIdx _ _).length; omega, srt_insert h2 hf, by show (v.names.insertIdx _ _).length ≤ _; omega⟩, by show (v.names.insertIdx _ _).length ≤ _; omega, rfl⟩
/-- What a value's contract says. -/
def ValC (f : bytes → JV × bytes × Int) (t : bytes) (w : Int) : Prop := ∀ (k : Nat) (r : bytes) (H : List AObj), H[k]? = some (pObj t r 0) → r <:+ t →
  ACalls Tryz.prog 28 [.mp k 0, .lit (.int .i64 w)] H (fun x H' => x = jAV (f r).1 ∧ H' = H.set k (pObj t (f r).2.1 (f r).2.2))
def tObjs (t : bytes) (H : List AObj) (k : Nat) (y : TS) : List AObj := H.set k (pObj t y.r y.e) ++ [.cells (.one 29) (jCells y.v), .cells (.one 29) zCells]
theorem tree_o {f : bytes → JV × bytes × Int} {k : Nat} {t r : bytes} {H : List AObj} {w : Int} (hw : 0 ≤ w ∧ w ≤ 100) (hk : H[k]? = some (pObj t r 0)) (hs : r <:+ t) (hl : t.length ≤ 10000) (hf : ∀ r, (f r).2.1 <:+ r) (hval : ValC f t (w + 1)) :
    ACalls Tryz.prog 57 [.mp k 0, jAV objJ, .str [125], .lit (.int .i64 w)] H (fun x H' => x = jAV (treeP f 125 objJ r).1 ∧ H' = H.set k (pObj t (treeP f 125 objJ r).2.1 (treeP f 125 objJ r).2.2)) := by
  have hkl := lt_of_get hk
  have hs1 := suf_blanks hs
  have hrl := suf_len hs1
  cases hsk : skipW [125] (blanks r) with
  | some r2 =>
    have htp : treeP f 125 objJ r = (objJ, r2, 0) := by rw [treeP, hsk]
    rw [htp]
    refine acalls_vc L_ok mixed [5, 1000008, 1000008000005, 1000009, 1000009001005] (rs := [.cell 8 29]) (n := 78) Tryz.func57 rfl rfl rfl rfl (Nat.le_of_ble_eq_true rfl) (by kernel_rfl) ?_
    repeat' (first | refine unhold ?_ | (simp -dsimp -implicitDefEqProofs (disch := (first | assumption | omega | (simp only [ll1, ll2, ll3, ll4, ll5, ll6, ll7, ll8]; omega))) only [go_sem, lk_k hkl, st_k hkl, lk_b, st_b, lk_m, st_m, h_left hkl, h_setl hkl, hsk]) | refine acalls_same (blanks_c (by rw [h_left hkl]; exact hk) hs hl) ?_ | refine ⟨_, blanks_c (by rw [h_left hkl]; exact hk) hs hl, ?_⟩ | refine ⟨_, _, blanks_c (by rw [h_left hkl]; exact hk) hs hl, ?_⟩ | refine acalls_same (skip_c (w := [125]) (lk_k hkl) hs1 hl (by decide)) ?_ | refine ⟨_, skip_c (w := [125]) (lk_k hkl) hs1 hl (by decide), ?_⟩ | refine ⟨_, _, skip_c (w := [125]) (lk_k hkl) hs1 hl (by decide), ?_⟩ | refine vcI (fun _ => ?_) (fun _ => ?_) | (refine vcA ?_ ?_; focus (repeat' (first | omega | assumption | refine vcA ?_ ?_); done)) | omega | refine imp_in (fun _ => ?_))
    exact done_cut' (low_jAV _) rfl low_pObj ⟨rfl, rfl⟩
  | none =>
    have htp : treeP f 125 objJ r = treeR f 125 objJ (blanks r) := by rw [treeP, hsk]; rfl
    rw [htp]
    generalize hq : treeR f 125 objJ (blanks r) = q
    have hb1 : 0 + (blanks r).length ≤ t.length + 1 := by omega
    have hb2 : 0 + (blanks r).length ≤ t.length := by omega
    refine acalls_vc L_ok mixed [5, 1000008, 1000008000005, 1000009, 1000009001005] (rs := [.cell 8 29]) (n := 78) Tryz.func57 rfl rfl rfl rfl (Nat.le_of_ble_eq_true rfl) (by kernel_rfl) ?_
    repeat' (first | refine unhold ?_ | (simp -dsimp -implicitDefEqProofs (disch := (first | assumption | omega | (simp only [ll1, ll2, ll3, ll4, ll5, ll6, ll7, ll8]; omega))) only [go_sem, lk_k hkl, st_k hkl, lk_b, st_b, lk_m, st_m, h_left hkl, h_setl hkl, hsk]) | refine acalls_same (blanks_c (by rw [h_left hkl]; exact hk) hs hl) ?_ | refine ⟨_, blanks_c (by rw [h_left hkl]; exact hk) hs hl, ?_⟩ | refine ⟨_, _, blanks_c (by rw [h_left hkl]; exact hk) hs hl, ?_⟩ | refine acalls_same (skip_c (w := [125]) (lk_k hkl) hs1 hl (by decide)) ?_ | refine ⟨_, skip_c (w := [125]) (lk_k hkl) hs1 hl (by decide), ?_⟩ | refine ⟨_, _, skip_c (w := [125]) (lk_k hkl) hs1 hl (by decide), ?_⟩ | refine vcI (fun _ => ?_) (fun _ => ?_) | (refine vcA ?_ ?_; focus (repeat' (first | omega | assumption | refine vcA ?_ ?_); done)) | omega | refine imp_in (fun _ => ?_))
    refine vc_loopk L_ok mixed [5, 1000008, 1000008000005, 1000009, 1000009001005] [0, 2, 3, 5, 8] (fun y : TS => y.r <:+ t ∧ y.v.kind = 6 ∧ objOk y.v ∧ y.v.names.length + y.r.length ≤ t.length + 1 ∧ ((y.e = 0 ∧ y.v.names.length + y.r.length ≤ t.length ∧ treeR f 125 y.v y.r = q) ∨ (y.e ≠ 0 ∧ q = (zeroJ, y.r, y.e)))) (fun _ => []) (tObjs t H k) (fun y => if y.e = 0 then y.r.length + 1 else 0) (by kernel_rfl) ?_ ⟨blanks r, objJ, 0⟩ ⟨hs1, rfl, ⟨rfl, rfl, Nat.zero_le _⟩, hb1, .inl ⟨rfl, hb2, hq⟩⟩ env_ok rfl
    rintro ⟨r', v, e⟩ ⟨hs', hk6, hok, hnl, hst⟩
    dsimp only at hs' hk6 hok hnl hst ⊢
    have hrl' := suf_len hs'
    have hkc : (v.kind = 6) = True := eq_true hk6
    unfold tObjs
    dsimp only [jCells, zCells]
    rcases hst with ⟨rfl, hnl2, hq'⟩ | ⟨he, rfl⟩
    · rw [treeR_eq hf, if_pos hk6] at hq'
      have hn := name_c (t := t) (r := r') (H := H.set k (pObj t r' 0) ++ [.cells (.one 29) (jCells v), .cells (.one 29) zCells]) v (by have := hok.2.2; omega) (by have := hok.2.2; have := hok.1; omega) (lk_k hkl) hs' hl
      have hs2 := suf_name (v := v) hs'
      have hs2' := (suf_name (v := v) (List.suffix_refl r')).length_le
      generalize nameP v r' = nm at *
      obtain ⟨s, r2, e2⟩ := nm
      dsimp only at hn hs2 hs2' hq'
      by_cases he2 : e2 = 0
      · subst he2
        rw [if_neg (by simp)] at hq'
        have hv2 := fun H h => hval k r2 H h hs2
        have hs3 := (hf r2).trans hs2
        have hs3' := (hf r2).length_le
        generalize f r2 = vp at *
        obtain ⟨x, r3, e3⟩ := vp
        dsimp only at hv2 hs3 hs3' hq'
        have hs4 := suf_blanks hs3
        have hs4' := (suf_blanks (List.suffix_refl r3)).length_le
        obtain ⟨hok2, hnl3, hk62⟩ := put_ok (x := x) (s := s) hok (by omega)
        have hput := fun H => put_c v s x H hok
        generalize jput v s x = v2 at *
        by_cases he3 : e3 = 0
        · subst he3
          cases hk1 : skipW [125] (blanks r3) with
          | some r4 =>
            have hqq : q = (v2, r4, 0) := by rw [← hq', treeEnd, if_neg (by simp), hk1]
            subst hqq
            repeat' (first | refine unhold ?_ | (simp -dsimp -implicitDefEqProofs (disch := (first | assumption | omega | (simp only [ll1, ll2, ll3, ll4, ll5, ll6, ll7, ll8]; omega))) only [go_sem, lk_k hkl, st_k hkl, lk_b, st_b, lk_m, st_m, hkc, hk1]) | refine acalls_same (hn) ?_ | refine ⟨_, hn, ?_⟩ | refine ⟨_, _, hn, ?_⟩ | refine acalls_same (hv2 _ (lk_k hkl)) ?_ | refine ⟨_, hv2 _ (lk_k hkl), ?_⟩ | refine ⟨_, _, hv2 _ (lk_k hkl), ?_⟩ | refine acalls_same (hput _) ?_ | refine ⟨_, hput _, ?_⟩ | refine ⟨_, _, hput _, ?_⟩ | refine acalls_same (blanks_c (lk_k hkl) hs3 hl) ?_ | refine ⟨_, blanks_c (lk_k hkl) hs3 hl, ?_⟩ | refine ⟨_, _, blanks_c (lk_k hkl) hs3 hl, ?_⟩ | refine acalls_same (skip_c (w := [125]) (lk_k hkl) hs4 hl (by decide)) ?_ | refine ⟨_, skip_c (w := [125]) (lk_k hkl) hs4 hl (by decide), ?_⟩ | refine ⟨_, _, skip_c (w := [125]) (lk_k hkl) hs4 hl (by decide), ?_⟩ | refine vcI (fun _ => ?_) (fun _ => ?_) | (refine vcA ?_ ?_; focus (repeat' (first | omega | assumption | refine vcA ?_ ?_); done)) | omega | refine imp_in (fun _ => ?_))
            exact done_cut' (low_jAV _) rfl low_pObj ⟨rfl, rfl⟩
          | none =>
            cases hk2 : skipW [44] (blanks r3) with
            | some r4 =>
              have hqq : treeR f 125 v2 r4 = q := by rw [← hq', treeEnd, if_neg (by simp), hk1, hk2]
              have hl4 := skip_len hk2
              have hs5 := suf_skip hs4 hk2
              simp only [List.length_cons, List.length_nil] at hl4
              repeat' (first | refine unhold ?_ | (simp -dsimp -implicitDefEqProofs (disch := (first | assumption | omega | (simp only [ll1, ll2, ll3, ll4, ll5, ll6, ll7, ll8]; omega))) only [go_sem, lk_k hkl, st_k hkl, lk_b, st_b, lk_m, st_m, hkc, hk1, hk2]) | refine acalls_same (hn) ?_ | refine ⟨_, hn, ?_⟩ | refine ⟨_, _, hn, ?_⟩ | refine acalls_same (hv2 _ (lk_k hkl)) ?_ | refine ⟨_, hv2 _ (lk_k hkl), ?_⟩ | refine ⟨_, _, hv2 _ (lk_k hkl), ?_⟩ | refine acalls_same (hput _) ?_ | refine ⟨_, hput _, ?_⟩ | refine ⟨_, _, hput _, ?_⟩ | refine acalls_same (blanks_c (lk_k hkl) hs3 hl) ?_ | refine ⟨_, blanks_c (lk_k hkl) hs3 hl, ?_⟩ | refine ⟨_, _, blanks_c (lk_k hkl) hs3 hl, ?_⟩ | refine acalls_same (skip_c (w := [125]) (lk_k hkl) hs4 hl (by decide)) ?_ | refine ⟨_, skip_c (w := [125]) (lk_k hkl) hs4 hl (by decide), ?_⟩ | refine ⟨_, _, skip_c (w := [125]) (lk_k hkl) hs4 hl (by decide), ?_⟩ | refine acalls_same (skip_c (w := [44]) (lk_k hkl) hs4 hl (by decide)) ?_ | refine ⟨_, skip_c (w := [44]) (lk_k hkl) hs4 hl (by decide), ?_⟩ | refine ⟨_, _, skip_c (w := [44]) (lk_k hkl) hs4 hl (by decide), ?_⟩ | refine vcI (fun _ => ?_) (fun _ => ?_) | (refine vcA ?_ ?_; focus (repeat' (first | omega | assumption | refine vcA ?_ ?_); done)) | omega | refine imp_in (fun _ => ?_))
              refine again (⟨r4, v2, 0⟩) ?_ ?_ ?_ env_ok
              · simp
                omega
              · exact ⟨hs5, hk62.trans hk6, hok2, by dsimp only; omega, .inl ⟨rfl, by dsimp only; omega, hqq⟩⟩
              · rfl
            | none =>
              have hqq : q = (zeroJ, blanks r3, 2) := by rw [← hq', treeEnd, if_neg (by simp), hk1, hk2]
              subst hqq
              repeat' (first | refine unhold ?_ | (simp -dsimp -implicitDefEqProofs (disch := (first | assumption | omega | (simp only [ll1, ll2, ll3, ll4, ll5, ll6, ll7, ll8]; omega))) only [go_sem, lk_k hkl, st_k hkl, lk_b, st_b, lk_m, st_m, hkc, hk1, hk2]) | refine acalls_same (hn) ?_ | refine ⟨_, hn, ?_⟩ | refine ⟨_, _, hn, ?_⟩ | refine acalls_same (hv2 _ (lk_k hkl)) ?_ | refine ⟨_, hv2 _ (lk_k hkl), ?_⟩ | refine ⟨_, _, hv2 _ (lk_k hkl), ?_⟩ | refine acalls_same (hput _) ?_ | refine ⟨_, hput _, ?_⟩ | refine ⟨_, _, hput _, ?_⟩ | refine acalls_same (blanks_c (lk_k hkl) hs3 hl) ?_ | refine ⟨_, blanks_c (lk_k hkl) hs3 hl, ?_⟩ | refine ⟨_, _, blanks_c (lk_k hkl) hs3 hl, ?_⟩ | refine acalls_same (skip_c (w := [125]) (lk_k hkl) hs4 hl (by decide)) ?_ | refine ⟨_, skip_c (w := [125]) (lk_k hkl) hs4 hl (by decide), ?_⟩ | refine ⟨_, _, skip_c (w := [125]) (lk_k hkl) hs4 hl (by decide), ?_⟩ | refine acalls_same (skip_c (w := [44]) (lk_k hkl) hs4 hl (by decide)) ?_ | refine ⟨_, skip_c (w := [44]) (lk_k hkl) hs4 hl (by decide), ?_⟩ | refine ⟨_, _, skip_c (w := [44]) (lk_k hkl) hs4 hl (by decide), ?_⟩ | refine acalls_same (fail_c (lk_k hkl)) ?_ | refine ⟨_, fail_c (lk_k hkl), ?_⟩ | refine ⟨_, _, fail_c (lk_k hkl), ?_⟩ | refine vcI (fun _ => ?_) (fun _ => ?_) | (refine vcA ?_ ?_; focus (repeat' (first | omega | assumption | refine vcA ?_ ?_); done)) | omega | refine imp_in (fun _ => ?_))
              refine again (⟨blanks r3, v2, 2⟩) ?_ ?_ ?_ env_ok
              · simp
              · exact ⟨hs4, hk62.trans hk6, hok2, by dsimp only; omega, .inr ⟨by simp, rfl⟩⟩
              · rfl
        · have hqq : q = (zeroJ, blanks r3, e3) := by rw [← hq', treeEnd, if_pos he3]
          subst hqq
          repeat' (first | refine unhold ?_ | (simp -dsimp -implicitDefEqProofs (disch := (first | assumption | omega | (simp only [ll1, ll2, ll3, ll4, ll5, ll6, ll7, ll8]; omega))) only [go_sem, lk_k hkl, st_k hkl, lk_b, st_b, lk_m, st_m, hkc, he3]) | refine acalls_same (hn) ?_ | refine ⟨_, hn, ?_⟩ | refine ⟨_, _, hn, ?_⟩ | refine acalls_same (hv2 _ (lk_k hkl)) ?_ | refine ⟨_, hv2 _ (lk_k hkl), ?_⟩ | refine ⟨_, _, hv2 _ (lk_k hkl), ?_⟩ | refine acalls_same (hput _) ?_ | refine ⟨_, hput _, ?_⟩ | refine ⟨_, _, hput _, ?_⟩ | refine acalls_same (blanks_c (lk_k hkl) hs3 hl) ?_ | refine ⟨_, blanks_c (lk_k hkl) hs3 hl, ?_⟩ | refine ⟨_, _, blanks_c (lk_k hkl) hs3 hl, ?_⟩ | refine vcI (fun _ => ?_) (fun _ => ?_) | (refine vcA ?_ ?_; focus (repeat' (first | omega | assumption | refine vcA ?_ ?_); done)) | omega | refine imp_in (fun _ => ?_))
          refine again (⟨blanks r3, v2, e3⟩) ?_ ?_ ?_ env_ok
          · simp [he3]
          · exact ⟨hs4, hk62.trans hk6, hok2, by dsimp only; omega, .inr ⟨he3, rfl⟩⟩
          · rfl
      · have hqq : q = (zeroJ, r2, e2) := by rw [← hq', if_pos he2]
        subst hqq
        repeat' (first | refine unhold ?_ | (simp -dsimp -implicitDefEqProofs (disch := (first | assumption | omega | (simp only [ll1, ll2, ll3, ll4, ll5, ll6, ll7, ll8]; omega))) only [go_sem, lk_k hkl, st_k hkl, lk_b, st_b, lk_m, st_m, hkc, he2]) | refine acalls_same (hn) ?_ | refine ⟨_, hn, ?_⟩ | refine ⟨_, _, hn, ?_⟩ | refine vcI (fun _ => ?_) (fun _ => ?_) | (refine vcA ?_ ?_; focus (repeat' (first | omega | assumption | refine vcA ?_ ?_); done)) | omega | refine imp_in (fun _ => ?_))
        exact done_weak le_zero (done_cut' (low_jAV _) rfl low_pObj ⟨rfl, rfl⟩)
    · repeat' (first | refine unhold ?_ | (simp -dsimp -implicitDefEqProofs (disch := (first | assumption | omega | (simp only [ll1, ll2, ll3, ll4, ll5, ll6, ll7, ll8]; omega))) only [go_sem, lk_k hkl, st_k hkl, lk_b, st_b, lk_m, st_m, he]) | refine vcI (fun _ => ?_) (fun _ => ?_) | (refine vcA ?_ ?_; focus (repeat' (first | omega | assumption | refine vcA ?_ ?_); done)) | omega | refine imp_in (fun _ => ?_))
      exact done_weak le_zero (done_cut' (low_jAV _) rfl low_pObj ⟨rfl, rfl⟩)
end Go.Proofs.YtdahdbnfknmmgaaGreatDoor
end

section
set_option linter.unusedSimpArgs false
set_option linter.unusedVariables false
namespace Go.Proofs.YtdahdbnfknmmgaaGreatDoor
open Go V
set_option maxRecDepth 10000
abbrev Prs := List (bytes × JV)
def insP (s : bytes) (x : JV) : Prs → Prs
  | [] => [(s, x)]
  | p :: r => if lessB p.1 s = true then p :: insP s x r else if p.1 = s then (s, x) :: r else (s, x) :: p :: r
def ofP (v : JV) (l : Prs) : JV := .mk v.kind v.num v.text (l.map (·.1)) (l.map (·.2))
def prs (v : JV) : Prs := v.names.zip v.items
theorem ofP_prs {v : JV} (h : v.names.length = v.items.length) : ofP v (prs v) = v := by
  obtain ⟨k, n, t, ns, is⟩ := v
  simp only [JV.names, JV.items] at h
  simp only [ofP, prs, JV.kind, JV.num, JV.text, JV.names, JV.items]
  rw [List.map_fst_zip (by omega), List.map_snd_zip (by omega)]
theorem insP_map (s : bytes) (x : JV) : ∀ l : Prs, (if (l.map (·.1))[pos (l.map (·.1)) s]? = some s then (l.map (·.1), (l.map (·.2)).set (pos (l.map (·.1)) s) x) else ((l.map (·.1)).insertIdx (pos (l.map (·.1)) s) s, (l.map (·.2)).insertIdx (pos (l.map (·.1)) s) x)) = ((insP s x l).map (·.1), (insP s x l).map (·.2))
  | [] => by simp [insP, pos]
  | p :: r => by
    have ih := insP_map s x r
    rw [List.map_cons, List.map_cons, pos_cons, insP]
    by_cases h : lessB p.1 s = true
    · rw [if_pos h, if_pos h, List.getElem?_cons_succ, List.map_cons, List.map_cons, List.set_cons_succ, List.insertIdx_succ_cons, List.insertIdx_succ_cons]
      by_cases h2 : (r.map (·.1))[pos (r.map (·.1)) s]? = some s
      · rw [if_pos h2] at ih ⊢
        simp only [Prod.mk.injEq] at ih
        rw [← ih.1, ← ih.2]
      · rw [if_neg h2] at ih ⊢
        simp only [Prod.mk.injEq] at ih
        rw [← ih.1, ← ih.2]
    · rw [if_neg h, if_neg h, List.getElem?_cons_zero]
      by_cases h2 : p.1 = s
      · rw [if_pos (congrArg some h2), if_pos h2, List.map_cons, List.map_cons, List.set_cons_zero, h2]
      · rw [if_neg (fun e => h2 (Option.some.inj e)), if_neg h2, List.insertIdx_zero, List.insertIdx_zero]
        rfl
theorem jput_ofP (v : JV) (l : Prs) (s : bytes) (x : JV) : jput (ofP v l) s x = ofP v (insP s x l) := by
  have h := insP_map s x l
  by_cases h2 : (l.map (·.1))[pos (l.map (·.1)) s]? = some s
  · rw [if_pos h2] at h
    simp only [Prod.mk.injEq] at h
    rw [jput_old (v := ofP v l) h2]
    have : ofP v (insP s x l) = .mk v.kind v.num v.text ((insP s x l).map (·.1)) ((insP s x l).map (·.2)) := rfl
    rw [this, ← h.1, ← h.2]
    rfl
  · rw [if_neg h2] at h
    simp only [Prod.mk.injEq] at h
    rw [jput_new (v := ofP v l) h2]
    have : ofP v (insP s x l) = .mk v.kind v.num v.text ((insP s x l).map (·.1)) ((insP s x l).map (·.2)) := rfl
    rw [this, ← h.1, ← h.2]
    rfl
theorem jput_prs {v : JV} (h : v.names.length = v.items.length) (s : bytes) (x : JV) : jput v s x = ofP v (insP s x (prs v)) := by
  rw [← jput_ofP, ofP_prs h]
theorem less_ne {a b : bytes} (h : lessB a b = true) : ¬ a = b := lessB_ne h
theorem mem_ins {s : bytes} {x : JV} : ∀ {l : Prs} {t : bytes}, t ∈ (insP s x l).map (·.1) ↔ t = s ∨ t ∈ l.map (·.1)
  | [], t => by simp [insP]
  | p :: r, t => by
    rw [insP]
    split
    · rw [List.map_cons, List.mem_cons, mem_ins (l := r), List.map_cons, List.mem_cons]
      constructor
      · rintro (h | h | h)
        · exact .inr (.inl h)
        · exact .inl h
        · exact .inr (.inr h)
      · rintro (h | h | h)
        · exact .inr (.inl h)
        · exact .inl h
        · exact .inr (.inr h)
    · split
      · rename_i h
        rw [List.map_cons, List.mem_cons, List.map_cons, List.mem_cons, h]
        constructor
        · rintro (h | h)
          · exact .inl h
          · exact .inr (.inr h)
        · rintro (h | h | h)
          · exact .inl h
          · exact .inl h
          · exact .inr h
      · rw [List.map_cons, List.mem_cons]
theorem mem_ins2 {s : bytes} {x : JV} : ∀ {l : Prs} {y : JV}, y ∈ (insP s x l).map (·.2) → y = x ∨ y ∈ l.map (·.2)
  | [], y, h => by simp [insP] at h; exact .inl h
  | p :: r, y, h => by
    rw [insP] at h
    split at h
    · rw [List.map_cons, List.mem_cons] at h
      rcases h with h | h
      · exact .inr (by rw [List.map_cons, List.mem_cons]; exact .inl h)
      · rcases mem_ins2 h with h | h
        · exact .inl h
        · exact .inr (by rw [List.map_cons, List.mem_cons]; exact .inr h)
    · split at h
      · rw [List.map_cons, List.mem_cons] at h
        rcases h with h | h
        · exact .inl h
        · exact .inr (by rw [List.map_cons, List.mem_cons]; exact .inr h)
      · rw [List.map_cons, List.mem_cons] at h
        exact h
theorem srt_ins {s : bytes} {x : JV} : ∀ {l : Prs}, srt (l.map (·.1)) = true → srt ((insP s x l).map (·.1)) = true
  | [], _ => rfl
  | p :: r, h => by
    have h0 := h
    rw [List.map_cons] at h
    rw [insP]
    split
    · rename_i hl
      rw [List.map_cons]
      refine srt_cons (fun b hb => ?_) (srt_ins (srt_tail h))
      rcases mem_ins.1 hb with rfl | hb
      · exact hl
      · exact srt_head h b hb
    · rename_i hl
      split
      · rename_i he
        rw [List.map_cons]
        simp only
        rw [← he]
        exact h
      · rename_i he
        have h1 : lessB s p.1 = true := by
          cases e : lessB s p.1 with
          | true => rfl
          | false => exact absurd (lessB_tri (by simpa using hl) e) he
        rw [List.map_cons]
        refine srt_cons (fun b hb => ?_) h0
        rw [List.map_cons] at hb
        rcases List.mem_cons.1 hb with rfl | hb
        · exact h1
        · exact lessB_trans h1 (srt_head h b hb)
/-! How deep right trees are -/
theorem right_of {n : Nat} {v : JV} (h : rightJ n v = true) : oneJ v = true ∨ (0 < n ∧ manyJ v = true ∧ v.items.all (rightJ (n - 1)) = true) := by
  cases n with
  | zero => exact .inl h
  | succ n =>
    rw [rightJ, Bool.or_eq_true, Bool.and_eq_true] at h
    rcases h with h | h
    · exact .inl h
    · exact .inr ⟨Nat.succ_pos _, h.1, h.2⟩
theorem right_one {n : Nat} {v : JV} (h : oneJ v = true) : rightJ n v = true := by
  cases n with
  | zero => exact h
  | succ n => rw [rightJ, h]; rfl
theorem right_many {n : Nat} {v : JV} (h : manyJ v = true) (k : v.items.all (rightJ n) = true) : rightJ (n + 1) v = true := by
  rw [rightJ, h, k, Bool.and_self, Bool.or_true]
theorem many_kind {v : JV} (h : manyJ v = true) : v.kind = 5 ∨ v.kind = 6 := by
  unfold manyJ at h
  split at h
  · exact .inl (by assumption)
  · split at h
    · exact .inr (by assumption)
    · cases h
theorem one_kind {v : JV} (h : oneJ v = true) : ¬ (v.kind = 5 ∨ v.kind = 6) := by
  unfold oneJ at h
  intro hk
  split at h
  · omega
  · split at h
    · omega
    · split at h
      · omega
      · cases h
theorem right_up {n m : Nat} (hnm : n ≤ m) : ∀ v : JV, rightJ n v = true → rightJ m v = true := by
  induction n generalizing m with
  | zero => exact fun v h => right_one h
  | succ n ih =>
    intro v h
    rcases right_of h with h | ⟨_, h1, h2⟩
    · exact right_one h
    · obtain ⟨m, rfl⟩ : ∃ k, m = k + 1 := ⟨m - 1, by omega⟩
      refine right_many h1 (List.all_eq_true.2 fun x hx => ih (by omega) x (List.all_eq_true.1 h2 x hx))
theorem foldl_max_ge {m : Nat} : ∀ (l : List Nat) (a : Nat), m ≤ a ∨ m ∈ l → m ≤ l.foldl max a
  | [], a, h => by rcases h with h | h; exact h; cases h
  | b :: l, a, h => by
    refine foldl_max_ge l (max a b) ?_
    rcases h with h | h
    · exact .inl (by omega)
    · rcases List.mem_cons.1 h with rfl | h
      · exact .inl (by omega)
      · exact .inr h
theorem deep_item {m : Nat} {v x : JV} (hk : v.kind = 5 ∨ v.kind = 6) (hx : x ∈ v.items) : deepJ m x + 1 ≤ deepJ (m + 1) v := by
  rw [deepJ, if_pos hk]
  have := foldl_max_ge (m := deepJ m x) (v.items.map (deepJ m)) 0 (.inr (List.mem_map.2 ⟨x, hx, rfl⟩))
  omega
theorem deep_least {m k : Nat} {v : JV} (h : ∀ x ∈ v.items, deepJ m x ≤ k) : deepJ (m + 1) v ≤ k + 1 := by
  rw [deepJ]
  split
  · have := foldl_max_le (m := k) (v.items.map (deepJ m)) 0 (by omega) fun y hy => by
      obtain ⟨x, hx, rfl⟩ := List.mem_map.1 hy
      exact h x hx
    omega
  · omega
/-- A right tree that isn't deeper is right within more. -/
theorem right_deep : ∀ (m k : Nat) (n : Nat) (v : JV), rightJ n v = true → deepJ m v ≤ k → k < m → rightJ k v = true
  | 0, k, n, v, _, _, h3 => by omega
  | m + 1, k, n, v, h1, h2, h3 => by
    rcases right_of h1 with h | ⟨_, h4, h5⟩
    · exact right_one h
    · have hk := many_kind h4
      have hd : 1 ≤ deepJ (m + 1) v := by rw [deepJ, if_pos hk]; omega
      obtain ⟨k, rfl⟩ : ∃ j, k = j + 1 := ⟨k - 1, by omega⟩
      refine right_many h4 (List.all_eq_true.2 fun x hx => ?_)
      have := deep_item (m := m) hk hx
      exact right_deep m k (n - 1) x (List.all_eq_true.1 h5 x hx) (by omega) (by omega)
theorem deep_right : ∀ (k m : Nat) (v : JV), rightJ k v = true → deepJ m v ≤ k
  | k, 0, v, _ => Nat.zero_le _
  | k, m + 1, v, h => by
    rcases right_of h with h | ⟨h3, h4, h5⟩
    · rw [deepJ, if_neg (one_kind h)]; exact Nat.zero_le _
    · obtain ⟨k, rfl⟩ : ∃ j, k = j + 1 := ⟨k - 1, by omega⟩
      exact deep_least fun x hx => deep_right k m x (List.all_eq_true.1 h5 x hx)
/-! Right objects -/
theorem right_obj {n : Nat} {v : JV} (h : rightJ n v = true) (hk : v.kind = 6) : 0 < n ∧ v.num = 0 ∧ v.text = [] ∧ v.names.length = v.items.length ∧ v.names.all Lib.validD = true ∧ srt v.names = true ∧ v.items.all (rightJ (n - 1)) = true := by
  rcases right_of h with h | ⟨h3, h4, h5⟩
  · exact absurd (.inr hk) (one_kind h)
  · unfold manyJ at h4
    rw [if_neg (by omega), if_pos hk] at h4
    simp only [bareJ, namedJ, Bool.and_eq_true, decide_eq_true_eq] at h4
    exact ⟨h3, h4.1.1, h4.1.2, h4.2.1.1, h4.2.1.2, h4.2.2, h5⟩
theorem obj_right {n : Nat} {l : Prs} (h1 : ∀ s ∈ l.map (·.1), Lib.validD s = true) (h2 : srt (l.map (·.1)) = true) (h3 : ∀ x ∈ l.map (·.2), rightJ n x = true) : rightJ (n + 1) (ofP objJ l) = true := by
  refine right_many ?_ (List.all_eq_true.2 h3)
  unfold manyJ
  rw [if_neg (by show ¬ ((6 : Int) = 5); decide), if_pos (by rfl)]
  simp only [bareJ, namedJ, Bool.and_eq_true, decide_eq_true_eq]
  exact ⟨⟨rfl, rfl⟩, ⟨by simp [ofP, JV.names, JV.items], List.all_eq_true.2 h1⟩, h2⟩
theorem obj_is {n : Nat} {v : JV} (h : rightJ n v = true) (hk : v.kind = 6) : v = ofP objJ (prs v) := by
  obtain ⟨_, h1, h2, h3, _⟩ := right_obj h hk
  have := ofP_prs h3
  rw [ofP, hk, h1, h2] at this
  exact this.symm
theorem prs_names {v : JV} (h : v.names.length = v.items.length) : (prs v).map (·.1) = v.names := by
  unfold prs; rw [List.map_fst_zip (by omega)]
theorem prs_items {v : JV} (h : v.names.length = v.items.length) : (prs v).map (·.2) = v.items := by
  unfold prs; rw [List.map_snd_zip (by omega)]
theorem right_put {n : Nat} {v x : JV} {s : bytes} (h : rightJ (n + 1) v = true) (hk : v.kind = 6) (hx : rightJ n x = true) (hs : Lib.validD s = true) : rightJ (n + 1) (jput v s x) = true := by
  obtain ⟨_, h1, h2, h3, h4, h5, h6⟩ := right_obj h hk
  have hv := obj_is h hk
  rw [hv, jput_ofP]
  have hn := prs_names h3
  have hi := prs_items h3
  refine obj_right (fun t ht => ?_) (srt_ins (by rw [hn]; exact h5)) (fun y hy => ?_)
  · rcases mem_ins.1 ht with rfl | ht
    · exact hs
    · rw [hn] at ht; exact List.all_eq_true.1 h4 t ht
  · rcases mem_ins2 hy with rfl | hy
    · exact hx
    · rw [hi] at hy; exact List.all_eq_true.1 h6 y hy
/-! Sizes -/
def sumP (l : Prs) : Nat := (l.map fun p => nameW p.1 + sizeJ p.2).sum
theorem size_ofP (v : JV) (l : Prs) : sizeJ (ofP v l) = 1 + v.text.length + sumP l := by
  rw [sizeJ_eq, sizesJ_eq]
  show 1 + v.text.length + ((l.map (·.1)).map nameW).sum + ((l.map (·.2)).map sizeJ).sum = _
  have : ((l.map (·.1)).map nameW).sum + ((l.map (·.2)).map sizeJ).sum = sumP l := by
    unfold sumP
    induction l with
    | nil => rfl
    | cons p r ih => simp only [List.map_cons, List.sum_cons]; omega
  omega
theorem sumP_cons (p : bytes × JV) (r : Prs) : sumP (p :: r) = nameW p.1 + sizeJ p.2 + sumP r := by unfold sumP; rw [List.map_cons, List.sum_cons]
theorem sumP_ins (s : bytes) (x : JV) : ∀ l : Prs, sumP (insP s x l) ≤ nameW s + sizeJ x + sumP l
  | [] => by rw [insP, sumP_cons]; exact Nat.le_refl _
  | p :: r => by
    rw [insP]
    have := sumP_ins s x r
    split
    · rw [sumP_cons, sumP_cons]; omega
    · split
      · rw [sumP_cons, sumP_cons]; simp only; omega
      · rw [sumP_cons]; exact Nat.le_refl _
theorem size_prs {v : JV} (h : v.names.length = v.items.length) : sizeJ v = 1 + v.text.length + sumP (prs v) := by
  rw [← size_ofP, ofP_prs h]
theorem size_put {v : JV} (h : v.names.length = v.items.length) (s : bytes) (x : JV) : sizeJ (jput v s x) ≤ sizeJ v + nameW s + sizeJ x := by
  rw [jput_prs h, size_ofP, size_prs h]
  have := sumP_ins s x (prs v)
  omega
end Go.Proofs.YtdahdbnfknmmgaaGreatDoor
end

section
set_option linter.unusedSimpArgs false
set_option linter.unusedVariables false
namespace Go.Proofs.YtdahdbnfknmmgaaGreatDoor
open Go V
set_option maxRecDepth 10000
set_option maxHeartbeats 4000000
theorem Right_c {o : Own} (l : List UInt8) (H : List AObj) (hl : l.length ≤ 10000) : ACalls Tryz.prog 25 [.sl o 1 (l.map byteAV)] H (fun x H' => x = .bool (Lib.validD l) ∧ H' = H) := by
  refine acalls_vc L_ok mixed [] (rs := [.tmp 2]) (n := 5) Tryz.func25 rfl rfl rfl rfl (Nat.le_of_ble_eq_true rfl) (by kernel_rfl) ?_
  repeat' (first | refine unhold ?_ | (simp -dsimp -implicitDefEqProofs (disch := (first | assumption | omega | (simp only [ll1, ll2, ll3, ll4, ll5, ll6, ll7, ll8]; omega))) only [go_sem]) | refine acalls_same (Valid_c _ _ ?_) ?_ | refine ⟨_, Valid_c _ _ ?_, ?_⟩ | refine ⟨_, _, Valid_c _ _ ?_, ?_⟩ | refine vcI (fun _ => ?_) (fun _ => ?_) | (refine vcA ?_ ?_; focus (repeat' (first | omega | assumption | refine vcA ?_ ?_); done)) | omega | refine imp_in (fun _ => ?_))
  exact done_same ⟨rfl, rfl⟩
end Go.Proofs.YtdahdbnfknmmgaaGreatDoor
end

section
set_option linter.unusedSimpArgs false
set_option linter.unusedVariables false
namespace Go.Proofs.YtdahdbnfknmmgaaGreatDoor
open Go
theorem byteOf_n {i : Int} (h : 0 ≤ i ∧ i < 256) : (byteOf i).toNat = i.toNat := by have := byteOf_nat h; omega
theorem byteOf_eq {i : Int} {b : UInt8} (h : i = (b.toNat : Int)) : byteOf i = b := by
  subst h
  unfold byteOf
  rw [Int.toNat_natCast]
  simp
/-- The bytes of a rune are read as that rune. -/
theorem dec_enc1 {r : Int} (hr : isRune r = true) (m : List UInt8) : Lib.decodeL (enc1 r ++ m) = (r.toNat, (enc1 r).length) := by
  have hr' := of_decide_eq_true hr
  rw [Lib.decodeL_N]
  rcases Int.lt_or_le r 128 with h | h
  · rw [one_c1 h]
    simp only [List.cons_append, List.nil_append, List.getD_cons_zero, List.length_cons, List.length_nil]
    rw [byteOf_n (by omega), Lib.decodeN, if_pos (by omega)]
  rcases Int.lt_or_le r 2048 with h2 | h2
  · rw [one_c2 h h2]
    simp only [List.cons_append, List.nil_append, List.getD_cons_zero, List.getD_cons_succ, List.length_cons, List.length_nil]
    rw [byteOf_n (by omega), byteOf_n (by omega), Lib.decodeN, if_neg (by omega), if_pos (by omega), if_pos (by omega)]
    congr 1
    omega
  rcases Int.lt_or_le r 65536 with h3 | h3
  · rw [one_c3 h2 h3]
    simp only [List.cons_append, List.nil_append, List.getD_cons_zero, List.getD_cons_succ, List.length_cons, List.length_nil]
    rw [byteOf_n (by omega), byteOf_n (by omega), byteOf_n (by omega), Lib.decodeN, if_neg (by omega), if_neg (by omega), if_pos (by omega), if_pos (by omega)]
    congr 1
    omega
  · rw [one_c4 h3]
    simp only [List.cons_append, List.nil_append, List.getD_cons_zero, List.getD_cons_succ, List.length_cons, List.length_nil]
    rw [byteOf_n (by omega), byteOf_n (by omega), byteOf_n (by omega), byteOf_n (by omega), Lib.decodeN, if_neg (by omega), if_neg (by omega), if_neg (by omega), if_pos (by omega), if_pos (by omega)]
    congr 1
    omega
theorem take1 {l : List UInt8} (h : 0 < l.length) : l.take 1 = [l.getD 0 0] := by
  match l, h with
  | a :: r, _ => rfl
theorem take2 {l : List UInt8} (h : 1 < l.length) : l.take 2 = [l.getD 0 0, l.getD 1 0] := by
  match l, h with
  | a :: b :: r, _ => rfl
theorem take3 {l : List UInt8} (h : 2 < l.length) : l.take 3 = [l.getD 0 0, l.getD 1 0, l.getD 2 0] := by
  match l, h with
  | a :: b :: c :: r, _ => rfl
theorem take4 {l : List UInt8} (h : 3 < l.length) : l.take 4 = [l.getD 0 0, l.getD 1 0, l.getD 2 0, l.getD 3 0] := by
  match l, h with
  | a :: b :: c :: d :: r, _ => rfl
/-- What is read as a rune are the rune's bytes. -/
theorem enc_dec1 {l : List UInt8} (hl : l ≠ []) (hg : ¬ ((Lib.decodeL l).1 = 65533 ∧ (Lib.decodeL l).2 = 1)) : isRune ((Lib.decodeL l).1 : Int) = true ∧ enc1 ((Lib.decodeL l).1 : Int) = l.take (Lib.decodeL l).2 ∧ (Lib.decodeL l).2 ≤ 4 := by
  have hp := List.length_pos_iff.2 hl
  have b0 := (l.getD 0 0).toNat_lt
  have b1 := (l.getD 1 0).toNat_lt
  have b2 := (l.getD 2 0).toNat_lt
  have b3 := (l.getD 3 0).toNat_lt
  rw [Lib.decodeL_N] at hg ⊢
  unfold Lib.decodeN at hg ⊢
  split
  · rename_i h
    simp only
    refine ⟨decide_eq_true (by omega), ?_, by omega⟩
    rw [one_c1 (by omega), take1 hp]
    congr 1
    exact byteOf_eq (by omega)
  rename_i h0
  rw [if_neg h0] at hg
  split
  · rename_i h
    rw [if_pos h] at hg
    split
    · rename_i h2
      simp only
      refine ⟨decide_eq_true (by omega), ?_, by omega⟩
      rw [one_c2 (by omega) (by omega), take2 (by omega)]
      congr 1
      · exact byteOf_eq (by omega)
      · congr 1; exact byteOf_eq (by omega)
    · rename_i h2
      rw [if_neg h2] at hg
      exact absurd ⟨rfl, rfl⟩ hg
  rename_i h1
  rw [if_neg h1] at hg
  split
  · rename_i h
    rw [if_pos h] at hg
    split
    · rename_i h2
      simp only
      refine ⟨decide_eq_true (by omega), ?_, by omega⟩
      rw [one_c3 (by omega) (by omega), take3 (by omega)]
      congr 1
      · exact byteOf_eq (by omega)
      congr 1
      · exact byteOf_eq (by omega)
      · congr 1; exact byteOf_eq (by omega)
    · rename_i h2
      rw [if_neg h2] at hg
      exact absurd ⟨rfl, rfl⟩ hg
  rename_i h2
  rw [if_neg h2] at hg
  split
  · rename_i h
    rw [if_pos h] at hg
    split
    · rename_i h3
      simp only
      refine ⟨decide_eq_true (by omega), ?_, by omega⟩
      rw [one_c4 (by omega), take4 (by omega)]
      congr 1
      · exact byteOf_eq (by omega)
      congr 1
      · exact byteOf_eq (by omega)
      congr 1
      · exact byteOf_eq (by omega)
      · congr 1; exact byteOf_eq (by omega)
    · rename_i h3
      rw [if_neg h3] at hg
      exact absurd ⟨rfl, rfl⟩ hg
  · rename_i h3
    rw [if_neg h3] at hg
    exact absurd ⟨rfl, rfl⟩ hg
theorem enc1_ne (r : Int) : enc1 r ≠ [] := by
  unfold enc1
  repeat' split
  all_goals simp
theorem dec_enc : ∀ (l : List Int), encOk l = true → Lib.validD (encL l) = true ∧ runesOf (encL l) = l
  | [], _ => ⟨rfl, rfl⟩
  | r :: l, h => by
    simp only [encOk, List.all_cons, Bool.and_eq_true] at h
    obtain ⟨h1, h2⟩ := dec_enc l h.2
    have e : encL (r :: l) = enc1 r ++ encL l := rfl
    have hne : enc1 r ++ encL l ≠ [] := by simp [enc1_ne]
    have hd := dec_enc1 h.1 (encL l)
    have hr' := of_decide_eq_true h.1
    rw [e]
    constructor
    · rw [Lib.validD_step _ hne, hd, if_neg ?_]
      · rw [List.drop_left]; exact h1
      · simp only
        intro ⟨h3, h4⟩
        have : r = 65533 := by omega
        subst this
        revert h4
        decide
    · rw [runesOf_step hne, hd]
      simp only
      rw [List.drop_left, h2, Int.toNat_of_nonneg (by omega)]
theorem enc_dec : ∀ (n : Nat) (b : List UInt8), b.length ≤ n → Lib.validD b = true → encOk (runesOf b) = true ∧ encL (runesOf b) = b
  | _, [], _, _ => ⟨rfl, rfl⟩
  | 0, _ :: _, h, _ => by simp at h
  | n + 1, x :: b, h, hv => by
    have hne : x :: b ≠ [] := by simp
    rw [Lib.validD_step _ hne] at hv
    split at hv
    · cases hv
    · rename_i hg
      obtain ⟨h1, h2, h3⟩ := enc_dec1 hne hg
      have hw := Lib.decodeL_width (x :: b)
      obtain ⟨i1, i2⟩ := enc_dec n ((x :: b).drop (Lib.decodeL (x :: b)).2) (by rw [List.length_drop]; simp only [List.length_cons] at h ⊢; omega) hv
      rw [runesOf_step hne]
      constructor
      · unfold encOk at i1 ⊢
        rw [List.all_cons, h1, i1]; rfl
      · show enc1 _ ++ encL _ = _
        rw [i2, h2, List.take_append_drop]
end Go.Proofs.YtdahdbnfknmmgaaGreatDoor
end

section
set_option linter.unusedSimpArgs false
set_option linter.unusedVariables false
namespace Go.Proofs.YtdahdbnfknmmgaaGreatDoor
open Go V
set_option maxRecDepth 10000
set_option maxHeartbeats 4000000
theorem enc1_hi {r : Int} (hr : isRune r = true) (h : 128 ≤ r) : ∀ b ∈ enc1 r, 128 ≤ b.toNat := by
  have hr' := of_decide_eq_true hr
  intro b hb
  rcases Int.lt_or_le r 2048 with h2 | h2
  · rw [one_c2 h h2] at hb
    simp only [List.mem_cons, List.not_mem_nil, or_false] at hb
    rcases hb with rfl | rfl <;> rw [byteOf_n (by omega)] <;> omega
  · rcases Int.lt_or_le r 65536 with h3 | h3
    · rw [one_c3 h2 h3] at hb
      simp only [List.mem_cons, List.not_mem_nil, or_false] at hb
      rcases hb with rfl | rfl | rfl <;> rw [byteOf_n (by omega)] <;> omega
    · rw [one_c4 h3] at hb
      simp only [List.mem_cons, List.not_mem_nil, or_false] at hb
      rcases hb with rfl | rfl | rfl | rfl <;> rw [byteOf_n (by omega)] <;> omega
theorem encL_app (a b : List Int) : encL (a ++ b) = encL a ++ encL b := List.flatMap_append
theorem valid_runes {b : bytes} (h : Lib.validD b = true) : ∃ rs, encOk rs = true ∧ encL rs = b := ⟨_, enc_dec b.length b (Nat.le_refl _) h⟩
theorem valid_cat {a b : bytes} (ha : Lib.validD a = true) (hb : Lib.validD b = true) : Lib.validD (a ++ b) = true := by
  obtain ⟨x, hx, rfl⟩ := valid_runes ha
  obtain ⟨y, hy, rfl⟩ := valid_runes hb
  rw [← encL_app]
  exact (dec_enc _ (by unfold encOk at *; rw [List.all_append, hx, hy]; rfl)).1
theorem valid_one {r : Int} (h : isRune r = true) : Lib.validD (enc1 r) = true := by
  have := (dec_enc [r] (by simp [encOk, h])).1
  simpa [encL] using this
theorem split_asc {c : UInt8} (hc : c.toNat < 128) : ∀ (rs : List Int) (a b : bytes), encOk rs = true → encL rs = a ++ c :: b → Lib.validD a = true ∧ Lib.validD b = true
  | [], a, b, _, h => by simp [encL] at h
  | r :: rs, a, b, hk, h => by
    simp only [encOk, List.all_cons, Bool.and_eq_true] at hk
    have hk2 : encOk rs = true := hk.2
    have h' : enc1 r ++ encL rs = a ++ c :: b := h
    rcases List.append_eq_append_iff.1 h' with ⟨m, h1, h2⟩ | ⟨m, h1, h2⟩
    · obtain ⟨i1, i2⟩ := split_asc hc rs m b hk2 h2
      rw [h1]
      exact ⟨valid_cat (valid_one hk.1) i1, i2⟩
    · cases m with
      | nil =>
        rw [List.append_nil] at h1
        obtain ⟨i1, i2⟩ := split_asc hc rs [] b hk2 h2.symm
        rw [← h1]
        exact ⟨valid_one hk.1, i2⟩
      | cons d m =>
        simp only [List.cons_append, List.cons.injEq] at h2
        obtain ⟨rfl, rfl⟩ := h2
        have hm : c ∈ enc1 r := by rw [h1]; simp
        rcases Int.lt_or_le r 128 with hlt | hge
        · rw [one_c1 hlt] at h1
          cases a with
          | nil =>
            simp only [List.nil_append, List.cons.injEq] at h1
            obtain ⟨_, rfl⟩ := h1
            exact ⟨rfl, (dec_enc rs hk2).1⟩
          | cons x a => simp at h1
        · have := enc1_hi hk.1 hge c hm
          omega
theorem valid_cut {c : UInt8} (hc : c.toNat < 128) {a b : bytes} (h : Lib.validD (a ++ c :: b) = true) : Lib.validD a = true ∧ Lib.validD b = true := by
  obtain ⟨rs, h1, h2⟩ := valid_runes h
  exact split_asc hc rs a b h1 h2
theorem skip_app {w r r2 : bytes} (h : skipW w r = some r2) : r = w ++ r2 := by
  unfold skipW at h
  split at h
  · rename_i hp
    cases h
    obtain ⟨t, rfl⟩ := List.isPrefixOf_iff_prefix.1 hp
    rw [List.drop_left]
  · cases h
theorem valid_wd {w r : bytes} (hw : ∀ b ∈ w, b.toNat < 128) : Lib.validD (w ++ r) = Lib.validD r := by
  have := Lib.validD_ascii w.length (w ++ r) (by rw [List.take_left]; exact hw)
  rwa [List.drop_left] at this
theorem valid_skipW {w r r2 : bytes} (hw : ∀ b ∈ w, b.toNat < 128) (h : skipW w r = some r2) (hr : Lib.validD r = true) : Lib.validD r2 = true := by
  rw [skip_app h, valid_wd hw] at hr
  exact hr
theorem valid_dropA {r : bytes} {n : Nat} (hw : ∀ b ∈ r.take n, b.toNat < 128) (hr : Lib.validD r = true) : Lib.validD (r.drop n) = true := by
  rw [Lib.validD_ascii n r hw] at hr
  exact hr
theorem hex_asc {c : UInt8} (h : isHex c = true) : c.toNat < 128 := by
  unfold isHex hexV at h
  split at h
  · omega
  · split at h
    · omega
    · split at h
      · omega
      · cases h
theorem valid_unit {r : bytes} (hr : Lib.validD r = true) : Lib.validD (unitP r).2.2 = true := by
  unfold unitP
  split
  · exact hr
  · split
    · rename_i h
      exact valid_dropA (fun b hb => hex_asc (List.all_eq_true.1 h b hb)) hr
    · exact hr
theorem valid_low {h : Int} {r : bytes} (hr : Lib.validD r = true) : Lib.validD (lowP h r).2.2 = true := by
  unfold lowP
  cases e : skipW [92, 117] r with
  | none => exact hr
  | some r2 => exact valid_unit (valid_skipW (by decide) e hr)
theorem valid_rune {r : bytes} (hr : Lib.validD r = true) : Lib.validD (runeP r).2.2 = true := by
  unfold runeP
  split
  · exact valid_low (valid_unit hr)
  · exact valid_unit hr
theorem sign_valid : ∀ i : Fin 8, Lib.validD [escBytes.getD i.val 0] = true := by decide +kernel
theorem sign_asc : ∀ c ∈ escSigns, c.toNat < 128 := by decide
theorem peek_cons {r : bytes} (h : peek r ≠ 0) : r = peek r :: r.drop 1 := by
  cases r with
  | nil => exact absurd rfl h
  | cons c r => rfl
theorem valid_peek {r : bytes} (h0 : peek r ≠ 0) (h : (peek r).toNat < 128) (hr : Lib.validD r = true) : Lib.validD (r.drop 1) = true := by
  rw [peek_cons h0, Lib.validD_cons _ _ h] at hr
  exact hr
theorem esc_good {r : bytes} (hr : Lib.validD r = true) (he : (escP r).2.1 = 0) : Lib.validD (escP r).1 = true ∧ Lib.validD (escP r).2.2 = true ∧ (escP r).1.length + (escP r).2.2.length ≤ r.length := by
  rw [escP_eq] at he ⊢
  by_cases hi : escSigns.idxOf (peek r) < 8
  · rw [if_pos hi]
    have hne := signs_ne hi
    have hm : peek r ∈ escSigns := List.idxOf_lt_length_iff.1 hi
    have h0 : peek r ≠ 0 := by intro e; rw [e] at hm; revert hm; decide
    refine ⟨sign_valid ⟨_, hi⟩, valid_peek h0 (sign_asc _ hm) hr, ?_⟩
    have := List.length_pos_iff.2 hne
    simp only [List.length_cons, List.length_nil, List.length_drop]
    omega
  · rw [if_neg hi] at he ⊢
    cases hw : skipW [117] r with
    | none => rw [hw] at he; simp at he
    | some r2 =>
      rw [hw] at he
      simp only at he ⊢
      have h1 := skip_len hw
      have hr2 := valid_skipW (by decide) hw hr
      unfold escU at he ⊢
      split at he
      · rename_i hu
        rw [if_pos hu]
        refine ⟨valid_one (rune_ok hu), valid_rune hr2, ?_⟩
        have h2 := enc1_len (runeP r2).1
        have h3 : (runeP r2).2.2.length + 4 ≤ r2.length := by
          have hun : ∀ s : bytes, (unitP s).2.1 = true → (unitP s).2.2.length + 4 ≤ s.length := fun s hs => by
            unfold unitP at hs ⊢
            split at hs
            · cases hs
            · rename_i hl
              rw [if_neg hl]
              split at hs
              · rename_i hx
                rw [if_pos hx]
                simp only [List.length_drop]
                omega
              · cases hs
          unfold runeP at hu ⊢
          split at hu
          · rename_i hh
            rw [if_pos hh]
            rw [Bool.and_eq_true] at hh
            have := hun r2 hh.1
            have := (suf_low (h := (unitP r2).1) (List.suffix_refl (unitP r2).2.2)).length_le
            omega
          · rename_i hh
            rw [if_neg hh]
            exact hun r2 hu
        simp only [List.length_cons, List.length_nil] at h1
        simp only
        omega
      · cases he
theorem quotedR_good (r o : bytes) : Lib.validD (o ++ r) = true → (quotedR r o).2.2 = 0 → Lib.validD (quotedR r o).1 = true ∧ Lib.validD (quotedR r o).2.1 = true ∧ (quotedR r o).1.length + (quotedR r o).2.1.length + 1 ≤ o.length + r.length := by
  refine quotedGo_ind (fun r o x => Lib.validD (o ++ r) = true → x.2.2 = 0 → Lib.validD x.1 = true ∧ Lib.validD x.2.1 = true ∧ x.1.length + x.2.1.length + 1 ≤ o.length + r.length) ?_ ?_ ?_ ?_ ?_ (r.length + 1) r o (Nat.lt_succ_self _)
  · intro r o _ _ h; cases h
  · intro r o h hv _
    have hc := peek_cons (r := r) (by rw [h]; decide)
    have hl := congrArg List.length hc
    rw [hc] at hv
    obtain ⟨h1, h2⟩ := valid_cut (by rw [h]; decide) hv
    simp only [List.length_cons] at hl
    exact ⟨h1, h2, by simp only; omega⟩
  · intro r o _ h _ h2
    exact absurd h2 h
  · intro r o x h he ih hv hx
    have hc := peek_cons (r := r) (by rw [h]; decide)
    have hl := congrArg List.length hc
    rw [hc] at hv
    obtain ⟨h1, h2⟩ := valid_cut (by rw [h]; decide) hv
    obtain ⟨h3, h4, h5⟩ := esc_good h2 he
    obtain ⟨h6, h7, h8⟩ := ih (valid_cat (valid_cat h1 h3) h4) hx
    refine ⟨h6, h7, ?_⟩
    simp only [List.length_cons] at hl
    rw [List.length_append] at h8
    omega
  · intro r o x h1 h2 h3 ih hv hx
    have hc := peek_cons (r := r) (by intro e; rw [e] at h1; revert h1; decide)
    have hl := congrArg List.length hc
    simp only [List.length_cons] at hl
    obtain ⟨h6, h7, h8⟩ := ih (by rw [List.append_assoc, List.singleton_append, ← hc]; exact hv) hx
    refine ⟨h6, h7, ?_⟩
    rw [List.length_append] at h8
    simp only [List.length_cons, List.length_nil] at h8
    omega
theorem quoted_good {r : bytes} (hr : Lib.validD r = true) (he : (quotedP r).2.2 = 0) : Lib.validD (quotedP r).1 = true ∧ Lib.validD (quotedP r).2.1 = true ∧ (quotedP r).1.length + (quotedP r).2.1.length + 2 ≤ r.length := by
  rw [quotedP_eq] at he ⊢
  by_cases h : peek r = 34
  · rw [if_pos h] at he ⊢
    have hc := peek_cons (r := r) (by rw [h]; decide)
    have hl := congrArg List.length hc
    simp only [List.length_cons] at hl
    obtain ⟨h1, h2, h3⟩ := quotedR_good (r.drop 1) [] (valid_peek (by rw [h]; decide) (by rw [h]; decide) hr) he
    exact ⟨h1, h2, by simp only [List.length_nil] at h3; omega⟩
  · rw [if_neg h] at he
    cases he
theorem blank_asc {c : UInt8} (h : isBlank c = true) : c.toNat < 128 := by
  unfold isBlank at h
  simp only [Bool.or_eq_true, beq_iff_eq] at h
  rcases h with ((rfl | rfl) | rfl) | rfl <;> decide
theorem valid_blanks : ∀ {r : bytes}, Lib.validD r = true → Lib.validD (blanks r) = true
  | [], h => h
  | c :: r, h => by
    unfold blanks
    rw [List.dropWhile_cons]
    split
    · rename_i hb
      rw [Lib.validD_cons _ _ (blank_asc hb)] at h
      exact valid_blanks h
    · exact h
theorem blanks_len (r : bytes) : (blanks r).length ≤ r.length := (List.dropWhile_suffix isBlank).length_le
theorem digit_asc {c : UInt8} (h : isDigit c = true) : c.toNat < 128 := by
  have := of_decide_eq_true h
  omega
theorem num_take {r : bytes} : ∀ b ∈ r.take (numLen r), b.toNat < 128 := fun b hb => by
  obtain ⟨j, hj, rfl⟩ := List.mem_iff_getElem.1 hb
  have hj2 := hj
  rw [List.length_take] at hj2
  have h := numLen_digit (r := r) (j := j) (by omega)
  have h2 := take_getD (r := r) (n := numLen r) (j := j) (by omega)
  rw [← h2, List.getD, List.getElem?_eq_getElem hj] at h
  exact digit_asc h
theorem numGo_good {b : Bool} {r : bytes} (hr : Lib.validD r = true) (he : (numGo b r).2.2 = 0) : -9007199254740991 ≤ (numGo b r).1 ∧ (numGo b r).1 ≤ 9007199254740991 ∧ Lib.validD (numGo b r).2.1 = true ∧ (numGo b r).2.1.length + 1 ≤ r.length := by
  unfold numGo at he ⊢
  have hl := numLen_le r
  split at he
  · cases he
  · rename_i h1
    rw [if_neg h1]
    split at he
    · cases he
    · rename_i h2
      rw [if_neg h2]
      refine ⟨?_, ?_, valid_dropA num_take hr, ?_⟩
      · cases b <;> simp <;> omega
      · cases b <;> simp <;> omega
      · simp only [List.length_drop]
        omega
theorem num_good {r : bytes} (hr : Lib.validD r = true) (he : (numP r).2.2 = 0) : -9007199254740991 ≤ (numP r).1 ∧ (numP r).1 ≤ 9007199254740991 ∧ Lib.validD (numP r).2.1 = true ∧ (numP r).2.1.length + 1 ≤ r.length := by
  unfold numP at he ⊢
  cases h : skipW [45] r with
  | none => rw [h] at he; exact numGo_good hr he
  | some r2 =>
    rw [h] at he
    have h1 := skip_len h
    obtain ⟨h2, h3, h4, h5⟩ := numGo_good (valid_skipW (by decide) h hr) he
    simp only [List.length_cons, List.length_nil] at h1
    exact ⟨h2, h3, h4, by simp only; omega⟩
/-- What is good about a tree that was read, and what is left. -/
def Good (n : Nat) (r : bytes) (x : JV × bytes × Int) : Prop := x.2.2 = 0 → rightJ n x.1 = true ∧ Lib.validD x.2.1 = true ∧ sizeJ x.1 + x.2.1.length ≤ r.length
theorem one_right (n : Nat) {k : Int} (h : k = 0 ∨ k = 1 ∨ k = 2) : rightJ n (.mk k 0 [] [] []) = true := right_one (by
  rcases h with rfl | rfl | rfl <;> rfl)
theorem leaf_good {n : Nat} {r : bytes} {x : JV × bytes × Int} (hr : Lib.validD r = true) (h : leafP r = some x) : Good n r x := by
  have hw : ∀ (w r2 : bytes) (k : Int), (∀ b ∈ w, b.toNat < 128) → 1 ≤ w.length → skipW w r = some r2 → (k = 0 ∨ k = 1 ∨ k = 2) → Good n r (.mk k 0 [] [] [], r2, 0) := fun w r2 k h1 h2 h3 h4 _ => by
    have h5 := skip_len h3
    refine ⟨one_right n h4, valid_skipW h1 h3 hr, ?_⟩
    show 1 + 0 + 0 + sizesJ [] + r2.length ≤ r.length
    rw [sizesJ]
    omega
  unfold leafP at h
  split at h
  · rename_i r2 hs
    cases h
    exact hw _ _ 0 (by decide) (by decide) hs (.inl rfl)
  · split at h
    · rename_i r2 hs
      cases h
      exact hw _ _ 1 (by decide) (by decide) hs (.inr (.inl rfl))
    · split at h
      · rename_i r2 hs
        cases h
        exact hw _ _ 2 (by decide) (by decide) hs (.inr (.inr rfl))
      · split at h
        · cases h
          intro he
          obtain ⟨h1, h2, h3⟩ := quoted_good hr he
          refine ⟨right_one ?_, h2, ?_⟩
          · unfold oneJ
            rw [if_neg (by show ¬ ((4 : Int) = 0 ∨ (4 : Int) = 1 ∨ (4 : Int) = 2); decide), if_neg (by show ¬ ((4 : Int) = 3); decide), if_pos (by rfl)]
            show (leafJ (.mk 4 0 _ [] []) && decide ((0 : Int) = 0) && Lib.validD (quotedP r).1) = true
            rw [h1]
            rfl
          · show 1 + (quotedP r).1.length + 0 + sizesJ [] + _ ≤ _
            rw [sizesJ]
            simp only
            omega
        · split at h
          · cases h
            intro he
            obtain ⟨h1, h2, h3, h4⟩ := num_good hr he
            refine ⟨right_one ?_, h3, ?_⟩
            · unfold oneJ
              rw [if_neg (by show ¬ ((3 : Int) = 0 ∨ (3 : Int) = 1 ∨ (3 : Int) = 2); decide), if_pos (by rfl)]
              show (leafJ (.mk 3 _ [] [] []) && decide (([] : bytes) = []) && decide (-9007199254740991 ≤ (numP r).1 ∧ (numP r).1 ≤ 9007199254740991)) = true
              simp [leafJ, JV.names, JV.items, h1, h2]
            · show 1 + 0 + 0 + sizesJ [] + _ ≤ _
              rw [sizesJ]
              simp only
              omega
          · split at h
            · cases h
              intro he
              cases he
            · cases h
theorem name_good {v : JV} {r : bytes} (hr : Lib.validD r = true) (he : (nameP v r).2.2 = 0) : Lib.validD (nameP v r).1 = true ∧ Lib.validD (nameP v r).2.1 = true ∧ (nameP v r).1.length + (nameP v r).2.1.length + 3 ≤ r.length := by
  rw [nameP_eq] at he ⊢
  have hb := valid_blanks hr
  have hbl := blanks_len r
  generalize hq : quotedP (blanks r) = q at *
  have hg := quoted_good (r := blanks r) hb
  rw [hq] at hg
  have h0 : q.2.2 = 0 := by
    refine Classical.byContradiction fun hq0 => ?_
    rw [if_neg (c := (jget v q.1).isSome = true ∧ q.2.2 = 0) (fun k => hq0 k.2)] at he
    rw [if_neg hq0] at he
    cases h2 : skipW [58] (blanks q.2.1) with
    | none => rw [h2] at he; exact hq0 he
    | some r4 => rw [h2] at he; exact hq0 he
  obtain ⟨h1, h2, h3⟩ := hg h0
  have hbl2 := blanks_len q.2.1
  cases h4 : skipW [58] (blanks q.2.1) with
  | none =>
    rw [h4] at he
    generalize (if (jget v q.1).isSome = true ∧ q.2.2 = 0 then (6 : Int) else q.2.2) = e at he
    simp only at he
    by_cases h3 : e = 0
    · rw [if_pos h3] at he; cases he
    · rw [if_neg h3] at he; exact absurd he h3
  | some r4 =>
    have h5 := skip_len h4
    simp only [List.length_cons, List.length_nil] at h5
    exact ⟨h1, valid_skipW (by decide) h4 (valid_blanks h2), by simp only; omega⟩
theorem size_add (v x : JV) : sizeJ (addJ v x) = sizeJ v + sizeJ x := by
  rw [sizeJ_eq, sizeJ_eq v, sizesJ_eq, sizesJ_eq]
  show 1 + v.text.length + (v.names.map nameW).sum + ((v.items ++ [x]).map sizeJ).sum = _
  rw [List.map_append, List.sum_append]
  simp
  omega
theorem right_add {n : Nat} {v x : JV} (hk : v.kind = 5) (h : rightJ (n + 1) v = true) (hx : rightJ n x = true) : rightJ (n + 1) (addJ v x) = true := by
  rcases right_of h with h | ⟨_, h1, h2⟩
  · exact absurd (.inl hk) (one_kind h)
  · refine right_many ?_ ?_
    · unfold manyJ at h1 ⊢
      rw [if_pos hk] at h1
      rw [if_pos (show (addJ v x).kind = 5 from hk)]
      exact h1
    · show (v.items ++ [x]).all (rightJ n) = true
      rw [List.all_append, Bool.and_eq_true]
      exact ⟨h2, by simp [hx]⟩
def GoodT (n : Nat) (v : JV) (r : bytes) (x : JV × bytes × Int) : Prop := x.2.2 = 0 → rightJ n x.1 = true ∧ Lib.validD x.2.1 = true ∧ sizeJ x.1 + x.2.1.length + 1 ≤ sizeJ v + r.length
theorem treeEnd_good {n : Nat} {k : JV → bytes → JV × bytes × Int} {e : UInt8} (he : e.toNat < 128) {v v0 : JV} {r r0 : bytes} {err : Int} (hk : ∀ r4, Lib.validD r4 = true → GoodT n v r4 (k v r4)) (hv : rightJ n v = true) (hr : Lib.validD r = true) (hl : sizeJ v + r.length ≤ sizeJ v0 + r0.length) : GoodT n v0 r0 (treeEnd k e v r err) := by
  intro h
  have hb := valid_blanks hr
  have hbl := blanks_len r
  unfold treeEnd at h ⊢
  split at h
  · rename_i h0
    exact absurd h h0
  · rename_i h0
    rw [if_neg h0]
    cases h1 : skipW [e] (blanks r) with
    | some r4 =>
      have h5 := skip_len h1
      simp only [List.length_cons, List.length_nil] at h5
      exact ⟨hv, valid_skipW (by simpa using he) h1 hb, by simp only; omega⟩
    | none =>
      rw [h1] at h
      simp only at h ⊢
      cases h2 : skipW [44] (blanks r) with
      | none => rw [h2] at h; cases h
      | some r4 =>
        rw [h2] at h
        have h5 := skip_len h2
        simp only [List.length_cons, List.length_nil] at h5
        obtain ⟨i1, i2, i3⟩ := hk r4 (valid_skipW (by decide) h2 hb) h
        exact ⟨i1, i2, by simp only; omega⟩
theorem treeGo_good {n : Nat} {f : bytes → JV × bytes × Int} {e : UInt8} (he : e.toNat < 128) (hf : ∀ r, Lib.validD r = true → Good n r (f r)) : ∀ (m : Nat) (v : JV) (r : bytes), rightJ (n + 1) v = true → (v.kind = 5 ∨ v.kind = 6) → Lib.validD r = true → GoodT (n + 1) v r (treeGo f e m v r)
  | 0, v, r, _, _, _ => fun h => by cases h
  | m + 1, v, r, hv, hk, hr => by
    unfold treeGo
    by_cases h6 : v.kind = 6
    · rw [if_pos h6]
      by_cases hn : (nameP v r).2.2 = 0
      · rw [if_neg (by simpa using hn)]
        obtain ⟨n1, n2, n3⟩ := name_good hr hn
        intro h
        by_cases hfe : (f (nameP v r).2.1).2.2 = 0
        · obtain ⟨f1, f2, f3⟩ := hf _ n2 hfe
          have hp := right_put (s := (nameP v r).1) hv h6 f1 n1
          have hs := size_put (right_obj hv h6).2.2.2.1 (nameP v r).1 (f (nameP v r).2.1).1
          refine treeEnd_good he (fun r4 h4 => treeGo_good he hf m _ r4 hp ?_ h4) hp f2 ?_ h
          · exact .inr (by rw [jput]; split <;> exact h6)
          · unfold nameW at hs
            omega
        · unfold treeEnd at h
          rw [if_pos hfe] at h
          exact absurd h hfe
      · rw [if_pos hn]
        exact fun h => absurd h hn
    · rw [if_neg h6]
      have h5 : v.kind = 5 := by omega
      intro h
      by_cases hfe : (f r).2.2 = 0
      · obtain ⟨f1, f2, f3⟩ := hf _ hr hfe
        have hp := right_add h5 hv f1
        have hs := size_add v (f r).1
        exact treeEnd_good he (fun r4 h4 => treeGo_good he hf m _ r4 hp (.inl h5) h4) hp f2 (by omega) h
      · unfold treeEnd at h
        rw [if_pos hfe] at h
        exact absurd h hfe
theorem treeP_good {n : Nat} {f : bytes → JV × bytes × Int} {e : UInt8} (he : e.toNat < 128) (hf : ∀ r, Lib.validD r = true → Good n r (f r)) {v : JV} {r : bytes} (hv : rightJ (n + 1) v = true) (hk : v.kind = 5 ∨ v.kind = 6) (hr : Lib.validD r = true) : GoodT (n + 1) v r (treeP f e v r) := by
  unfold treeP
  have hb := valid_blanks hr
  have hbl := blanks_len r
  cases h1 : skipW [e] (blanks r) with
  | some r2 =>
    have h5 := skip_len h1
    simp only [List.length_cons, List.length_nil] at h5
    exact fun _ => ⟨hv, valid_skipW (by simpa using he) h1 hb, by simp only; omega⟩
  | none =>
    intro h
    obtain ⟨i1, i2, i3⟩ := treeGo_good he hf _ v _ hv hk hb h
    exact ⟨i1, i2, by simp only at i3 ⊢; omega⟩
theorem leaf_none {r : bytes} (h : leafP r = none) : peek r = 91 ∨ peek r = 123 := by
  unfold leafP at h
  repeat' split at h
  all_goals first | cases h | skip
  rename_i h1
  by_cases h2 : peek r = 91
  · exact .inl h2
  · exact .inr (Classical.byContradiction fun h3 => h1 ⟨h2, h3⟩)
theorem value_good : ∀ (n : Nat) (r : bytes), Lib.validD r = true → Good n r (valueP n r)
  | 0, r, hr => by
    unfold valueP
    have hb := valid_blanks hr
    have hbl := blanks_len r
    cases e : leafP (blanks r) with
    | none => exact fun h => by cases h
    | some x =>
      intro h
      obtain ⟨h1, h2, h3⟩ := leaf_good (n := 0) hb e h
      exact ⟨h1, h2, by rw [Option.getD_some]; omega⟩
  | n + 1, r, hr => by
    unfold valueP
    have hb := valid_blanks hr
    have hbl := blanks_len r
    cases e : leafP (blanks r) with
    | some x =>
      intro h
      obtain ⟨h1, h2, h3⟩ := leaf_good (n := n + 1) hb e h
      exact ⟨h1, h2, by rw [Option.getD_some]; omega⟩
    | none =>
      rw [Option.getD_none]
      have hp := leaf_none e
      have hp0 : peek (blanks r) ≠ 0 := by rcases hp with h | h <;> rw [h] <;> decide
      have hd := valid_peek hp0 (by rcases hp with h | h <;> rw [h] <;> decide) hb
      have hc := congrArg List.length (peek_cons hp0)
      simp only [List.length_cons] at hc
      split
      · intro h
        obtain ⟨h1, h2, h3⟩ := treeP_good (n := n) (e := 93) (by decide) (value_good n) (v := listJ) (right_many rfl rfl) (.inl rfl) hd h
        have : sizeJ listJ = 1 := rfl
        exact ⟨h1, h2, by omega⟩
      · intro h
        obtain ⟨h1, h2, h3⟩ := treeP_good (n := n) (e := 125) (by decide) (value_good n) (v := objJ) (right_many rfl rfl) (.inr rfl) hd h
        have : sizeJ objJ = 1 := rfl
        exact ⟨h1, h2, by omega⟩
theorem parse_good (s : bytes) : sizeJ (parseP s).1 ≤ 10000 ∧ ((parseP s).2 = 0 → rightJ 12 (parseP s).1 = true) := by
  have hz : sizeJ zeroJ = 1 := rfl
  unfold parseP
  split
  · exact ⟨by simp only; omega, fun h => by cases h⟩
  · split
    · exact ⟨by simp only; omega, fun h => by cases h⟩
    · split
      · rename_i h
        exact ⟨by simp only; omega, fun e => absurd e h⟩
      · rename_i h1 h2 h3
        split
        · exact ⟨by simp only; omega, fun h => by cases h⟩
        · obtain ⟨i1, i2, i3⟩ := value_good 12 s (by simpa using h2) (by simpa using h3)
          exact ⟨by simp only; omega, fun _ => i1⟩
end Go.Proofs.YtdahdbnfknmmgaaGreatDoor
end

section
set_option linter.unusedSimpArgs false
set_option linter.unusedVariables false
namespace Go.Proofs.YtdahdbnfknmmgaaGreatDoor
open Go V
set_option maxRecDepth 10000
set_option maxHeartbeats 4000000
def isSign (c : UInt8) : Bool := c == 91 || c == 93 || c == 123 || c == 125 || c == 44 || c == 58
def nextW (w t : Bool) (c : UInt8) : Bool := if t then w else if w && c == 92 then w else if c == 34 then !w else w
def nextT (w t : Bool) (c : UInt8) : Bool := if t then false else w && c == 92
/-- A text, and the same one with blanks around its signs. -/
inductive Wide : Bool → Bool → bytes → bytes → Prop
  | nil (w t : Bool) : Wide w t [] []
  | cons (w t : Bool) (c : UInt8) (p q r m : bytes) (hp : ∀ b ∈ p, isBlank b = true) (hq : ∀ b ∈ q, isBlank b = true) (hs : (w = false ∧ isSign c = true) ∨ (p = [] ∧ q = [])) (h : Wide (nextW w t c) (nextT w t c) r m) : Wide w t (c :: r) (p ++ c :: (q ++ m))
inductive Tight : bytes → bytes → Prop
  | nil : Tight [] []
  | cons (c : UInt8) (q r m : bytes) (hc : isBlank c = false) (hq : ∀ b ∈ q, isBlank b = true) (hs : isSign c = true ∨ q = []) (h : Wide (nextW false false c) (nextT false false c) r m) : Tight (c :: r) (c :: (q ++ m))
theorem blanks_cons_no {c : UInt8} {r : bytes} (h : isBlank c = false) : blanks (c :: r) = c :: r := by
  unfold blanks
  rw [List.dropWhile_cons, h]
  rfl
theorem skipW_nil (r : bytes) : skipW [] r = some r := by unfold skipW; simp
theorem skipW_none (a : UInt8) (w : bytes) : skipW (a :: w) [] = none := by unfold skipW; simp
theorem skipW_cons (a c : UInt8) (w r : bytes) : skipW (a :: w) (c :: r) = if a = c then skipW w r else none := by
  unfold skipW
  rw [List.isPrefixOf_cons_cons]
  by_cases h : a = c
  · subst h; simp
  · simp [h]
theorem asc_valid {l : bytes} (h : ∀ b ∈ l, b.toNat < 128) : Lib.validD l = true := by
  have := valid_wd (w := l) (r := []) h
  rw [List.append_nil] at this
  rw [this]
  rfl
end Go.Proofs.YtdahdbnfknmmgaaGreatDoor
end

section
set_option linter.unusedSimpArgs false
set_option linter.unusedVariables false
namespace Go.Proofs.YtdahdbnfknmmgaaGreatDoor
open Go V
set_option maxRecDepth 10000
set_option maxHeartbeats 4000000
def hexS (n : Nat) : UInt8 := [48, 49, 50, 51, 52, 53, 54, 55, 56, 57, 97, 98, 99, 100, 101, 102].getD n 0
def escB (c : UInt8) : bytes :=
  if c = 34 then [92, 34] else if c = 92 then [92, 92] else if c = 8 then [92, 98] else if c = 9 then [92, 116] else if c = 10 then [92, 110] else if c = 12 then [92, 102] else if c = 13 then [92, 114]
  else if c.toNat < 32 then [92, 117, 48, 48, UInt8.ofNat (48 + c.toNat / 16), hexS (c.toNat % 16)] else [c]
def quoteP (s : bytes) : bytes := 34 :: (s.flatMap escB ++ [34])
def headP (first obj : Bool) (n : bytes) : bytes := (if first then [] else [44]) ++ (if obj then quoteP n ++ [58] else [])
mutual
def printP : JV → bytes
  | .mk k n t ns is =>
    if k = 1 then wTrue else if k = 2 then wFalse else if k = 3 then Lib.itoa n else if k = 4 then quoteP t
    else if k = 5 then 91 :: (itemsP false is true ns ++ [93])
    else if k = 6 then 123 :: (itemsP true is true ns ++ [125])
    else wNull
def itemsP (obj : Bool) : List JV → Bool → List bytes → bytes
  | [], _, _ => []
  | v :: r, first, ns => headP first obj (ns.headD []) ++ (printP v ++ itemsP obj r false ns.tail)
end
theorem printP_eq (v : JV) : printP v = if v.kind = 1 then wTrue else if v.kind = 2 then wFalse else if v.kind = 3 then Lib.itoa v.num else if v.kind = 4 then quoteP v.text
    else if v.kind = 5 then 91 :: (itemsP false v.items true v.names ++ [93]) else if v.kind = 6 then 123 :: (itemsP true v.items true v.names ++ [125]) else wNull := by
  cases v; rw [printP]; rfl
theorem itemsP_nil (obj first : Bool) (ns : List bytes) : itemsP obj [] first ns = [] := by rw [itemsP]
theorem itemsP_cons (obj first : Bool) (ns : List bytes) (v : JV) (r : List JV) : itemsP obj (v :: r) first ns = headP first obj (ns.headD []) ++ (printP v ++ itemsP obj r false ns.tail) := by rw [itemsP]

/-! Texts -/
theorem escB_len (c : UInt8) : (escB c).length ≤ 6 ∧ 1 ≤ (escB c).length := by
  unfold escB
  repeat' split
  all_goals simp
theorem flat_len (s : bytes) : (s.flatMap escB).length ≤ 6 * s.length := by
  induction s with
  | nil => simp
  | cons c s ih =>
    have := (escB_len c).1
    rw [List.flatMap_cons, List.length_append, List.length_cons]
    omega
theorem quoteP_len (s : bytes) : (quoteP s).length ≤ 6 * s.length + 2 := by
  have := flat_len s
  unfold quoteP
  simp only [List.length_cons, List.length_append, List.length_nil]
  omega
theorem hex_facts : ∀ n : Fin 256, n.val < 32 → (([48, 48, UInt8.ofNat (48 + n.val / 16), hexS (n.val % 16)].all isHex = true ∧ hexNum [48, 48, UInt8.ofNat (48 + n.val / 16), hexS (n.val % 16)] = n.val) ∧ halfR (n.val : Int) = false ∧ enc1 (n.val : Int) = [UInt8.ofNat n.val]) ∧ ∀ b ∈ [UInt8.ofNat (48 + n.val / 16), hexS (n.val % 16)], b.toNat < 128 := by decide +kernel
theorem unitP_four {a b c d : UInt8} {r : bytes} (h : [a, b, c, d].all isHex = true) : unitP (a :: b :: c :: d :: r) = (((hexNum [a, b, c, d] : Nat) : Int), true, r) := by
  unfold unitP
  rw [if_neg (by simp)]
  rw [if_pos (by exact h)]
  rfl
theorem esc_one : ∀ i : Fin 7, ∀ r : bytes, escP ([34, 92, 98, 116, 110, 102, 114].getD i.val 0 :: r) = ([[34, 92, 8, 9, 10, 12, 13].getD i.val 0], 0, r) := by
  intro i r
  match i with
  | 0 => rfl
  | 1 => rfl
  | 2 => rfl
  | 3 => rfl
  | 4 => rfl
  | 5 => rfl
  | 6 => rfl
theorem quotedR_esc1 (i : Fin 7) (r o : bytes) : quotedR (92 :: [34, 92, 98, 116, 110, 102, 114].getD i.val 0 :: r) o = quotedR r (o ++ [[34, 92, 8, 9, 10, 12, 13].getD i.val 0]) := by
  have h := esc_one i r
  rw [quotedR_esc (by rfl) (by show (escP (_ :: r)).2.1 = 0; rw [h])]
  show quotedR (escP (_ :: r)).2.2 (o ++ (escP (_ :: r)).1) = _
  rw [h]
theorem quotedR_ctl6 {c : UInt8} (hc : c.toNat < 32) (r o : bytes) : quotedR ([92, 117, 48, 48, UInt8.ofNat (48 + c.toNat / 16), hexS (c.toNat % 16)] ++ r) o = quotedR r (o ++ [c]) := by
  obtain ⟨⟨⟨h1, h2⟩, h3, h4⟩, _⟩ := hex_facts ⟨c.toNat, c.toNat_lt⟩ hc
  simp only at h1 h2 h3 h4
  have hu := unitP_four (r := r) h1
  rw [h2] at hu
  have he : escP (117 :: 48 :: 48 :: UInt8.ofNat (48 + c.toNat / 16) :: hexS (c.toNat % 16) :: r) = ([c], 0, r) := by
    have hp : ∀ l : bytes, peek (117 :: l) = 117 := fun _ => rfl
    unfold escP
    rw [hp, if_neg (show ¬ escSigns.idxOf (117 : UInt8) < 8 by decide)]
    have hs : skipW [117] (117 :: 48 :: 48 :: UInt8.ofNat (48 + c.toNat / 16) :: hexS (c.toNat % 16) :: r) = some (48 :: 48 :: UInt8.ofNat (48 + c.toNat / 16) :: hexS (c.toNat % 16) :: r) := rfl
    rw [hs]
    dsimp only
    rw [hu]
    dsimp only
    rw [h3, Bool.and_false, if_neg (by decide)]
    unfold escU
    dsimp only
    rw [if_pos rfl, h4, UInt8.ofNat_toNat]
  rw [quotedR_esc (by rfl) (by show (escP (117 :: _)).2.1 = 0; exact congrArg (·.2.1) he)]
  show quotedR (escP (117 :: _)).2.2 (o ++ (escP (117 :: _)).1) = _
  have e1 := congrArg (·.2.2) he
  have e2 := congrArg (·.1) he
  dsimp only at e1 e2
  exact (congrArg (fun x => quotedR x _) e1).trans (congrArg (fun x => quotedR r (o ++ x)) e2)
theorem quotedR_escB (c : UInt8) (r o : bytes) : quotedR (escB c ++ r) o = quotedR r (o ++ [c]) := by
  unfold escB
  split
  · subst c; exact quotedR_esc1 0 r o
  split
  · subst c; exact quotedR_esc1 1 r o
  split
  · subst c; exact quotedR_esc1 2 r o
  split
  · subst c; exact quotedR_esc1 3 r o
  split
  · subst c; exact quotedR_esc1 4 r o
  split
  · subst c; exact quotedR_esc1 5 r o
  split
  · subst c; exact quotedR_esc1 6 r o
  split
  · rename_i h; exact quotedR_ctl6 h r o
  · rename_i h1 h2 h3 h4 h5 h6 h7 h
    exact quotedR_one (by show 32 ≤ c.toNat; omega) (by exact h1) (by exact h2)
theorem quotedR_flat : ∀ (s r o : bytes), quotedR (s.flatMap escB ++ 34 :: r) o = (o ++ s, r, 0)
  | [], r, o => by
    rw [List.append_nil]
    exact quotedR_end rfl
  | c :: s, r, o => by
    rw [List.flatMap_cons, List.append_assoc, quotedR_escB, quotedR_flat s r (o ++ [c]), List.append_assoc]
    rfl
theorem quoteP_app (s r : bytes) : quoteP s ++ r = 34 :: (s.flatMap escB ++ 34 :: r) := by simp [quoteP]
theorem quotedP_quote (s r : bytes) : quotedP (quoteP s ++ r) = (s, r, 0) := by
  rw [quoteP_app, quotedP_eq, if_pos (show peek (34 :: _) = 34 from rfl)]
  show quotedR (s.flatMap escB ++ 34 :: r) [] = _
  rw [quotedR_flat]
  rfl
theorem escB_asc {c : UInt8} (h : c.toNat < 128) : ∀ b ∈ escB c, b.toNat < 128 := by
  intro b hb
  unfold escB at hb
  repeat' split at hb
  all_goals try (simp only [List.mem_cons, List.not_mem_nil, or_false] at hb; rcases hb with rfl | rfl <;> decide)
  · rename_i h32
    have := (hex_facts ⟨c.toNat, c.toNat_lt⟩ h32).2
    simp only at this
    simp only [List.mem_cons, List.not_mem_nil, or_false] at hb
    rcases hb with rfl | rfl | rfl | rfl | rfl | rfl
    · decide
    · decide
    · decide
    · decide
    · exact this _ (by simp)
    · exact this _ (by simp)
  · simp only [List.mem_cons, List.not_mem_nil, or_false] at hb
    subst hb
    exact h
theorem escB_hi {c : UInt8} (h : 128 ≤ c.toNat) : escB c = [c] := by
  have hn : ∀ d : UInt8, d.toNat < 128 → c ≠ d := fun d hd e => by subst e; omega
  unfold escB
  rw [if_neg (hn _ (by decide)), if_neg (hn _ (by decide)), if_neg (hn _ (by decide)), if_neg (hn _ (by decide)), if_neg (hn _ (by decide)), if_neg (hn _ (by decide)), if_neg (hn _ (by decide)), if_neg (by omega)]
theorem flat_hi : ∀ {l : bytes}, (∀ b ∈ l, 128 ≤ b.toNat) → l.flatMap escB = l
  | [], _ => rfl
  | c :: l, h => by
    rw [List.flatMap_cons, escB_hi (h c (List.mem_cons_self ..)), flat_hi fun b hb => h b (List.mem_cons_of_mem _ hb)]
    rfl
theorem flat_valid {s : bytes} (h : Lib.validD s = true) : Lib.validD (s.flatMap escB) = true := by
  obtain ⟨rs, hok, rfl⟩ := valid_runes h
  clear h
  induction rs with
  | nil => rfl
  | cons x rs ih =>
    simp only [encOk, List.all_cons, Bool.and_eq_true] at hok
    have e : encL (x :: rs) = enc1 x ++ encL rs := rfl
    rw [e, List.flatMap_append]
    refine valid_cat ?_ (ih hok.2)
    by_cases hx : x < 128
    · have hr := of_decide_eq_true hok.1
      rw [one_c1 hx, List.flatMap_cons, List.flatMap_nil, List.append_nil]
      refine asc_valid (escB_asc ?_)
      rw [byteOf_n (by omega)]
      omega
    · rw [flat_hi (enc1_hi hok.1 (by omega))]
      exact valid_one hok.1
theorem quote_valid {s : bytes} (h : Lib.validD s = true) : Lib.validD (quoteP s) = true :=
  valid_cat (a := [34]) (by decide) (valid_cat (flat_valid h) (by decide))

/-! Numbers -/
theorem digit_byte {d : Nat} (h : d < 10) : (UInt8.ofNat (48 + d)).toNat = 48 + d := by
  rw [UInt8.toNat_ofNat_of_lt' (by show 48 + d < 256; omega)]
theorem digit_is {d : Nat} (h : d < 10) : isDigit (UInt8.ofNat (48 + d)) = true := by
  unfold isDigit
  rw [digit_byte h]
  exact decide_eq_true (by omega)
theorem digs_all (u : Nat) : ∀ b ∈ Lib.decDigits u, isDigit b = true := by
  induction u using Nat.strongRecOn with
  | ind u ih =>
    intro b hb
    rw [Lib.decDigits] at hb
    split at hb
    · rename_i h
      simp only [List.mem_cons, List.not_mem_nil, or_false] at hb
      subst hb
      exact digit_is h
    · rename_i h
      rcases List.mem_append.1 hb with hb | hb
      · exact ih (u / 10) (by omega) b hb
      · simp only [List.mem_cons, List.not_mem_nil, or_false] at hb
        subst hb
        exact digit_is (by omega)
theorem digs_val (u : Nat) : decVal (Lib.decDigits u) = u := by
  induction u using Nat.strongRecOn with
  | ind u ih =>
    rw [Lib.decDigits]
    split
    · rename_i h
      unfold decVal
      rw [List.foldl_cons, List.foldl_nil, digit_byte h]
      omega
    · rename_i h
      have := ih (u / 10) (by omega)
      unfold decVal at this ⊢
      rw [List.foldl_append, this, List.foldl_cons, List.foldl_nil, digit_byte (by omega)]
      omega
theorem digs_ne (u : Nat) : Lib.decDigits u ≠ [] := by
  rw [Lib.decDigits]
  split <;> simp
theorem digs_zero {u : Nat} (h : u ≠ 0) : peek (Lib.decDigits u) ≠ 48 := by
  induction u using Nat.strongRecOn with
  | ind u ih =>
    rw [Lib.decDigits]
    split
    · rename_i h2
      intro e
      have e : UInt8.ofNat (48 + u) = 48 := e
      have := digit_byte h2
      rw [e] at this
      have h3 : (48 : UInt8).toNat = 48 := rfl
      omega
    · rename_i h2
      have h3 := ih (u / 10) (by omega) (by omega)
      have h4 := digs_ne (u / 10)
      cases hd : Lib.decDigits (u / 10) with
      | nil => exact absurd hd h4
      | cons a b => rw [hd] at h3; exact h3
theorem tw_all {r : bytes} (hr : isDigit (peek r) = false) : ∀ {l : bytes}, (∀ b ∈ l, isDigit b = true) → (l ++ r).takeWhile isDigit = l
  | [], _ => by
    cases r with
    | nil => rfl
    | cons c r =>
      have hr : isDigit c = false := hr
      rw [List.nil_append, List.takeWhile_cons, hr]
      rfl
  | c :: l, h => by
    rw [List.cons_append, List.takeWhile_cons, h c (List.mem_cons_self ..), if_pos rfl, tw_all hr fun b hb => h b (List.mem_cons_of_mem _ hb)]
theorem digs_numLen {u : Nat} {r : bytes} (hr : isDigit (peek r) = false) : numLen (Lib.decDigits u ++ r) = (Lib.decDigits u).length := by
  unfold numLen
  by_cases h : u = 0
  · subst h
    rw [Lib.decDigits_one (by omega)]
    rfl
  · have h1 := digs_zero h
    have h2 := digs_ne u
    rw [if_neg ?_, tw_all hr (digs_all u)]
    cases hd : Lib.decDigits u with
    | nil => exact absurd hd h2
    | cons a b => rw [hd] at h1; exact h1
theorem digs_pos (u : Nat) : 1 ≤ (Lib.decDigits u).length := by
  have := List.length_pos_iff.2 (digs_ne u)
  omega
theorem digs_peek (u : Nat) (r : bytes) : peek (Lib.decDigits u ++ r) = peek (Lib.decDigits u) := by
  have h2 := digs_ne u
  cases hd : Lib.decDigits u with
  | nil => exact absurd hd h2
  | cons a b => rfl
theorem digs_first (u : Nat) : isDigit (peek (Lib.decDigits u)) = true := by
  have h2 := digs_ne u
  have h3 := digs_all u
  cases hd : Lib.decDigits u with
  | nil => exact absurd hd h2
  | cons a b => rw [hd] at h3; exact h3 a (List.mem_cons_self ..)
theorem digs_go {b : Bool} {u : Nat} {r : bytes} (hr : isDigit (peek r) = false) (h1 : u ≤ 9007199254740991) (h2 : b = true → u ≠ 0) : numGo b (Lib.decDigits u ++ r) = (if b then -(u : Int) else u, r, 0) := by
  have hp := digs_pos u
  unfold numGo
  rw [digs_numLen hr, List.take_left, List.drop_left, digs_val, digs_peek, if_neg, if_neg (by omega)]
  rintro (h | ⟨h3, h4⟩)
  · omega
  · exact digs_zero (h2 h3) h4
theorem num_back {n : Int} {r : bytes} (hr : isDigit (peek r) = false) (h1 : -9007199254740991 ≤ n) (h2 : n ≤ 9007199254740991) : numP (Lib.itoa n ++ r) = (n, r, 0) := by
  unfold Lib.itoa numP
  by_cases h : n < 0
  · rw [if_pos h]
    have : skipW [45] (45 :: Lib.decDigits n.natAbs ++ r) = some (Lib.decDigits n.natAbs ++ r) := rfl
    rw [this]
    dsimp only
    rw [digs_go hr (by omega) (by omega), if_pos rfl]
    congr 1
    omega
  · rw [if_neg h]
    have h3 := digs_first n.toNat
    have : skipW [45] (Lib.decDigits n.toNat ++ r) = none := by
      rw [skip_peek (by decide), digs_peek, if_neg]
      intro e
      rw [e] at h3
      exact absurd h3 (by decide)
    rw [this]
    dsimp only
    rw [digs_go hr (by omega) (fun e => by cases e), if_neg (by decide)]
    congr 1
    omega
end Go.Proofs.YtdahdbnfknmmgaaGreatDoor
end

section
set_option linter.unusedSimpArgs false
set_option linter.unusedVariables false
namespace Go.Proofs.YtdahdbnfknmmgaaGreatDoor
open Go V
set_option maxRecDepth 10000
set_option maxHeartbeats 4000000
theorem skip_first {a : UInt8} {w r : bytes} (ha : a ≠ 0) (h : peek r ≠ a) : skipW (a :: w) r = none := by
  cases r with
  | nil => exact skipW_none a w
  | cons c r =>
    rw [skipW_cons, if_neg fun e => h e.symm]
/-- A byte that a value may begin with. -/
def startB (c : UInt8) : Bool := c == 110 || c == 116 || c == 102 || c == 34 || c == 45 || c == 91 || c == 123 || isDigit c
theorem start_not {c : UInt8} (h : startB c = true) : isBlank c = false ∧ c ≠ 93 ∧ c ≠ 125 ∧ c ≠ 44 ∧ c ≠ 0 := by
  have : ∀ n : Fin 256, startB (UInt8.ofNat n.val) = true → isBlank (UInt8.ofNat n.val) = false ∧ UInt8.ofNat n.val ≠ 93 ∧ UInt8.ofNat n.val ≠ 125 ∧ UInt8.ofNat n.val ≠ 44 ∧ UInt8.ofNat n.val ≠ 0 := by decide +kernel
  have := this ⟨c.toNat, c.toNat_lt⟩
  simp only [UInt8.ofNat_toNat] at this
  exact this h
theorem itoa_first (n : Int) : ∃ c l, Lib.itoa n = c :: l ∧ (c = 45 ∨ isDigit c = true) := by
  unfold Lib.itoa
  split
  · exact ⟨_, _, rfl, .inl rfl⟩
  · have h2 := digs_ne n.toNat
    have h3 := digs_first n.toNat
    cases hd : Lib.decDigits n.toNat with
    | nil => exact absurd hd h2
    | cons a b => rw [hd] at h3; exact ⟨a, b, rfl, .inr h3⟩
theorem print_first (v : JV) : ∃ c l, printP v = c :: l ∧ startB c = true := by
  rw [printP_eq]
  split
  · exact ⟨_, _, rfl, rfl⟩
  split
  · exact ⟨_, _, rfl, rfl⟩
  split
  · obtain ⟨c, l, h1, h2⟩ := itoa_first v.num
    refine ⟨c, l, h1, ?_⟩
    unfold startB
    rcases h2 with rfl | h2
    · rfl
    · rw [h2, Bool.or_true]
  split
  · exact ⟨_, _, rfl, rfl⟩
  split
  · exact ⟨_, _, rfl, rfl⟩
  split
  · exact ⟨_, _, rfl, rfl⟩
  · exact ⟨_, _, rfl, rfl⟩
theorem print_blanks (v : JV) (r : bytes) : blanks (printP v ++ r) = printP v ++ r := by
  obtain ⟨c, l, h1, h2⟩ := print_first v
  rw [h1]
  exact blanks_cons_no (start_not h2).1
theorem value_leafP {n : Nat} {v : JV} {r : bytes} {x : JV × bytes × Int} (h : leafP (printP v ++ r) = some x) : valueP n (printP v ++ r) = x := by
  cases n with
  | zero => rw [valueP, print_blanks, h]; rfl
  | succ n => rw [valueP, print_blanks, h]; rfl
theorem leaf_text (s r : bytes) : leafP (quoteP s ++ r) = some (.mk 4 0 s [] [], r, 0) := by
  have h1 : peek (quoteP s ++ r) = 34 := rfl
  unfold leafP wNull wTrue wFalse
  rw [skip_first (by decide) (by rw [h1]; decide), skip_first (by decide) (by rw [h1]; decide), skip_first (by decide) (by rw [h1]; decide)]
  dsimp only
  rw [if_pos h1, quotedP_quote]
theorem leaf_num {n : Int} {r : bytes} (hr : isDigit (peek r) = false) (h1 : -9007199254740991 ≤ n) (h2 : n ≤ 9007199254740991) : leafP (Lib.itoa n ++ r) = some (.mk 3 n [] [] [], r, 0) := by
  have h := num_back hr h1 h2
  obtain ⟨c, l, h3, h4⟩ := itoa_first n
  have hp : peek (Lib.itoa n ++ r) = c := by rw [h3]; rfl
  have hne : ∀ d : UInt8, d ≠ 45 → isDigit d = false → c ≠ d := fun d h5 h6 e => by
    subst e
    rcases h4 with h4 | h4
    · exact h5 h4
    · rw [h6] at h4; cases h4
  unfold leafP wNull wTrue wFalse
  rw [skip_first (by decide) (by rw [hp]; exact hne _ (by decide) (by decide)), skip_first (by decide) (by rw [hp]; exact hne _ (by decide) (by decide)), skip_first (by decide) (by rw [hp]; exact hne _ (by decide) (by decide))]
  dsimp only
  rw [if_neg (by rw [hp]; exact hne _ (by decide) (by decide)), if_pos (by rw [hp]; exact h4), h]
theorem kind_mk {k n : Int} {t : bytes} {ns : List bytes} {is : List JV} : (JV.mk k n t ns is).kind = k := rfl
/-- What parses one value's text. -/
def Reads (f : bytes → JV × bytes × Int) (x : JV) : Prop := ∀ r, isDigit (peek r) = false → f (printP x ++ r) = (x, r, 0)
theorem end_close {k : JV → bytes → JV × bytes × Int} {e : UInt8} {v : JV} {r : bytes} (he : isBlank e = false) : treeEnd k e v (e :: r) 0 = (v, r, 0) := by
  unfold treeEnd
  rw [if_neg (by decide), blanks_cons_no he, skipW_cons, if_pos rfl, skipW_nil]
theorem end_more {k : JV → bytes → JV × bytes × Int} {e : UInt8} {v : JV} {r : bytes} (he : e ≠ 44) : treeEnd k e v (44 :: r) 0 = k v r := by
  unfold treeEnd
  rw [if_neg (by decide), blanks_cons_no (by decide), skipW_cons, if_neg he, skipW_cons, if_pos rfl, skipW_nil]
theorem items_next (obj : Bool) (x : JV) (r : List JV) (ns : List bytes) : itemsP obj (x :: r) false ns = 44 :: itemsP obj (x :: r) true ns := by
  rw [itemsP_cons, itemsP_cons]
  rfl
theorem go_list {f : bytes → JV × bytes × Int} : ∀ (rest : List JV) (x : JV) (dn : List JV) (m : Nat) (ns : List bytes) (r : bytes), (∀ y ∈ x :: rest, Reads f y) → rest.length < m →
    treeGo f 93 m (.mk 5 0 [] [] dn) (itemsP false (x :: rest) true ns ++ 93 :: r) = (.mk 5 0 [] [] (dn ++ x :: rest), r, 0)
  | rest, x, dn, 0, ns, r, _, h => by omega
  | [], x, dn, m + 1, ns, r, hf, h => by
    have e : itemsP false [x] true ns ++ 93 :: r = printP x ++ 93 :: r := by
      rw [itemsP_cons, itemsP_nil, List.append_nil]
      rfl
    rw [e, treeGo, kind_mk, if_neg (show ¬ (5 : Int) = 6 by decide), hf x (List.mem_cons_self ..) (93 :: r) (by rfl)]
    exact end_close (by decide)
  | y :: rest, x, dn, m + 1, ns, r, hf, h => by
    have e : itemsP false (x :: y :: rest) true ns ++ 93 :: r = printP x ++ 44 :: (itemsP false (y :: rest) true ns.tail ++ 93 :: r) := by
      rw [itemsP_cons, items_next, List.append_assoc, List.append_assoc]
      rfl
    rw [e, treeGo, kind_mk, if_neg (show ¬ (5 : Int) = 6 by decide), hf x (List.mem_cons_self ..) _ (by rfl)]
    dsimp only
    rw [end_more (by decide)]
    have := go_list rest y (dn ++ [x]) m ns.tail r (fun z hz => hf z (List.mem_cons_of_mem _ hz)) (by simp only [List.length_cons] at h; omega)
    rw [List.append_assoc] at this
    exact this
theorem jget_new {dn : List bytes} {di : List JV} {s : bytes} (h : ∀ a ∈ dn, lessB a s = true) : jget (.mk 6 0 [] dn di) s = none := by
  unfold jget
  rw [kind_mk, if_pos rfl]
  have : dn.findIdx? (fun n => n == s) = none := by
    rw [List.findIdx?_eq_none_iff]
    intro a ha
    exact beq_eq_false_iff_ne.2 (less_ne (h a ha))
  show (match dn.findIdx? (fun n => n == s) with | some i => _ | none => none) = none
  rw [this]
theorem jput_end {dn : List bytes} {di : List JV} {s : bytes} {x : JV} (h : ∀ a ∈ dn, lessB a s = true) (hl : dn.length = di.length) : jput (.mk 6 0 [] dn di) s x = .mk 6 0 [] (dn ++ [s]) (di ++ [x]) := by
  have hp : pos dn s = dn.length := pos_unique (Nat.le_refl _) (fun j a _ e => h a (List.mem_of_getElem? e)) (fun a e => by rw [List.getElem?_eq_none (Nat.le_refl _)] at e; cases e)
  rw [jput_new (by show dn[pos dn s]? ≠ some s; rw [hp, List.getElem?_eq_none (Nat.le_refl _)]; exact fun e => by cases e)]
  show JV.mk 6 0 [] (dn.insertIdx (pos dn s) s) (di.insertIdx (pos dn s) x) = _
  rw [hp, List.insertIdx_length_self, hl, List.insertIdx_length_self]
theorem name_back {v : JV} {s t : bytes} (h : jget v s = none) : nameP v (quoteP s ++ 58 :: t) = (s, t, 0) := by
  have hb : blanks (quoteP s ++ 58 :: t) = quoteP s ++ 58 :: t := blanks_cons_no (by decide)
  unfold nameP
  rw [hb, quotedP_quote]
  dsimp only
  rw [h, blanks_cons_no (by decide), skipW_cons, if_pos rfl, skipW_nil]
  rfl
theorem go_obj {f : bytes → JV × bytes × Int} : ∀ (rest : List JV) (x : JV) (s : bytes) (ns : List bytes) (dn : List bytes) (di : List JV) (m : Nat) (r : bytes), (∀ y ∈ x :: rest, Reads f y) → rest.length < m →
    srt (dn ++ s :: ns) = true → dn.length = di.length → ns.length = rest.length →
    treeGo f 125 m (.mk 6 0 [] dn di) (itemsP true (x :: rest) true (s :: ns) ++ 125 :: r) = (.mk 6 0 [] (dn ++ s :: ns) (di ++ x :: rest), r, 0)
  | rest, x, s, ns, dn, di, 0, r, _, h, _, _, _ => by omega
  | [], x, s, ns, dn, di, m + 1, r, hf, h, hs, hl, hn => by
    have hns : ns = [] := List.eq_nil_of_length_eq_zero hn
    subst hns
    have hlt : ∀ a ∈ dn, lessB a s = true := fun a ha => (List.pairwise_append.1 (srt_pair hs)).2.2 a ha s (List.mem_cons_self ..)
    have e : itemsP true [x] true [s] ++ 125 :: r = quoteP s ++ 58 :: (printP x ++ 125 :: r) := by
      rw [itemsP_cons, itemsP_nil, List.append_nil]
      simp [headP]
    rw [e, treeGo, kind_mk, if_pos (show (6 : Int) = 6 from rfl), name_back (jget_new hlt)]
    dsimp only
    rw [if_neg (by decide), hf x (List.mem_cons_self ..) (125 :: r) (by rfl)]
    dsimp only
    rw [end_close (by decide), jput_end hlt hl]
  | y :: rest, x, s, [], dn, di, m + 1, r, hf, h, hs, hl, hn => by simp at hn
  | y :: rest, x, s, s2 :: ns, dn, di, m + 1, r, hf, h, hs, hl, hn => by
    have hlt : ∀ a ∈ dn, lessB a s = true := fun a ha => (List.pairwise_append.1 (srt_pair hs)).2.2 a ha s (List.mem_cons_self ..)
    have e : itemsP true (x :: y :: rest) true (s :: s2 :: ns) ++ 125 :: r = quoteP s ++ 58 :: (printP x ++ 44 :: (itemsP true (y :: rest) true (s2 :: ns) ++ 125 :: r)) := by
      rw [itemsP_cons, items_next]
      simp [headP]
    rw [e, treeGo, kind_mk, if_pos (show (6 : Int) = 6 from rfl), name_back (jget_new hlt)]
    dsimp only
    rw [if_neg (by decide), hf x (List.mem_cons_self ..) _ (by rfl)]
    dsimp only
    rw [end_more (by decide), jput_end hlt hl]
    have := go_obj rest y s2 ns (dn ++ [s]) (di ++ [x]) m r (fun z hz => hf z (List.mem_cons_of_mem _ hz)) (by simp only [List.length_cons] at h; omega) (by rw [List.append_assoc]; exact hs) (by simp [hl]) (by simpa using hn)
    rw [List.append_assoc, List.append_assoc] at this
    exact this
theorem items_len (obj : Bool) : ∀ (l : List JV) (b : Bool) (ns : List bytes), l.length ≤ (itemsP obj l b ns).length
  | [], _, _ => by simp
  | x :: l, b, ns => by
    have := items_len obj l false ns.tail
    obtain ⟨c, p, h1, _⟩ := print_first x
    rw [itemsP_cons, h1]
    simp only [List.length_append, List.length_cons]
    omega
theorem treeP_list {f : bytes → JV × bytes × Int} {is : List JV} (ns : List bytes) {r : bytes} (hf : ∀ y ∈ is, Reads f y) : treeP f 93 listJ (itemsP false is true ns ++ 93 :: r) = (.mk 5 0 [] [] is, r, 0) := by
  cases is with
  | nil =>
    rw [itemsP_nil, List.nil_append]
    unfold treeP
    rw [blanks_cons_no (by decide), skipW_cons, if_pos rfl, skipW_nil]
    rfl
  | cons x rest =>
    obtain ⟨c, p, h1, h2⟩ := print_first x
    have h3 := start_not h2
    have e : itemsP false (x :: rest) true ns ++ 93 :: r = c :: (p ++ (itemsP false rest false ns.tail ++ 93 :: r)) := by
      rw [itemsP_cons, h1]
      simp [headP]
    have hb : blanks (itemsP false (x :: rest) true ns ++ 93 :: r) = itemsP false (x :: rest) true ns ++ 93 :: r := by rw [e]; exact blanks_cons_no h3.1
    have hl := items_len false (x :: rest) true ns
    unfold treeP
    rw [hb, skip_first (by decide) (by rw [e]; exact h3.2.1)]
    dsimp only
    exact go_list rest x [] _ ns r hf (by simp only [List.length_append, List.length_cons] at hl ⊢; omega)
theorem treeP_obj {f : bytes → JV × bytes × Int} {is : List JV} {ns : List bytes} {r : bytes} (hf : ∀ y ∈ is, Reads f y) (hs : srt ns = true) (hn : ns.length = is.length) : treeP f 125 objJ (itemsP true is true ns ++ 125 :: r) = (.mk 6 0 [] ns is, r, 0) := by
  cases is with
  | nil =>
    have : ns = [] := List.eq_nil_of_length_eq_zero hn
    subst this
    rw [itemsP_nil, List.nil_append]
    unfold treeP
    rw [blanks_cons_no (by decide), skipW_cons, if_pos rfl, skipW_nil]
    rfl
  | cons x rest =>
    cases ns with
    | nil => simp at hn
    | cons s ns =>
      have e : itemsP true (x :: rest) true (s :: ns) ++ 125 :: r = 34 :: (s.flatMap escB ++ 34 :: 58 :: (printP x ++ (itemsP true rest false ns ++ 125 :: r))) := by
        rw [itemsP_cons]
        simp [headP, quoteP]
      have hb : blanks (itemsP true (x :: rest) true (s :: ns) ++ 125 :: r) = itemsP true (x :: rest) true (s :: ns) ++ 125 :: r := by rw [e]; exact blanks_cons_no (by decide)
      have hl := items_len true (x :: rest) true (s :: ns)
      unfold treeP
      rw [hb, skip_first (by decide) (by rw [e]; exact (show (34 : UInt8) ≠ 125 by decide))]
      dsimp only
      exact go_obj rest x s ns [] [] _ r hf (by simp only [List.length_append, List.length_cons] at hl ⊢; omega) hs rfl (by simpa using hn)
theorem right_list {n : Nat} {v : JV} (h : rightJ n v = true) (hk : v.kind = 5) : ∃ k, n = k + 1 ∧ v = .mk 5 0 [] [] v.items ∧ v.items.all (rightJ k) = true := by
  rcases right_of h with h | ⟨h0, h1, h2⟩
  · exact absurd (.inl hk) (one_kind h)
  · unfold manyJ bareJ at h1
    rw [if_pos hk] at h1
    simp only [Bool.and_eq_true, decide_eq_true_eq] at h1
    refine ⟨n - 1, by omega, ?_, h2⟩
    obtain ⟨k, nu, t, ns, is⟩ := v
    simp only [JV.kind, JV.num, JV.text, JV.names, JV.items] at hk h1 ⊢
    obtain ⟨⟨rfl, rfl⟩, rfl⟩ := h1
    rw [hk]
theorem jv_eta (v : JV) : v = .mk v.kind v.num v.text v.names v.items := by cases v; rfl
theorem right_leaf {n : Nat} {v : JV} (h : rightJ n v = true) (hk : v.kind ≠ 5 ∧ v.kind ≠ 6) : v = .mk v.kind v.num v.text [] [] ∧ ((v.kind = 0 ∨ v.kind = 1 ∨ v.kind = 2) ∧ v.num = 0 ∧ v.text = [] ∨ v.kind = 3 ∧ v.text = [] ∧ -9007199254740991 ≤ v.num ∧ v.num ≤ 9007199254740991 ∨ v.kind = 4 ∧ v.num = 0 ∧ Lib.validD v.text = true) := by
  have he := jv_eta v
  rcases right_of h with h | ⟨_, h, _⟩
  · unfold oneJ bareJ leafJ at h
    by_cases h2 : v.kind = 0 ∨ v.kind = 1 ∨ v.kind = 2
    · rw [if_pos h2] at h
      simp only [Bool.and_eq_true, decide_eq_true_eq] at h
      obtain ⟨⟨e1, e2⟩, e3, e4⟩ := h
      rw [e3, e4] at he
      exact ⟨he, .inl ⟨h2, e1, e2⟩⟩
    rw [if_neg h2] at h
    by_cases h3 : v.kind = 3
    · rw [if_pos h3] at h
      simp only [Bool.and_eq_true, decide_eq_true_eq] at h
      obtain ⟨⟨⟨e3, e4⟩, e2⟩, h4⟩ := h
      rw [e3, e4] at he
      exact ⟨he, .inr (.inl ⟨h3, e2, h4⟩)⟩
    rw [if_neg h3] at h
    by_cases h4 : v.kind = 4
    · rw [if_pos h4] at h
      simp only [Bool.and_eq_true, decide_eq_true_eq] at h
      obtain ⟨⟨⟨e3, e4⟩, e1⟩, h5⟩ := h
      rw [e3, e4] at he
      exact ⟨he, .inr (.inr ⟨h4, e1, h5⟩)⟩
    rw [if_neg h4] at h
    cases h
  · unfold manyJ at h
    rw [if_neg hk.1, if_neg hk.2] at h
    cases h
theorem value_back : ∀ (n : Nat) (v : JV), rightJ n v = true → Reads (valueP n) v := by
  intro n
  induction n with
  | zero =>
    intro v h r hr
    by_cases hk : v.kind ≠ 5 ∧ v.kind ≠ 6
    · obtain ⟨h1, h2⟩ := right_leaf h hk
      refine value_leafP ?_
      rw [printP_eq]
      rcases h2 with ⟨h2, h3, h4⟩ | ⟨h2, h3, h4, h5⟩ | ⟨h2, h3, h4⟩
      · rw [h3, h4] at h1
        rcases h2 with e | e | e
        · rw [h1, e]; rfl
        · rw [h1, e]; rfl
        · rw [h1, e]; rfl
      · rw [if_neg (by omega), if_neg (by omega), if_pos h2, leaf_num hr h4 h5, h1, h2, h3]
        rfl
      · rw [if_neg (by omega), if_neg (by omega), if_neg (by omega), if_pos h2, leaf_text, h1, h2, h3]
        rfl
    · rcases right_of h with h | ⟨h, _⟩
      · exact absurd (by omega) (one_kind h)
      · omega
  | succ n ih =>
    intro v h r hr
    by_cases hk : v.kind ≠ 5 ∧ v.kind ≠ 6
    · obtain ⟨h1, h2⟩ := right_leaf h hk
      refine value_leafP ?_
      rw [printP_eq]
      rcases h2 with ⟨h2, h3, h4⟩ | ⟨h2, h3, h4, h5⟩ | ⟨h2, h3, h4⟩
      · rw [h3, h4] at h1
        rcases h2 with e | e | e
        · rw [h1, e]; rfl
        · rw [h1, e]; rfl
        · rw [h1, e]; rfl
      · rw [if_neg (by omega), if_neg (by omega), if_pos h2, leaf_num hr h4 h5, h1, h2, h3]
        rfl
      · rw [if_neg (by omega), if_neg (by omega), if_neg (by omega), if_pos h2, leaf_text, h1, h2, h3]
        rfl
    · have hpe : printP v ++ r = (if v.kind = 5 then 91 else 123) :: ((if v.kind = 5 then itemsP false v.items true v.names ++ 93 :: r else itemsP true v.items true v.names ++ 125 :: r)) := by
        rw [printP_eq, if_neg (by omega), if_neg (by omega), if_neg (by omega), if_neg (by omega)]
        by_cases h5 : v.kind = 5
        · rw [if_pos h5, if_pos h5, if_pos h5]
          simp
        · rw [if_neg h5, if_neg h5, if_neg h5, if_pos (by omega)]
          simp
      rw [valueP, print_blanks, hpe]
      by_cases h5 : v.kind = 5
      · rw [if_pos h5, if_pos h5]
        obtain ⟨k, e, h1, h2⟩ := right_list h h5
        obtain rfl : n = k := by omega
        have hl : leafP (91 :: (itemsP false v.items true v.names ++ 93 :: r)) = none := rfl
        rw [hl, Option.getD_none, if_pos (by rfl)]
        show treeP (valueP n) 93 listJ (itemsP false v.items true v.names ++ 93 :: r) = _
        rw [treeP_list v.names fun y hy => ih y (List.all_eq_true.1 h2 y hy), ← h1]
      · rw [if_neg h5, if_neg h5]
        obtain ⟨_, h1, h2, h3, h4, h6, h7⟩ := right_obj h (by omega)
        have hl : leafP (123 :: (itemsP true v.items true v.names ++ 125 :: r)) = none := rfl
        rw [hl, Option.getD_none, if_neg (show ¬ peek (123 :: (itemsP true v.items true v.names ++ 125 :: r)) = 91 from fun e => absurd (show (123 : UInt8) = 91 from e) (by decide))]
        show treeP (valueP n) 125 objJ (itemsP true v.items true v.names ++ 125 :: r) = _
        rw [treeP_obj (fun y hy => ih y (List.all_eq_true.1 h7 y hy)) h6 h3]
        obtain ⟨k, nu, t, ns, is⟩ := v
        simp only [JV.kind, JV.num, JV.text, JV.names, JV.items] at *
        rw [h1, h2, show k = 6 by omega]
theorem itoa_asc (n : Int) : ∀ b ∈ Lib.itoa n, b.toNat < 128 := by
  have : ∀ u, ∀ b ∈ Lib.decDigits u, b.toNat < 128 := fun u b hb => digit_asc (digs_all u b hb)
  intro b hb
  unfold Lib.itoa at hb
  split at hb
  · rcases List.mem_cons.1 hb with rfl | hb
    · decide
    · exact this _ b hb
  · exact this _ b hb
theorem items_valid (obj : Bool) : ∀ (l : List JV) (b : Bool) (ns : List bytes), (∀ x ∈ l, Lib.validD (printP x) = true) → (∀ s ∈ ns, Lib.validD s = true) → Lib.validD (itemsP obj l b ns) = true
  | [], b, ns, _, _ => by rw [itemsP_nil]; rfl
  | x :: l, b, ns, h, hn => by
    rw [itemsP_cons]
    refine valid_cat ?_ (valid_cat (h x (List.mem_cons_self ..)) (items_valid obj l false ns.tail (fun y hy => h y (List.mem_cons_of_mem _ hy)) fun s hs => hn s (List.mem_of_mem_tail hs)))
    unfold headP
    refine valid_cat (by cases b <;> decide) ?_
    cases obj with
    | false => rfl
    | true =>
      refine valid_cat (quote_valid ?_) (by decide)
      cases ns with
      | nil => rfl
      | cons s ns => exact hn s (List.mem_cons_self ..)
theorem print_valid : ∀ (n : Nat) (v : JV), rightJ n v = true → Lib.validD (printP v) = true := by
  intro n
  induction n with
  | zero =>
    intro v h
    by_cases hk : v.kind ≠ 5 ∧ v.kind ≠ 6
    · obtain ⟨h1, h2⟩ := right_leaf h hk
      rw [printP_eq]
      repeat' split
      all_goals first | rfl | omega | exact asc_valid (itoa_asc _) | skip
      exact quote_valid (by rcases h2 with h2 | h2 | h2 <;> first | omega | exact h2.2.2)
    · rcases right_of h with h | ⟨h, _⟩
      · exact absurd (by omega) (one_kind h)
      · omega
  | succ n ih =>
    intro v h
    by_cases hk : v.kind ≠ 5 ∧ v.kind ≠ 6
    · obtain ⟨h1, h2⟩ := right_leaf h hk
      rw [printP_eq]
      repeat' split
      all_goals first | rfl | omega | exact asc_valid (itoa_asc _) | skip
      exact quote_valid (by rcases h2 with h2 | h2 | h2 <;> first | omega | exact h2.2.2)
    · by_cases h5 : v.kind = 5
      · obtain ⟨k, e, h1, h2⟩ := right_list h h5
        obtain rfl : n = k := by omega
        rw [printP_eq, if_neg (by omega), if_neg (by omega), if_neg (by omega), if_neg (by omega), if_pos h5]
        have hn : v.names = [] := by rw [h1]; rfl
        exact valid_cat (a := [91]) (by decide) (valid_cat (items_valid _ _ _ _ (fun x hx => ih x (List.all_eq_true.1 h2 x hx)) (by rw [hn]; exact fun s hs => by cases hs)) (by decide))
      · obtain ⟨_, h1, h2, h3, h4, h6, h7⟩ := right_obj h (by omega)
        rw [printP_eq, if_neg (by omega), if_neg (by omega), if_neg (by omega), if_neg (by omega), if_neg h5, if_pos (by omega)]
        exact valid_cat (a := [123]) (by decide) (valid_cat (items_valid _ _ _ _ (fun x hx => ih x (List.all_eq_true.1 h7 x hx)) fun s hs => List.all_eq_true.1 h4 s hs) (by decide))
/-- What is printed is parsed as it was. -/
theorem parse_print {v : JV} (h : rightJ 12 v = true) (hl : (printP v).length ≤ 8192) : parseP (printP v) = (v, 0) := by
  have hv := value_back 12 v h [] rfl
  rw [List.append_nil] at hv
  unfold parseP
  rw [if_neg (by omega), if_neg (by rw [print_valid 12 v h]; decide), hv]
  rfl
/-! Lengths -/
theorem itoa_len {n : Int} (h1 : -9007199254740991 ≤ n) (h2 : n ≤ 9007199254740991) : (Lib.itoa n).length ≤ 17 := by
  have hd : ∀ (k u : Nat), u < 10 ^ k → (Lib.decDigits u).length ≤ max k 1 := by
    intro k
    induction k with
    | zero =>
      intro u h
      have : u < 1 := h
      obtain rfl : u = 0 := by omega
      rw [Lib.decDigits_one (by omega)]
      simp
    | succ k ih =>
      intro u h
      rw [Lib.decDigits]
      split
      · simp
        try omega
      · rename_i h3
        have := ih (u / 10) (by rw [Nat.pow_succ] at h; omega)
        rw [List.length_append, List.length_cons, List.length_nil]
        cases k with
        | zero => have : u < 10 := h; omega
        | succ k => omega
  have h16 : (10 : Nat) ^ 16 = 10000000000000000 := by decide
  unfold Lib.itoa
  split
  · have := hd 16 n.natAbs (by omega)
    rw [List.length_cons]
    omega
  · have := hd 16 n.toNat (by omega)
    omega
theorem items_size (obj : Bool) : ∀ (l : List JV) (b : Bool) (ns : List bytes), (∀ x ∈ l, (printP x).length + 1 ≤ 24 * sizeJ x) → (obj = true → ns.length = l.length) → (itemsP obj l b ns).length ≤ 24 * (l.map sizeJ).sum + 24 * (ns.map nameW).sum
  | [], b, ns, _, _ => by rw [itemsP_nil]; simp
  | x :: l, b, ns, h, hn => by
    have h1 := h x (List.mem_cons_self ..)
    have h2 := items_size obj l false ns.tail (fun y hy => h y (List.mem_cons_of_mem _ hy)) (fun e => by have := hn e; simp only [List.length_cons] at this; rw [List.length_tail]; omega)
    have h3 : (headP b obj (ns.headD [])).length + 24 * (ns.tail.map nameW).sum ≤ 1 + 24 * (ns.map nameW).sum := by
      unfold headP
      have hb : (if b = true then ([] : bytes) else [44]).length ≤ 1 := by cases b <;> simp
      rw [List.length_append]
      cases obj with
      | false =>
        cases ns with
        | nil => simp; cases b <;> simp
        | cons s ns => simp; cases b <;> simp <;> omega
      | true =>
        cases ns with
        | nil => simp at hn
        | cons s ns =>
          have := quoteP_len s
          have hw : nameW s = 1 + s.length := rfl
          simp only [if_true, List.headD_cons, List.tail_cons, List.map_cons, List.sum_cons, List.length_append, List.length_cons, List.length_nil, hw]
          omega
    rw [itemsP_cons, List.map_cons, List.sum_cons]
    simp only [List.length_append]
    omega
theorem print_size : ∀ (n : Nat) (v : JV), rightJ n v = true → (printP v).length + 1 ≤ 24 * sizeJ v := by
  intro n
  induction n with
  | zero =>
    intro v h
    have h0 := sizeJ_pos v
    have ht := size_text v
    have hq := quoteP_len v.text
    by_cases hk : v.kind ≠ 5 ∧ v.kind ≠ 6
    · obtain ⟨h1, h2⟩ := right_leaf h hk
      rw [printP_eq]
      repeat' split
      all_goals first | omega | (simp [wTrue, wFalse, wNull]; omega) | skip
      have := itoa_len (n := v.num) (by omega) (by omega)
      omega
    · rcases right_of h with h | ⟨h, _⟩
      · exact absurd (by omega) (one_kind h)
      · omega
  | succ n ih =>
    intro v h
    have h0 := sizeJ_pos v
    have ht := size_text v
    have hq := quoteP_len v.text
    by_cases hk : v.kind ≠ 5 ∧ v.kind ≠ 6
    · obtain ⟨h1, h2⟩ := right_leaf h hk
      rw [printP_eq]
      repeat' split
      all_goals first | omega | (simp [wTrue, wFalse, wNull]; omega) | skip
      have := itoa_len (n := v.num) (by omega) (by omega)
      omega
    · have hsz : sizeJ v = 1 + v.text.length + (v.names.map nameW).sum + (v.items.map sizeJ).sum := by rw [sizeJ_eq, sizesJ_eq]
      by_cases h5 : v.kind = 5
      · obtain ⟨k, e, h1, h2⟩ := right_list h h5
        obtain rfl : n = k := by omega
        have := items_size false v.items true v.names (fun x hx => ih x (List.all_eq_true.1 h2 x hx)) (fun e => by cases e)
        rw [printP_eq, if_neg (by omega), if_neg (by omega), if_neg (by omega), if_neg (by omega), if_pos h5]
        simp only [List.length_cons, List.length_append, List.length_nil]
        omega
      · obtain ⟨_, h1, h2, h3, h4, h6, h7⟩ := right_obj h (by omega)
        have := items_size true v.items true v.names (fun x hx => ih x (List.all_eq_true.1 h7 x hx)) (fun _ => h3)
        rw [printP_eq, if_neg (by omega), if_neg (by omega), if_neg (by omega), if_neg (by omega), if_neg h5, if_pos (by omega)]
        simp only [List.length_cons, List.length_append, List.length_nil]
        omega
end Go.Proofs.YtdahdbnfknmmgaaGreatDoor
end

section
set_option linter.unusedSimpArgs false
set_option linter.unusedVariables false
namespace Go.Proofs.YtdahdbnfknmmgaaGreatDoor
open Go V
set_option maxRecDepth 10000
set_option maxHeartbeats 4000000
def wNames (most : Int) : List bytes → Int → Int
  | [], n => n
  | s :: r, n => if n ≤ most then wNames most r (n + 1 + min (s.length : Int) most) else n
mutual
def weigh : JV → Int → Int
  | .mk _ _ t ns is, most => wItems most is (wNames most ns (1 + min (t.length : Int) most))
def wItems (most : Int) : List JV → Int → Int
  | [], n => n
  | v :: r, n => if n ≤ most then wItems most r (n + weigh v (most - n)) else n
end
theorem weigh_eq (v : JV) (most : Int) : weigh v most = wItems most v.items (wNames most v.names (1 + min (v.text.length : Int) most)) := by cases v; rw [weigh]; rfl
theorem wItems_cons {most n : Int} {v : JV} {r : List JV} : wItems most (v :: r) n = if n ≤ most then wItems most r (n + weigh v (most - n)) else n := by rw [wItems]
theorem wItems_nil {most n : Int} : wItems most [] n = n := by rw [wItems]
theorem wNames_stop {most n : Int} {l : List bytes} (h : ¬ n ≤ most) : wNames most l n = n := by cases l <;> simp [wNames, h]
theorem wItems_stop {most n : Int} {l : List JV} (h : ¬ n ≤ most) : wItems most l n = n := by
  cases l with
  | nil => exact wItems_nil
  | cons => rw [wItems_cons, if_neg h]
theorem drop_cons {α : Type} {l : List α} {i : Nat} (d : α) (h : i < l.length) : l.drop i = l.getD i d :: l.drop (i + 1) := by
  rw [List.getD, List.getElem?_eq_getElem h, Option.getD_some, ← List.drop_eq_getElem_cons h]
theorem wNames_at {most n : Int} {l : List bytes} {i : Nat} (h : i < l.length) (hn : n ≤ most) : wNames most (l.drop i) n = wNames most (l.drop (i + 1)) (n + 1 + min ((l.getD i []).length : Int) most) := by
  rw [drop_cons [] h, wNames, if_pos hn]
theorem wItems_at {most n : Int} {l : List JV} {i : Nat} (h : i < l.length) (hn : n ≤ most) : wItems most (l.drop i) n = wItems most (l.drop (i + 1)) (n + weigh (l.getD i zeroJ) (most - n)) := by
  rw [drop_cons zeroJ h, wItems_cons, if_pos hn]
theorem wNames_le : ∀ (l : List bytes) (most n : Int), 0 ≤ most → 0 ≤ n → n ≤ 2 * most + 1 → n ≤ wNames most l n ∧ wNames most l n ≤ 2 * most + 1 ∧ (wNames most l n ≤ most → wNames most l n = n + (l.map nameW).sum) ∧ (n + (l.map nameW).sum ≤ most → wNames most l n = n + (l.map nameW).sum)
  | [], most, n, h0, hp, hn => by simp [wNames]; omega
  | s :: r, most, n, h0, hp, hn => by
    rw [wNames]
    by_cases h : n ≤ most
    · rw [if_pos h]
      have ih := wNames_le r most (n + 1 + min (s.length : Int) most) h0 (by omega) (by omega)
      rw [List.map_cons, List.sum_cons]
      have : nameW s = 1 + s.length := rfl
      rw [this]
      omega
    · rw [if_neg h, List.map_cons, List.sum_cons]
      omega
theorem weigh_le : ∀ (v : JV) (most : Int), 0 ≤ most → 1 ≤ weigh v most ∧ weigh v most ≤ 2 * most + 1 ∧ (weigh v most ≤ most → weigh v most = sizeJ v) ∧ ((sizeJ v : Int) ≤ most → weigh v most = sizeJ v) := by
  refine JV.induct fun k nu t ns is ih most h0 => ?_
  have hit : ∀ (l : List JV), (∀ x ∈ l, x ∈ is) → ∀ n : Int, 0 ≤ n → n ≤ 2 * most + 1 → n ≤ wItems most l n ∧ wItems most l n ≤ 2 * most + 1 ∧ (wItems most l n ≤ most → wItems most l n = n + (l.map sizeJ).sum) ∧ (n + (l.map sizeJ).sum ≤ most → wItems most l n = n + (l.map sizeJ).sum) := by
    intro l
    induction l with
    | nil => intro _ n hp hn; rw [wItems_nil]; simp; omega
    | cons v r ihl =>
      intro hm n hp hn
      rw [wItems_cons, List.map_cons, List.sum_cons]
      by_cases h : n ≤ most
      · rw [if_pos h]
        have h1 := ih v (hm v (List.mem_cons_self ..)) (most - n) (by omega)
        have h2 := ihl (fun x hx => hm x (List.mem_cons_of_mem _ hx)) (n + weigh v (most - n)) (by omega) (by omega)
        omega
      · rw [if_neg h]
        omega
  rw [weigh_eq, sizeJ_eq, sizesJ_eq]
  show 1 ≤ wItems most is (wNames most ns (1 + min (t.length : Int) most)) ∧ wItems most is (wNames most ns (1 + min (t.length : Int) most)) ≤ 2 * most + 1 ∧ (wItems most is (wNames most ns (1 + min (t.length : Int) most)) ≤ most → wItems most is (wNames most ns (1 + min (t.length : Int) most)) = ((1 + t.length + (ns.map nameW).sum + (is.map sizeJ).sum : Nat) : Int)) ∧ (((1 + t.length + (ns.map nameW).sum + (is.map sizeJ).sum : Nat) : Int) ≤ most → wItems most is (wNames most ns (1 + min (t.length : Int) most)) = ((1 + t.length + (ns.map nameW).sum + (is.map sizeJ).sum : Nat) : Int))
  have h1 := wNames_le ns most (1 + min (t.length : Int) most) h0 (by omega) (by omega)
  have h2 := hit is (fun _ h => h) (wNames most ns (1 + min (t.length : Int) most)) (by omega) h1.2.1
  omega
theorem Weigh_c : ∀ (v : JV) (most : Int) (H : List AObj), 0 ≤ most → most ≤ 10000 → ACalls Tryz.prog 31 [jAV v, .lit (.int .i64 most)] H (fun x H' => x = .int .i64 (weigh v most) ∧ H' = H) := by
  refine JV.induct fun k nu t ns is ih most H h0 hm => ?_
  rw [weigh_eq]
  generalize hv : JV.mk k nu t ns is = v
  have ih' : ∀ x ∈ v.items, ∀ (most : Int) (H : List AObj), 0 ≤ most → most ≤ 10000 → ACalls Tryz.prog 31 [jAV x, .lit (.int .i64 most)] H (fun x' H' => x' = .int .i64 (weigh x most) ∧ H' = H) := by subst hv; exact ih
  clear ih hv
  refine acalls_vc L_ok mixed [] (rs := [.tmp 4]) (n := 61) Tryz.func31 rfl rfl rfl rfl (Nat.le_of_ble_eq_true rfl) (by kernel_rfl) ?_
  repeat' (first | refine unhold ?_ | (simp -dsimp -implicitDefEqProofs (disch := (first | assumption | omega | (simp only [ll1, ll2, ll3, ll4, ll5, ll6, ll7, ll8]; omega))) only [go_sem]) | refine vcI (fun _ => ?_) (fun _ => ?_) | (refine vcA ?_ ?_; focus (repeat' (first | omega | assumption | refine vcA ?_ ?_); done)) | omega | refine imp_in (fun _ => ?_))
  generalize hN : wNames most v.names (1 + min (v.text.length : Int) most) = N
  refine vc_loopk L_ok mixed [] [1, 2, 4] (fun p : Nat × Int => p.1 ≤ v.names.length ∧ (p.1 : Int) < p.2 ∧ p.2 ≤ 2 * most + 1 ∧ wNames most (v.names.drop p.1) p.2 = N) (fun p => [(6, .int .i64 p.1), (5, .int .i64 p.2)]) (fun _ => H) (fun p => v.names.length - p.1) (by kernel_rfl) ?_ (0, 1 + min (v.text.length : Int) most) ⟨by simp, by simp; omega, by simp; omega, by simpa using hN⟩ env_ok rfl
  rintro ⟨i, n⟩ ⟨hi, hin, hn, hw⟩
  dsimp only at hi hin hn hw ⊢
  repeat' (first | refine unhold ?_ | (simp -dsimp -implicitDefEqProofs (disch := (first | assumption | omega | (simp only [ll1, ll2, ll3, ll4, ll5, ll6, ll7, ll8]; omega))) only [go_sem]) | refine vcI (fun _ => ?_) (fun _ => ?_) | (refine vcA ?_ ?_; focus (repeat' (first | omega | assumption | refine vcA ?_ ?_); done)) | omega | refine imp_in (fun _ => ?_))
  · rename_i h1 h2
    refine again ((i + 1, n + 1 + min ((v.names.getD i []).length : Int) most)) ?_ ?_ rfl env_ok
    · dsimp only; omega
    · dsimp only
      exact ⟨by omega, by omega, by omega, by rw [← wNames_at (by omega) h2]; exact hw⟩
  all_goals
    have hnN : n = N := by
      first
        | (rw [wNames_stop (by omega)] at hw; exact hw)
        | (rw [List.drop_eq_nil_of_le (by omega)] at hw; exact hw)
    subst hnN
    clear hw hin
    have hpos := (wNames_le v.names most (1 + min (v.text.length : Int) most) h0 (by omega) (by omega)).1
    rw [hN] at hpos
    refine vc_loopk L_ok mixed [] [1, 2, 4] (fun p : Nat × Int => p.1 ≤ v.items.length ∧ (p.1 : Int) < p.2 ∧ p.2 ≤ 2 * most + 1 ∧ wItems most (v.items.drop p.1) p.2 = wItems most v.items n) (fun p => [(7, .int .i64 p.1), (5, .int .i64 p.2)]) (fun _ => H) (fun p => v.items.length - p.1) (by kernel_rfl) ?_ (0, n) ⟨by simp, by simp; omega, hn, by simp⟩ env_ok rfl
    rintro ⟨j, m⟩ ⟨hj, hjm, hm2, hw⟩
    dsimp only at hj hjm hm2 hw ⊢
    have hwl := fun (h : m ≤ most) => weigh_le (v.items.getD j zeroJ) (most - m) (by omega)
    repeat' (first | refine unhold ?_ | (simp -dsimp -implicitDefEqProofs (disch := (first | assumption | omega | (simp only [ll1, ll2, ll3, ll4, ll5, ll6, ll7, ll8]; omega))) only [go_sem]) | refine acalls_same (ih' _ (mem_getD (by omega)) _ _ (by omega) (by omega)) ?_ | refine ⟨_, ih' _ (mem_getD (by omega)) _ _ (by omega) (by omega), ?_⟩ | refine ⟨_, _, ih' _ (mem_getD (by omega)) _ _ (by omega) (by omega), ?_⟩ | refine vcI (fun _ => ?_) (fun _ => ?_) | (refine vcA ?_ ?_; focus (repeat' (first | omega | assumption | refine vcA ?_ ?_); done)) | omega | refine imp_in (fun _ => ?_))
    · rename_i h1 h2
      have := hwl h2
      refine again ((j + 1, m + weigh (v.items.getD j zeroJ) (most - m))) ?_ ?_ rfl env_ok
      · dsimp only; omega
      · dsimp only
        exact ⟨by omega, by omega, by omega, by rw [← wItems_at (by omega) h2]; exact hw⟩
    · rename_i h1 h2
      refine done_same ⟨int_eq ?_, rfl⟩
      rw [← hw, wItems_stop (by omega)]
    · rename_i h1
      refine done_same ⟨int_eq ?_, rfl⟩
      rw [← hw, List.drop_eq_nil_of_le (by omega), wItems_nil]
end Go.Proofs.YtdahdbnfknmmgaaGreatDoor
end
