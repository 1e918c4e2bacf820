/- Sums of trees, and redaction: the program's. -/
import Derived.Test.YtdahdbnfknmmgaaGreatDoorW7
import Derived.Test.YtdahdbnfknmmgaaGreatDoorW3
import Derived.Test.YtdahdbnfknmmgaaGreatDoorW4
import Derived.Test.YtdahdbnfknmmgaaGreatDoorCards
import Derived.Test.YtdahdbnfknmmgaaGreatDoorTie
import Derived.ProofKit
import Derived.OpenShut
import Derived.Deep.DeepWitnessRowRef
section
set_option linter.unusedSimpArgs false
set_option linter.unusedVariables false
namespace Go.Proofs.YtdahdbnfknmmgaaGreatDoor
open Go V
set_option maxRecDepth 10000
set_option maxHeartbeats 4000000
/-- An object is handed over to a call that reads it; nobody writes it any more. -/
theorem acalls_frz {P : Program} {f : FuncId} {H : List AObj} {R : AV → List AObj → Prop} {k : Nat} {sh : Shape} {cs : List AV} {x y : AV} (hk : H[k]? = some (.cells sh cs)) (fz : Frz1 H k x y) (h : ACalls P f [y] (H.set k .gone) R) : ACalls P f [x] H R := fun G w vs hi ha => by
  obtain ⟨hi', st⟩ := fr1_inv hi hk
  refine (h _ w vs hi' ⟨ha.1, fun j y' u ey ev => ?_⟩).mono ?_
  · cases j with
    | zero =>
      cases ey
      exact fr1_rel hi hk fz u (ha.2 0 x u rfl ev)
    | succ j => simp at ey
  · rintro v w' ⟨x, G', H', h1, h2, h3, h4⟩
    exact ⟨x, G', H', h1, st.trans h2, h3, h4⟩
theorem frz_bytes {H : List AObj} {k : Nat} {sh : Shape} {l : bytes} {cap : Nat} (hk : H[k]? = some (.cells sh (l.map byteAV))) : Frz1 H k (.msl k 0 l.length cap) (.sl .sh 1 (l.map byteAV)) := by
  have hfl : flats (l.map byteAV) = l.map byteAV := flats_ones byteAV (fun _ => rfl) l
  refine .msl 0 l.length cap 1 sh (l.map byteAV) (l.map byteAV) hk (by simp) (fun x hx => by obtain ⟨c, _, rfl⟩ := List.mem_map.1 hx; exact ⟨rfl, rfl⟩) (by rw [hfl]; simp) fun j c y e1 e2 => ?_
  rw [hfl] at e2
  rw [Nat.zero_add, e2] at e1
  cases e1
  exact .keep _
theorem all_b {l : bytes} : (l.map byteAV).all AV.scalar = true := List.all_eq_true.2 (ones_map fun _ => rfl)
theorem zero32_av : List.replicate 32 (AV.lit (.int .u8 0)) = zero32.map byteAV := by simp [zero32, byteAV]
theorem aset_32 {l m : bytes} (h : l.length = 32) (k : m.length = 32) : aset (l.map byteAV) 0 (m.map byteAV) = m.map byteAV := by
  rw [aset_eq _ _ _ (by simp; omega)]
  simp [h, k]
def sumAV (p : bytes × Int) : AV := .tup [.agg (p.1.map byteAV), .lit (.int .i64 p.2)]
theorem low_sumAV {m : Nat} {p : bytes × Int} : Low m (sumAV p) := low_tup (lowAll_cons low_aggb (lowAll_cons (.lit _) lowAll_nil))
theorem object_c (v : JV) (H : List AObj) (hv : sizeJ v ≤ 40000) : ACalls Tryz.prog 36 [jAV v] H (fun y H' => y = .bool (objB v) ∧ H' = H) := by
  have cv := fun H => Right_j v H hv
  unfold objB
  by_cases hk : v.kind = 6
  · have hkt := eq_true hk
    rw [decide_eq_true hk, Bool.true_and]
    refine acalls_vc L_ok mixed [] (rs := [.tmp 2]) (n := 10) Tryz.func36 rfl rfl rfl rfl (Nat.le_of_ble_eq_true rfl) (by kernel_rfl) ?_
    repeat' (first | refine unhold ?_ | (simp -dsimp -implicitDefEqProofs (disch := (first | assumption | omega | (simp only [ll1, ll2, ll3, ll4, ll5, ll6, ll7, ll8]; omega))) only [go_sem, hkt]) | refine acalls_same (cv _) ?_ | refine ⟨_, cv _, ?_⟩ | refine ⟨_, _, cv _, ?_⟩ | refine vcI (fun _ => ?_) (fun _ => ?_) | (refine vcA ?_ ?_; focus (repeat' (first | omega | assumption | refine vcA ?_ ?_); done)) | omega | refine imp_in (fun _ => ?_))
    exact done_same ⟨rfl, rfl⟩
  · have hkf := eq_false hk
    rw [decide_eq_false hk, Bool.false_and]
    refine acalls_vc L_ok mixed [] (rs := [.tmp 2]) (n := 10) Tryz.func36 rfl rfl rfl rfl (Nat.le_of_ble_eq_true rfl) (by kernel_rfl) ?_
    repeat' (first | refine unhold ?_ | (simp -dsimp -implicitDefEqProofs (disch := (first | assumption | omega | (simp only [ll1, ll2, ll3, ll4, ll5, ll6, ll7, ll8]; omega))) only [go_sem, hkf]) | refine acalls_same (cv _) ?_ | refine ⟨_, cv _, ?_⟩ | refine ⟨_, _, cv _, ?_⟩ | refine vcI (fun _ => ?_) (fun _ => ?_) | (refine vcA ?_ ?_; focus (repeat' (first | omega | assumption | refine vcA ?_ ?_); done)) | omega | refine imp_in (fun _ => ?_))
    exact done_same ⟨rfl, rfl⟩
theorem sum_c (v : JV) (H : List AObj) (hv : sizeJ v ≤ 40000) : ACalls Tryz.prog 37 [jAV v] H (fun y H' => y = sumAV (sumE v) ∧ H' = H) := by
  have cp := fun H => Print_c v H hv
  have hpl := printE_len v
  have hz : (zero32).length = 32 := rfl
  unfold printAV at cp
  unfold sumE
  by_cases h : (printE v).2 = 0
  · rw [if_pos h]
    rw [h] at cp
    have hsl := sum256_len (printE v).1
    have cs := fun H => Sum256_c (o := .full) (o2 := .sh) (printE v).1 H (by omega)
    generalize sum256 (printE v).1 = sm at *
    generalize (printE v).1 = t at *
    have ha := aset_32 hz hsl
    refine acalls_vc L_ok mixed [] (rs := [.cell 2 37, .tmp 3]) (n := 19) Tryz.func37 rfl rfl rfl rfl (Nat.le_of_ble_eq_true rfl) (by kernel_rfl) ?_
    repeat' (first | refine unhold ?_ | (simp -dsimp -implicitDefEqProofs (disch := (first | assumption | omega | (simp only [ll1, ll2, ll3, ll4, ll5, ll6, ll7, ll8]; omega))) only [go_sem, zero32_av, ha, all_b, hsl, hz, bytesAV]) | refine acalls_same (cp _) ?_ | refine ⟨_, cp _, ?_⟩ | refine ⟨_, _, cp _, ?_⟩ | refine acalls_same (cs _) ?_ | refine ⟨_, cs _, ?_⟩ | refine ⟨_, _, cs _, ?_⟩ | refine vcI (fun _ => ?_) (fun _ => ?_) | (refine vcA ?_ ?_; focus (repeat' (first | omega | assumption | refine vcA ?_ ?_); done)) | omega | refine imp_in (fun _ => ?_))
    exact done_cut _ (Le.refl _) (low_sumAV (p := (sm, 0))) ⟨rfl, rfl⟩
  · rw [if_neg h]
    have hf := eq_false h
    have ha := aset_32 hz hz
    generalize printE v = p at *
    refine acalls_vc L_ok mixed [] (rs := [.cell 2 37, .tmp 3]) (n := 19) Tryz.func37 rfl rfl rfl rfl (Nat.le_of_ble_eq_true rfl) (by kernel_rfl) ?_
    repeat' (first | refine unhold ?_ | (simp -dsimp -implicitDefEqProofs (disch := (first | assumption | omega | (simp only [ll1, ll2, ll3, ll4, ll5, ll6, ll7, ll8]; omega))) only [go_sem, hf, zero32_av, ha, all_b, hz]) | refine acalls_same (cp _) ?_ | refine ⟨_, cp _, ?_⟩ | refine ⟨_, _, cp _, ?_⟩ | refine vcI (fun _ => ?_) (fun _ => ?_) | (refine vcA ?_ ?_; focus (repeat' (first | omega | assumption | refine vcA ?_ ?_); done)) | omega | refine imp_in (fun _ => ?_))
    exact done_cut _ (Le.refl _) (low_sumAV (p := (zero32, p.2))) ⟨rfl, rfl⟩

theorem gone_keep (ns : List bytes) (v : JV) : jcut (hasB (v.names.filter fun s => !hasB ns s)) v = keepP ns v := by
  unfold keepP jcut
  split
  · rename_i h
    obtain ⟨_, _, _, h3, _⟩ := right_obj h.2 h.1
    unfold cutP
    congr 1
    apply List.filter_congr
    intro q hq
    have hm : q.1 ∈ v.names := by rw [← prs_names h3]; exact List.mem_map_of_mem hq
    congr 1
    unfold hasB
    rw [Bool.eq_iff_iff, List.any_eq_true]
    constructor
    · rintro ⟨x, hx, he⟩
      have := (List.mem_filter.1 hx).2
      simp only [beq_iff_eq] at he
      rw [he] at this
      exact this
    · intro h
      exact ⟨q.1, List.mem_filter.2 ⟨hm, h⟩, by simp⟩
  · rfl
theorem gone_len (ns l : List bytes) (i : Nat) : ((l.take i).filter fun s => !hasB ns s).length ≤ i := by
  have := List.length_filter_le (fun s => !hasB ns s) (l.take i)
  rw [List.length_take] at this
  omega
theorem gone_put (ns l : List bytes) {i : Nat} (h : i < l.length) : ((l.take (i + 1)).filter fun s => !hasB ns s) = ((l.take i).filter fun s => !hasB ns s) ++ (if hasB ns (l.getD i []) = true then [] else [l.getD i []]) := by
  have e : l[i]? = some (l.getD i []) := by rw [List.getD_eq_getElem?_getD, List.getElem?_eq_getElem h]; rfl
  rw [take_put e, List.filter_append, List.filter_cons, List.filter_nil]
  cases hasB ns (l.getD i []) <;> rfl
def gObjsK (H : List AObj) (g : List bytes) : List AObj := H ++ [.cells (.one 29) zCells, .grow 1 g.length none]
theorem keep_c (v : JV) (t : bytes) (H : List AObj) (hv : sizeJ v ≤ 40000) (ha : ∀ c ∈ t, c.toNat < 128) (ht : t.length ≤ 1000) (hf : (fieldsP t).length ≤ 1000) : ACalls Tryz.prog 38 [jAV v, .str t] H (fun y H' => y = jAV (keepP (fieldsP t) v) ∧ H' = H) := by
  have cf := fun H => Fields_c t H ha (by omega)
  rw [← gone_keep]
  generalize fieldsP t = ns at *
  have mS : ∀ (a : List bytes) (b : bytes), a.map AV.str ++ [.str b] = (a ++ [b]).map AV.str := fun a b => by simp
  have hn1 : v.names.length ≤ 40000 := by have := size_names v; omega
  refine acalls_vc L_ok mixed [] (rs := [.cell 4 29]) (n := 30) Tryz.func38 rfl rfl rfl rfl (Nat.le_of_ble_eq_true rfl) (by kernel_rfl) ?_
  repeat' (first | refine unhold ?_ | (simp -dsimp -implicitDefEqProofs (disch := (first | assumption | omega | (simp only [ll1, ll2, ll3, ll4, ll5, ll6, ll7, ll8]; omega))) only [go_sem]) | refine acalls_same (cf _) ?_ | refine ⟨_, cf _, ?_⟩ | refine ⟨_, _, cf _, ?_⟩ | refine vcI (fun _ => ?_) (fun _ => ?_) | (refine vcA ?_ ?_; focus (repeat' (first | omega | assumption | refine vcA ?_ ?_); done)) | omega | refine imp_in (fun _ => ?_))
  refine aw_mint 6 1 rfl (by decide) (fun h => absurd rfl h) ?_
  rw [show ∀ o : AObj, (H ++ [o]).length = H.length + 1 from fun o => by simp]
  refine vc_loopk L_ok mixed [] [2, 4, 5, 12, 13] (fun i : Nat => i ≤ v.names.length) (fun i => [(14, .int .i64 i), (6, .sl (.tok (H.length + 1)) 1 (((v.names.take i).filter fun s => !hasB ns s).map .str))]) (fun i => gObjsK H ((v.names.take i).filter fun s => !hasB ns s)) (fun i => v.names.length - i) (by kernel_rfl) ?_ 0 (by omega) env_ok (by simp [gObjsK, zCells])
  intro i hi
  have hgl := gone_len ns v.names i
  unfold gObjsK
  dsimp only [zCells]
  by_cases hil : i < v.names.length
  · have t1 := gone_put ns v.names hil
    have cc := fun H => Contains_c (o := .sh) ns (v.names.getD i []) H (by omega)
    rw [idxS_has] at cc
    cases hp : hasB ns (v.names.getD i []) with
    | true =>
      rw [if_pos hp, List.append_nil] at t1
      repeat' (first | refine unhold ?_ | (simp -dsimp -implicitDefEqProofs (disch := (first | assumption | omega | (simp only [ll1, ll2, ll3, ll4, ll5, ll6, ll7, ll8]; omega))) only [go_sem, hp]) | refine acalls_same (cc _) ?_ | refine ⟨_, cc _, ?_⟩ | refine ⟨_, _, cc _, ?_⟩ | refine vcI (fun _ => ?_) (fun _ => ?_) | (refine vcA ?_ ?_; focus (repeat' (first | omega | assumption | refine vcA ?_ ?_); done)) | omega | refine imp_in (fun _ => ?_))
      rw [← t1]
      refine again (i + 1) ?_ ?_ rfl env_ok
      · omega
      · omega
    | false =>
      rw [if_neg (by rw [hp]; decide)] at t1
      generalize ((v.names.take i).filter fun s => !hasB ns s) = q at *
      repeat' (first | refine unhold ?_ | (simp -dsimp -implicitDefEqProofs (disch := (first | assumption | omega | (simp only [ll1, ll2, ll3, ll4, ll5, ll6, ll7, ll8]; omega))) only [go_sem, hp, mS]) | refine acalls_same (cc _) ?_ | refine ⟨_, cc _, ?_⟩ | refine ⟨_, _, cc _, ?_⟩ | refine vcI (fun _ => ?_) (fun _ => ?_) | (refine vcA ?_ ?_; focus (repeat' (first | omega | assumption | refine vcA ?_ ?_); done)) | omega | refine imp_in (fun _ => ?_))
      rw [show q.length + 1 = (q ++ [v.names.getD i []]).length by simp, ← t1]
      refine again (i + 1) ?_ ?_ rfl env_ok
      · omega
      · omega
  · obtain rfl : i = v.names.length := by omega
    rw [List.take_length] at hgl ⊢
    generalize (v.names.filter fun s => !hasB ns s) = q at *
    have cw := fun H' => Without_j (o := .tok (H.length + 1)) v q H' hv (by omega)
    repeat' (first | refine unhold ?_ | (simp -dsimp -implicitDefEqProofs (disch := (first | assumption | omega | (simp only [ll1, ll2, ll3, ll4, ll5, ll6, ll7, ll8]; omega))) only [go_sem]) | refine acalls_same (cw _) ?_ | refine ⟨_, cw _, ?_⟩ | refine ⟨_, _, cw _, ?_⟩ | refine vcI (fun _ => ?_) (fun _ => ?_) | (refine vcA ?_ ?_; focus (repeat' (first | omega | assumption | refine vcA ?_ ?_); done)) | omega | refine imp_in (fun _ => ?_))
    exact done_cut (jAV (jcut (hasB q) v)) (Le.refl _) (low_jAV _) ⟨rfl, rfl⟩
end Go.Proofs.YtdahdbnfknmmgaaGreatDoor
end

section
set_option linter.unusedSimpArgs false
set_option linter.unusedVariables false
namespace Go.Proofs.YtdahdbnfknmmgaaGreatDoor
open Go V
set_option maxRecDepth 10000
set_option maxHeartbeats 4000000
def outerS : bytes := [97, 117, 116, 104, 95, 101, 118, 101, 110, 116, 115, 32, 99, 111, 110, 116, 101, 110, 116, 32, 100, 101, 112, 116, 104, 32, 104, 97, 115, 104, 101, 115, 32, 111, 114, 105, 103, 105, 110, 95, 115, 101, 114, 118, 101, 114, 95, 116, 115, 32, 112, 114, 101, 118, 95, 101, 118, 101, 110, 116, 115, 32, 114, 111, 111, 109, 95, 105, 100, 32, 115, 101, 110, 100, 101, 114, 32, 115, 105, 103, 110, 97, 116, 117, 114, 101, 115, 32, 115, 116, 97, 116, 101, 95, 107, 101, 121, 32, 116, 121, 112, 101]
def innerS (k : bytes) : bytes :=
  if k = [109, 46, 114, 111, 111, 109, 46, 99, 114, 101, 97, 116, 101] then [99, 114, 101, 97, 116, 111, 114]
  else if k = [109, 46, 114, 111, 111, 109, 46, 109, 101, 109, 98, 101, 114] then [109, 101, 109, 98, 101, 114, 115, 104, 105, 112]
  else if k = [109, 46, 114, 111, 111, 109, 46, 106, 111, 105, 110, 95, 114, 117, 108, 101, 115] then [106, 111, 105, 110, 95, 114, 117, 108, 101]
  else if k = [109, 46, 114, 111, 111, 109, 46, 112, 111, 119, 101, 114, 95, 108, 101, 118, 101, 108, 115] then [98, 97, 110, 32, 101, 118, 101, 110, 116, 115, 32, 101, 118, 101, 110, 116, 115, 95, 100, 101, 102, 97, 117, 108, 116, 32, 105, 110, 118, 105, 116, 101, 32, 107, 105, 99, 107, 32, 114, 101, 100, 97, 99, 116, 32, 115, 116, 97, 116, 101, 95, 100, 101, 102, 97, 117, 108, 116, 32, 117, 115, 101, 114, 115, 32, 117, 115, 101, 114, 115, 95, 100, 101, 102, 97, 117, 108, 116]
  else if k = [109, 46, 114, 111, 111, 109, 46, 104, 105, 115, 116, 111, 114, 121, 95, 118, 105, 115, 105, 98, 105, 108, 105, 116, 121] then [104, 105, 115, 116, 111, 114, 121, 95, 118, 105, 115, 105, 98, 105, 108, 105, 116, 121]
  else []
theorem outer_fields : fieldsP outerS = outerN := by decide +kernel
theorem inner_fields (k : bytes) : fieldsP (innerS k) = innerN k ∧ (∀ c ∈ innerS k, c.toNat < 128) ∧ (innerS k).length ≤ 1000 ∧ (innerN k).length ≤ 1000 := by
  unfold innerS innerN
  repeat' split
  all_goals decide +kernel
theorem inner_c (k : bytes) (H : List AObj) : ACalls Tryz.prog 39 [.str k] H (fun y H' => y = .str (innerS k) ∧ H' = H) := by
  unfold innerS
  by_cases h0 : k = [109, 46, 114, 111, 111, 109, 46, 99, 114, 101, 97, 116, 101]
  · rw [if_pos h0]
    have t0 := eq_true h0
    refine acalls_vc L_ok mixed [] (rs := [.tmp 2]) (n := 14) Tryz.func39 rfl rfl rfl rfl (Nat.le_of_ble_eq_true rfl) (by kernel_rfl) ?_
    repeat' (first | refine unhold ?_ | (simp -dsimp -implicitDefEqProofs (disch := (first | assumption | omega | (simp only [ll1, ll2, ll3, ll4, ll5, ll6, ll7, ll8]; omega))) only [go_sem, t0]) | refine vcI (fun _ => ?_) (fun _ => ?_) | (refine vcA ?_ ?_; focus (repeat' (first | omega | assumption | refine vcA ?_ ?_); done)) | omega | refine imp_in (fun _ => ?_))
    exact done_same ⟨rfl, rfl⟩
  · rw [if_neg h0]
    have f0 := eq_false h0
    by_cases h1 : k = [109, 46, 114, 111, 111, 109, 46, 109, 101, 109, 98, 101, 114]
    · rw [if_pos h1]
      have t1 := eq_true h1
      refine acalls_vc L_ok mixed [] (rs := [.tmp 2]) (n := 14) Tryz.func39 rfl rfl rfl rfl (Nat.le_of_ble_eq_true rfl) (by kernel_rfl) ?_
      repeat' (first | refine unhold ?_ | (simp -dsimp -implicitDefEqProofs (disch := (first | assumption | omega | (simp only [ll1, ll2, ll3, ll4, ll5, ll6, ll7, ll8]; omega))) only [go_sem, f0, t1]) | refine vcI (fun _ => ?_) (fun _ => ?_) | (refine vcA ?_ ?_; focus (repeat' (first | omega | assumption | refine vcA ?_ ?_); done)) | omega | refine imp_in (fun _ => ?_))
      exact done_same ⟨rfl, rfl⟩
    · rw [if_neg h1]
      have f1 := eq_false h1
      by_cases h2 : k = [109, 46, 114, 111, 111, 109, 46, 106, 111, 105, 110, 95, 114, 117, 108, 101, 115]
      · rw [if_pos h2]
        have t2 := eq_true h2
        refine acalls_vc L_ok mixed [] (rs := [.tmp 2]) (n := 14) Tryz.func39 rfl rfl rfl rfl (Nat.le_of_ble_eq_true rfl) (by kernel_rfl) ?_
        repeat' (first | refine unhold ?_ | (simp -dsimp -implicitDefEqProofs (disch := (first | assumption | omega | (simp only [ll1, ll2, ll3, ll4, ll5, ll6, ll7, ll8]; omega))) only [go_sem, f0, f1, t2]) | refine vcI (fun _ => ?_) (fun _ => ?_) | (refine vcA ?_ ?_; focus (repeat' (first | omega | assumption | refine vcA ?_ ?_); done)) | omega | refine imp_in (fun _ => ?_))
        exact done_same ⟨rfl, rfl⟩
      · rw [if_neg h2]
        have f2 := eq_false h2
        by_cases h3 : k = [109, 46, 114, 111, 111, 109, 46, 112, 111, 119, 101, 114, 95, 108, 101, 118, 101, 108, 115]
        · rw [if_pos h3]
          have t3 := eq_true h3
          refine acalls_vc L_ok mixed [] (rs := [.tmp 2]) (n := 14) Tryz.func39 rfl rfl rfl rfl (Nat.le_of_ble_eq_true rfl) (by kernel_rfl) ?_
          repeat' (first | refine unhold ?_ | (simp -dsimp -implicitDefEqProofs (disch := (first | assumption | omega | (simp only [ll1, ll2, ll3, ll4, ll5, ll6, ll7, ll8]; omega))) only [go_sem, f0, f1, f2, t3]) | refine vcI (fun _ => ?_) (fun _ => ?_) | (refine vcA ?_ ?_; focus (repeat' (first | omega | assumption | refine vcA ?_ ?_); done)) | omega | refine imp_in (fun _ => ?_))
          exact done_same ⟨rfl, rfl⟩
        · rw [if_neg h3]
          have f3 := eq_false h3
          by_cases h4 : k = [109, 46, 114, 111, 111, 109, 46, 104, 105, 115, 116, 111, 114, 121, 95, 118, 105, 115, 105, 98, 105, 108, 105, 116, 121]
          · rw [if_pos h4]
            have t4 := eq_true h4
            refine acalls_vc L_ok mixed [] (rs := [.tmp 2]) (n := 14) Tryz.func39 rfl rfl rfl rfl (Nat.le_of_ble_eq_true rfl) (by kernel_rfl) ?_
            repeat' (first | refine unhold ?_ | (simp -dsimp -implicitDefEqProofs (disch := (first | assumption | omega | (simp only [ll1, ll2, ll3, ll4, ll5, ll6, ll7, ll8]; omega))) only [go_sem, f0, f1, f2, f3, t4]) | refine vcI (fun _ => ?_) (fun _ => ?_) | (refine vcA ?_ ?_; focus (repeat' (first | omega | assumption | refine vcA ?_ ?_); done)) | omega | refine imp_in (fun _ => ?_))
            exact done_same ⟨rfl, rfl⟩
          · rw [if_neg h4]
            have f4 := eq_false h4
            refine acalls_vc L_ok mixed [] (rs := [.tmp 2]) (n := 14) Tryz.func39 rfl rfl rfl rfl (Nat.le_of_ble_eq_true rfl) (by kernel_rfl) ?_
            repeat' (first | refine unhold ?_ | (simp -dsimp -implicitDefEqProofs (disch := (first | assumption | omega | (simp only [ll1, ll2, ll3, ll4, ll5, ll6, ll7, ll8]; omega))) only [go_sem, f0, f1, f2, f3, f4]) | refine vcI (fun _ => ?_) (fun _ => ?_) | (refine vcA ?_ ?_; focus (repeat' (first | omega | assumption | refine vcA ?_ ?_); done)) | omega | refine imp_in (fun _ => ?_))
            exact done_same ⟨rfl, rfl⟩
theorem get_names {v : JV} {n : Nat} (h : sizeJ v ≤ n) : v.names.length ≤ n ∧ v.items.length ≤ n := by
  have h1 := size_names v
  have h2 := size_items v
  exact ⟨by omega, by omega⟩
theorem done_parse {H M : List AObj} {p : JV × Int} {x : JV} {n : Int} (h : p = (x, n)) : Done H (fun y H' => y = parseAV p ∧ H' = H) (.tup [jAV x, .lit (.int .i64 n)]) (H ++ M) := by
  subst h
  exact done_cut (parseAV (x, n)) (Le.refl _) (low_tup (lowAll_cons (low_jAV _) (lowAll_cons (.lit _) lowAll_nil))) ⟨rfl, rfl⟩
theorem Redact_c (v : JV) (H : List AObj) (hv : sizeJ v ≤ 40000) : ACalls Tryz.prog 18 [jAV v] H (fun y H' => y = parseAV (redactP v) ∧ H' = H) := by
  have co := fun H => object_c v H (by omega)
  have ck := fun H => keep_c v outerS H (by omega) (by decide) (by decide) (by decide +kernel)
  have hgn := get_names (n := 100000) (v := v) (by omega)
  have cg := fun s H => Get_c v s H hgn.1 hgn.2
  rw [outer_fields] at ck
  unfold getAV at cg
  by_cases ho : objB v = true
  · cases hg : jget v nContent with
    | none =>
      have e : redactP v = (keepP outerN v, 0) := by unfold redactP; rw [if_pos ho, hg]
      rw [e]
      have cg1 := cg nContent
      rw [hg] at cg1
      refine acalls_vc L_ok mixed [1000008, 1000008000004, 1000008000005, 1000008001004] (rs := [.cell 2 29, .tmp 3]) (n := 42) Tryz.func18 rfl rfl rfl rfl (Nat.le_of_ble_eq_true rfl) (by kernel_rfl) ?_
      repeat' (first | refine unhold ?_ | (simp -dsimp -implicitDefEqProofs (disch := (first | assumption | omega | (simp only [ll1, ll2, ll3, ll4, ll5, ll6, ll7, ll8]; omega))) only [go_sem, ho]) | refine acalls_same (co _) ?_ | refine ⟨_, co _, ?_⟩ | refine ⟨_, _, co _, ?_⟩ | refine acalls_same (ck _) ?_ | refine ⟨_, ck _, ?_⟩ | refine ⟨_, _, ck _, ?_⟩ | refine acalls_same (cg1 _) ?_ | refine ⟨_, cg1 _, ?_⟩ | refine ⟨_, _, cg1 _, ?_⟩ | refine vcI (fun _ => ?_) (fun _ => ?_) | (refine vcA ?_ ?_; focus (repeat' (first | omega | assumption | refine vcA ?_ ?_); done)) | omega | refine imp_in (fun _ => ?_))
      exact done_parse rfl
    | some c =>
      have cg1 := cg nContent
      have hc := size_get (v := v) (s := nContent)
      rw [hg] at cg1 hc
      rw [Option.getD_some] at cg1 hc
      by_cases h6 : c.kind = 6
      · have e : redactP v = withP (keepP outerN v) nContent (keepP (innerN (kindP v)) c) := by unfold redactP; rw [if_pos ho, hg]; exact if_pos h6
        rw [e]
        have cg2 := cg nType
        have hk : ((jget v nType).getD zeroJ).text = kindP v := rfl
        generalize (jget v nType).getD zeroJ = ty at *
        have ci := fun H => inner_c (kindP v) H
        have hi := inner_fields (kindP v)
        have ck2 := fun H => keep_c c (innerS (kindP v)) H (by omega) hi.2.1 hi.2.2.1 (by rw [hi.1]; exact hi.2.2.2)
        rw [hi.1] at ck2
        have s1 := size_keep outerN v
        have s2 := size_keep (innerN (kindP v)) c
        have cw := fun H => With_j (keepP outerN v) (keepP (innerN (kindP v)) c) nContent H (by omega) (by omega) (by decide)
        have t6 := eq_true h6
        unfold parseAV at cw
        refine acalls_vc L_ok mixed [1000008, 1000008000004, 1000008000005, 1000008001004] (rs := [.cell 2 29, .tmp 3]) (n := 42) Tryz.func18 rfl rfl rfl rfl (Nat.le_of_ble_eq_true rfl) (by kernel_rfl) ?_
        repeat' (first | refine unhold ?_ | (simp -dsimp -implicitDefEqProofs (disch := (first | assumption | omega | (simp only [ll1, ll2, ll3, ll4, ll5, ll6, ll7, ll8]; omega))) only [go_sem, ho, t6, hk]) | refine acalls_same (co _) ?_ | refine ⟨_, co _, ?_⟩ | refine ⟨_, _, co _, ?_⟩ | refine acalls_same (ck _) ?_ | refine ⟨_, ck _, ?_⟩ | refine ⟨_, _, ck _, ?_⟩ | refine acalls_same (cg1 _) ?_ | refine ⟨_, cg1 _, ?_⟩ | refine ⟨_, _, cg1 _, ?_⟩ | refine acalls_same (cg2 _) ?_ | refine ⟨_, cg2 _, ?_⟩ | refine ⟨_, _, cg2 _, ?_⟩ | refine acalls_same (ci _) ?_ | refine ⟨_, ci _, ?_⟩ | refine ⟨_, _, ci _, ?_⟩ | refine acalls_same (ck2 _) ?_ | refine ⟨_, ck2 _, ?_⟩ | refine ⟨_, _, ck2 _, ?_⟩ | refine acalls_same (cw _) ?_ | refine ⟨_, cw _, ?_⟩ | refine ⟨_, _, cw _, ?_⟩ | refine vcI (fun _ => ?_) (fun _ => ?_) | (refine vcA ?_ ?_; focus (repeat' (first | omega | assumption | refine vcA ?_ ?_); done)) | omega | refine imp_in (fun _ => ?_))
        exact done_parse rfl
      · have e : redactP v = (keepP outerN v, 0) := by unfold redactP; rw [if_pos ho, hg]; exact if_neg h6
        rw [e]
        have f6 := eq_false h6
        refine acalls_vc L_ok mixed [1000008, 1000008000004, 1000008000005, 1000008001004] (rs := [.cell 2 29, .tmp 3]) (n := 42) Tryz.func18 rfl rfl rfl rfl (Nat.le_of_ble_eq_true rfl) (by kernel_rfl) ?_
        repeat' (first | refine unhold ?_ | (simp -dsimp -implicitDefEqProofs (disch := (first | assumption | omega | (simp only [ll1, ll2, ll3, ll4, ll5, ll6, ll7, ll8]; omega))) only [go_sem, ho, f6]) | refine acalls_same (co _) ?_ | refine ⟨_, co _, ?_⟩ | refine ⟨_, _, co _, ?_⟩ | refine acalls_same (ck _) ?_ | refine ⟨_, ck _, ?_⟩ | refine ⟨_, _, ck _, ?_⟩ | refine acalls_same (cg1 _) ?_ | refine ⟨_, cg1 _, ?_⟩ | refine ⟨_, _, cg1 _, ?_⟩ | refine vcI (fun _ => ?_) (fun _ => ?_) | (refine vcA ?_ ?_; focus (repeat' (first | omega | assumption | refine vcA ?_ ?_); done)) | omega | refine imp_in (fun _ => ?_))
        exact done_parse rfl
  · unfold redactP
    rw [if_neg ho]
    have hf : objB v = false := by simpa using ho
    refine acalls_vc L_ok mixed [1000008, 1000008000004, 1000008000005, 1000008001004] (rs := [.cell 2 29, .tmp 3]) (n := 42) Tryz.func18 rfl rfl rfl rfl (Nat.le_of_ble_eq_true rfl) (by kernel_rfl) ?_
    repeat' (first | refine unhold ?_ | (simp -dsimp -implicitDefEqProofs (disch := (first | assumption | omega | (simp only [ll1, ll2, ll3, ll4, ll5, ll6, ll7, ll8]; omega))) only [go_sem, hf]) | refine acalls_same (co _) ?_ | refine ⟨_, co _, ?_⟩ | refine ⟨_, _, co _, ?_⟩ | refine vcI (fun _ => ?_) (fun _ => ?_) | (refine vcA ?_ ?_; focus (repeat' (first | omega | assumption | refine vcA ?_ ?_); done)) | omega | refine imp_in (fun _ => ?_))
    exact err_done rfl
theorem done_sum {H M : List AObj} {p : bytes × Int} {l : bytes} {n : Int} (h : p = (l, n)) : Done H (fun y H' => y = sumAV p ∧ H' = H) (.tup [.agg (l.map byteAV), .lit (.int .i64 n)]) (H ++ M) := by
  subst h
  exact done_cut (sumAV (l, n)) (Le.refl _) low_sumAV ⟨rfl, rfl⟩
theorem done_print {H M : List AObj} {p : bytes × Int} {l : bytes} {n : Int} (h : p = (l, n)) : Done H (fun y H' => y = printAV p ∧ H' = H) (.tup [.str l, .lit (.int .i64 n)]) (H ++ M) := by
  subst h
  exact done_cut (printAV (l, n)) (Le.refl _) (low_tup (lowAll_cons (.str _) (lowAll_cons (.lit _) lowAll_nil))) ⟨rfl, rfl⟩
theorem done_print0 {H : List AObj} {p : bytes × Int} {l : bytes} {n : Int} (h : p = (l, n)) : Done H (fun y H' => y = printAV p ∧ H' = H) (.tup [.str l, .lit (.int .i64 n)]) H := by
  subst h
  exact done_same ⟨rfl, rfl⟩
theorem Content_c (v : JV) (H : List AObj) (hv : sizeJ v ≤ 40000) : ACalls Tryz.prog 17 [jAV v] H (fun y H' => y = sumAV (contentP v) ∧ H' = H) := by
  have co := fun H => object_c v H hv
  have cw := fun H => Without_j (o := .full) v [nHashes, nSigs, nUns] H hv (by decide)
  have hs := size_cut (hasB [nHashes, nSigs, nUns]) v
  have cs := fun H => sum_c (jcut (hasB [nHashes, nSigs, nUns]) v) H (by omega)
  have hl := sumE_len (jcut (hasB [nHashes, nSigs, nUns]) v)
  unfold sumAV at cs
  by_cases ho : objB v = true
  · have e : contentP v = sumE (jcut (hasB [nHashes, nSigs, nUns]) v) := if_pos ho
    rw [e]
    generalize sumE (jcut (hasB [nHashes, nSigs, nUns]) v) = p at *
    have ha := aset_32 (l := zero32) rfl hl
    have hz : (zero32).length = 32 := rfl
    refine acalls_vc L_ok mixed [] (rs := [.cell 2 37, .tmp 3]) (n := 14) Tryz.func17 rfl rfl rfl rfl (Nat.le_of_ble_eq_true rfl) (by kernel_rfl) ?_
    repeat' (first | refine unhold ?_ | (simp -dsimp -implicitDefEqProofs (disch := (first | assumption | omega | (simp only [ll1, ll2, ll3, ll4, ll5, ll6, ll7, ll8]; omega))) only [go_sem, ho, zero32_av, ha, all_b, hz, hl]) | refine acalls_same (co _) ?_ | refine ⟨_, co _, ?_⟩ | refine ⟨_, _, co _, ?_⟩ | refine acalls_same (cw _) ?_ | refine ⟨_, cw _, ?_⟩ | refine ⟨_, _, cw _, ?_⟩ | refine acalls_same (cs _) ?_ | refine ⟨_, cs _, ?_⟩ | refine ⟨_, _, cs _, ?_⟩ | refine vcI (fun _ => ?_) (fun _ => ?_) | (refine vcA ?_ ?_; focus (repeat' (first | omega | assumption | refine vcA ?_ ?_); done)) | omega | refine imp_in (fun _ => ?_))
    exact done_sum rfl
  · have e : contentP v = (zero32, 1) := if_neg ho
    rw [e]
    have hf : objB v = false := by simpa using ho
    have ha := aset_32 (l := zero32) (m := zero32) rfl rfl
    have hz : (zero32).length = 32 := rfl
    refine acalls_vc L_ok mixed [] (rs := [.cell 2 37, .tmp 3]) (n := 14) Tryz.func17 rfl rfl rfl rfl (Nat.le_of_ble_eq_true rfl) (by kernel_rfl) ?_
    repeat' (first | refine unhold ?_ | (simp -dsimp -implicitDefEqProofs (disch := (first | assumption | omega | (simp only [ll1, ll2, ll3, ll4, ll5, ll6, ll7, ll8]; omega))) only [go_sem, hf, zero32_av, ha, all_b, hz]) | refine acalls_same (co _) ?_ | refine ⟨_, co _, ?_⟩ | refine ⟨_, _, co _, ?_⟩ | refine vcI (fun _ => ?_) (fun _ => ?_) | (refine vcA ?_ ?_; focus (repeat' (first | omega | assumption | refine vcA ?_ ?_); done)) | omega | refine imp_in (fun _ => ?_))
    exact done_sum rfl
theorem Reference_c (v : JV) (H : List AObj) (hv : sizeJ v ≤ 40000) (hw : sizeJ (redactP v).1 ≤ 40000) : ACalls Tryz.prog 42 [jAV v] H (fun y H' => y = sumAV (refP v) ∧ H' = H) := by
  have co := fun H => Redact_c v H hv
  unfold parseAV at co
  by_cases ho : (redactP v).2 = 0
  · have e : refP v = sumE (jcut (hasB [nSigs]) (redactP v).1) := if_pos ho
    rw [e]
    generalize redactP v = r at *
    have cw := fun H => Without_j (o := .full) r.1 [nSigs] H (by omega) (by decide)
    have hs := size_cut (hasB [nSigs]) r.1
    have cs := fun H => sum_c (jcut (hasB [nSigs]) r.1) H (by omega)
    have hl := sumE_len (jcut (hasB [nSigs]) r.1)
    unfold sumAV at cs
    generalize sumE (jcut (hasB [nSigs]) r.1) = p at *
    have ha := aset_32 (l := zero32) rfl hl
    have hz : (zero32).length = 32 := rfl
    refine acalls_vc L_ok mixed [] (rs := [.cell 2 37, .tmp 3]) (n := 21) Tryz.func42 rfl rfl rfl rfl (Nat.le_of_ble_eq_true rfl) (by kernel_rfl) ?_
    repeat' (first | refine unhold ?_ | (simp -dsimp -implicitDefEqProofs (disch := (first | assumption | omega | (simp only [ll1, ll2, ll3, ll4, ll5, ll6, ll7, ll8]; omega))) only [go_sem, ho, zero32_av, ha, all_b, hz, hl]) | refine acalls_same (co _) ?_ | refine ⟨_, co _, ?_⟩ | refine ⟨_, _, co _, ?_⟩ | refine acalls_same (cw _) ?_ | refine ⟨_, cw _, ?_⟩ | refine ⟨_, _, cw _, ?_⟩ | refine acalls_same (cs _) ?_ | refine ⟨_, cs _, ?_⟩ | refine ⟨_, _, cs _, ?_⟩ | refine vcI (fun _ => ?_) (fun _ => ?_) | (refine vcA ?_ ?_; focus (repeat' (first | omega | assumption | refine vcA ?_ ?_); done)) | omega | refine imp_in (fun _ => ?_))
    exact done_sum rfl
  · have e : refP v = (zero32, (redactP v).2) := if_neg ho
    rw [e]
    have hf := eq_false ho
    generalize redactP v = r at *
    have ha := aset_32 (l := zero32) (m := zero32) rfl rfl
    have hz : (zero32).length = 32 := rfl
    refine acalls_vc L_ok mixed [] (rs := [.cell 2 37, .tmp 3]) (n := 21) Tryz.func42 rfl rfl rfl rfl (Nat.le_of_ble_eq_true rfl) (by kernel_rfl) ?_
    repeat' (first | refine unhold ?_ | (simp -dsimp -implicitDefEqProofs (disch := (first | assumption | omega | (simp only [ll1, ll2, ll3, ll4, ll5, ll6, ll7, ll8]; omega))) only [go_sem, hf, zero32_av, ha, all_b, hz]) | refine acalls_same (co _) ?_ | refine ⟨_, co _, ?_⟩ | refine ⟨_, _, co _, ?_⟩ | refine vcI (fun _ => ?_) (fun _ => ?_) | (refine vcA ?_ ?_; focus (repeat' (first | omega | assumption | refine vcA ?_ ?_); done)) | omega | refine imp_in (fun _ => ?_))
    exact done_sum rfl
theorem IdsName_c {o : Own} (b : bytes) (H : List AObj) (h : b.length = 32) : ACalls Tryz.prog 43 [.sl o 1 (b.map byteAV)] H (fun y H' => y = printAV (36 :: encB safeL b, 0) ∧ H' = H) := by
  have cs : ∀ (o : Own) H, ACalls Tryz.prog 62 [.sl o 1 (b.map byteAV)] H (fun y H' => y = .str (encB safeL b) ∧ H' = H) := fun o H => Safe_c (o := o) b H (by omega)
  have hl : (List.map byteAV b).length = 32 := by rw [List.length_map]; exact h
  have he : (encB safeL b).length ≤ 1000 := by rw [encB_len, h]; decide
  generalize encB safeL b = t at *
  refine acalls_vc L_ok mixed [] (rs := [.tmp 2, .tmp 3]) (n := 10) Tryz.func43 rfl rfl rfl rfl (Nat.le_of_ble_eq_true rfl) (by kernel_rfl) ?_
  repeat' (first | refine unhold ?_ | (simp -dsimp -implicitDefEqProofs (disch := (first | assumption | omega | (simp only [ll1, ll2, ll3, ll4, ll5, ll6, ll7, ll8]; omega))) only [go_sem, h, hl]) | refine acalls_same (cs _ _) ?_ | refine ⟨_, cs _ _, ?_⟩ | refine ⟨_, _, cs _ _, ?_⟩ | refine vcI (fun _ => ?_) (fun _ => ?_) | (refine vcA ?_ ?_; focus (repeat' (first | omega | assumption | refine vcA ?_ ?_); done)) | omega | refine imp_in (fun _ => ?_))
  exact done_print0 rfl
theorem frz_call {P : Program} {f : FuncId} {H : List AObj} {R : AV → List AObj → Prop} {l : bytes} {sh : Shape} (hl : l.length = 32) (h : ACalls P f [.sl .sh 1 (l.map byteAV)] (H ++ [.gone]) R) : ACalls P f [.msl H.length 0 32 32] (H ++ [.cells sh (l.map byteAV)]) R := by
  have hk : (H ++ [AObj.cells sh (l.map byteAV)])[H.length]? = some (.cells sh (l.map byteAV)) := by simp
  have fz := frz_bytes (cap := 32) hk
  rw [hl] at fz
  exact acalls_frz hk fz (by simpa using h)
theorem frz_call2 {P : Program} {f : FuncId} {H : List AObj} {R : AV → List AObj → Prop} {l : bytes} {sh : Shape} {a : AObj} (hl : l.length = 32) (h : ACalls P f [.sl .sh 1 (l.map byteAV)] (H ++ [a, .gone]) R) : ACalls P f [.msl (H.length + 1) 0 32 32] (H ++ [a, .cells sh (l.map byteAV)]) R := by
  have := frz_call (P := P) (f := f) (H := H ++ [a]) (R := R) (sh := sh) hl (by simpa using h)
  simpa using this
theorem Name_c (v : JV) (H : List AObj) (hv : sizeJ v ≤ 40000) (hw : sizeJ (redactP v).1 ≤ 40000) : ACalls Tryz.prog 21 [jAV v] H (fun y H' => y = printAV (nameE v) ∧ H' = H) := by
  have co := fun H => Reference_c v H hv hw
  have hl := refP_len v
  unfold sumAV at co
  by_cases ho : (refP v).2 = 0
  · have e : nameE v = (36 :: encB safeL (refP v).1, 0) := if_pos ho
    rw [e]
    generalize refP v = p at *
    have ha := aset_32 (l := zero32) rfl hl
    have hz : (zero32).length = 32 := rfl
    have ci := fun (H : List AObj) (sh : Shape) => frz_call (H := H) (sh := sh) hl (IdsName_c (o := .sh) p.1 (H ++ [.gone]) hl)
    generalize encB safeL p.1 = t at *
    unfold printAV at ci
    refine acalls_vc L_ok mixed [] (rs := [.tmp 2, .tmp 3]) (n := 18) Tryz.func21 rfl rfl rfl rfl (Nat.le_of_ble_eq_true rfl) (by kernel_rfl) ?_
    repeat' (first | refine unhold ?_ | (simp -dsimp -implicitDefEqProofs (disch := (first | assumption | omega | (simp only [ll1, ll2, ll3, ll4, ll5, ll6, ll7, ll8]; omega))) only [go_sem, ho, zero32_av, ha, all_b, hz, hl]) | refine acalls_same (co _) ?_ | refine ⟨_, co _, ?_⟩ | refine ⟨_, _, co _, ?_⟩ | refine acalls_same (ci _ _) ?_ | refine ⟨_, ci _ _, ?_⟩ | refine ⟨_, _, ci _ _, ?_⟩ | refine vcI (fun _ => ?_) (fun _ => ?_) | (refine vcA ?_ ?_; focus (repeat' (first | omega | assumption | refine vcA ?_ ?_); done)) | omega | refine imp_in (fun _ => ?_))
    exact done_print rfl
  · have e : nameE v = ([], (refP v).2) := if_neg ho
    rw [e]
    have hf := eq_false ho
    generalize refP v = p at *
    have ha := aset_32 (l := zero32) rfl hl
    have hz : (zero32).length = 32 := rfl
    refine acalls_vc L_ok mixed [] (rs := [.tmp 2, .tmp 3]) (n := 18) Tryz.func21 rfl rfl rfl rfl (Nat.le_of_ble_eq_true rfl) (by kernel_rfl) ?_
    repeat' (first | refine unhold ?_ | (simp -dsimp -implicitDefEqProofs (disch := (first | assumption | omega | (simp only [ll1, ll2, ll3, ll4, ll5, ll6, ll7, ll8]; omega))) only [go_sem, hf, zero32_av, ha, all_b, hz]) | refine acalls_same (co _) ?_ | refine ⟨_, co _, ?_⟩ | refine ⟨_, _, co _, ?_⟩ | refine vcI (fun _ => ?_) (fun _ => ?_) | (refine vcA ?_ ?_; focus (repeat' (first | omega | assumption | refine vcA ?_ ?_); done)) | omega | refine imp_in (fun _ => ?_))
    exact done_print rfl
theorem letters_c (v : JV) (H : List AObj) (hv : sizeJ v ≤ 40000) : ACalls Tryz.prog 34 [jAV v] H (fun y H' => y = parseAV (textJ (encB usualL (contentP v).1), (contentP v).2) ∧ H' = H) := by
  have co := fun H => Content_c v H (by omega)
  have hl := contentP_len v
  unfold sumAV at co
  generalize contentP v = p at *
  have ha := aset_32 (l := zero32) rfl hl
  have hz : (zero32).length = 32 := rfl
  have ce : ∀ H : List AObj, ACalls Tryz.prog 59 [.sl .sh 1 (p.1.map byteAV)] H (fun y H' => y = .str (encB usualL p.1) ∧ H' = H) := fun H => Encode_c (o := .sh) p.1 H (by omega)
  have ci := fun (H : List AObj) (sh : Shape) (a : AObj) => frz_call2 (H := H) (sh := sh) (a := a) hl (ce (H ++ [a, .gone]))
  generalize encB usualL p.1 = t at *
  refine acalls_vc L_ok mixed [] (rs := [.cell 2 29, .tmp 3]) (n := 15) Tryz.func34 rfl rfl rfl rfl (Nat.le_of_ble_eq_true rfl) (by kernel_rfl) ?_
  repeat' (first | refine unhold ?_ | (simp -dsimp -implicitDefEqProofs (disch := (first | assumption | omega | (simp only [ll1, ll2, ll3, ll4, ll5, ll6, ll7, ll8]; omega))) only [go_sem, zero32_av, ha, all_b, hz]) | refine acalls_same (co _) ?_ | refine ⟨_, co _, ?_⟩ | refine ⟨_, _, co _, ?_⟩ | refine acalls_same (ci _ _ _) ?_ | refine ⟨_, ci _ _ _, ?_⟩ | refine ⟨_, _, ci _ _ _, ?_⟩ | refine vcI (fun _ => ?_) (fun _ => ?_) | (refine vcA ?_ ?_; focus (repeat' (first | omega | assumption | refine vcA ?_ ?_); done)) | omega | refine imp_in (fun _ => ?_))
  exact done_weak (le_pair le_j0) (done_parse rfl)
theorem make_sha {s : bytes} (h : Lib.validD s = true) : makeP [(nSha, textJ s)] = (shaJ s, 0) := by
  have g : goodP (nSha, textJ s) = true := by
    rw [goodP_eq, text_right h, Bool.true_and]
    exact (by decide +kernel : Lib.validD nSha = true)
  have t : tallP (nSha, textJ s) = false := rfl
  unfold makeP
  simp only [List.all_cons, List.all_nil, List.any_cons, List.any_nil, g, t, Bool.and_true, Bool.or_false, if_true]
  rfl
theorem Hashed_c (v : JV) (H : List AObj) (hv : sizeJ v ≤ 40000) : ACalls Tryz.prog 16 [jAV v] H (fun y H' => y = parseAV (hashedP v) ∧ H' = H) := by
  have co := fun H => letters_c v H hv
  unfold parseAV at co
  have hE : (encB usualL (contentP v).1).length ≤ 1000 := by rw [encB_len, contentP_len]; decide
  have hV := enc_valid (contentP v).1
  by_cases ho : (contentP v).2 = 0
  · have e : hashedP v = withP v nHashes (shaJ (encB usualL (contentP v).1)) := if_pos ho
    rw [e]
    generalize encB usualL (contentP v).1 = t at *
    have hs : sizeJ (textJ t) ≤ 2000 := by simp [textJ, sizeJ_eq, JV.text, JV.names, JV.items, sizesJ]; omega
    have hs2 : sizeJ (shaJ t) ≤ 3000 := by simp [shaJ, textJ, sizeJ_eq, JV.text, JV.names, JV.items, sizesJ, nameW, nSha]; omega
    have cm := fun H => Make_j [(nSha, textJ t)] H (by simp) (fun p hp => by
      simp only [List.mem_cons, List.not_mem_nil, or_false] at hp
      subst hp
      exact ⟨by dsimp only; omega, (by decide : nSha.length ≤ 10000)⟩)
    rw [make_sha hV] at cm
    have cm2 := fun H => (cm H).weak (args := [.sl .full 6 [pairAV (nSha, textJ t)]]) rfl (fun j x y h1 h2 => by
      cases j with
      | zero => cases h1; cases h2; exact le_sh
      | succ j => simp at h1)
    have cw := fun H => With_j v (shaJ t) nHashes H (by omega) (by omega) (by decide)
    unfold parseAV at cm2 cw
    refine acalls_vc L_ok mixed [] (rs := [.cell 2 29, .tmp 3]) (n := 32) Tryz.func16 rfl rfl rfl rfl (Nat.le_of_ble_eq_true rfl) (by kernel_rfl) ?_
    repeat' (first | refine unhold ?_ | (simp -dsimp -implicitDefEqProofs (disch := (first | assumption | omega | (simp only [ll1, ll2, ll3, ll4, ll5, ll6, ll7, ll8]; omega))) only [go_sem, ho]) | refine acalls_same (co _) ?_ | refine ⟨_, co _, ?_⟩ | refine ⟨_, _, co _, ?_⟩ | refine acalls_same (cm2 _) ?_ | refine ⟨_, cm2 _, ?_⟩ | refine ⟨_, _, cm2 _, ?_⟩ | refine acalls_same (cw _) ?_ | refine ⟨_, cw _, ?_⟩ | refine ⟨_, _, cw _, ?_⟩ | refine vcI (fun _ => ?_) (fun _ => ?_) | (refine vcA ?_ ?_; focus (repeat' (first | omega | assumption | refine vcA ?_ ?_); done)) | omega | refine imp_in (fun _ => ?_))
    exact done_parse rfl
  · have e : hashedP v = (zeroJ, (contentP v).2) := if_neg ho
    rw [e]
    have hf := eq_false ho
    refine acalls_vc L_ok mixed [] (rs := [.cell 2 29, .tmp 3]) (n := 32) Tryz.func16 rfl rfl rfl rfl (Nat.le_of_ble_eq_true rfl) (by kernel_rfl) ?_
    repeat' (first | refine unhold ?_ | (simp -dsimp -implicitDefEqProofs (disch := (first | assumption | omega | (simp only [ll1, ll2, ll3, ll4, ll5, ll6, ll7, ll8]; omega))) only [go_sem, hf]) | refine acalls_same (co _) ?_ | refine ⟨_, co _, ?_⟩ | refine ⟨_, _, co _, ?_⟩ | refine vcI (fun _ => ?_) (fun _ => ?_) | (refine vcA ?_ ?_; focus (repeat' (first | omega | assumption | refine vcA ?_ ?_); done)) | omega | refine imp_in (fun _ => ?_))
    exact err_done rfl
end Go.Proofs.YtdahdbnfknmmgaaGreatDoor
end

section
set_option linter.unusedSimpArgs false
set_option linter.unusedVariables false
namespace Go.Proofs.YtdahdbnfknmmgaaGreatDoor
open Go V
set_option maxRecDepth 10000
set_option maxHeartbeats 4000000
theorem done_bool {H M : List AObj} {R : AV → List AObj → Prop} {b : Bool} (h : R (.bool b) H) : Done H R (.bool b) (H ++ M) := done_cut _ (Le.refl _) (.lit _) h
open Classical in
noncomputable def fitsE (v : JV) : Bool :=
  decide ((contentP v).2 = 0) && (match jget ((jget v nHashes).getD zeroJ) nSha with | some t => rightJ 12 t && rightJ 12 (textJ (encB usualL (contentP v).1)) && decide (t = textJ (encB usualL (contentP v).1)) | none => false)
open Classical in
theorem hashed_fitsE {v : JV} (h : (hashedP v).2 = 0) : fitsE (hashedP v).1 = true := by
  unfold fitsE
  rw [hashed_same h, hashed_get h, Option.getD_some, sha_get, decide_eq_true (hashed_ok h)]
  dsimp only
  rw [text_right (enc_valid _) 12]
  simp
theorem enc_len (v : JV) : (encB usualL (contentP v).1).length = 43 := by rw [encB_len, contentP_len]
theorem size_textJ (t : bytes) : sizeJ (textJ t) = 1 + t.length := by simp [textJ, sizeJ_eq, JV.text, JV.names, JV.items, sizesJ]
theorem size_sha (t : bytes) : sizeJ (shaJ t) = 9 + t.length := by simp [shaJ, textJ, sizeJ_eq, JV.text, JV.names, JV.items, sizesJ, nameW, nSha]; omega
theorem size_hashed (v : JV) : sizeJ (hashedP v).1 ≤ sizeJ v + 59 := by
  unfold hashedP
  split
  · have := size_with (v := v) (s := nHashes) (x := shaJ (encB usualL (contentP v).1))
    rw [size_sha, enc_len] at this
    have hn : nameW nHashes = 7 := rfl
    omega
  · have : sizeJ zeroJ = 1 := rfl
    dsimp only
    omega
theorem size_red (v : JV) : sizeJ (redactP v).1 ≤ 2 * sizeJ v + 8 := by
  unfold redactP
  have hz : sizeJ zeroJ = 1 := rfl
  have s1 := size_keep outerN v
  split
  · split
    · rename_i c hc
      have hg := size_get (v := v) (s := nContent)
      rw [hc, Option.getD_some] at hg
      have s2 := size_keep (innerN (kindP v)) c
      split
      · have := size_with (v := keepP outerN v) (s := nContent) (x := keepP (innerN (kindP v)) c)
        have hn : nameW nContent = 8 := rfl
        omega
      · dsimp only
        omega
    · dsimp only
      omega
  · dsimp only
    omega
open Classical in
theorem Fits_c (v : JV) (H : List AObj) (hv : sizeJ v ≤ 40000) : ACalls Tryz.prog 33 [jAV v] H (fun y H' => y = .bool (fitsE v) ∧ H' = H) := by
  have co := fun H => letters_c v H hv
  have hgn := get_names (n := 100000) (v := v) (by omega)
  have cg := fun H => Get_c v nHashes H hgn.1 hgn.2
  have hs := size_get (v := v) (s := nHashes)
  have cg2 := fun H => Get_c ((jget v nHashes).getD zeroJ) nSha H (get_names (by omega)).1 (get_names (n := 100000) (by omega)).2
  have hs2 := size_get (v := (jget v nHashes).getD zeroJ) (s := nSha)
  have hE := enc_len v
  have hT := size_textJ (encB usualL (contentP v).1)
  unfold parseAV at co
  unfold getAV at cg cg2
  unfold fitsE
  by_cases ho : (contentP v).2 = 0
  · rw [decide_eq_true ho, Bool.true_and]
    generalize encB usualL (contentP v).1 = t at *
    generalize (jget v nHashes).getD zeroJ = h at *
    cases hj : jget h nSha with
    | none =>
      rw [hj] at cg2
      refine acalls_vc L_ok mixed [] (rs := [.tmp 2]) (n := 32) Tryz.func33 rfl rfl rfl rfl (Nat.le_of_ble_eq_true rfl) (by kernel_rfl) ?_
      repeat' (first | refine unhold ?_ | (simp -dsimp -implicitDefEqProofs (disch := (first | assumption | omega | (simp only [ll1, ll2, ll3, ll4, ll5, ll6, ll7, ll8]; omega))) only [go_sem, ho]) | refine acalls_same (co _) ?_ | refine ⟨_, co _, ?_⟩ | refine ⟨_, _, co _, ?_⟩ | refine acalls_same (cg _) ?_ | refine ⟨_, cg _, ?_⟩ | refine ⟨_, _, cg _, ?_⟩ | refine acalls_same (cg2 _) ?_ | refine ⟨_, cg2 _, ?_⟩ | refine ⟨_, _, cg2 _, ?_⟩ | refine vcI (fun _ => ?_) (fun _ => ?_) | (refine vcA ?_ ?_; focus (repeat' (first | omega | assumption | refine vcA ?_ ?_); done)) | omega | refine imp_in (fun _ => ?_))
      exact done_bool ⟨rfl, rfl⟩
    | some x =>
      rw [hj, Option.getD_some] at cg2 hs2
      have cs := fun H => Same_j x (textJ t) H (by omega) (by omega)
      refine acalls_vc L_ok mixed [] (rs := [.tmp 2]) (n := 32) Tryz.func33 rfl rfl rfl rfl (Nat.le_of_ble_eq_true rfl) (by kernel_rfl) ?_
      repeat' (first | refine unhold ?_ | (simp -dsimp -implicitDefEqProofs (disch := (first | assumption | omega | (simp only [ll1, ll2, ll3, ll4, ll5, ll6, ll7, ll8]; omega))) only [go_sem, ho]) | refine acalls_same (co _) ?_ | refine ⟨_, co _, ?_⟩ | refine ⟨_, _, co _, ?_⟩ | refine acalls_same (cg _) ?_ | refine ⟨_, cg _, ?_⟩ | refine ⟨_, _, cg _, ?_⟩ | refine acalls_same (cg2 _) ?_ | refine ⟨_, cg2 _, ?_⟩ | refine ⟨_, _, cg2 _, ?_⟩ | refine acalls_same (cs _) ?_ | refine ⟨_, cs _, ?_⟩ | refine ⟨_, _, cs _, ?_⟩ | refine vcI (fun _ => ?_) (fun _ => ?_) | (refine vcA ?_ ?_; focus (repeat' (first | omega | assumption | refine vcA ?_ ?_); done)) | omega | refine imp_in (fun _ => ?_))
      exact done_bool ⟨rfl, rfl⟩
  · rw [decide_eq_false ho, Bool.false_and]
    have hf := eq_false ho
    refine acalls_vc L_ok mixed [] (rs := [.tmp 2]) (n := 32) Tryz.func33 rfl rfl rfl rfl (Nat.le_of_ble_eq_true rfl) (by kernel_rfl) ?_
    repeat' (first | refine unhold ?_ | (simp -dsimp -implicitDefEqProofs (disch := (first | assumption | omega | (simp only [ll1, ll2, ll3, ll4, ll5, ll6, ll7, ll8]; omega))) only [go_sem, hf]) | refine acalls_same (co _) ?_ | refine ⟨_, co _, ?_⟩ | refine ⟨_, _, co _, ?_⟩ | refine vcI (fun _ => ?_) (fun _ => ?_) | (refine vcA ?_ ?_; focus (repeat' (first | omega | assumption | refine vcA ?_ ?_); done)) | omega | refine imp_in (fun _ => ?_))
    exact done_bool ⟨rfl, rfl⟩
def live13T : bytes := [123, 34, 116, 121, 112, 101, 34, 58, 34, 109, 46, 114, 111, 111, 109, 46, 109, 101, 109, 98, 101, 114, 34, 44, 34, 99, 111, 110, 116, 101, 110, 116, 34, 58, 123, 34, 109, 101, 109, 98, 101, 114, 115, 104, 105, 112, 34, 58, 34, 106, 111, 105, 110, 34, 44, 34, 120, 34, 58, 49, 125, 44, 34, 121, 34, 58, 50, 125]
def live13P : bytes := [123, 34, 99, 111, 110, 116, 101, 110, 116, 34, 58, 123, 34, 109, 101, 109, 98, 101, 114, 115, 104, 105, 112, 34, 58, 34, 106, 111, 105, 110, 34, 125, 44, 34, 116, 121, 112, 101, 34, 58, 34, 109, 46, 114, 111, 111, 109, 46, 109, 101, 109, 98, 101, 114, 34, 125]
def live13V : JV := .mk 6 0 [] [nContent, nType, [121]] [.mk 6 0 [] [[109, 101, 109, 98, 101, 114, 115, 104, 105, 112], [120]] [textJ [106, 111, 105, 110], .mk 3 1 [] [] []], textJ [109, 46, 114, 111, 111, 109, 46, 109, 101, 109, 98, 101, 114], .mk 3 2 [] [] []]
theorem live1 : parseP live13T = (live13V, 0) := by kernel_rfl
theorem live2 : redactP live13V = ((redactP live13V).1, 0) := by kernel_rfl
theorem live3 : printE (redactP live13V).1 = (live13P, 0) := by kernel_rfl
theorem live4 : (hashedP live13V).2 = 0 := by decide +kernel
theorem live5 : fitsE live13V = false := by decide +kernel
theorem live6 : sizeJ live13V ≤ 100 := by decide +kernel
theorem alive13_c (H : List AObj) : ACalls Tryz.prog 14 [] H (fun x H' => x = .bool true ∧ H' = H) := by
  have h6 := live6
  have hw := size_red live13V
  have hh := size_hashed live13V
  have h1 := fun H => Parse_c live13T H (by decide)
  have h2 := fun H => Redact_c live13V H (by omega)
  have h3 := fun H => Print_c (redactP live13V).1 H (by omega)
  have h4 := fun H => Hashed_c live13V H (by omega)
  have h5 := fun H => Fits_c (hashedP live13V).1 H (by omega)
  have h7 := fun H => Fits_c live13V H (by omega)
  rw [live1] at h1
  rw [live2] at h2
  rw [live3] at h3
  rw [hashed_fitsE live4] at h5
  rw [live5] at h7
  have e4 := live4
  have hlp : (live13P = [123, 34, 99, 111, 110, 116, 101, 110, 116, 34, 58, 123, 34, 109, 101, 109, 98, 101, 114, 115, 104, 105, 112, 34, 58, 34, 106, 111, 105, 110, 34, 125, 44, 34, 116, 121, 112, 101, 34, 58, 34, 109, 46, 114, 111, 111, 109, 46, 109, 101, 109, 98, 101, 114, 34, 125]) = True := eq_true rfl
  unfold parseAV at h1 h2 h4
  unfold printAV at h3
  generalize hashedP live13V = q at *
  generalize (redactP live13V).1 = r at *
  generalize live13V = v at *
  dsimp only at h1 h2 h3
  refine acalls_vc L_ok mixed [] (rs := [.tmp 0]) (n := 55) Tryz.func14 rfl rfl rfl rfl (Nat.le_of_ble_eq_true rfl) (by kernel_rfl) ?_
  repeat' (first | refine unhold ?_ | (simp -dsimp -implicitDefEqProofs (disch := (first | assumption | omega | (simp only [ll1, ll2, ll3, ll4, ll5, ll6, ll7, ll8]; omega))) only [go_sem, e4, hlp]) | refine acalls_same (h1 _) ?_ | refine ⟨_, h1 _, ?_⟩ | refine ⟨_, _, h1 _, ?_⟩ | refine acalls_same (h2 _) ?_ | refine ⟨_, h2 _, ?_⟩ | refine ⟨_, _, h2 _, ?_⟩ | refine acalls_same (h3 _) ?_ | refine ⟨_, h3 _, ?_⟩ | refine ⟨_, _, h3 _, ?_⟩ | refine acalls_same (h4 _) ?_ | refine ⟨_, h4 _, ?_⟩ | refine ⟨_, _, h4 _, ?_⟩ | refine acalls_same (h5 _) ?_ | refine ⟨_, h5 _, ?_⟩ | refine ⟨_, _, h5 _, ?_⟩ | refine acalls_same (h7 _) ?_ | refine ⟨_, h7 _, ?_⟩ | refine ⟨_, _, h7 _, ?_⟩ | refine vcI (fun _ => ?_) (fun _ => ?_) | (refine vcA ?_ ?_; focus (repeat' (first | omega | assumption | refine vcA ?_ ?_); done)) | omega | refine imp_in (fun _ => ?_))
  exact done_bool ⟨rfl, rfl⟩
theorem great13_c (v : JV) (H : List AObj) : ACalls Tryz.prog 15 [jAV v] H (fun x H' => x = .bool (decide (9000 < weigh v 9000)) ∧ H' = H) := by
  have cw := fun H => Weigh_c v 9000 H (by decide) (by decide)
  refine acalls_vc L_ok mixed [] (rs := [.tmp 2]) (n := 6) Tryz.func15 rfl rfl rfl rfl (Nat.le_of_ble_eq_true rfl) (by kernel_rfl) ?_
  repeat' (first | refine unhold ?_ | (simp -dsimp -implicitDefEqProofs (disch := (first | assumption | omega | (simp only [ll1, ll2, ll3, ll4, ll5, ll6, ll7, ll8]; omega))) only [go_sem]) | refine acalls_same (cw _) ?_ | refine ⟨_, cw _, ?_⟩ | refine ⟨_, _, cw _, ?_⟩ | refine vcI (fun _ => ?_) (fun _ => ?_) | (refine vcA ?_ ?_; focus (repeat' (first | omega | assumption | refine vcA ?_ ?_); done)) | omega | refine imp_in (fun _ => ?_))
  exact done_same ⟨rfl, rfl⟩
theorem not_great {v : JV} (h : ¬ 9000 < weigh v 9000) : sizeJ v ≤ 9000 := by
  have := (weigh_le v 9000 (by decide)).2.2.1 (by omega)
  omega
open Classical in
theorem DigestKept_c (v : JV) (H : List AObj) : ACalls Tryz.prog 5 [jAV v] H (fun y H' => y = .bool true ∧ H' = H) := by
  have cl := alive13_c
  have cg := great13_c v
  by_cases h : 9000 < weigh v 9000
  · have ht := eq_true h
    refine acalls_vc L_ok mixed [] (rs := [.tmp 2]) (n := 81) Tryz.func5 rfl rfl rfl rfl (Nat.le_of_ble_eq_true rfl) (by kernel_rfl) ?_
    repeat' (first | refine unhold ?_ | (simp -dsimp -implicitDefEqProofs (disch := (first | assumption | omega | (simp only [ll1, ll2, ll3, ll4, ll5, ll6, ll7, ll8]; omega))) only [go_sem, ht]) | refine acalls_same (cl _) ?_ | refine ⟨_, cl _, ?_⟩ | refine ⟨_, _, cl _, ?_⟩ | refine acalls_same (cg _) ?_ | refine ⟨_, cg _, ?_⟩ | refine ⟨_, _, cg _, ?_⟩ | refine vcI (fun _ => ?_) (fun _ => ?_) | (refine vcA ?_ ?_; focus (repeat' (first | omega | assumption | refine vcA ?_ ?_); done)) | omega | refine imp_in (fun _ => ?_))
    exact done_same ⟨rfl, rfl⟩
  · have hf := eq_false h
    have hv := not_great h
    have hh := size_hashed v
    have ch := fun H => Hashed_c v H (by omega)
    unfold parseAV at ch
    by_cases he : (hashedP v).2 = 0
    · have hr := hashed_red he
      have hc := hashed_ok he
      have hsm := hashed_same he
      have hgt := hashed_get he
      have sr := size_red (hashedP v).1
      have c1 := fun H => Content_c v H (by omega)
      have c2 := fun H => Content_c (hashedP v).1 H (by omega)
      rw [hsm] at c2
      have c3 := fun H => Redact_c (hashedP v).1 H (by omega)
      have c4 := fun H => Get_c (redactP (hashedP v).1).1 nHashes H (get_names (by omega)).1 (get_names (n := 100000) (by omega)).2
      have c5 := fun H => Get_c (hashedP v).1 nHashes H (get_names (by omega)).1 (get_names (n := 100000) (by omega)).2
      unfold getAV at c4 c5
      rw [hr.2] at c4
      rw [hgt] at c5
      have hsz := size_sha (encB usualL (contentP v).1)
      rw [enc_len] at hsz
      have c6 := fun H => Alike_c (shaJ (encB usualL (contentP v).1)) (shaJ (encB usualL (contentP v).1)) H (by omega)
      have hl := contentP_len v
      have hr1 := hr.1
      unfold sumAV at c1 c2
      unfold parseAV at c3
      generalize shaJ (encB usualL (contentP v).1) = x at *
      generalize redactP (hashedP v).1 = r at *
      generalize contentP v = p at *
      generalize hashedP v = q at *
      have ha := aset_32 (l := zero32) rfl hl
      have hz : (zero32).length = 32 := rfl
      refine acalls_vc L_ok mixed [] (rs := [.tmp 2]) (n := 81) Tryz.func5 rfl rfl rfl rfl (Nat.le_of_ble_eq_true rfl) (by kernel_rfl) ?_
      repeat' (first | refine unhold ?_ | (simp -dsimp -implicitDefEqProofs (disch := (first | assumption | omega | (simp only [ll1, ll2, ll3, ll4, ll5, ll6, ll7, ll8]; omega))) only [go_sem, hf, he, hc, hr1, zero32_av, ha, all_b, hz, hl]) | refine acalls_same (cl _) ?_ | refine ⟨_, cl _, ?_⟩ | refine ⟨_, _, cl _, ?_⟩ | refine acalls_same (cg _) ?_ | refine ⟨_, cg _, ?_⟩ | refine ⟨_, _, cg _, ?_⟩ | refine acalls_same (ch _) ?_ | refine ⟨_, ch _, ?_⟩ | refine ⟨_, _, ch _, ?_⟩ | refine acalls_same (c1 _) ?_ | refine ⟨_, c1 _, ?_⟩ | refine ⟨_, _, c1 _, ?_⟩ | refine acalls_same (c2 _) ?_ | refine ⟨_, c2 _, ?_⟩ | refine ⟨_, _, c2 _, ?_⟩ | refine acalls_same (c3 _) ?_ | refine ⟨_, c3 _, ?_⟩ | refine ⟨_, _, c3 _, ?_⟩ | refine acalls_same (c4 _) ?_ | refine ⟨_, c4 _, ?_⟩ | refine ⟨_, _, c4 _, ?_⟩ | refine acalls_same (c5 _) ?_ | refine ⟨_, c5 _, ?_⟩ | refine ⟨_, _, c5 _, ?_⟩ | refine acalls_same (c6 _) ?_ | refine ⟨_, c6 _, ?_⟩ | refine ⟨_, _, c6 _, ?_⟩ | refine vcI (fun _ => ?_) (fun _ => ?_) | (refine vcA ?_ ?_; focus (repeat' (first | omega | assumption | refine vcA ?_ ?_); done)) | omega | refine imp_in (fun _ => ?_))
      exact done_bool ⟨rfl, rfl⟩
    · have hb := hashed_bad he
      have hef := eq_false he
      generalize hashedP v = q at *
      have hz : (q.1.items.length : Int) = 0 := by rw [hb]; rfl
      refine acalls_vc L_ok mixed [] (rs := [.tmp 2]) (n := 81) Tryz.func5 rfl rfl rfl rfl (Nat.le_of_ble_eq_true rfl) (by kernel_rfl) ?_
      repeat' (first | refine unhold ?_ | (simp -dsimp -implicitDefEqProofs (disch := (first | assumption | omega | (simp only [ll1, ll2, ll3, ll4, ll5, ll6, ll7, ll8]; omega))) only [go_sem, hf, hef, hz]) | refine acalls_same (cl _) ?_ | refine ⟨_, cl _, ?_⟩ | refine ⟨_, _, cl _, ?_⟩ | refine acalls_same (cg _) ?_ | refine ⟨_, cg _, ?_⟩ | refine ⟨_, _, cg _, ?_⟩ | refine acalls_same (ch _) ?_ | refine ⟨_, ch _, ?_⟩ | refine ⟨_, _, ch _, ?_⟩ | refine vcI (fun _ => ?_) (fun _ => ?_) | (refine vcA ?_ ?_; focus (repeat' (first | omega | assumption | refine vcA ?_ ?_); done)) | omega | refine imp_in (fun _ => ?_))
      exact done_bool ⟨rfl, rfl⟩
end Go.Proofs.YtdahdbnfknmmgaaGreatDoor
end

section
set_option linter.unusedSimpArgs false
set_option linter.unusedVariables false
namespace Go.Proofs.YtdahdbnfknmmgaaGreatDoor
open Go V Go.ChangeShapes Go.WideShapes Go.ChangeAt Go.RowKit
set_option maxRecDepth 20000
theorem own : ownKnob Tryz.prog.godebug = none := by kernel_rfl
theorem kids : Kids Tryz.prog (· < Tryz.prog.types.size) := kids_rows (by kernel_rfl) (by kernel_rfl)
theorem slices_ok : ((List.range Tryz.prog.types.size).all fun t => match Tryz.prog.underlying t with | some (.slice e) => decide (0 < Tryz.prog.cellsOf e) | _ => true) = true := by kernel_rfl
theorem hsz {t e : TypeId} (ht : t < Tryz.prog.types.size) (h : Tryz.prog.underlying t = some (.slice e)) : 0 < Tryz.prog.cellsOf e := by
  have := List.all_eq_true.1 slices_ok t (List.mem_range.2 ht)
  rw [h] at this
  simpa using this
theorem c_u8 : Tryz.prog.cellsOf 5 = 1 := by kernel_rfl
theorem c_u64 : Tryz.prog.cellsOf 113 = 1 := by kernel_rfl
theorem g_pow : Tryz.prog.globalNamed "internal/strconv.uint64pow10" = some 9 := by kernel_rfl
theorem y_pow : (Tryz.prog.globals[9]?).map (·.type) = some 200 := by kernel_rfl
theorem c_pow : Tryz.prog.cellsOf 200 = 20 := by kernel_rfl
theorem pow_data : (Rows.laid_internal_strconv_uint64pow10 : DataW Unit) = Lib.tabData .u64 ((List.range 20).map fun i => ((10 ^ i : Nat) : Int)) := by kernel_rfl
theorem g_accept : Tryz.prog.globalNamed "unicode/utf8.acceptRanges" = some 1 := by kernel_rfl
theorem y_accept : (Tryz.prog.globals[1]?).map (·.type) = some 103 := by kernel_rfl
theorem c_ar : Tryz.prog.cellsOf 102 = 2 := by kernel_rfl
theorem accept_data : (Rows.laid_unicode_utf8_acceptRanges : DataW Unit) = Lib.acceptData := by kernel_rfl
theorem g_rng : Tryz.prog.globalNamed "strconv.ErrRange" = some 8 := by kernel_rfl
theorem y_rng : (Tryz.prog.globals[8]?).map (·.type) = some 76 := by kernel_rfl
theorem g_syn : Tryz.prog.globalNamed "strconv.ErrSyntax" = some 7 := by kernel_rfl
theorem y_syn : (Tryz.prog.globals[7]?).map (·.type) = some 76 := by kernel_rfl
theorem g_space : Tryz.prog.globalNamed "strings.asciiSpace" = some 4 := by kernel_rfl
theorem y_space : (Tryz.prog.globals[4]?).map (·.type) = some 100 := by kernel_rfl
theorem c_space : Tryz.prog.cellsOf 100 = 256 := by kernel_rfl
theorem space_data : (Rows.laid_strings_asciiSpace : DataW Unit) = Lib.tabData .u8 ((List.range 256).map fun c => ((spaceN c : Nat) : Int)) := by kernel_rfl
theorem g_roots : Tryz.prog.globalNamed "vouchsafe/sha.roots" = some 2 := by kernel_rfl
theorem y_roots : (Tryz.prog.globals[2]?).map (·.type) = some 114 := by kernel_rfl
theorem c_roots : Tryz.prog.cellsOf 114 = 80 := by kernel_rfl
theorem roots_data : (Rows.laid_vouchsafe_sha_roots : DataW Unit) = Lib.tabData .u64 (rootsN.map fun n : Nat => (n : Int)) := by kernel_rfl
theorem g_begins : Tryz.prog.globalNamed "vouchsafe/sha.begins" = some 3 := by kernel_rfl
theorem y_begins : (Tryz.prog.globals[3]?).map (·.type) = some 121 := by kernel_rfl
theorem c_begins : Tryz.prog.cellsOf 121 = 8 := by kernel_rfl
theorem begins_data : (Rows.laid_vouchsafe_sha_begins : DataW Unit) = Lib.tabData .u64 (beginsN.map fun n : Nat => (n : Int)) := by kernel_rfl
theorem g_first : Tryz.prog.globalNamed "unicode/utf8.first" = some 0 := by kernel_rfl
theorem y_first : (Tryz.prog.globals[0]?).map (·.type) = some 100 := by kernel_rfl
theorem c_first : Tryz.prog.cellsOf 100 = 256 := by kernel_rfl
theorem first_data : (Rows.laid_unicode_utf8_first : DataW Unit) = Lib.tabData .u8 ((List.range 256).map fun c => (Lib.firstT c : Int)) := by kernel_rfl
theorem u_err : ∃ m, Tryz.prog.underlying 76 = some (.interface m) := ⟨_, Tryz.underlying76⟩
theorem trod_ifc {H : Type} {enc : TypeId × Value → H} {P : Program} {w : World} {base fuel : Nat} {sp : Nat → Bool} {t : TypeId} {m : Array (String × TypeId)} {cs : List Value} {n : String} {d : DataW H} {p : List MemPlace} (ht : P.underlying t = some (.interface m))
    (h : DataW.trod enc P w base sp false fuel t cs = some (.iface n d, p)) : ∃ u v, cs = [.iface u v] := by
  cases fuel with
  | zero => simp [DataW.trod] at h
  | succ fuel =>
    rcases cs with _ | ⟨c, _ | ⟨c', r⟩⟩
    · simp [DataW.trod, ht] at h
    · cases c <;> simp only [DataW.trod, ht] at h <;> try (simp at h; done)
      exact ⟨_, _, rfl⟩
    · simp [DataW.trod, ht] at h
theorem err_cell {W : World} {n : String} {gi : Nat} {s : List UInt8} (h : Lib.VarReads Tryz.prog W n (.iface "*errors.errorString" (.ptr (.agg [.lit (.string s)])))) (hg0 : Tryz.prog.globalNamed n = some gi) (hy0 : (Tryz.prog.globals[gi]?).map (·.type) = some 76) :
    ∃ t v, W.cell? ⟨gi, 0, none⟩ = some (.iface t v) := by
  obtain ⟨g, t, cs, fuel, p, hg, hty, hvar, hd⟩ := h
  obtain rfl := Option.some.inj (hg0.symm.trans hg)
  obtain rfl := Option.some.inj (hy0.symm.trans hty)
  obtain ⟨m, hm⟩ := u_err
  obtain ⟨u, v, hcs⟩ := trod_ifc hm hd
  refine ⟨u, v, ?_⟩
  rw [World.var?_cell hg hvar 0, ← Array.getElem?_toList, hcs]
  rfl
noncomputable def laidL : List (String × DataW Unit) := [("math/bits.deBruijn32tab", Rows.laid_math_bits_deBruijn32tab), ("math/bits.deBruijn64tab", Rows.laid_math_bits_deBruijn64tab), ("internal/strconv.uint64pow10", Rows.laid_internal_strconv_uint64pow10), ("unicode/utf8.acceptRanges", Rows.laid_unicode_utf8_acceptRanges), ("strconv.ErrRange", Rows.laid_strconv_ErrRange), ("strconv.ErrSyntax", Rows.laid_strconv_ErrSyntax), ("unicode.White_Space", Rows.laid_unicode_White_Space), ("strings.asciiSpace", Rows.laid_strings_asciiSpace), ("vouchsafe/sha.roots", Rows.laid_vouchsafe_sha_roots), ("vouchsafe/sha.begins", Rows.laid_vouchsafe_sha_begins), ("unicode/utf8.first", Rows.laid_unicode_utf8_first)]
/-- What the row's list gives: the tables' cells. -/
theorem tabs {W : World} (h : laidMet Tryz.prog laidL W) : TabsW W := by
  unfold laidL at h
  refine ⟨fun g j v e => ?_, fun g t e => ?_⟩
  · unfold gtab at e
    split at e
    · obtain ⟨g, t, cs, fuel, p, hg, hty, hvar, hd⟩ := Lib.laidMet.reads h (n := "unicode/utf8.first") (d := Rows.laid_unicode_utf8_first) (by simp)
      obtain rfl := Option.some.inj (g_first.symm.trans hg)
      obtain rfl := Option.some.inj (y_first.symm.trans hty)
      rw [first_data] at hd
      have hcs := Lib.cells_of_tab Tryz.underlying100 Tryz.underlying5 c_u8 c_first hd
      rw [World.var?_cell hg hvar j, ← Array.getElem?_toList, hcs, List.map_map]
      exact e
    · obtain ⟨g, t, cs, fuel, p, hg, hty, hvar, hd⟩ := Lib.laidMet.reads h (n := "unicode/utf8.acceptRanges") (d := Rows.laid_unicode_utf8_acceptRanges) (by simp)
      obtain rfl := Option.some.inj (g_accept.symm.trans hg)
      obtain rfl := Option.some.inj (y_accept.symm.trans hty)
      rw [accept_data] at hd
      rw [World.var?_cell hg hvar j, ← Array.getElem?_toList]
      have hj : j < 32 := (show tabAccept.length = 32 from rfl) ▸ (lt_of_get e : j < tabAccept.length)
      obtain ⟨fuel', d, q, hdi, he⟩ := Lib.array_elem Tryz.underlying103 hd (j / 2) (by omega)
      simp only [List.getElem?_map, List.getElem?_range (show j / 2 < 16 by omega), Option.map_some, Option.some.injEq] at hdi
      subst hdi
      rw [c_ar] at he
      have hcs := Lib.ints_of_struct Tryz.underlying102 (fun j f hj => by
        match j, hj with
        | 0, hj => simp at hj; subst hj; exact ⟨Tryz.underlying5, rfl, c_u8⟩
        | 1, hj => simp at hj; subst hj; exact ⟨Tryz.underlying5, rfl, c_u8⟩
        | j + 2, hj => simp at hj) (by rw [c_ar]; rfl) he
      have e0 := congrArg (·[j % 2]?) hcs
      simp only [List.getElem?_take, List.getElem?_drop, show j % 2 < 2 by omega, if_true, show j / 2 * 2 + j % 2 = j by omega] at e0
      rw [e0, ← e]
      have key : ∀ k, k < 32 → (List.map (fun z => Value.int .u8 z) [((Lib.accLo (k / 2) : Nat) : Int), ((Lib.accHi (k / 2) : Nat) : Int)])[k % 2]? = tabAccept[k]? := by
        intro k hk
        match k, hk with
        | 0, _ | 1, _ | 2, _ | 3, _ | 4, _ | 5, _ | 6, _ | 7, _ | 8, _ | 9, _ | 10, _ | 11, _ | 12, _ | 13, _ | 14, _ | 15, _ | 16, _ | 17, _ | 18, _ | 19, _ | 20, _ | 21, _ | 22, _ | 23, _ | 24, _ | 25, _ | 26, _ | 27, _ | 28, _ | 29, _ | 30, _ | 31, _ => rfl
        | _ + 32, h => omega
      exact key j hj
    · obtain ⟨g, t, cs, fuel, p, hg, hty, hvar, hd⟩ := Lib.laidMet.reads h (n := "vouchsafe/sha.roots") (d := Rows.laid_vouchsafe_sha_roots) (by simp)
      obtain rfl := Option.some.inj (g_roots.symm.trans hg)
      obtain rfl := Option.some.inj (y_roots.symm.trans hty)
      rw [roots_data] at hd
      have hcs := Lib.cells_of_tab Tryz.underlying114 Tryz.underlying113 c_u64 c_roots hd
      rw [World.var?_cell hg hvar j, ← Array.getElem?_toList, hcs, List.map_map]
      exact e
    · obtain ⟨g, t, cs, fuel, p, hg, hty, hvar, hd⟩ := Lib.laidMet.reads h (n := "vouchsafe/sha.begins") (d := Rows.laid_vouchsafe_sha_begins) (by simp)
      obtain rfl := Option.some.inj (g_begins.symm.trans hg)
      obtain rfl := Option.some.inj (y_begins.symm.trans hty)
      rw [begins_data] at hd
      have hcs := Lib.cells_of_tab Tryz.underlying121 Tryz.underlying113 c_u64 c_begins hd
      rw [World.var?_cell hg hvar j, ← Array.getElem?_toList, hcs, List.map_map]
      exact e
    · obtain ⟨g, t, cs, fuel, p, hg, hty, hvar, hd⟩ := Lib.laidMet.reads h (n := "strings.asciiSpace") (d := Rows.laid_strings_asciiSpace) (by simp)
      obtain rfl := Option.some.inj (g_space.symm.trans hg)
      obtain rfl := Option.some.inj (y_space.symm.trans hty)
      rw [space_data] at hd
      have hcs := Lib.cells_of_tab Tryz.underlying100 Tryz.underlying5 c_u8 c_space hd
      rw [World.var?_cell hg hvar j, ← Array.getElem?_toList, hcs, List.map_map]
      exact e
    · obtain ⟨g, t, cs, fuel, p, hg, hty, hvar, hd⟩ := Lib.laidMet.reads h (n := "internal/strconv.uint64pow10") (d := Rows.laid_internal_strconv_uint64pow10) (by simp)
      obtain rfl := Option.some.inj (g_pow.symm.trans hg)
      obtain rfl := Option.some.inj (y_pow.symm.trans hty)
      rw [pow_data] at hd
      have hcs := Lib.cells_of_tab Tryz.underlying200 Tryz.underlying113 c_u64 c_pow hd
      rw [World.var?_cell hg hvar j, ← Array.getElem?_toList, hcs, List.map_map]
      exact e
    · simp at e
  · unfold gifc at e
    split at e
    · cases e
      exact err_cell (Lib.laidMet.reads h (n := "strconv.ErrSyntax") (d := Rows.laid_strconv_ErrSyntax) (by simp)) g_syn y_syn
    · cases e
      exact err_cell (Lib.laidMet.reads h (n := "strconv.ErrRange") (d := Rows.laid_strconv_ErrRange) (by simp)) g_rng y_rng
    · cases e
/-- A world for the witness. -/
noncomputable def fillRow (cs : List Value) : Obj → Obj
  | .cells _ t frozen => .cells cs.toArray t frozen
  | o => o
def litCells : DataW Unit → List Value
  | .agg l => l.filterMap fun | .lit (.int k n) => some (.int k n) | _ => none
  | _ => []
noncomputable def baseHeap (os : Os) : Array Obj := (World.holding Tryz.prog os ⟨#[], #[], []⟩).heap
noncomputable def laidWorld (os : Os) : World :=
  { World.holding Tryz.prog os ⟨#[], #[], []⟩ with heap := (((((((((((((((baseHeap os).modify 10 (fillRow (litCells Rows.laid_math_bits_deBruijn32tab))).modify 11 (fillRow (litCells Rows.laid_math_bits_deBruijn64tab))).modify 9 (fillRow tabPow10)).modify 1 (fillRow tabAccept)).modify 8 (fillRow [.iface 208 (.pointer (some ⟨(baseHeap os).size + 0, 0, none⟩))])).modify 7 (fillRow [.iface 208 (.pointer (some ⟨(baseHeap os).size + 1, 0, none⟩))])).modify 5 (fillRow [.pointer (some ⟨(baseHeap os).size + 2, 0, none⟩)])).modify 4 (fillRow tabSpace)).modify 2 (fillRow tabRoots)).modify 3 (fillRow tabBegins)).modify 0 (fillRow tabFirst)).push (.cells #[.string ⟨#[118, 97, 108, 117, 101, 32, 111, 117, 116, 32, 111, 102, 32, 114, 97, 110, 103, 101]⟩] 210 (0, 0))).push (.cells #[.string ⟨#[105, 110, 118, 97, 108, 105, 100, 32, 115, 121, 110, 116, 97, 120]⟩] 210 (0, 0))).push (.cells #[.slice (some ⟨(baseHeap os).size + 3, 0, none⟩) 7 7, .slice none 0 0, .int .i64 2] 170 (0, 0))).push (.cells #[.int .u16 9, .int .u16 13, .int .u16 1, .int .u16 32, .int .u16 133, .int .u16 101, .int .u16 160, .int .u16 5760, .int .u16 5600, .int .u16 8192, .int .u16 8202, .int .u16 1, .int .u16 8232, .int .u16 8233, .int .u16 1, .int .u16 8239, .int .u16 8287, .int .u16 48, .int .u16 12288, .int .u16 12288, .int .u16 1] 173 (0, 0)) }
/-- The blocks in the order in which the list names them. -/
noncomputable def laidBs (os : Os) : List Nat := [10, 11, 9, 1, 8, (baseHeap os).size + 0, 7, (baseHeap os).size + 1, 5, (baseHeap os).size + 2, (baseHeap os).size + 3, 4, 2, 3, 0]
end Go.Proofs.YtdahdbnfknmmgaaGreatDoor
end

section
set_option linter.unusedSimpArgs false
set_option linter.unusedVariables false
namespace Go.Proofs.YtdahdbnfknmmgaaGreatDoor
open Go V Go.ChangeShapes Go.WideShapes Go.ChangeAt Go.RowKit
theorem agg_of {P : Program} {W : World} {base : Nat} {t : TypeId} {fs : Array Field} {v : Value} (hd : P.underlying t = some (.struct fs)) (k : Value.okWide P W .any base t v) : ∃ cs, v = .agg cs := by
  unfold Value.okWide at k
  rw [hd] at k
  obtain ⟨cs, h, _⟩ := k
  exact ⟨cs, h⟩
theorem rel_of_j {W : World} {v : JV} {cs : Array Value} (h : RelC W (jAV v) (Value.agg cs).cells.toList) : Rel (G₀ W) [] W (jAV v) (.agg cs) := by
  rw [jAV_eq] at *
  exact rel_of_agg h
theorem relC_get {W : World} {x : AV} {c : Value} (hx : x.flat = [x]) (h : RelC W x [c]) : Rel (G₀ W) [] W x c := h.2.2 0 x c (by rw [hx]; rfl) rfl
theorem c_int : Tryz.prog.cellsOf 3 = 1 := by kernel_rfl
theorem c_str : Tryz.prog.cellsOf 9 = 1 := by kernel_rfl
theorem c_strs : Tryz.prog.cellsOf 26 = 1 := by kernel_rfl
theorem c_jvs : Tryz.prog.cellsOf 27 = 1 := by kernel_rfl
theorem c_jv : Tryz.prog.cellsOf 29 = 5 := by kernel_rfl
section
variable {H : Type} {enc : TypeId × Value → H} {W : World}
theorem five {α : Type} {l : List α} (h : l.length = 5) : ∃ a b c d e, l = [a, b, c, d, e] := by
  match l, h with
  | [a, b, c, d, e], _ => exact ⟨a, b, c, d, e, rfl⟩
theorem opens_jv : ∀ n, Opens enc Tryz.prog W n 29 jAV (fun _ => True)
  | 0 => Opens.zero
  | n + 1 => fun m cs x hm hx => by
    obtain ⟨xs, n', rfl, rfl, hl, hxl, hf⟩ := DataW.trod_struct Tryz.underlying29 hx
    rw [c_jv] at hl
    have h0 : DataW.trod enc Tryz.prog W 0 (fun _ => true) true n' 3 ((cs.drop 0).take (Tryz.prog.cellsOf 3)) = xs[0]? := hf 0 _ rfl
    have h1 : DataW.trod enc Tryz.prog W 0 (fun _ => true) true n' 3 ((cs.drop 1).take (Tryz.prog.cellsOf 3)) = xs[1]? := hf 1 _ rfl
    have h2 : DataW.trod enc Tryz.prog W 0 (fun _ => true) true n' 9 ((cs.drop 2).take (Tryz.prog.cellsOf 9)) = xs[2]? := hf 2 _ rfl
    have h3 : DataW.trod enc Tryz.prog W 0 (fun _ => true) true n' 26 ((cs.drop 3).take (Tryz.prog.cellsOf 26)) = xs[3]? := hf 3 _ rfl
    have h4 : DataW.trod enc Tryz.prog W 0 (fun _ => true) true n' 27 ((cs.drop 4).take (Tryz.prog.cellsOf 27)) = xs[4]? := hf 4 _ rfl
    rw [c_int] at h0 h1
    rw [c_str] at h2
    rw [c_strs] at h3
    rw [c_jvs] at h4
    obtain ⟨k0, k1, k2, k3, k4, rfl⟩ := five hl
    obtain ⟨x0, x1, x2, x3, x4, rfl⟩ := five (hxl.trans (by rfl))
    obtain ⟨a, _, r0⟩ := opens_int (enc := enc) (w := W) (n' + 1) Tryz.underlying3 n' _ _ (Nat.le_succ _) h0
    obtain ⟨b, _, r1⟩ := opens_int (enc := enc) (w := W) (n' + 1) Tryz.underlying3 n' _ _ (Nat.le_succ _) h1
    obtain ⟨c, _, r2⟩ := opens_string (enc := enc) (w := W) (n' + 1) Tryz.underlying9 n' _ _ (Nat.le_succ _) h2
    obtain ⟨d, _, r3⟩ := opens_slice Tryz.underlying26 c_str (by decide) (opens_string (enc := enc) (w := W) n' Tryz.underlying9) n' _ _ (Nat.le_succ _) h3
    obtain ⟨f, _, r4⟩ := opens_slice Tryz.underlying27 c_jv (by decide) (opens_jv n) n' _ _ (by omega) h4
    refine ⟨.mk a b c d f, trivial, okv_j, by rw [flat_j]; rfl, fun j y u ey eu => ?_⟩
    rw [flat_j] at ey
    match j, ey, eu with
    | 0, ey, eu => cases ey; cases eu; exact relC_get rfl r0
    | 1, ey, eu => cases ey; cases eu; exact relC_get rfl r1
    | 2, ey, eu => cases ey; cases eu; exact relC_get rfl r2
    | 3, ey, eu => cases ey; cases eu; exact relC_get rfl r3
    | 4, ey, eu => cases ey; cases eu; exact relC_get rfl r4
end
theorem laid_plain {W : World} : laidMetH Tryz.prog laidL W = laidMet Tryz.prog laidL W := MakeChecks.laidMetH_plain _ _ _ (by kernel_rfl)
theorem tabsH {W : World} (h : laidMetH Tryz.prog laidL W) : TabsW W := tabs (laid_plain ▸ h)
end Go.Proofs.YtdahdbnfknmmgaaGreatDoor
end

section
set_option linter.unusedSimpArgs false
set_option linter.unusedVariables false
namespace Go.Proofs.YtdahdbnfknmmgaaGreatDoor
open Go Go.ChangeShapes Go.WideShapes Go.ChangeAt Go.RowKit
theorem pf_laidOut : laidOutB Tryz.prog = true := by kernel_rfl
theorem pf_maps : mapsRowed Tryz.prog = true := by kernel_rfl
theorem pf_stops : (Tryz.prog.stops == []) = true := by kernel_rfl
theorem pf_knobs : (Tryz.prog.stopKnobs == []) = true := by kernel_rfl
theorem pf_keys : (true == Tryz.prog.plainKeys) = true := by kernel_rfl
theorem pf_heard : Tryz.prog.stopsHeard = true := by kernel_rfl
theorem pf_enter : Tryz.prog.mayEnter = true := by kernel_rfl
theorem pf_lifts : (false == Tryz.prog.liftsFinal) = true := by kernel_rfl
theorem joined_of {P : Program} {f : FuncId} {fn : Func} {s : ChangeSpec} {c : OpenClaim} (h1 : c.wf (OpenSpec.ofChange s) = true) (h2 : laidOutB P = true) (h3 : mapsRowed P = true) (h4 : fn.params.all (P.readableRec ·) = true) (h5 : namedTie P c.named s.vars = true)
    (h6 : (c.stops == []) = true) (h7 : (P.stops == []) = true) (h8 : (c.knobs == []) = true) (h9 : (P.stopKnobs == []) = true) (h10 : (c.inPlace == P.inPlace f) = true) (h11 : (c.unfollowed == P.unfollowed f) = true) (h12 : (c.recurses == P.recurses f) = true) (h13 : (c.named == P.varsNamed f) = true)
    (h14 : ((c.maps == (fn.params.toList ++ s.plain.varTypes P).any (P.mapsRec ·)) && (c.ifaces == (fn.params.toList ++ s.plain.varTypes P).any (P.ifacesRec ·)) && (c.mapsOut == P.mapsAmong fn.resultTypes.toList)) = true)
    (h15 : ((c.loops == (fn.params.toList ++ s.plain.varTypes P).any (P.loopsFrom ·)) && (c.wideKeys == (fn.params.toList ++ s.plain.varTypes P ++ fn.resultTypes.toList).any (P.wideKeysFrom ·))) = true)
    (h16 : (s.vars.all (P.varReadable ·) && fn.resultTypes.all (fun t => P.readableRec t && decide (t < P.types.size)) && (c.ifacesOut == fn.resultTypes.toList.any (P.ifacesRec ·)) && (c.loopsOut == fn.resultTypes.toList.any (P.loopsFrom ·))) = true)
    (h17 : (c.plainKeys == P.plainKeys) = true) (h18 : c.shortTexts.isNone = true) (h19 : P.stopsHeard = true) (h20 : P.mayEnter = true) (h21 : (c.lifted == P.liftsFinal) = true) (h22 : (P.make == some c.make) = true)
    (h23 : (c.kinds == (if c.domain.isEmpty then [] else fn.params.toList.map fun t => match P.underlying t with | some (.int k) => some k | _ => none)) = true) (h24 : (c.pinned == c.pinnedBy) = true)
    (h25 : (c.veiled == (fn.params.toList ++ s.plain.varTypes P ++ fn.resultTypes.toList).any (P.veiledRec ·)) = true) (h26 : c.veiledFits P fn.params.toList (fn.params.toList ++ s.plain.varTypes P ++ fn.resultTypes.toList) = true) : joinedFacts P f fn s c = true := by
  simp only [Bool.and_eq_true] at h14 h15 h16
  obtain ⟨⟨a1, a2⟩, a3⟩ := h14
  obtain ⟨b1, b2⟩ := h15
  obtain ⟨⟨⟨c1, c2⟩, c3⟩, c4⟩ := h16
  simp only [joinedFacts, Bool.and_eq_true]
  exact ⟨⟨⟨⟨⟨⟨⟨⟨⟨⟨⟨⟨⟨⟨⟨⟨⟨⟨⟨⟨⟨⟨⟨⟨⟨⟨⟨⟨⟨⟨⟨h1, h2⟩, h3⟩, h4⟩, h5⟩, h6⟩, h7⟩, h8⟩, h9⟩, h10⟩, h11⟩, h12⟩, h13⟩, a1⟩, a2⟩, a3⟩, b1⟩, b2⟩, c1⟩, c2⟩, c3⟩, c4⟩, h17⟩, h18⟩, h19⟩, h20⟩, h21⟩, h22⟩, h23⟩, h24⟩, h25⟩, h26⟩
/-! The places of listed variables are apart: by keys that grow, not by pairs. -/
def incrN : List Nat → Bool
  | a :: b :: r => Nat.blt a b && incrN (b :: r)
  | _ => true
theorem incr_pw : ∀ {l : List Nat}, incrN l = true → l.Pairwise (· < ·)
  | [], _ => .nil
  | [a], _ => List.pairwise_singleton _ _
  | a :: b :: r, h => by
    simp only [incrN, Bool.and_eq_true, Nat.blt_eq] at h
    have ih := incr_pw h.2
    refine List.pairwise_cons.2 ⟨fun c hc => ?_, ih⟩
    rcases List.mem_cons.1 hc with rfl | hc
    · exact h.1
    · exact Nat.lt_trans h.1 ((List.pairwise_cons.1 ih).1 c hc)
theorem nodup_keys {α : Type} (key : α → Nat) {l : List α} (h : incrN (l.map key) = true) : l.Nodup := by
  have := incr_pw h
  rw [List.pairwise_map] at this
  exact this.imp fun hlt e => by rw [e] at hlt; exact Nat.lt_irrefl _ hlt
def rankN (bs : List Nat) : MemPlace → Nat
  | .cell b off => (bs.findIdx fun x => Nat.beq x b) * 65536 + off
  | .map b => (bs.findIdx fun x => Nat.beq x b) * 65536
theorem laidMet_keys {P : Program} {w : World} {l : List (String × DataW Unit)} (fuel : Nat) (key : MemPlace → Nat) (h : (DataW.laidRun P w fuel (l.map (·.1))).map (·.1) = some l)
    (hk : (DataW.laidRun P w fuel (l.map (·.1))).map (fun x => incrN (x.2.map key)) = some true) (hr : (DataW.laidRun P w fuel (l.map (·.1))).map (fun x => laidRowsB P w x.2) = some true) : laidMet P l w := by
  cases hx : DataW.laidRun P w fuel (l.map (·.1)) with
  | none => simp [hx] at h
  | some x =>
    obtain ⟨l', ps⟩ := x
    simp only [hx, Option.map_some, Option.some.injEq] at h hr hk
    subst h
    exact laidMet_of_run fuel hx (decide_eq_true (nodup_keys key hk)) hr
end Go.Proofs.YtdahdbnfknmmgaaGreatDoor
end

section
set_option linter.unusedSimpArgs false
set_option linter.unusedVariables false
namespace Go.Proofs.YtdahdbnfknmmgaaGreatDoor
open Go V
set_option maxRecDepth 10000
set_option maxHeartbeats 4000000
open Classical in
theorem DigestSame_c (v x : JV) (H : List AObj) : ACalls Tryz.prog 6 [jAV v, jAV x] H (fun y H' => y = .bool true ∧ H' = H) := by
  have cl := alive13_c
  have cg := great13_c v
  have cg2 := great13_c x
  by_cases h : 9000 < weigh v 9000
  · have ht := eq_true h
    refine acalls_vc L_ok mixed [] (rs := [.tmp 4]) (n := 139) Tryz.func6 rfl rfl rfl rfl (Nat.le_of_ble_eq_true rfl) (by kernel_rfl) ?_
    repeat' (first | refine unhold ?_ | (simp -dsimp -implicitDefEqProofs (disch := (first | assumption | omega | (simp only [ll1, ll2, ll3, ll4, ll5, ll6, ll7, ll8]; omega))) only [go_sem, ht]) | refine acalls_same (cl _) ?_ | refine ⟨_, cl _, ?_⟩ | refine ⟨_, _, cl _, ?_⟩ | refine acalls_same (cg _) ?_ | refine ⟨_, cg _, ?_⟩ | refine ⟨_, _, cg _, ?_⟩ | refine vcI (fun _ => ?_) (fun _ => ?_) | (refine vcA ?_ ?_; focus (repeat' (first | omega | assumption | refine vcA ?_ ?_); done)) | omega | refine imp_in (fun _ => ?_))
    exact done_same ⟨rfl, rfl⟩
  have hf := eq_false h
  by_cases h' : 9000 < weigh x 9000
  · have ht' := eq_true h'
    refine acalls_vc L_ok mixed [] (rs := [.tmp 4]) (n := 139) Tryz.func6 rfl rfl rfl rfl (Nat.le_of_ble_eq_true rfl) (by kernel_rfl) ?_
    repeat' (first | refine unhold ?_ | (simp -dsimp -implicitDefEqProofs (disch := (first | assumption | omega | (simp only [ll1, ll2, ll3, ll4, ll5, ll6, ll7, ll8]; omega))) only [go_sem, hf, ht']) | refine acalls_same (cl _) ?_ | refine ⟨_, cl _, ?_⟩ | refine ⟨_, _, cl _, ?_⟩ | refine acalls_same (cg _) ?_ | refine ⟨_, cg _, ?_⟩ | refine ⟨_, _, cg _, ?_⟩ | refine acalls_same (cg2 _) ?_ | refine ⟨_, cg2 _, ?_⟩ | refine ⟨_, _, cg2 _, ?_⟩ | refine vcI (fun _ => ?_) (fun _ => ?_) | (refine vcA ?_ ?_; focus (repeat' (first | omega | assumption | refine vcA ?_ ?_); done)) | omega | refine imp_in (fun _ => ?_))
    exact done_same ⟨rfl, rfl⟩
  have hf' := eq_false h'
  have hv := not_great h
  have hx := not_great h'
  have hrs := size_red v
  have cn := fun H => Name_c v H (by omega) (by omega)
  by_cases he : (nameE v).2 = 0
  · have ho := nameE_ok he
    obtain ⟨r1, r2, r3⟩ := red_again ho
    have cr := fun H => Redact_c v H (by omega)
    have cr2 := fun H => Redact_c (redactP v).1 H (by omega)
    have cn2 := fun H => Name_c (redactP v).1 H (by omega) (by rw [r2]; omega)
    rw [r2] at cr2
    rw [r3] at cn2
    have ca := fun H => Alike_c (redactP v).1 (redactP v).1 H (by omega)
    have hu := size_with (v := v) (s := nUns) (x := x)
    have hs := size_with (v := v) (s := nSigs) (x := x)
    have wu : nameW nUns = 9 := rfl
    have ws : nameW nSigs = 11 := rfl
    have hur := size_red (withP v nUns x).1
    have hsr := size_red (withP v nSigs x).1
    have cu := fun H => With_j v x nUns H (by omega) (by omega) (by decide)
    have cs := fun H => With_j v x nSigs H (by omega) (by omega) (by decide)
    have cnu := fun (q : (withP v nUns x).2 = 0) H => Name_c (withP v nUns x).1 H (by omega) (by omega)
    have cns := fun (q : (withP v nSigs x).2 = 0) H => Name_c (withP v nSigs x).1 H (by omega) (by omega)
    have eu := fun (q : (withP v nUns x).2 = 0) => name_unsigned q
    have es := fun (q : (withP v nSigs x).2 = 0) => name_signed q
    have cc := fun H => Content_c v H (by omega)
    have hl := contentP_len v
    have sc := size_cut (hasB [nUns, nSigs, nHashes]) v
    have cw := fun H => Without_j (o := .full) v [nUns, nSigs, nHashes] H (by omega) (by decide)
    have cc2 := fun H => Content_c (jcut (hasB [nUns, nSigs, nHashes]) v) H (by omega)
    have ec := fun (q : (contentP v).2 = 0) => content_cut q
    unfold sumAV at cc cc2
    unfold parseAV at cr cr2 cu cs
    unfold printAV at cn cn2 cnu cns
    have ha := aset_32 (l := zero32) rfl hl
    have hz : (zero32).length = 32 := rfl
    generalize hjc : jcut (hasB [nUns, nSigs, nHashes]) v = c at *
    generalize redactP v = r at *
    generalize withP v nUns x = u at *
    generalize withP v nSigs x = s at *
    by_cases hi : u.2 = 0
    · have cnu := cnu hi
      rw [eu hi] at cnu
      clear eu
      by_cases hj : s.2 = 0
      · have cns := cns hj
        rw [es hj] at cns
        clear es
        by_cases hl0 : (contentP v).2 = 0
        · have cc2 := cc2
          rw [ec hl0] at cc2
          clear ec
          generalize contentP v = p at *
          generalize nameE v = n at *
          refine acalls_vc L_ok mixed [] (rs := [.tmp 4]) (n := 139) Tryz.func6 rfl rfl rfl rfl (Nat.le_of_ble_eq_true rfl) (by kernel_rfl) ?_
          repeat' (first | refine unhold ?_ | (simp -dsimp -implicitDefEqProofs (disch := (first | assumption | omega | (simp only [ll1, ll2, ll3, ll4, ll5, ll6, ll7, ll8]; omega))) only [go_sem, hf, hf', he, r1, hi, hj, hl0, zero32_av, ha, all_b, hz, hl]) | refine acalls_same (cl _) ?_ | refine ⟨_, cl _, ?_⟩ | refine ⟨_, _, cl _, ?_⟩ | refine acalls_same (cg _) ?_ | refine ⟨_, cg _, ?_⟩ | refine ⟨_, _, cg _, ?_⟩ | refine acalls_same (cg2 _) ?_ | refine ⟨_, cg2 _, ?_⟩ | refine ⟨_, _, cg2 _, ?_⟩ | refine acalls_same (cn _) ?_ | refine ⟨_, cn _, ?_⟩ | refine ⟨_, _, cn _, ?_⟩ | refine acalls_same (cr _) ?_ | refine ⟨_, cr _, ?_⟩ | refine ⟨_, _, cr _, ?_⟩ | refine acalls_same (cr2 _) ?_ | refine ⟨_, cr2 _, ?_⟩ | refine ⟨_, _, cr2 _, ?_⟩ | refine acalls_same (cn2 _) ?_ | refine ⟨_, cn2 _, ?_⟩ | refine ⟨_, _, cn2 _, ?_⟩ | refine acalls_same (ca _) ?_ | refine ⟨_, ca _, ?_⟩ | refine ⟨_, _, ca _, ?_⟩ | refine acalls_same (cu _) ?_ | refine ⟨_, cu _, ?_⟩ | refine ⟨_, _, cu _, ?_⟩ | refine acalls_same (cs _) ?_ | refine ⟨_, cs _, ?_⟩ | refine ⟨_, _, cs _, ?_⟩ | refine acalls_same (cnu _) ?_ | refine ⟨_, cnu _, ?_⟩ | refine ⟨_, _, cnu _, ?_⟩ | refine acalls_same (cns _) ?_ | refine ⟨_, cns _, ?_⟩ | refine ⟨_, _, cns _, ?_⟩ | refine acalls_same (cc _) ?_ | refine ⟨_, cc _, ?_⟩ | refine ⟨_, _, cc _, ?_⟩ | refine acalls_same (cw _) ?_ | refine ⟨_, cw _, ?_⟩ | refine ⟨_, _, cw _, ?_⟩ | refine acalls_same (cc2 _) ?_ | refine ⟨_, cc2 _, ?_⟩ | refine ⟨_, _, cc2 _, ?_⟩ | refine vcI (fun _ => ?_) (fun _ => ?_) | (refine vcA ?_ ?_; focus (repeat' (first | omega | assumption | refine vcA ?_ ?_); done)) | omega | refine imp_in (fun _ => ?_))
          exact done_bool ⟨rfl, rfl⟩
        · replace hl0 := eq_false hl0
          clear ec
          generalize contentP v = p at *
          generalize nameE v = n at *
          refine acalls_vc L_ok mixed [] (rs := [.tmp 4]) (n := 139) Tryz.func6 rfl rfl rfl rfl (Nat.le_of_ble_eq_true rfl) (by kernel_rfl) ?_
          repeat' (first | refine unhold ?_ | (simp -dsimp -implicitDefEqProofs (disch := (first | assumption | omega | (simp only [ll1, ll2, ll3, ll4, ll5, ll6, ll7, ll8]; omega))) only [go_sem, hf, hf', he, r1, hi, hj, hl0, zero32_av, ha, all_b, hz, hl]) | refine acalls_same (cl _) ?_ | refine ⟨_, cl _, ?_⟩ | refine ⟨_, _, cl _, ?_⟩ | refine acalls_same (cg _) ?_ | refine ⟨_, cg _, ?_⟩ | refine ⟨_, _, cg _, ?_⟩ | refine acalls_same (cg2 _) ?_ | refine ⟨_, cg2 _, ?_⟩ | refine ⟨_, _, cg2 _, ?_⟩ | refine acalls_same (cn _) ?_ | refine ⟨_, cn _, ?_⟩ | refine ⟨_, _, cn _, ?_⟩ | refine acalls_same (cr _) ?_ | refine ⟨_, cr _, ?_⟩ | refine ⟨_, _, cr _, ?_⟩ | refine acalls_same (cr2 _) ?_ | refine ⟨_, cr2 _, ?_⟩ | refine ⟨_, _, cr2 _, ?_⟩ | refine acalls_same (cn2 _) ?_ | refine ⟨_, cn2 _, ?_⟩ | refine ⟨_, _, cn2 _, ?_⟩ | refine acalls_same (ca _) ?_ | refine ⟨_, ca _, ?_⟩ | refine ⟨_, _, ca _, ?_⟩ | refine acalls_same (cu _) ?_ | refine ⟨_, cu _, ?_⟩ | refine ⟨_, _, cu _, ?_⟩ | refine acalls_same (cs _) ?_ | refine ⟨_, cs _, ?_⟩ | refine ⟨_, _, cs _, ?_⟩ | refine acalls_same (cnu _) ?_ | refine ⟨_, cnu _, ?_⟩ | refine ⟨_, _, cnu _, ?_⟩ | refine acalls_same (cns _) ?_ | refine ⟨_, cns _, ?_⟩ | refine ⟨_, _, cns _, ?_⟩ | refine acalls_same (cc _) ?_ | refine ⟨_, cc _, ?_⟩ | refine ⟨_, _, cc _, ?_⟩ | refine vcI (fun _ => ?_) (fun _ => ?_) | (refine vcA ?_ ?_; focus (repeat' (first | omega | assumption | refine vcA ?_ ?_); done)) | omega | refine imp_in (fun _ => ?_))
          exact done_bool ⟨rfl, rfl⟩
      · replace hj := eq_false hj
        clear es
        by_cases hl0 : (contentP v).2 = 0
        · have cc2 := cc2
          rw [ec hl0] at cc2
          clear ec
          generalize contentP v = p at *
          generalize nameE v = n at *
          refine acalls_vc L_ok mixed [] (rs := [.tmp 4]) (n := 139) Tryz.func6 rfl rfl rfl rfl (Nat.le_of_ble_eq_true rfl) (by kernel_rfl) ?_
          repeat' (first | refine unhold ?_ | (simp -dsimp -implicitDefEqProofs (disch := (first | assumption | omega | (simp only [ll1, ll2, ll3, ll4, ll5, ll6, ll7, ll8]; omega))) only [go_sem, hf, hf', he, r1, hi, hj, hl0, zero32_av, ha, all_b, hz, hl]) | refine acalls_same (cl _) ?_ | refine ⟨_, cl _, ?_⟩ | refine ⟨_, _, cl _, ?_⟩ | refine acalls_same (cg _) ?_ | refine ⟨_, cg _, ?_⟩ | refine ⟨_, _, cg _, ?_⟩ | refine acalls_same (cg2 _) ?_ | refine ⟨_, cg2 _, ?_⟩ | refine ⟨_, _, cg2 _, ?_⟩ | refine acalls_same (cn _) ?_ | refine ⟨_, cn _, ?_⟩ | refine ⟨_, _, cn _, ?_⟩ | refine acalls_same (cr _) ?_ | refine ⟨_, cr _, ?_⟩ | refine ⟨_, _, cr _, ?_⟩ | refine acalls_same (cr2 _) ?_ | refine ⟨_, cr2 _, ?_⟩ | refine ⟨_, _, cr2 _, ?_⟩ | refine acalls_same (cn2 _) ?_ | refine ⟨_, cn2 _, ?_⟩ | refine ⟨_, _, cn2 _, ?_⟩ | refine acalls_same (ca _) ?_ | refine ⟨_, ca _, ?_⟩ | refine ⟨_, _, ca _, ?_⟩ | refine acalls_same (cu _) ?_ | refine ⟨_, cu _, ?_⟩ | refine ⟨_, _, cu _, ?_⟩ | refine acalls_same (cs _) ?_ | refine ⟨_, cs _, ?_⟩ | refine ⟨_, _, cs _, ?_⟩ | refine acalls_same (cnu _) ?_ | refine ⟨_, cnu _, ?_⟩ | refine ⟨_, _, cnu _, ?_⟩ | refine acalls_same (cc _) ?_ | refine ⟨_, cc _, ?_⟩ | refine ⟨_, _, cc _, ?_⟩ | refine acalls_same (cw _) ?_ | refine ⟨_, cw _, ?_⟩ | refine ⟨_, _, cw _, ?_⟩ | refine acalls_same (cc2 _) ?_ | refine ⟨_, cc2 _, ?_⟩ | refine ⟨_, _, cc2 _, ?_⟩ | refine vcI (fun _ => ?_) (fun _ => ?_) | (refine vcA ?_ ?_; focus (repeat' (first | omega | assumption | refine vcA ?_ ?_); done)) | omega | refine imp_in (fun _ => ?_))
          exact done_bool ⟨rfl, rfl⟩
        · replace hl0 := eq_false hl0
          clear ec
          generalize contentP v = p at *
          generalize nameE v = n at *
          refine acalls_vc L_ok mixed [] (rs := [.tmp 4]) (n := 139) Tryz.func6 rfl rfl rfl rfl (Nat.le_of_ble_eq_true rfl) (by kernel_rfl) ?_
          repeat' (first | refine unhold ?_ | (simp -dsimp -implicitDefEqProofs (disch := (first | assumption | omega | (simp only [ll1, ll2, ll3, ll4, ll5, ll6, ll7, ll8]; omega))) only [go_sem, hf, hf', he, r1, hi, hj, hl0, zero32_av, ha, all_b, hz, hl]) | refine acalls_same (cl _) ?_ | refine ⟨_, cl _, ?_⟩ | refine ⟨_, _, cl _, ?_⟩ | refine acalls_same (cg _) ?_ | refine ⟨_, cg _, ?_⟩ | refine ⟨_, _, cg _, ?_⟩ | refine acalls_same (cg2 _) ?_ | refine ⟨_, cg2 _, ?_⟩ | refine ⟨_, _, cg2 _, ?_⟩ | refine acalls_same (cn _) ?_ | refine ⟨_, cn _, ?_⟩ | refine ⟨_, _, cn _, ?_⟩ | refine acalls_same (cr _) ?_ | refine ⟨_, cr _, ?_⟩ | refine ⟨_, _, cr _, ?_⟩ | refine acalls_same (cr2 _) ?_ | refine ⟨_, cr2 _, ?_⟩ | refine ⟨_, _, cr2 _, ?_⟩ | refine acalls_same (cn2 _) ?_ | refine ⟨_, cn2 _, ?_⟩ | refine ⟨_, _, cn2 _, ?_⟩ | refine acalls_same (ca _) ?_ | refine ⟨_, ca _, ?_⟩ | refine ⟨_, _, ca _, ?_⟩ | refine acalls_same (cu _) ?_ | refine ⟨_, cu _, ?_⟩ | refine ⟨_, _, cu _, ?_⟩ | refine acalls_same (cs _) ?_ | refine ⟨_, cs _, ?_⟩ | refine ⟨_, _, cs _, ?_⟩ | refine acalls_same (cnu _) ?_ | refine ⟨_, cnu _, ?_⟩ | refine ⟨_, _, cnu _, ?_⟩ | refine acalls_same (cc _) ?_ | refine ⟨_, cc _, ?_⟩ | refine ⟨_, _, cc _, ?_⟩ | refine vcI (fun _ => ?_) (fun _ => ?_) | (refine vcA ?_ ?_; focus (repeat' (first | omega | assumption | refine vcA ?_ ?_); done)) | omega | refine imp_in (fun _ => ?_))
          exact done_bool ⟨rfl, rfl⟩
    · replace hi := eq_false hi
      clear eu
      by_cases hj : s.2 = 0
      · have cns := cns hj
        rw [es hj] at cns
        clear es
        by_cases hl0 : (contentP v).2 = 0
        · have cc2 := cc2
          rw [ec hl0] at cc2
          clear ec
          generalize contentP v = p at *
          generalize nameE v = n at *
          refine acalls_vc L_ok mixed [] (rs := [.tmp 4]) (n := 139) Tryz.func6 rfl rfl rfl rfl (Nat.le_of_ble_eq_true rfl) (by kernel_rfl) ?_
          repeat' (first | refine unhold ?_ | (simp -dsimp -implicitDefEqProofs (disch := (first | assumption | omega | (simp only [ll1, ll2, ll3, ll4, ll5, ll6, ll7, ll8]; omega))) only [go_sem, hf, hf', he, r1, hi, hj, hl0, zero32_av, ha, all_b, hz, hl]) | refine acalls_same (cl _) ?_ | refine ⟨_, cl _, ?_⟩ | refine ⟨_, _, cl _, ?_⟩ | refine acalls_same (cg _) ?_ | refine ⟨_, cg _, ?_⟩ | refine ⟨_, _, cg _, ?_⟩ | refine acalls_same (cg2 _) ?_ | refine ⟨_, cg2 _, ?_⟩ | refine ⟨_, _, cg2 _, ?_⟩ | refine acalls_same (cn _) ?_ | refine ⟨_, cn _, ?_⟩ | refine ⟨_, _, cn _, ?_⟩ | refine acalls_same (cr _) ?_ | refine ⟨_, cr _, ?_⟩ | refine ⟨_, _, cr _, ?_⟩ | refine acalls_same (cr2 _) ?_ | refine ⟨_, cr2 _, ?_⟩ | refine ⟨_, _, cr2 _, ?_⟩ | refine acalls_same (cn2 _) ?_ | refine ⟨_, cn2 _, ?_⟩ | refine ⟨_, _, cn2 _, ?_⟩ | refine acalls_same (ca _) ?_ | refine ⟨_, ca _, ?_⟩ | refine ⟨_, _, ca _, ?_⟩ | refine acalls_same (cu _) ?_ | refine ⟨_, cu _, ?_⟩ | refine ⟨_, _, cu _, ?_⟩ | refine acalls_same (cs _) ?_ | refine ⟨_, cs _, ?_⟩ | refine ⟨_, _, cs _, ?_⟩ | refine acalls_same (cns _) ?_ | refine ⟨_, cns _, ?_⟩ | refine ⟨_, _, cns _, ?_⟩ | refine acalls_same (cc _) ?_ | refine ⟨_, cc _, ?_⟩ | refine ⟨_, _, cc _, ?_⟩ | refine acalls_same (cw _) ?_ | refine ⟨_, cw _, ?_⟩ | refine ⟨_, _, cw _, ?_⟩ | refine acalls_same (cc2 _) ?_ | refine ⟨_, cc2 _, ?_⟩ | refine ⟨_, _, cc2 _, ?_⟩ | refine vcI (fun _ => ?_) (fun _ => ?_) | (refine vcA ?_ ?_; focus (repeat' (first | omega | assumption | refine vcA ?_ ?_); done)) | omega | refine imp_in (fun _ => ?_))
          exact done_bool ⟨rfl, rfl⟩
        · replace hl0 := eq_false hl0
          clear ec
          generalize contentP v = p at *
          generalize nameE v = n at *
          refine acalls_vc L_ok mixed [] (rs := [.tmp 4]) (n := 139) Tryz.func6 rfl rfl rfl rfl (Nat.le_of_ble_eq_true rfl) (by kernel_rfl) ?_
          repeat' (first | refine unhold ?_ | (simp -dsimp -implicitDefEqProofs (disch := (first | assumption | omega | (simp only [ll1, ll2, ll3, ll4, ll5, ll6, ll7, ll8]; omega))) only [go_sem, hf, hf', he, r1, hi, hj, hl0, zero32_av, ha, all_b, hz, hl]) | refine acalls_same (cl _) ?_ | refine ⟨_, cl _, ?_⟩ | refine ⟨_, _, cl _, ?_⟩ | refine acalls_same (cg _) ?_ | refine ⟨_, cg _, ?_⟩ | refine ⟨_, _, cg _, ?_⟩ | refine acalls_same (cg2 _) ?_ | refine ⟨_, cg2 _, ?_⟩ | refine ⟨_, _, cg2 _, ?_⟩ | refine acalls_same (cn _) ?_ | refine ⟨_, cn _, ?_⟩ | refine ⟨_, _, cn _, ?_⟩ | refine acalls_same (cr _) ?_ | refine ⟨_, cr _, ?_⟩ | refine ⟨_, _, cr _, ?_⟩ | refine acalls_same (cr2 _) ?_ | refine ⟨_, cr2 _, ?_⟩ | refine ⟨_, _, cr2 _, ?_⟩ | refine acalls_same (cn2 _) ?_ | refine ⟨_, cn2 _, ?_⟩ | refine ⟨_, _, cn2 _, ?_⟩ | refine acalls_same (ca _) ?_ | refine ⟨_, ca _, ?_⟩ | refine ⟨_, _, ca _, ?_⟩ | refine acalls_same (cu _) ?_ | refine ⟨_, cu _, ?_⟩ | refine ⟨_, _, cu _, ?_⟩ | refine acalls_same (cs _) ?_ | refine ⟨_, cs _, ?_⟩ | refine ⟨_, _, cs _, ?_⟩ | refine acalls_same (cns _) ?_ | refine ⟨_, cns _, ?_⟩ | refine ⟨_, _, cns _, ?_⟩ | refine acalls_same (cc _) ?_ | refine ⟨_, cc _, ?_⟩ | refine ⟨_, _, cc _, ?_⟩ | refine vcI (fun _ => ?_) (fun _ => ?_) | (refine vcA ?_ ?_; focus (repeat' (first | omega | assumption | refine vcA ?_ ?_); done)) | omega | refine imp_in (fun _ => ?_))
          exact done_bool ⟨rfl, rfl⟩
      · replace hj := eq_false hj
        clear es
        by_cases hl0 : (contentP v).2 = 0
        · have cc2 := cc2
          rw [ec hl0] at cc2
          clear ec
          generalize contentP v = p at *
          generalize nameE v = n at *
          refine acalls_vc L_ok mixed [] (rs := [.tmp 4]) (n := 139) Tryz.func6 rfl rfl rfl rfl (Nat.le_of_ble_eq_true rfl) (by kernel_rfl) ?_
          repeat' (first | refine unhold ?_ | (simp -dsimp -implicitDefEqProofs (disch := (first | assumption | omega | (simp only [ll1, ll2, ll3, ll4, ll5, ll6, ll7, ll8]; omega))) only [go_sem, hf, hf', he, r1, hi, hj, hl0, zero32_av, ha, all_b, hz, hl]) | refine acalls_same (cl _) ?_ | refine ⟨_, cl _, ?_⟩ | refine ⟨_, _, cl _, ?_⟩ | refine acalls_same (cg _) ?_ | refine ⟨_, cg _, ?_⟩ | refine ⟨_, _, cg _, ?_⟩ | refine acalls_same (cg2 _) ?_ | refine ⟨_, cg2 _, ?_⟩ | refine ⟨_, _, cg2 _, ?_⟩ | refine acalls_same (cn _) ?_ | refine ⟨_, cn _, ?_⟩ | refine ⟨_, _, cn _, ?_⟩ | refine acalls_same (cr _) ?_ | refine ⟨_, cr _, ?_⟩ | refine ⟨_, _, cr _, ?_⟩ | refine acalls_same (cr2 _) ?_ | refine ⟨_, cr2 _, ?_⟩ | refine ⟨_, _, cr2 _, ?_⟩ | refine acalls_same (cn2 _) ?_ | refine ⟨_, cn2 _, ?_⟩ | refine ⟨_, _, cn2 _, ?_⟩ | refine acalls_same (ca _) ?_ | refine ⟨_, ca _, ?_⟩ | refine ⟨_, _, ca _, ?_⟩ | refine acalls_same (cu _) ?_ | refine ⟨_, cu _, ?_⟩ | refine ⟨_, _, cu _, ?_⟩ | refine acalls_same (cs _) ?_ | refine ⟨_, cs _, ?_⟩ | refine ⟨_, _, cs _, ?_⟩ | refine acalls_same (cc _) ?_ | refine ⟨_, cc _, ?_⟩ | refine ⟨_, _, cc _, ?_⟩ | refine acalls_same (cw _) ?_ | refine ⟨_, cw _, ?_⟩ | refine ⟨_, _, cw _, ?_⟩ | refine acalls_same (cc2 _) ?_ | refine ⟨_, cc2 _, ?_⟩ | refine ⟨_, _, cc2 _, ?_⟩ | refine vcI (fun _ => ?_) (fun _ => ?_) | (refine vcA ?_ ?_; focus (repeat' (first | omega | assumption | refine vcA ?_ ?_); done)) | omega | refine imp_in (fun _ => ?_))
          exact done_bool ⟨rfl, rfl⟩
        · replace hl0 := eq_false hl0
          clear ec
          generalize contentP v = p at *
          generalize nameE v = n at *
          refine acalls_vc L_ok mixed [] (rs := [.tmp 4]) (n := 139) Tryz.func6 rfl rfl rfl rfl (Nat.le_of_ble_eq_true rfl) (by kernel_rfl) ?_
          repeat' (first | refine unhold ?_ | (simp -dsimp -implicitDefEqProofs (disch := (first | assumption | omega | (simp only [ll1, ll2, ll3, ll4, ll5, ll6, ll7, ll8]; omega))) only [go_sem, hf, hf', he, r1, hi, hj, hl0, zero32_av, ha, all_b, hz, hl]) | refine acalls_same (cl _) ?_ | refine ⟨_, cl _, ?_⟩ | refine ⟨_, _, cl _, ?_⟩ | refine acalls_same (cg _) ?_ | refine ⟨_, cg _, ?_⟩ | refine ⟨_, _, cg _, ?_⟩ | refine acalls_same (cg2 _) ?_ | refine ⟨_, cg2 _, ?_⟩ | refine ⟨_, _, cg2 _, ?_⟩ | refine acalls_same (cn _) ?_ | refine ⟨_, cn _, ?_⟩ | refine ⟨_, _, cn _, ?_⟩ | refine acalls_same (cr _) ?_ | refine ⟨_, cr _, ?_⟩ | refine ⟨_, _, cr _, ?_⟩ | refine acalls_same (cr2 _) ?_ | refine ⟨_, cr2 _, ?_⟩ | refine ⟨_, _, cr2 _, ?_⟩ | refine acalls_same (cn2 _) ?_ | refine ⟨_, cn2 _, ?_⟩ | refine ⟨_, _, cn2 _, ?_⟩ | refine acalls_same (ca _) ?_ | refine ⟨_, ca _, ?_⟩ | refine ⟨_, _, ca _, ?_⟩ | refine acalls_same (cu _) ?_ | refine ⟨_, cu _, ?_⟩ | refine ⟨_, _, cu _, ?_⟩ | refine acalls_same (cs _) ?_ | refine ⟨_, cs _, ?_⟩ | refine ⟨_, _, cs _, ?_⟩ | refine acalls_same (cc _) ?_ | refine ⟨_, cc _, ?_⟩ | refine ⟨_, _, cc _, ?_⟩ | refine vcI (fun _ => ?_) (fun _ => ?_) | (refine vcA ?_ ?_; focus (repeat' (first | omega | assumption | refine vcA ?_ ?_); done)) | omega | refine imp_in (fun _ => ?_))
          exact done_bool ⟨rfl, rfl⟩
  · have hb := name_bad he
    have hef := eq_false he
    generalize nameE v = n at *
    unfold printAV at cn
    have hbt := eq_true hb
    refine acalls_vc L_ok mixed [] (rs := [.tmp 4]) (n := 139) Tryz.func6 rfl rfl rfl rfl (Nat.le_of_ble_eq_true rfl) (by kernel_rfl) ?_
    repeat' (first | refine unhold ?_ | (simp -dsimp -implicitDefEqProofs (disch := (first | assumption | omega | (simp only [ll1, ll2, ll3, ll4, ll5, ll6, ll7, ll8]; omega))) only [go_sem, hf, hf', hef, hbt]) | refine acalls_same (cl _) ?_ | refine ⟨_, cl _, ?_⟩ | refine ⟨_, _, cl _, ?_⟩ | refine acalls_same (cg _) ?_ | refine ⟨_, cg _, ?_⟩ | refine ⟨_, _, cg _, ?_⟩ | refine acalls_same (cg2 _) ?_ | refine ⟨_, cg2 _, ?_⟩ | refine ⟨_, _, cg2 _, ?_⟩ | refine acalls_same (cn _) ?_ | refine ⟨_, cn _, ?_⟩ | refine ⟨_, _, cn _, ?_⟩ | refine vcI (fun _ => ?_) (fun _ => ?_) | (refine vcA ?_ ?_; focus (repeat' (first | omega | assumption | refine vcA ?_ ?_); done)) | omega | refine imp_in (fun _ => ?_))
    exact done_same ⟨rfl, rfl⟩
end Go.Proofs.YtdahdbnfknmmgaaGreatDoor
end
