/- The program's printer: trees; Print, Quote, Length, Canonical of both. -/
import Derived.Test.YtplmbhjhihoneaaGreatDoorWPm
import Derived.Test.YtplmbhjhihoneaaGreatDoorWPc
section
set_option linter.unusedSimpArgs false
set_option linter.unusedVariables false
namespace Go.Proofs.YtplmbhjhihoneaaGreatDoor
open Go V
set_option maxRecDepth 10000
set_option maxHeartbeats 1000000
theorem PAt.app {H : List AObj} {k m : Nat} (h : PAt H k m) (M : List AObj) : PAt (H ++ M) k m := ⟨by have := h.kl; rw [List.length_append]; omega, by have := h.ml; rw [List.length_append]; omega, h.ne⟩
theorem pA_app {a : AV} {H : List AObj} {k m : Nat} {o : bytes} {M : List AObj} (h : PAt H k m) : pA a H k m o ++ M = pA a (H ++ M) k m o := by
  unfold pA
  rw [List.set_append_left _ _ h.kl, List.set_append_left _ _ (by rw [List.length_set]; exact h.ml)]
theorem pA_ext {a : AV} {H : List AObj} {k m : Nat} {o : bytes} {M : List AObj} (h : PAt H k m) : (pA a (H ++ M) k m o)[H.length]? = M[0]? := by
  rw [← pA_app h, List.getElem?_append_right (by rw [pA_len]; exact Nat.le_refl _), pA_len, Nat.sub_self]
theorem pA_setx {a : AV} {H : List AObj} {k m : Nat} {o : bytes} {M : List AObj} {x : AObj} (h : PAt H k m) : (pA a (H ++ M) k m o).set H.length x = pA a (H ++ M.set 0 x) k m o := by
  rw [← pA_app h, ← pA_app h, List.set_append_right _ _ (by rw [pA_len]; exact Nat.le_refl _), pA_len, Nat.sub_self]
theorem low_ptr {m k : Nat} {a : AV} (h : bAddr k a) (hk : k < m) : Low m a := by
  rcases h with rfl | rfl
  · exact .lit _
  · exact .mp _ _ hk
theorem pA_obj {a b : AV} {H : List AObj} {k m mm : Nat} {o p : bytes} (h : PAt H k m) (hb : bAddr k b) (hmm : H.length ≤ mm) : ∀ (j : Nat) (sh : Shape) (cs : List AV), (pA b H k m p)[j]? = some (.cells sh cs) → (pA a H k m o)[j]? = some (.cells sh cs) ∨ ∀ z ∈ cs, Low mm z := fun j sh cs e => by
  have h1 := h.kl
  have h2 := h.ml
  by_cases hj : j = m
  · subst hj
    rw [pA_m h] at e
    cases e
  · by_cases hk : j = k
    · subst hk
      rw [pA_k h] at e
      cases e
      right
      intro z hz
      simp only [List.mem_cons, List.not_mem_nil, or_false] at hz
      rcases hz with rfl | rfl
      · exact low_ptr hb (by omega)
      · exact low_scalars (fun x hx => by
          obtain ⟨c, _, rfl⟩ := List.mem_map.1 hx
          exact ⟨_, rfl⟩) (fun k e => by cases e; omega)
    · left
      unfold pA at e ⊢
      rw [List.getElem?_set_ne (Ne.symm hj), List.getElem?_set_ne (Ne.symm hk)] at e ⊢
      exact e
theorem low_ipJ {m : Nat} (v : JV) : Low m (jAV v).ip := by
  rw [jAV_eq]
  refine .ip _ fun y hy => ?_
  simp [AV.flat, flats] at hy
  rcases hy with rfl | rfl | rfl | rfl | rfl
  · exact .lit _
  · exact .lit _
  · exact .str _
  · exact low_ssl
  · exact low_jsl
theorem pitems_c {a : AV} {H : List AObj} {k m : Nat} {o : bytes} {d : Nat} (v : JV) (f l : UInt8) (h : PAt H k m) (ha : bAddr k a) (hr : rightJ (d + 1) v = true) (hk : v.kind = 5 ∨ v.kind = 6) (hs : o.length + (printP v).length ≤ 1000000) (hsz : sizeJ v ≤ 10000)
    (ih : ∀ x ∈ v.items, ∀ (H : List AObj) (o : bytes), PAt H k m → o.length + (printP x).length ≤ 1000000 → ACalls Tryz.prog 65 [.mp k 0, jAV x] (pA (.mp k 0) H k m o) (fun x' H' => x' = .tup [] ∧ H' = pA (.mp k 0) H k m (trT x o))) :
    ACalls Tryz.prog 95 [.mp k 0, jAV v, .lit (.int .u8 f.toNat), .lit (.int .u8 l.toNat)] (pA a H k m o) (fun x H' => x = .tup [] ∧ H' = pA (.mp k 0) H k m (itT (decide (v.kind = 6)) v.items true v.names (o ++ [f]) ++ [l])) := by
  have hpe : (printP v).length = (itemsP (decide (v.kind = 6)) v.items true v.names).length + 2 := by
    rw [printP_eq, if_neg (by omega), if_neg (by omega), if_neg (by omega), if_neg (by omega)]
    rcases hk with e | e
    · rw [if_pos e, decide_eq_false (by omega)]; simp
    · rw [if_neg (by omega), if_pos e, decide_eq_true e]; simp
  have hn : v.kind = 6 → v.names.length = v.items.length := fun e => (right_obj hr e).2.2.2.1
  have hszi := size_items v
  have hszn := fun i (hi : i < v.names.length) => size_name (v := v) (mem_getD (d := []) hi)
  have hkl := h.kl
  generalize hF : itT (decide (v.kind = 6)) v.items true v.names (o ++ [f]) = F
  refine acalls_vc L_ok mixed [] (rs := []) (n := 52) Tryz.func95 rfl rfl rfl rfl (Nat.le_of_ble_eq_true rfl) (by kernel_rfl) ?_
  repeat' (first | refine unhold ?_ | (simp -dsimp -implicitDefEqProofs (disch := (first | assumption | omega | (simp only [ll1, ll2, ll3, ll4, ll5, ll6, ll7, ll8]; omega))) only [go_sem]) | refine acalls_same (pByte f rfl h ha (by omega)) ?_ | refine ⟨_, pByte f rfl h ha (by omega), ?_⟩ | refine ⟨_, _, pByte f rfl h ha (by omega), ?_⟩ | refine vcI (fun _ => ?_) (fun _ => ?_) | (refine vcA ?_ ?_; focus (repeat' (first | omega | assumption | refine vcA ?_ ?_); done)) | omega | refine imp_in (fun _ => ?_))
  refine vc_loopk L_ok mixed [] [0, 3, 5, 16, 17] (fun p : Nat × bytes => p.1 ≤ v.items.length ∧ itT (decide (v.kind = 6)) (v.items.drop p.1) (p.1 == 0) (v.names.drop p.1) p.2 = F ∧ p.2.length + (itemsP (decide (v.kind = 6)) (v.items.drop p.1) (p.1 == 0) (v.names.drop p.1)).length + 1 ≤ 1000000) (fun p => [(18, .int .i64 p.1)]) (fun p => pA (.mp k 0) H k m p.2) (fun p => v.items.length - p.1) (by kernel_rfl) ?_ (0, o ++ [f]) ⟨by simp, hF, by simp only [List.drop_zero, List.length_append, List.length_cons, List.length_nil]; rw [show ((0 : Nat) == 0) = true from rfl]; omega⟩ env_ok rfl
  rintro ⟨i, x⟩ ⟨hi, hx, hxl⟩
  dsimp only at hi hx hxl ⊢
  by_cases hil : i < v.items.length
  · rw [itT_at hil] at hx
    rw [itemsP_at hil] at hxl
    have hcut := tr_cut (v.items.getD i zeroJ) (x ++ headP (i == 0) (decide (v.kind = 6)) (v.names.getD i []))
    have hih := ih _ (mem_getD (d := zeroJ) hil)
    have hnm : v.kind = 6 → i < v.names.length := fun e => by have := hn e; omega
    simp only [List.length_append] at hxl
    have h44 : headP (i == 0) (decide (v.kind = 6)) (v.names.getD i []) = (if i = 0 then [] else [44]) ++ (if v.kind = 6 then quoteP (v.names.getD i []) ++ [58] else []) := by
      unfold headP
      by_cases e : i = 0
      · subst e; simp
      · rw [show (i == 0) = false from beq_eq_false_iff_ne.2 e]; simp [e]
    rw [h44] at hx hxl hcut
    have hq := quoteP_len (v.names.getD i [])
    have hqs : v.kind = 6 → (v.names.getD i []).length ≤ 10000 := fun e => by have := hszn i (hnm e); omega
    generalize hsn : v.names.getD i [] = s at *
    generalize hy : v.items.getD i zeroJ = y at *
    have hp1 := print_first y
    obtain ⟨c1, c2, c3⟩ := hcut
    simp only [List.length_append] at c2
    have hlen1 : ∀ z : bytes, (trT y z).length ≤ 10000000 → (trT y z).length ≤ 100000000 := fun z h => by omega
    by_cases h0 : i = 0
    · have hc0 : ((0 : Int) < (i : Int)) = False := eq_false (by omega)
      rw [if_pos h0] at hx hxl c1 c2 c3
      by_cases h6 : v.kind = 6
      · have hc6 : (v.kind = 6) = True := eq_true h6
        have hn6 := hnm h6
        have hq6 := hqs h6
        rw [if_pos h6] at hx hxl c1 c2 c3
        simp only [List.length_append, List.length_cons, List.length_nil] at hxl c2
        repeat' (first | refine unhold ?_ | (simp -dsimp -implicitDefEqProofs (disch := (first | assumption | omega | (simp only [ll1, ll2, ll3, ll4, ll5, ll6, ll7, ll8]; omega))) only [go_sem, hc0, hc6, hy, hsn, pA_app h, pA_len, pA_ext h, pA_setx h, List.length_append, List.length_cons, List.length_nil]) | refine acalls_same (pquote_c _ (h.app _) bAddr_k ?_ ?_) ?_ | refine ⟨_, pquote_c _ (h.app _) bAddr_k ?_ ?_, ?_⟩ | refine ⟨_, _, pquote_c _ (h.app _) bAddr_k ?_ ?_, ?_⟩ | refine acalls_same (pByte 58 rfl (h.app _) bAddr_k ?_) ?_ | refine ⟨_, pByte 58 rfl (h.app _) bAddr_k ?_, ?_⟩ | refine ⟨_, _, pByte 58 rfl (h.app _) bAddr_k ?_, ?_⟩ | refine acalls_same (hih _ _ (h.app _) ?_) ?_ | refine ⟨_, hih _ _ (h.app _) ?_, ?_⟩ | refine ⟨_, _, hih _ _ (h.app _) ?_, ?_⟩ | refine vcI (fun _ => ?_) (fun _ => ?_) | (refine vcA ?_ ?_; focus (repeat' (first | omega | assumption | refine vcA ?_ ?_); done)) | omega | refine imp_in (fun _ => ?_))
        refine again_drop (H.length) ([.cells (.one 27) (jCells y)]) ((i + 1, trT y (x ++ ([] ++ (quoteP s ++ [58]))))) ?_ ?_ ?_ ?_ ?_ (by repeat (first | exact envLow_nil | (refine envLow_cons ?_ ?_; focus (first | (first | exact .lit _ | exact .str _ | exact .any | exact low_bytes | exact low_runes | exact .mp _ _ (by omega) | exact .msl _ _ _ _ (by omega) | exact low_nilsl (fun k e => by cases e) | exact low_jAV _ | exact low_jsl | exact low_ssl | exact low_fn0 | exact low_ipJ _) | (refine low_tup ?_; repeat (first | exact lowAll_nil | (refine lowAll_cons ?_ ?_; focus (first | exact .lit _ | exact .str _ | exact .any | exact low_bytes | exact low_runes | exact .mp _ _ (by omega) | exact .msl _ _ _ _ (by omega) | exact low_nilsl (fun k e => by cases e) | exact low_jAV _ | exact low_jsl | exact low_ssl | exact low_fn0 | exact low_ipJ _)))) | (refine low_agg ?_; repeat (first | exact lowAll_nil | (refine lowAll_cons ?_ ?_; focus (first | exact .lit _ | exact .str _ | exact .any | exact low_bytes | exact low_runes | exact .mp _ _ (by omega) | exact .msl _ _ _ _ (by omega) | exact low_nilsl (fun k e => by cases e) | exact low_jAV _ | exact low_jsl | exact low_ssl | exact low_fn0 | exact low_ipJ _)))))))) ?_ env_ok
        · dsimp only; omega
        · refine ⟨by dsimp only; omega, hx, ?_⟩
          dsimp only
          omega
        · dsimp only
          rw [pA_app h]
          simp [jCells]
        · exact pA_len
        · exact Nat.le_of_eq pA_len
        · exact pA_obj h bAddr_k (Nat.le_refl _)
      · have hc6 : (v.kind = 6) = False := eq_false h6
        rw [if_neg h6] at hx hxl c1 c2 c3
        simp only [List.length_append, List.length_cons, List.length_nil] at hxl c2
        repeat' (first | refine unhold ?_ | (simp -dsimp -implicitDefEqProofs (disch := (first | assumption | omega | (simp only [ll1, ll2, ll3, ll4, ll5, ll6, ll7, ll8]; omega))) only [go_sem, hc0, hc6, hy, hsn, pA_app h, pA_len, pA_ext h, pA_setx h, List.length_append, List.length_cons, List.length_nil]) | refine acalls_same (pquote_c _ (h.app _) bAddr_k ?_ ?_) ?_ | refine ⟨_, pquote_c _ (h.app _) bAddr_k ?_ ?_, ?_⟩ | refine ⟨_, _, pquote_c _ (h.app _) bAddr_k ?_ ?_, ?_⟩ | refine acalls_same (pByte 58 rfl (h.app _) bAddr_k ?_) ?_ | refine ⟨_, pByte 58 rfl (h.app _) bAddr_k ?_, ?_⟩ | refine ⟨_, _, pByte 58 rfl (h.app _) bAddr_k ?_, ?_⟩ | refine acalls_same (hih _ _ (h.app _) ?_) ?_ | refine ⟨_, hih _ _ (h.app _) ?_, ?_⟩ | refine ⟨_, _, hih _ _ (h.app _) ?_, ?_⟩ | refine vcI (fun _ => ?_) (fun _ => ?_) | (refine vcA ?_ ?_; focus (repeat' (first | omega | assumption | refine vcA ?_ ?_); done)) | omega | refine imp_in (fun _ => ?_))
        refine again_drop (H.length) ([.cells (.one 27) (jCells y)]) ((i + 1, trT y (x ++ ([] ++ [])))) ?_ ?_ ?_ ?_ ?_ (by repeat (first | exact envLow_nil | (refine envLow_cons ?_ ?_; focus (first | (first | exact .lit _ | exact .str _ | exact .any | exact low_bytes | exact low_runes | exact .mp _ _ (by omega) | exact .msl _ _ _ _ (by omega) | exact low_nilsl (fun k e => by cases e) | exact low_jAV _ | exact low_jsl | exact low_ssl | exact low_fn0 | exact low_ipJ _) | (refine low_tup ?_; repeat (first | exact lowAll_nil | (refine lowAll_cons ?_ ?_; focus (first | exact .lit _ | exact .str _ | exact .any | exact low_bytes | exact low_runes | exact .mp _ _ (by omega) | exact .msl _ _ _ _ (by omega) | exact low_nilsl (fun k e => by cases e) | exact low_jAV _ | exact low_jsl | exact low_ssl | exact low_fn0 | exact low_ipJ _)))) | (refine low_agg ?_; repeat (first | exact lowAll_nil | (refine lowAll_cons ?_ ?_; focus (first | exact .lit _ | exact .str _ | exact .any | exact low_bytes | exact low_runes | exact .mp _ _ (by omega) | exact .msl _ _ _ _ (by omega) | exact low_nilsl (fun k e => by cases e) | exact low_jAV _ | exact low_jsl | exact low_ssl | exact low_fn0 | exact low_ipJ _)))))))) ?_ env_ok
        · dsimp only; omega
        · refine ⟨by dsimp only; omega, hx, ?_⟩
          dsimp only
          omega
        · dsimp only
          rw [pA_app h]
          simp [jCells]
        · exact pA_len
        · exact Nat.le_of_eq pA_len
        · exact pA_obj h bAddr_k (Nat.le_refl _)
    · have hc0 : ((0 : Int) < (i : Int)) = True := eq_true (by omega)
      rw [if_neg h0] at hx hxl c1 c2 c3
      by_cases h6 : v.kind = 6
      · have hc6 : (v.kind = 6) = True := eq_true h6
        have hn6 := hnm h6
        have hq6 := hqs h6
        rw [if_pos h6] at hx hxl c1 c2 c3
        simp only [List.length_append, List.length_cons, List.length_nil] at hxl c2
        repeat' (first | refine unhold ?_ | (simp -dsimp -implicitDefEqProofs (disch := (first | assumption | omega | (simp only [ll1, ll2, ll3, ll4, ll5, ll6, ll7, ll8]; omega))) only [go_sem, hc0, hc6, hy, hsn, pA_app h, pA_len, pA_ext h, pA_setx h, List.length_append, List.length_cons, List.length_nil]) | refine acalls_same (pByte 44 rfl (h.app _) bAddr_k ?_) ?_ | refine ⟨_, pByte 44 rfl (h.app _) bAddr_k ?_, ?_⟩ | refine ⟨_, _, pByte 44 rfl (h.app _) bAddr_k ?_, ?_⟩ | refine acalls_same (pquote_c _ (h.app _) bAddr_k ?_ ?_) ?_ | refine ⟨_, pquote_c _ (h.app _) bAddr_k ?_ ?_, ?_⟩ | refine ⟨_, _, pquote_c _ (h.app _) bAddr_k ?_ ?_, ?_⟩ | refine acalls_same (pByte 58 rfl (h.app _) bAddr_k ?_) ?_ | refine ⟨_, pByte 58 rfl (h.app _) bAddr_k ?_, ?_⟩ | refine ⟨_, _, pByte 58 rfl (h.app _) bAddr_k ?_, ?_⟩ | refine acalls_same (hih _ _ (h.app _) ?_) ?_ | refine ⟨_, hih _ _ (h.app _) ?_, ?_⟩ | refine ⟨_, _, hih _ _ (h.app _) ?_, ?_⟩ | refine vcI (fun _ => ?_) (fun _ => ?_) | (refine vcA ?_ ?_; focus (repeat' (first | omega | assumption | refine vcA ?_ ?_); done)) | omega | refine imp_in (fun _ => ?_))
        refine again_drop (H.length) ([.cells (.one 27) (jCells y)]) ((i + 1, trT y (x ++ ([44] ++ (quoteP s ++ [58]))))) ?_ ?_ ?_ ?_ ?_ (by repeat (first | exact envLow_nil | (refine envLow_cons ?_ ?_; focus (first | (first | exact .lit _ | exact .str _ | exact .any | exact low_bytes | exact low_runes | exact .mp _ _ (by omega) | exact .msl _ _ _ _ (by omega) | exact low_nilsl (fun k e => by cases e) | exact low_jAV _ | exact low_jsl | exact low_ssl | exact low_fn0 | exact low_ipJ _) | (refine low_tup ?_; repeat (first | exact lowAll_nil | (refine lowAll_cons ?_ ?_; focus (first | exact .lit _ | exact .str _ | exact .any | exact low_bytes | exact low_runes | exact .mp _ _ (by omega) | exact .msl _ _ _ _ (by omega) | exact low_nilsl (fun k e => by cases e) | exact low_jAV _ | exact low_jsl | exact low_ssl | exact low_fn0 | exact low_ipJ _)))) | (refine low_agg ?_; repeat (first | exact lowAll_nil | (refine lowAll_cons ?_ ?_; focus (first | exact .lit _ | exact .str _ | exact .any | exact low_bytes | exact low_runes | exact .mp _ _ (by omega) | exact .msl _ _ _ _ (by omega) | exact low_nilsl (fun k e => by cases e) | exact low_jAV _ | exact low_jsl | exact low_ssl | exact low_fn0 | exact low_ipJ _)))))))) ?_ env_ok
        · dsimp only; omega
        · refine ⟨by dsimp only; omega, hx, ?_⟩
          dsimp only
          omega
        · dsimp only
          rw [pA_app h]
          simp [jCells]
        · exact pA_len
        · exact Nat.le_of_eq pA_len
        · exact pA_obj h bAddr_k (Nat.le_refl _)
      · have hc6 : (v.kind = 6) = False := eq_false h6
        rw [if_neg h6] at hx hxl c1 c2 c3
        simp only [List.length_append, List.length_cons, List.length_nil] at hxl c2
        repeat' (first | refine unhold ?_ | (simp -dsimp -implicitDefEqProofs (disch := (first | assumption | omega | (simp only [ll1, ll2, ll3, ll4, ll5, ll6, ll7, ll8]; omega))) only [go_sem, hc0, hc6, hy, hsn, pA_app h, pA_len, pA_ext h, pA_setx h, List.length_append, List.length_cons, List.length_nil]) | refine acalls_same (pByte 44 rfl (h.app _) bAddr_k ?_) ?_ | refine ⟨_, pByte 44 rfl (h.app _) bAddr_k ?_, ?_⟩ | refine ⟨_, _, pByte 44 rfl (h.app _) bAddr_k ?_, ?_⟩ | refine acalls_same (pquote_c _ (h.app _) bAddr_k ?_ ?_) ?_ | refine ⟨_, pquote_c _ (h.app _) bAddr_k ?_ ?_, ?_⟩ | refine ⟨_, _, pquote_c _ (h.app _) bAddr_k ?_ ?_, ?_⟩ | refine acalls_same (pByte 58 rfl (h.app _) bAddr_k ?_) ?_ | refine ⟨_, pByte 58 rfl (h.app _) bAddr_k ?_, ?_⟩ | refine ⟨_, _, pByte 58 rfl (h.app _) bAddr_k ?_, ?_⟩ | refine acalls_same (hih _ _ (h.app _) ?_) ?_ | refine ⟨_, hih _ _ (h.app _) ?_, ?_⟩ | refine ⟨_, _, hih _ _ (h.app _) ?_, ?_⟩ | refine vcI (fun _ => ?_) (fun _ => ?_) | (refine vcA ?_ ?_; focus (repeat' (first | omega | assumption | refine vcA ?_ ?_); done)) | omega | refine imp_in (fun _ => ?_))
        refine again_drop (H.length) ([.cells (.one 27) (jCells y)]) ((i + 1, trT y (x ++ ([44] ++ [])))) ?_ ?_ ?_ ?_ ?_ (by repeat (first | exact envLow_nil | (refine envLow_cons ?_ ?_; focus (first | (first | exact .lit _ | exact .str _ | exact .any | exact low_bytes | exact low_runes | exact .mp _ _ (by omega) | exact .msl _ _ _ _ (by omega) | exact low_nilsl (fun k e => by cases e) | exact low_jAV _ | exact low_jsl | exact low_ssl | exact low_fn0 | exact low_ipJ _) | (refine low_tup ?_; repeat (first | exact lowAll_nil | (refine lowAll_cons ?_ ?_; focus (first | exact .lit _ | exact .str _ | exact .any | exact low_bytes | exact low_runes | exact .mp _ _ (by omega) | exact .msl _ _ _ _ (by omega) | exact low_nilsl (fun k e => by cases e) | exact low_jAV _ | exact low_jsl | exact low_ssl | exact low_fn0 | exact low_ipJ _)))) | (refine low_agg ?_; repeat (first | exact lowAll_nil | (refine lowAll_cons ?_ ?_; focus (first | exact .lit _ | exact .str _ | exact .any | exact low_bytes | exact low_runes | exact .mp _ _ (by omega) | exact .msl _ _ _ _ (by omega) | exact low_nilsl (fun k e => by cases e) | exact low_jAV _ | exact low_jsl | exact low_ssl | exact low_fn0 | exact low_ipJ _)))))))) ?_ env_ok
        · dsimp only; omega
        · refine ⟨by dsimp only; omega, hx, ?_⟩
          dsimp only
          omega
        · dsimp only
          rw [pA_app h]
          simp [jCells]
        · exact pA_len
        · exact Nat.le_of_eq pA_len
        · exact pA_obj h bAddr_k (Nat.le_refl _)
  · obtain rfl : i = v.items.length := by omega
    repeat' (first | refine unhold ?_ | (simp -dsimp -implicitDefEqProofs (disch := (first | assumption | omega | (simp only [ll1, ll2, ll3, ll4, ll5, ll6, ll7, ll8]; omega))) only [go_sem]) | refine acalls_same (pByte l rfl h bAddr_k ?_) ?_ | refine ⟨_, pByte l rfl h bAddr_k ?_, ?_⟩ | refine ⟨_, _, pByte l rfl h bAddr_k ?_, ?_⟩ | refine vcI (fun _ => ?_) (fun _ => ?_) | (refine vcA ?_ ?_; focus (repeat' (first | omega | assumption | refine vcA ?_ ?_); done)) | omega | refine imp_in (fun _ => ?_))
    rw [List.drop_length, itT_nil] at hx
    rw [hx]
    exact done_keep _ (Le.refl _) (by rw [pA_len, pA_len]; exact Nat.le_refl _) ⟨rfl, rfl⟩
theorem tr_stop {v : JV} {o : bytes} (h : 8192 < o.length) : trT v o = o := by rw [trT_eq, if_pos h]
theorem tr_leaf {v : JV} {o : bytes} (h : ¬ 8192 < o.length) (hk : v.kind ≠ 5 ∧ v.kind ≠ 6) : trT v o = o ++ printP v := by rw [trT_eq, if_neg h, if_neg hk.1, if_neg hk.2]
theorem ptree_leaf {a : AV} {H : List AObj} {k m : Nat} {o : bytes} {d : Nat} (v : JV) (h : PAt H k m) (ha : bAddr k a) (ha2 : 8192 < o.length → a = .mp k 0) (hr : rightJ d v = true) (hk : v.kind ≠ 5 ∧ v.kind ≠ 6) (hs : o.length + (printP v).length ≤ 1000000) (hsz : sizeJ v ≤ 10000) :
    ACalls Tryz.prog 65 [.mp k 0, jAV v] (pA a H k m o) (fun x H' => x = .tup [] ∧ H' = pA (.mp k 0) H k m (trT v o)) := by
  have hkl := h.kl
  have hL := Len_c (T := 73) (pA_k (a := a) (o := o) h)
  by_cases hol : 8192 < o.length
  · have hc : (8192 < ((o.length : Nat) : Int)) = True := eq_true (by omega)
    have e := ha2 hol
    subst e
    rw [tr_stop hol]
    refine acalls_vc L_ok mixed [1000010] (rs := []) (n := 54) Tryz.func65 rfl rfl rfl rfl (Nat.le_of_ble_eq_true rfl) (by kernel_rfl) ?_
    repeat' (first | refine unhold ?_ | (simp -dsimp -implicitDefEqProofs (disch := (first | assumption | omega | (simp only [ll1, ll2, ll3, ll4, ll5, ll6, ll7, ll8]; omega))) only [go_sem, hc]) | refine acalls_same (hL) ?_ | refine ⟨_, hL, ?_⟩ | refine ⟨_, _, hL, ?_⟩ | refine vcI (fun _ => ?_) (fun _ => ?_) | (refine vcA ?_ ?_; focus (repeat' (first | omega | assumption | refine vcA ?_ ?_); done)) | omega | refine imp_in (fun _ => ?_))
    exact done_keep _ (Le.refl _) (by exact Nat.le_refl _) ⟨rfl, rfl⟩
  · have hc : (8192 < ((o.length : Nat) : Int)) = False := eq_false (by omega)
    rw [tr_leaf hol hk]
    obtain ⟨h1, h2⟩ := right_leaf hr hk
    have hpe := printP_eq v
    have htx := size_text v
    rcases h2 with ⟨h2, _⟩ | ⟨h2, _, h3, h4⟩ | ⟨h2, _⟩
    · rcases h2 with e | e | e
      · rw [e, if_neg (by decide), if_neg (by decide), if_neg (by decide), if_neg (by decide), if_neg (by decide), if_neg (by decide)] at hpe
        rw [hpe]
        refine acalls_vc L_ok mixed [1000010] (rs := []) (n := 54) Tryz.func65 rfl rfl rfl rfl (Nat.le_of_ble_eq_true rfl) (by kernel_rfl) ?_
        repeat' (first | refine unhold ?_ | (simp -dsimp -implicitDefEqProofs (disch := (first | assumption | omega | (simp only [ll1, ll2, ll3, ll4, ll5, ll6, ll7, ll8]; omega))) only [go_sem, hc, e]) | refine acalls_same (hL) ?_ | refine ⟨_, hL, ?_⟩ | refine ⟨_, _, hL, ?_⟩ | refine acalls_same (pString h ha (by omega) (by decide)) ?_ | refine ⟨_, pString h ha (by omega) (by decide), ?_⟩ | refine ⟨_, _, pString h ha (by omega) (by decide), ?_⟩ | refine vcI (fun _ => ?_) (fun _ => ?_) | (refine vcA ?_ ?_; focus (repeat' (first | omega | assumption | refine vcA ?_ ?_); done)) | omega | refine imp_in (fun _ => ?_))
        exact done_keep _ (Le.refl _) (by rw [pA_len, pA_len]; exact Nat.le_refl _) ⟨rfl, rfl⟩
      · rw [e, if_pos rfl] at hpe
        rw [hpe]
        refine acalls_vc L_ok mixed [1000010] (rs := []) (n := 54) Tryz.func65 rfl rfl rfl rfl (Nat.le_of_ble_eq_true rfl) (by kernel_rfl) ?_
        repeat' (first | refine unhold ?_ | (simp -dsimp -implicitDefEqProofs (disch := (first | assumption | omega | (simp only [ll1, ll2, ll3, ll4, ll5, ll6, ll7, ll8]; omega))) only [go_sem, hc, e]) | refine acalls_same (hL) ?_ | refine ⟨_, hL, ?_⟩ | refine ⟨_, _, hL, ?_⟩ | refine acalls_same (pString h ha (by omega) (by decide)) ?_ | refine ⟨_, pString h ha (by omega) (by decide), ?_⟩ | refine ⟨_, _, pString h ha (by omega) (by decide), ?_⟩ | refine vcI (fun _ => ?_) (fun _ => ?_) | (refine vcA ?_ ?_; focus (repeat' (first | omega | assumption | refine vcA ?_ ?_); done)) | omega | refine imp_in (fun _ => ?_))
        exact done_keep _ (Le.refl _) (by rw [pA_len, pA_len]; exact Nat.le_refl _) ⟨rfl, rfl⟩
      · rw [e, if_neg (by decide), if_pos rfl] at hpe
        rw [hpe]
        refine acalls_vc L_ok mixed [1000010] (rs := []) (n := 54) Tryz.func65 rfl rfl rfl rfl (Nat.le_of_ble_eq_true rfl) (by kernel_rfl) ?_
        repeat' (first | refine unhold ?_ | (simp -dsimp -implicitDefEqProofs (disch := (first | assumption | omega | (simp only [ll1, ll2, ll3, ll4, ll5, ll6, ll7, ll8]; omega))) only [go_sem, hc, e]) | refine acalls_same (hL) ?_ | refine ⟨_, hL, ?_⟩ | refine ⟨_, _, hL, ?_⟩ | refine acalls_same (pString h ha (by omega) (by decide)) ?_ | refine ⟨_, pString h ha (by omega) (by decide), ?_⟩ | refine ⟨_, _, pString h ha (by omega) (by decide), ?_⟩ | refine vcI (fun _ => ?_) (fun _ => ?_) | (refine vcA ?_ ?_; focus (repeat' (first | omega | assumption | refine vcA ?_ ?_); done)) | omega | refine imp_in (fun _ => ?_))
        exact done_keep _ (Le.refl _) (by rw [pA_len, pA_len]; exact Nat.le_refl _) ⟨rfl, rfl⟩
    · rw [h2, if_neg (by decide), if_neg (by decide), if_pos rfl] at hpe
      rw [hpe] at hs ⊢
      refine acalls_vc L_ok mixed [1000010] (rs := []) (n := 54) Tryz.func65 rfl rfl rfl rfl (Nat.le_of_ble_eq_true rfl) (by kernel_rfl) ?_
      repeat' (first | refine unhold ?_ | (simp -dsimp -implicitDefEqProofs (disch := (first | assumption | omega | (simp only [ll1, ll2, ll3, ll4, ll5, ll6, ll7, ll8]; omega))) only [go_sem, hc, h2]) | refine acalls_same (hL) ?_ | refine ⟨_, hL, ?_⟩ | refine ⟨_, _, hL, ?_⟩ | refine acalls_same (Itoa_c _ _ ?_ ?_) ?_ | refine ⟨_, Itoa_c _ _ ?_ ?_, ?_⟩ | refine ⟨_, _, Itoa_c _ _ ?_ ?_, ?_⟩ | refine acalls_same (pString h ha ?_ ?_) ?_ | refine ⟨_, pString h ha ?_ ?_, ?_⟩ | refine ⟨_, _, pString h ha ?_ ?_, ?_⟩ | refine vcI (fun _ => ?_) (fun _ => ?_) | (refine vcA ?_ ?_; focus (repeat' (first | omega | assumption | refine vcA ?_ ?_); done)) | omega | refine imp_in (fun _ => ?_))
      exact done_keep _ (Le.refl _) (by rw [pA_len, pA_len]; exact Nat.le_refl _) ⟨rfl, rfl⟩
    · rw [h2, if_neg (by decide), if_neg (by decide), if_neg (by decide), if_pos rfl] at hpe
      rw [hpe]
      refine acalls_vc L_ok mixed [1000010] (rs := []) (n := 54) Tryz.func65 rfl rfl rfl rfl (Nat.le_of_ble_eq_true rfl) (by kernel_rfl) ?_
      repeat' (first | refine unhold ?_ | (simp -dsimp -implicitDefEqProofs (disch := (first | assumption | omega | (simp only [ll1, ll2, ll3, ll4, ll5, ll6, ll7, ll8]; omega))) only [go_sem, hc, h2]) | refine acalls_same (hL) ?_ | refine ⟨_, hL, ?_⟩ | refine ⟨_, _, hL, ?_⟩ | refine acalls_same (pquote_c _ h ha ?_ ?_) ?_ | refine ⟨_, pquote_c _ h ha ?_ ?_, ?_⟩ | refine ⟨_, _, pquote_c _ h ha ?_ ?_, ?_⟩ | refine vcI (fun _ => ?_) (fun _ => ?_) | (refine vcA ?_ ?_; focus (repeat' (first | omega | assumption | refine vcA ?_ ?_); done)) | omega | refine imp_in (fun _ => ?_))
      exact done_keep _ (Le.refl _) (by rw [pA_len, pA_len]; exact Nat.le_refl _) ⟨rfl, rfl⟩
theorem ptree_c : ∀ (d : Nat) (v : JV) (a : AV) (H : List AObj) (k m : Nat) (o : bytes), PAt H k m → bAddr k a → (8192 < o.length → a = .mp k 0) → rightJ d v = true → o.length + (printP v).length ≤ 1000000 → sizeJ v ≤ 10000 →
    ACalls Tryz.prog 65 [.mp k 0, jAV v] (pA a H k m o) (fun x H' => x = .tup [] ∧ H' = pA (.mp k 0) H k m (trT v o)) := by
  intro d
  induction d with
  | zero =>
    intro v a H k m o h ha ha2 hr hs hsz
    by_cases hk : v.kind ≠ 5 ∧ v.kind ≠ 6
    · exact ptree_leaf v h ha ha2 hr hk hs hsz
    · rcases right_of hr with h | ⟨h, _⟩
      · exact absurd (by omega) (one_kind h)
      · omega
  | succ d ih =>
    intro v a H k m o h ha ha2 hr hs hsz
    by_cases hk : v.kind ≠ 5 ∧ v.kind ≠ 6
    · exact ptree_leaf v h ha ha2 hr hk hs hsz
    have hk56 : v.kind = 5 ∨ v.kind = 6 := by omega
    have hkl := h.kl
    have hL := Len_c (T := 73) (pA_k (a := a) (o := o) h)
    by_cases hol : 8192 < o.length
    · have hc : (8192 < ((o.length : Nat) : Int)) = True := eq_true (by omega)
      have e := ha2 hol
      subst e
      rw [tr_stop hol]
      refine acalls_vc L_ok mixed [1000010] (rs := []) (n := 54) Tryz.func65 rfl rfl rfl rfl (Nat.le_of_ble_eq_true rfl) (by kernel_rfl) ?_
      repeat' (first | refine unhold ?_ | (simp -dsimp -implicitDefEqProofs (disch := (first | assumption | omega | (simp only [ll1, ll2, ll3, ll4, ll5, ll6, ll7, ll8]; omega))) only [go_sem, hc]) | refine acalls_same (hL) ?_ | refine ⟨_, hL, ?_⟩ | refine ⟨_, _, hL, ?_⟩ | refine vcI (fun _ => ?_) (fun _ => ?_) | (refine vcA ?_ ?_; focus (repeat' (first | omega | assumption | refine vcA ?_ ?_); done)) | omega | refine imp_in (fun _ => ?_))
      exact done_keep _ (Le.refl _) (by exact Nat.le_refl _) ⟨rfl, rfl⟩
    · have hc : (8192 < ((o.length : Nat) : Int)) = False := eq_false (by omega)
      have hall : v.items.all (rightJ d) = true := by
        rcases right_of hr with h | ⟨_, _, h⟩
        · exact absurd hk56 (one_kind h)
        · exact h
      have hit := fun (f l : UInt8) => pitems_c (a := a) (H := H) (k := k) (m := m) (o := o) (d := d) v f l h ha hr hk56 hs hsz fun x hx H o h ho => ih x (.mp k 0) H k m o h bAddr_k (fun _ => rfl) (List.all_eq_true.1 hall x hx) ho (by have := size_item hx; omega)
      have htr := trT_eq v o
      rw [if_neg hol] at htr
      rcases hk56 with e | e
      · have hi := hit 91 93
        rw [e, if_pos rfl] at htr
        rw [e, decide_eq_false (by decide)] at hi
        rw [htr]
        refine acalls_vc L_ok mixed [1000010] (rs := []) (n := 54) Tryz.func65 rfl rfl rfl rfl (Nat.le_of_ble_eq_true rfl) (by kernel_rfl) ?_
        repeat' (first | refine unhold ?_ | (simp -dsimp -implicitDefEqProofs (disch := (first | assumption | omega | (simp only [ll1, ll2, ll3, ll4, ll5, ll6, ll7, ll8]; omega))) only [go_sem, hc, e]) | refine acalls_same (hL) ?_ | refine ⟨_, hL, ?_⟩ | refine ⟨_, _, hL, ?_⟩ | refine acalls_same (hi) ?_ | refine ⟨_, hi, ?_⟩ | refine ⟨_, _, hi, ?_⟩ | refine vcI (fun _ => ?_) (fun _ => ?_) | (refine vcA ?_ ?_; focus (repeat' (first | omega | assumption | refine vcA ?_ ?_); done)) | omega | refine imp_in (fun _ => ?_))
        · rw [jAV_eq, e]
        · exact done_keep _ (Le.refl _) (by rw [pA_len, pA_len]; exact Nat.le_refl _) ⟨rfl, rfl⟩
      · have hi := hit 123 125
        rw [e, if_neg (by decide), if_pos rfl] at htr
        rw [e, decide_eq_true rfl] at hi
        rw [htr]
        refine acalls_vc L_ok mixed [1000010] (rs := []) (n := 54) Tryz.func65 rfl rfl rfl rfl (Nat.le_of_ble_eq_true rfl) (by kernel_rfl) ?_
        repeat' (first | refine unhold ?_ | (simp -dsimp -implicitDefEqProofs (disch := (first | assumption | omega | (simp only [ll1, ll2, ll3, ll4, ll5, ll6, ll7, ll8]; omega))) only [go_sem, hc, e]) | refine acalls_same (hL) ?_ | refine ⟨_, hL, ?_⟩ | refine ⟨_, _, hL, ?_⟩ | refine acalls_same (hi) ?_ | refine ⟨_, hi, ?_⟩ | refine ⟨_, _, hi, ?_⟩ | refine vcI (fun _ => ?_) (fun _ => ?_) | (refine vcA ?_ ?_; focus (repeat' (first | omega | assumption | refine vcA ?_ ?_); done)) | omega | refine imp_in (fun _ => ?_))
        · rw [jAV_eq, e]
        · exact done_keep _ (Le.refl _) (by rw [pA_len, pA_len]; exact Nat.le_refl _) ⟨rfl, rfl⟩
/-- A new printer, and what it holds. -/
def nObjs (H : List AObj) (a : AV) (o : bytes) : List AObj := H ++ [bObj 73 (H.length + 1) a o, gObj o.length]
theorem nObjs_at (H : List AObj) (a : AV) (o : bytes) : PAt (nObjs H a o) H.length (H.length + 1) := ⟨by simp [nObjs], by simp [nObjs], by omega⟩
theorem nObjs_pA (H : List AObj) (a b : AV) (o p : bytes) : pA b (nObjs H a o) H.length (H.length + 1) p = nObjs H b p := by
  unfold pA nObjs
  rw [List.set_append_right _ _ (Nat.le_refl _), Nat.sub_self, List.set_append_right _ _ (by omega), Nat.add_sub_cancel_left]
  rfl
theorem nObjs_k (H : List AObj) (a : AV) (o : bytes) : (nObjs H a o)[H.length]? = some (bObj 73 (H.length + 1) a o) := by
  unfold nObjs
  rw [List.getElem?_append_right (Nat.le_refl _), Nat.sub_self]
  rfl
theorem nObjs_m (H : List AObj) (a : AV) (o : bytes) : (nObjs H a o)[H.length + 1]? = some (gObj o.length) := by
  unfold nObjs
  rw [List.getElem?_append_right (by omega), Nat.add_sub_cancel_left]
  rfl
def printE (v : JV) : bytes × Int := if rightJ 12 v = true then (if 8192 < (printP v).length then ([], 3) else (printP v, 0)) else ([], 1)
def quoteE (s : bytes) : bytes × Int := if Lib.validD s = true then (quoteP s, 0) else ([], 1)
def printAV (p : bytes × Int) : AV := .tup [.str p.1, .lit (.int .i64 p.2)]
def lengthE (v : JV) : Int := if (printE v).2 = 3 then 8193 else (printE v).1.length
def canonE (t : bytes) : Bool := decide ((parseP t).2 = 0) && (decide ((printE (parseP t).1).2 = 0) && decide ((printE (parseP t).1).1 = t))
theorem Print_c (v : JV) (H : List AObj) (hs : sizeJ v ≤ 10000) : ACalls Tryz.prog 42 [jAV v] H (fun x H' => x = printAV (printE v) ∧ H' = H) := by
  have hR := fun H => Right_j v H hs
  cases hr : rightJ 12 v with
  | false =>
    rw [hr] at hR
    refine acalls_vc L_ok mixed [3000004005] (rs := [.tmp 2, .tmp 3]) (n := 15) Tryz.func42 rfl rfl rfl rfl (Nat.le_of_ble_eq_true rfl) (by kernel_rfl) ?_
    repeat' (first | refine unhold ?_ | (simp -dsimp -implicitDefEqProofs (disch := (first | assumption | omega | (simp only [ll1, ll2, ll3, ll4, ll5, ll6, ll7, ll8]; omega))) only [go_sem]) | refine acalls_same (hR _) ?_ | refine ⟨_, hR _, ?_⟩ | refine ⟨_, _, hR _, ?_⟩ | refine vcI (fun _ => ?_) (fun _ => ?_) | (refine vcA ?_ ?_; focus (repeat' (first | omega | assumption | refine vcA ?_ ?_); done)) | omega | refine imp_in (fun _ => ?_))
    exact done_same ⟨by rw [printE, hr]; rfl, rfl⟩
  | true =>
    rw [hr] at hR
    have hps := print_size 12 v hr
    have ht := ptree_c 12 v (.lit (.pointer none)) (nObjs H (.lit (.pointer none)) []) H.length (H.length + 1) [] (nObjs_at _ _ _) bAddr_n (fun h => absurd h (by decide)) hr (by rw [List.length_nil]; omega) hs
    rw [nObjs_pA, nObjs_pA] at ht
    obtain ⟨t1, t2⟩ := tr_all v
    have hcut := (tr_cut v []).2.1
    generalize trT v [] = y at *
    have hL := Len_c (T := 73) (nObjs_k H (.mp H.length 0) y)
    have hS := String_c (T := 73) (nObjs_k H (.mp H.length 0) y) (nObjs_m H (.mp H.length 0) y) (by rw [List.length_nil] at hcut; omega)
    have hre : printE v = if 8192 < (printP v).length then ([], 3) else (printP v, 0) := by rw [printE, hr, if_pos rfl]
    rw [hre]
    unfold nObjs at ht
    by_cases hl : 8192 < (printP v).length
    · have hy := t1.2 hl
      have hc : (8192 < ((y.length : Nat) : Int)) = True := eq_true (by omega)
      rw [if_pos hl]
      refine acalls_vc L_ok mixed [3000004005] (rs := [.tmp 2, .tmp 3]) (n := 15) Tryz.func42 rfl rfl rfl rfl (Nat.le_of_ble_eq_true rfl) (by kernel_rfl) ?_
      repeat' (first | refine unhold ?_ | (simp -dsimp -implicitDefEqProofs (disch := (first | assumption | omega | (simp only [ll1, ll2, ll3, ll4, ll5, ll6, ll7, ll8]; omega))) only [go_sem, hc]) | refine acalls_same (hR _) ?_ | refine ⟨_, hR _, ?_⟩ | refine ⟨_, _, hR _, ?_⟩ | refine acalls_same (ht) ?_ | refine ⟨_, ht, ?_⟩ | refine ⟨_, _, ht, ?_⟩ | refine acalls_same (hL) ?_ | refine ⟨_, hL, ?_⟩ | refine ⟨_, _, hL, ?_⟩ | refine acalls_same (hS) ?_ | refine ⟨_, hS, ?_⟩ | refine ⟨_, _, hS, ?_⟩ | refine vcI (fun _ => ?_) (fun _ => ?_) | (refine vcA ?_ ?_; focus (repeat' (first | omega | assumption | refine vcA ?_ ?_); done)) | omega | refine imp_in (fun _ => ?_))
      exact done_cut _ (Le.refl _) (low_tup (lowAll_cons (.str _) (lowAll_cons (.lit _) lowAll_nil))) ⟨rfl, rfl⟩
    · have hy := t2 (by omega)
      have hc : (8192 < ((y.length : Nat) : Int)) = False := eq_false (by have := t1.1; omega)
      rw [if_neg hl, ← hy]
      refine acalls_vc L_ok mixed [3000004005] (rs := [.tmp 2, .tmp 3]) (n := 15) Tryz.func42 rfl rfl rfl rfl (Nat.le_of_ble_eq_true rfl) (by kernel_rfl) ?_
      repeat' (first | refine unhold ?_ | (simp -dsimp -implicitDefEqProofs (disch := (first | assumption | omega | (simp only [ll1, ll2, ll3, ll4, ll5, ll6, ll7, ll8]; omega))) only [go_sem, hc]) | refine acalls_same (hR _) ?_ | refine ⟨_, hR _, ?_⟩ | refine ⟨_, _, hR _, ?_⟩ | refine acalls_same (ht) ?_ | refine ⟨_, ht, ?_⟩ | refine ⟨_, _, ht, ?_⟩ | refine acalls_same (hL) ?_ | refine ⟨_, hL, ?_⟩ | refine ⟨_, _, hL, ?_⟩ | refine acalls_same (hS) ?_ | refine ⟨_, hS, ?_⟩ | refine ⟨_, _, hS, ?_⟩ | refine vcI (fun _ => ?_) (fun _ => ?_) | (refine vcA ?_ ?_; focus (repeat' (first | omega | assumption | refine vcA ?_ ?_); done)) | omega | refine imp_in (fun _ => ?_))
      exact done_cut _ (Le.refl _) (low_tup (lowAll_cons (.str _) (lowAll_cons (.lit _) lowAll_nil))) ⟨rfl, rfl⟩
theorem pquote_n (s : bytes) (H : List AObj) (hs : s.length ≤ 100000) : ACalls Tryz.prog 68 [.mp H.length 0, .str s] (nObjs H (.lit (.pointer none)) []) (fun x H' => x = .tup [] ∧ H' = nObjs H (.mp H.length 0) (quoteP s)) := by
  have := pquote_c (a := .lit (.pointer none)) (o := []) s (nObjs_at H (.lit (.pointer none)) []) bAddr_n (by decide) hs
  rw [nObjs_pA, nObjs_pA] at this
  exact this
theorem Quote_c (s : bytes) (H : List AObj) (hs : s.length ≤ 10000) : ACalls Tryz.prog 43 [.str s] H (fun x H' => x = printAV (quoteE s) ∧ H' = H) := by
  have hR := fun (o : Own) (H : List AObj) => Right_c (o := o) s H hs
  have hq := quoteP_len s
  cases hr : Lib.validD s with
  | false =>
    rw [hr] at hR
    refine acalls_vc L_ok mixed [3000004005] (rs := [.tmp 2, .tmp 3]) (n := 13) Tryz.func43 rfl rfl rfl rfl (Nat.le_of_ble_eq_true rfl) (by kernel_rfl) ?_
    repeat' (first | refine unhold ?_ | (simp -dsimp -implicitDefEqProofs (disch := (first | assumption | omega | (simp only [ll1, ll2, ll3, ll4, ll5, ll6, ll7, ll8]; omega))) only [go_sem]) | refine acalls_same (hR _ _) ?_ | refine ⟨_, hR _ _, ?_⟩ | refine ⟨_, _, hR _ _, ?_⟩ | refine vcI (fun _ => ?_) (fun _ => ?_) | (refine vcA ?_ ?_; focus (repeat' (first | omega | assumption | refine vcA ?_ ?_); done)) | omega | refine imp_in (fun _ => ?_))
    exact done_same ⟨by rw [quoteE, hr]; rfl, rfl⟩
  | true =>
    rw [hr] at hR
    have ht := pquote_n s H (by omega)
    have hS := String_c (T := 73) (nObjs_k H (.mp H.length 0) (quoteP s)) (nObjs_m H (.mp H.length 0) (quoteP s)) (by omega)
    have hre : quoteE s = (quoteP s, 0) := by rw [quoteE, hr, if_pos rfl]
    rw [hre]
    generalize quoteP s = y at *
    unfold nObjs at ht
    refine acalls_vc L_ok mixed [3000004005] (rs := [.tmp 2, .tmp 3]) (n := 13) Tryz.func43 rfl rfl rfl rfl (Nat.le_of_ble_eq_true rfl) (by kernel_rfl) ?_
    repeat' (first | refine unhold ?_ | (simp -dsimp -implicitDefEqProofs (disch := (first | assumption | omega | (simp only [ll1, ll2, ll3, ll4, ll5, ll6, ll7, ll8]; omega))) only [go_sem]) | refine acalls_same (hR _ _) ?_ | refine ⟨_, hR _ _, ?_⟩ | refine ⟨_, _, hR _ _, ?_⟩ | refine acalls_same (ht) ?_ | refine ⟨_, ht, ?_⟩ | refine ⟨_, _, ht, ?_⟩ | refine acalls_same (hS) ?_ | refine ⟨_, hS, ?_⟩ | refine ⟨_, _, hS, ?_⟩ | refine vcI (fun _ => ?_) (fun _ => ?_) | (refine vcA ?_ ?_; focus (repeat' (first | omega | assumption | refine vcA ?_ ?_); done)) | omega | refine imp_in (fun _ => ?_))
    exact done_cut _ (Le.refl _) (low_tup (lowAll_cons (.str _) (lowAll_cons (.lit _) lowAll_nil))) ⟨rfl, rfl⟩
end Go.Proofs.YtplmbhjhihoneaaGreatDoor
end

section
set_option linter.unusedSimpArgs false
set_option linter.unusedVariables false
namespace Go.Proofs.YtplmbhjhihoneaaGreatDoor
open Go V
set_option maxRecDepth 10000
set_option maxHeartbeats 1000000
theorem Quote_r (s : bytes) (H : List AObj) (hs : s.length ≤ 10000) : ACalls Tryz.prog 45 [.str s] H (fun x H' => x = printAV (quoteE s) ∧ H' = H) := by
  have hR := fun (o : Own) (H : List AObj) => Right_r (o := o) s H hs
  have hq := fun H => quote_r s H (by omega)
  cases hr : Lib.validD s with
  | false =>
    rw [hr] at hR
    refine acalls_vc L_ok mixed [] (rs := [.tmp 2, .tmp 3]) (n := 10) Tryz.func45 rfl rfl rfl rfl (Nat.le_of_ble_eq_true rfl) (by kernel_rfl) ?_
    repeat' (first | refine unhold ?_ | (simp -dsimp -implicitDefEqProofs (disch := (first | assumption | omega | (simp only [ll1, ll2, ll3, ll4, ll5, ll6, ll7, ll8]; omega))) only [go_sem]) | refine acalls_same (hR _ _) ?_ | refine ⟨_, hR _ _, ?_⟩ | refine ⟨_, _, hR _ _, ?_⟩ | refine vcI (fun _ => ?_) (fun _ => ?_) | (refine vcA ?_ ?_; focus (repeat' (first | omega | assumption | refine vcA ?_ ?_); done)) | omega | refine imp_in (fun _ => ?_))
    exact done_same ⟨by rw [quoteE, hr]; rfl, rfl⟩
  | true =>
    rw [hr] at hR
    refine acalls_vc L_ok mixed [] (rs := [.tmp 2, .tmp 3]) (n := 10) Tryz.func45 rfl rfl rfl rfl (Nat.le_of_ble_eq_true rfl) (by kernel_rfl) ?_
    repeat' (first | refine unhold ?_ | (simp -dsimp -implicitDefEqProofs (disch := (first | assumption | omega | (simp only [ll1, ll2, ll3, ll4, ll5, ll6, ll7, ll8]; omega))) only [go_sem]) | refine acalls_same (hR _ _) ?_ | refine ⟨_, hR _ _, ?_⟩ | refine ⟨_, _, hR _ _, ?_⟩ | refine acalls_same (hq _) ?_ | refine ⟨_, hq _, ?_⟩ | refine ⟨_, _, hq _, ?_⟩ | refine vcI (fun _ => ?_) (fun _ => ?_) | (refine vcA ?_ ?_; focus (repeat' (first | omega | assumption | refine vcA ?_ ?_); done)) | omega | refine imp_in (fun _ => ?_))
    exact done_same ⟨by rw [quoteE, hr]; rfl, rfl⟩
theorem print_leaf {d : Nat} (v : JV) (H : List AObj) (hr : rightJ d v = true) (hk : v.kind ≠ 5 ∧ v.kind ≠ 6) (hsz : sizeJ v ≤ 10000) : ACalls Tryz.prog 69 [jAV v] H (fun x H' => x = .str (printP v) ∧ H' = H) := by
  obtain ⟨h1, h2⟩ := right_leaf hr hk
  have hpe := printP_eq v
  have htx := size_text v
  rcases h2 with ⟨h2, _⟩ | ⟨h2, _, h3, h4⟩ | ⟨h2, _⟩
  · rcases h2 with e | e | e
    · rw [e, if_neg (by decide), if_neg (by decide), if_neg (by decide), if_neg (by decide), if_neg (by decide), if_neg (by decide)] at hpe
      rw [hpe]
      refine acalls_vc L_ok mixed [] (rs := [.tmp 2]) (n := 72) Tryz.func69 rfl rfl rfl rfl (Nat.le_of_ble_eq_true rfl) (by kernel_rfl) ?_
      repeat' (first | refine unhold ?_ | (simp -dsimp -implicitDefEqProofs (disch := (first | assumption | omega | (simp only [ll1, ll2, ll3, ll4, ll5, ll6, ll7, ll8]; omega))) only [go_sem, e]) | refine vcI (fun _ => ?_) (fun _ => ?_) | (refine vcA ?_ ?_; focus (repeat' (first | omega | assumption | refine vcA ?_ ?_); done)) | omega | refine imp_in (fun _ => ?_))
      exact done_same ⟨rfl, rfl⟩
    · rw [e, if_pos rfl] at hpe
      rw [hpe]
      refine acalls_vc L_ok mixed [] (rs := [.tmp 2]) (n := 72) Tryz.func69 rfl rfl rfl rfl (Nat.le_of_ble_eq_true rfl) (by kernel_rfl) ?_
      repeat' (first | refine unhold ?_ | (simp -dsimp -implicitDefEqProofs (disch := (first | assumption | omega | (simp only [ll1, ll2, ll3, ll4, ll5, ll6, ll7, ll8]; omega))) only [go_sem, e]) | refine vcI (fun _ => ?_) (fun _ => ?_) | (refine vcA ?_ ?_; focus (repeat' (first | omega | assumption | refine vcA ?_ ?_); done)) | omega | refine imp_in (fun _ => ?_))
      exact done_same ⟨rfl, rfl⟩
    · rw [e, if_neg (by decide), if_pos rfl] at hpe
      rw [hpe]
      refine acalls_vc L_ok mixed [] (rs := [.tmp 2]) (n := 72) Tryz.func69 rfl rfl rfl rfl (Nat.le_of_ble_eq_true rfl) (by kernel_rfl) ?_
      repeat' (first | refine unhold ?_ | (simp -dsimp -implicitDefEqProofs (disch := (first | assumption | omega | (simp only [ll1, ll2, ll3, ll4, ll5, ll6, ll7, ll8]; omega))) only [go_sem, e]) | refine vcI (fun _ => ?_) (fun _ => ?_) | (refine vcA ?_ ?_; focus (repeat' (first | omega | assumption | refine vcA ?_ ?_); done)) | omega | refine imp_in (fun _ => ?_))
      exact done_same ⟨rfl, rfl⟩
  · rw [h2, if_neg (by decide), if_neg (by decide), if_pos rfl] at hpe
    rw [hpe]
    by_cases hn : v.num < 0
    · obtain ⟨u, hu⟩ : ∃ u : Nat, v.num = -(u : Int) := ⟨v.num.natAbs, by omega⟩
      have hc : (-(u : Int) < 0) = True := eq_true (by omega)
      have hneg : (0 - -(u : Int)) = (u : Int) := by omega
      have hl := digs_20 (u := u) (by omega)
      rw [hu, Lib.itoa_neg u (by omega)]
      refine acalls_vc L_ok mixed [] (rs := [.tmp 2]) (n := 72) Tryz.func69 rfl rfl rfl rfl (Nat.le_of_ble_eq_true rfl) (by kernel_rfl) ?_
      repeat' (first | refine unhold ?_ | (simp -dsimp -implicitDefEqProofs (disch := (first | assumption | omega | (simp only [ll1, ll2, ll3, ll4, ll5, ll6, ll7, ll8]; omega))) only [go_sem, h2, hu, hc, hneg]) | refine acalls_same (Digits_r u _ (by omega)) ?_ | refine ⟨_, Digits_r u _ (by omega), ?_⟩ | refine ⟨_, _, Digits_r u _ (by omega), ?_⟩ | refine vcI (fun _ => ?_) (fun _ => ?_) | (refine vcA ?_ ?_; focus (repeat' (first | omega | assumption | refine vcA ?_ ?_); done)) | omega | refine imp_in (fun _ => ?_))
      exact done_same ⟨rfl, rfl⟩
    · obtain ⟨u, hu⟩ := Int.eq_ofNat_of_zero_le (show 0 ≤ v.num by omega)
      have hc : ((u : Int) < 0) = False := eq_false (by omega)
      rw [hu, Lib.itoa_nonneg]
      refine acalls_vc L_ok mixed [] (rs := [.tmp 2]) (n := 72) Tryz.func69 rfl rfl rfl rfl (Nat.le_of_ble_eq_true rfl) (by kernel_rfl) ?_
      repeat' (first | refine unhold ?_ | (simp -dsimp -implicitDefEqProofs (disch := (first | assumption | omega | (simp only [ll1, ll2, ll3, ll4, ll5, ll6, ll7, ll8]; omega))) only [go_sem, h2, hu, hc]) | refine acalls_same (Digits_r u _ (by omega)) ?_ | refine ⟨_, Digits_r u _ (by omega), ?_⟩ | refine ⟨_, _, Digits_r u _ (by omega), ?_⟩ | refine vcI (fun _ => ?_) (fun _ => ?_) | (refine vcA ?_ ?_; focus (repeat' (first | omega | assumption | refine vcA ?_ ?_); done)) | omega | refine imp_in (fun _ => ?_))
      exact done_same ⟨rfl, rfl⟩
  · rw [h2, if_neg (by decide), if_neg (by decide), if_neg (by decide), if_pos rfl] at hpe
    rw [hpe]
    refine acalls_vc L_ok mixed [] (rs := [.tmp 2]) (n := 72) Tryz.func69 rfl rfl rfl rfl (Nat.le_of_ble_eq_true rfl) (by kernel_rfl) ?_
    repeat' (first | refine unhold ?_ | (simp -dsimp -implicitDefEqProofs (disch := (first | assumption | omega | (simp only [ll1, ll2, ll3, ll4, ll5, ll6, ll7, ll8]; omega))) only [go_sem, h2]) | refine acalls_same (quote_r _ _ ?_) ?_ | refine ⟨_, quote_r _ _ ?_, ?_⟩ | refine ⟨_, _, quote_r _ _ ?_, ?_⟩ | refine vcI (fun _ => ?_) (fun _ => ?_) | (refine vcA ?_ ?_; focus (repeat' (first | omega | assumption | refine vcA ?_ ?_); done)) | omega | refine imp_in (fun _ => ?_))
    exact done_same ⟨rfl, rfl⟩
theorem items_part {obj : Bool} {v : JV} {i : Nat} {s : bytes} {P : bytes} (hi : i < v.items.length) (h : s ++ itemsP obj (v.items.drop i) (i == 0) (v.names.drop i) = P) : (s ++ (headP (i == 0) obj (v.names.getD i []) ++ printP (v.items.getD i zeroJ))) ++ itemsP obj (v.items.drop (i + 1)) (i + 1 == 0) (v.names.drop (i + 1)) = P := by
  rw [itemsP_at hi] at h
  rw [← h]
  simp only [List.append_assoc]
theorem print_r : ∀ (d : Nat) (v : JV) (H : List AObj), rightJ d v = true → sizeJ v ≤ 10000 → ACalls Tryz.prog 69 [jAV v] H (fun x H' => x = .str (printP v) ∧ H' = H) := by
  intro d
  induction d with
  | zero =>
    intro v H hr hsz
    by_cases hk : v.kind ≠ 5 ∧ v.kind ≠ 6
    · exact print_leaf v H hr hk hsz
    · rcases right_of hr with h | ⟨h, _⟩
      · exact absurd (by omega) (one_kind h)
      · omega
  | succ d ih =>
    intro v H hr hsz
    by_cases hk : v.kind ≠ 5 ∧ v.kind ≠ 6
    · exact print_leaf v H hr hk hsz
    have hps := print_size (d + 1) v hr
    have hk56 : v.kind = 5 ∨ v.kind = 6 := by omega
    have hall : v.items.all (rightJ d) = true := by
      rcases right_of hr with h | ⟨_, _, h⟩
      · exact absurd hk56 (one_kind h)
      · exact h
    have hn : v.kind = 6 → v.names.length = v.items.length := fun e => (right_obj hr e).2.2.2.1
    have hszi := size_items v
    have hszn := fun i (hi : i < v.names.length) => size_name (v := v) (mem_getD (d := []) hi)
    have hih : ∀ i, i < v.items.length → ∀ H, ACalls Tryz.prog 69 [jAV (v.items.getD i zeroJ)] H (fun x H' => x = .str (printP (v.items.getD i zeroJ)) ∧ H' = H) := fun i hi H => by
      have hm := mem_getD (d := zeroJ) hi
      exact ih _ H (List.all_eq_true.1 hall _ hm) (by have := size_item hm; omega)
    have hpe : printP v = (if v.kind = 5 then 91 else 123) :: (itemsP (decide (v.kind = 6)) v.items true v.names ++ [if v.kind = 5 then 93 else 125]) := by
      rw [printP_eq, if_neg (by omega), if_neg (by omega), if_neg (by omega), if_neg (by omega)]
      rcases hk56 with e | e
      · rw [if_pos e, if_pos e, if_pos e, decide_eq_false (by omega)]
      · rw [if_neg (by omega), if_pos e, if_neg (by omega), if_neg (by omega), decide_eq_true e]
    rw [hpe] at hps
    simp only [List.length_cons, List.length_append, List.length_nil] at hps
    have hk1 : (v.kind = 1) = False := eq_false (by omega)
    have hk2 : (v.kind = 2) = False := eq_false (by omega)
    have hk3 : (v.kind = 3) = False := eq_false (by omega)
    have hk4 : (v.kind = 4) = False := eq_false (by omega)
    rw [hpe]
    generalize hF : itemsP (decide (v.kind = 6)) v.items true v.names = F at *
    rcases hk56 with e | e
    · have hc5 : (v.kind = 5) = True := eq_true e
      have hc6 : (v.kind = 6) = False := eq_false (by omega)
      rw [if_pos e, if_pos e]
      refine acalls_vc L_ok mixed [] (rs := [.tmp 2]) (n := 72) Tryz.func69 rfl rfl rfl rfl (Nat.le_of_ble_eq_true rfl) (by kernel_rfl) ?_
      repeat' (first | refine unhold ?_ | (simp -dsimp -implicitDefEqProofs (disch := (first | assumption | omega | (simp only [ll1, ll2, ll3, ll4, ll5, ll6, ll7, ll8]; omega))) only [go_sem, hk1, hk2, hk3, hk4, hc5, hc6]) | refine vcI (fun _ => ?_) (fun _ => ?_) | (refine vcA ?_ ?_; focus (repeat' (first | omega | assumption | refine vcA ?_ ?_); done)) | omega | refine imp_in (fun _ => ?_))
      refine vc_loopk L_ok mixed [] [1, 2] (fun p : Nat × bytes => p.1 ≤ v.items.length ∧ p.2 ++ itemsP (decide (v.kind = 6)) (v.items.drop p.1) (p.1 == 0) (v.names.drop p.1) = F) (fun p => [(4, .int .i64 p.1), (3, .str p.2)]) (fun p => H) (fun p => v.items.length - p.1) (by kernel_rfl) ?_ (0, []) ⟨by simp, hF⟩ env_ok rfl
      rintro ⟨i, s⟩ ⟨hi, hx⟩
      dsimp only at hi hx ⊢
      by_cases hil : i < v.items.length
      · have hx2 := items_part hil hx
        have hi1 := hih i hil
        have hsl : s.length ≤ F.length := by rw [← hx, List.length_append]; omega
        have hsl2 := congrArg List.length hx2
        simp only [List.length_append] at hsl2
        have h44 : headP (i == 0) (decide (v.kind = 6)) (v.names.getD i []) = if i = 0 then [] else [44] := by
          unfold headP
          rw [decide_eq_false (by omega)]
          by_cases e : i = 0
          · subst e; simp
          · rw [show (i == 0) = false from beq_eq_false_iff_ne.2 e]; simp [e]
        rw [h44] at hx2 hsl2
        generalize hy : v.items.getD i zeroJ = y at *
        by_cases h0 : i = 0
        · have hc0 : ((0 : Int) < (i : Int)) = False := eq_false (by omega)
          rw [if_pos h0, List.nil_append] at hx2
          rw [if_pos h0] at hsl2
          simp only [List.length_append, List.length_cons, List.length_nil] at hsl2
          repeat' (first | refine unhold ?_ | (simp -dsimp -implicitDefEqProofs (disch := (first | assumption | omega | (simp only [ll1, ll2, ll3, ll4, ll5, ll6, ll7, ll8]; omega))) only [go_sem, hc0, hy, hk1, hk2, hk3, hk4, hc5, hc6, List.length_append, List.length_cons, List.length_nil]) | refine acalls_same (hi1 _) ?_ | refine ⟨_, hi1 _, ?_⟩ | refine ⟨_, _, hi1 _, ?_⟩ | refine vcI (fun _ => ?_) (fun _ => ?_) | (refine vcA ?_ ?_; focus (repeat' (first | omega | assumption | refine vcA ?_ ?_); done)) | omega | refine imp_in (fun _ => ?_))
          refine again ((i + 1, s ++ printP y)) ?_ ?_ rfl env_ok
          · dsimp only; omega
          · exact ⟨by dsimp only; omega, hx2⟩
        · have hc0 : ((0 : Int) < (i : Int)) = True := eq_true (by omega)
          rw [if_neg h0] at hx2 hsl2
          simp only [List.length_append, List.length_cons, List.length_nil] at hsl2
          repeat' (first | refine unhold ?_ | (simp -dsimp -implicitDefEqProofs (disch := (first | assumption | omega | (simp only [ll1, ll2, ll3, ll4, ll5, ll6, ll7, ll8]; omega))) only [go_sem, hc0, hy, hk1, hk2, hk3, hk4, hc5, hc6, List.length_append, List.length_cons, List.length_nil]) | refine acalls_same (hi1 _) ?_ | refine ⟨_, hi1 _, ?_⟩ | refine ⟨_, _, hi1 _, ?_⟩ | refine vcI (fun _ => ?_) (fun _ => ?_) | (refine vcA ?_ ?_; focus (repeat' (first | omega | assumption | refine vcA ?_ ?_); done)) | omega | refine imp_in (fun _ => ?_))
          refine again ((i + 1, s ++ 44 :: printP y)) ?_ ?_ rfl env_ok
          · dsimp only; omega
          · exact ⟨by dsimp only; omega, hx2⟩
      · obtain rfl : i = v.items.length := by omega
        rw [List.drop_length, itemsP_nil, List.append_nil] at hx
        rw [← hx] at hps ⊢
        repeat' (first | refine unhold ?_ | (simp -dsimp -implicitDefEqProofs (disch := (first | assumption | omega | (simp only [ll1, ll2, ll3, ll4, ll5, ll6, ll7, ll8]; omega))) only [go_sem, hk1, hk2, hk3, hk4, hc5, hc6, List.length_append, List.length_cons, List.length_nil]) | refine vcI (fun _ => ?_) (fun _ => ?_) | (refine vcA ?_ ?_; focus (repeat' (first | omega | assumption | refine vcA ?_ ?_); done)) | omega | refine imp_in (fun _ => ?_))
        exact done_same ⟨rfl, rfl⟩
    · have hc5 : (v.kind = 5) = False := eq_false (by omega)
      have hc6 : (v.kind = 6) = True := eq_true e
      rw [if_neg (by omega), if_neg (by omega)]
      refine acalls_vc L_ok mixed [] (rs := [.tmp 2]) (n := 72) Tryz.func69 rfl rfl rfl rfl (Nat.le_of_ble_eq_true rfl) (by kernel_rfl) ?_
      repeat' (first | refine unhold ?_ | (simp -dsimp -implicitDefEqProofs (disch := (first | assumption | omega | (simp only [ll1, ll2, ll3, ll4, ll5, ll6, ll7, ll8]; omega))) only [go_sem, hk1, hk2, hk3, hk4, hc5, hc6]) | refine vcI (fun _ => ?_) (fun _ => ?_) | (refine vcA ?_ ?_; focus (repeat' (first | omega | assumption | refine vcA ?_ ?_); done)) | omega | refine imp_in (fun _ => ?_))
      refine vc_loopk L_ok mixed [] [1, 2] (fun p : Nat × bytes => p.1 ≤ v.items.length ∧ p.2 ++ itemsP (decide (v.kind = 6)) (v.items.drop p.1) (p.1 == 0) (v.names.drop p.1) = F) (fun p => [(4, .int .i64 p.1), (3, .str p.2)]) (fun p => H) (fun p => v.items.length - p.1) (by kernel_rfl) ?_ (0, []) ⟨by simp, hF⟩ env_ok rfl
      rintro ⟨i, s⟩ ⟨hi, hx⟩
      dsimp only at hi hx ⊢
      by_cases hil : i < v.items.length
      · have hx2 := items_part hil hx
        have hi1 := hih i hil
        have hsl : s.length ≤ F.length := by rw [← hx, List.length_append]; omega
        have hsl2 := congrArg List.length hx2
        simp only [List.length_append] at hsl2
        have hn6 := hn e
        have hnl := hszn i (by omega)
        have h44 : headP (i == 0) (decide (v.kind = 6)) (v.names.getD i []) = (if i = 0 then [] else [44]) ++ (quoteP (v.names.getD i []) ++ [58]) := by
          unfold headP
          rw [decide_eq_true e]
          by_cases e : i = 0
          · subst e; simp
          · rw [show (i == 0) = false from beq_eq_false_iff_ne.2 e]; simp [e]
        rw [h44] at hx2 hsl2
        generalize hy : v.items.getD i zeroJ = y at *
        generalize hsn : v.names.getD i [] = w at *
        by_cases h0 : i = 0
        · have hc0 : ((0 : Int) < (i : Int)) = False := eq_false (by omega)
          rw [if_pos h0, List.nil_append] at hx2
          rw [if_pos h0] at hsl2
          simp only [List.length_append, List.length_cons, List.length_nil] at hsl2
          repeat' (first | refine unhold ?_ | (simp -dsimp -implicitDefEqProofs (disch := (first | assumption | omega | (simp only [ll1, ll2, ll3, ll4, ll5, ll6, ll7, ll8]; omega))) only [go_sem, hc0, hy, hsn, hk1, hk2, hk3, hk4, hc5, hc6, List.length_append, List.length_cons, List.length_nil]) | refine acalls_same (quote_r _ _ ?_) ?_ | refine ⟨_, quote_r _ _ ?_, ?_⟩ | refine ⟨_, _, quote_r _ _ ?_, ?_⟩ | refine acalls_same (hi1 _) ?_ | refine ⟨_, hi1 _, ?_⟩ | refine ⟨_, _, hi1 _, ?_⟩ | refine vcI (fun _ => ?_) (fun _ => ?_) | (refine vcA ?_ ?_; focus (repeat' (first | omega | assumption | refine vcA ?_ ?_); done)) | omega | refine imp_in (fun _ => ?_))
          refine again ((i + 1, s ++ (quoteP w ++ 58 :: printP y))) ?_ ?_ rfl env_ok
          · dsimp only; omega
          · refine ⟨by dsimp only; omega, ?_⟩
            dsimp only
            simp only [List.append_assoc, List.cons_append, List.nil_append] at hx2 ⊢
            exact hx2
        · have hc0 : ((0 : Int) < (i : Int)) = True := eq_true (by omega)
          rw [if_neg h0] at hx2 hsl2
          simp only [List.length_append, List.length_cons, List.length_nil] at hsl2
          repeat' (first | refine unhold ?_ | (simp -dsimp -implicitDefEqProofs (disch := (first | assumption | omega | (simp only [ll1, ll2, ll3, ll4, ll5, ll6, ll7, ll8]; omega))) only [go_sem, hc0, hy, hsn, hk1, hk2, hk3, hk4, hc5, hc6, List.length_append, List.length_cons, List.length_nil]) | refine acalls_same (quote_r _ _ ?_) ?_ | refine ⟨_, quote_r _ _ ?_, ?_⟩ | refine ⟨_, _, quote_r _ _ ?_, ?_⟩ | refine acalls_same (hi1 _) ?_ | refine ⟨_, hi1 _, ?_⟩ | refine ⟨_, _, hi1 _, ?_⟩ | refine vcI (fun _ => ?_) (fun _ => ?_) | (refine vcA ?_ ?_; focus (repeat' (first | omega | assumption | refine vcA ?_ ?_); done)) | omega | refine imp_in (fun _ => ?_))
          refine again ((i + 1, s ++ 44 :: (quoteP w ++ 58 :: printP y))) ?_ ?_ rfl env_ok
          · dsimp only; omega
          · refine ⟨by dsimp only; omega, ?_⟩
            dsimp only
            simp only [List.append_assoc, List.cons_append, List.nil_append] at hx2 ⊢
            exact hx2
      · obtain rfl : i = v.items.length := by omega
        rw [List.drop_length, itemsP_nil, List.append_nil] at hx
        rw [← hx] at hps ⊢
        repeat' (first | refine unhold ?_ | (simp -dsimp -implicitDefEqProofs (disch := (first | assumption | omega | (simp only [ll1, ll2, ll3, ll4, ll5, ll6, ll7, ll8]; omega))) only [go_sem, hk1, hk2, hk3, hk4, hc5, hc6, List.length_append, List.length_cons, List.length_nil]) | refine vcI (fun _ => ?_) (fun _ => ?_) | (refine vcA ?_ ?_; focus (repeat' (first | omega | assumption | refine vcA ?_ ?_); done)) | omega | refine imp_in (fun _ => ?_))
        exact done_same ⟨rfl, rfl⟩
theorem Print_r (v : JV) (H : List AObj) (hs : sizeJ v ≤ 10000) : ACalls Tryz.prog 44 [jAV v] H (fun x H' => x = printAV (printE v) ∧ H' = H) := by
  have hR := fun H => Right_jr v H hs
  cases hr : rightJ 12 v with
  | false =>
    rw [hr] at hR
    refine acalls_vc L_ok mixed [] (rs := [.tmp 2, .tmp 3]) (n := 14) Tryz.func44 rfl rfl rfl rfl (Nat.le_of_ble_eq_true rfl) (by kernel_rfl) ?_
    repeat' (first | refine unhold ?_ | (simp -dsimp -implicitDefEqProofs (disch := (first | assumption | omega | (simp only [ll1, ll2, ll3, ll4, ll5, ll6, ll7, ll8]; omega))) only [go_sem]) | refine acalls_same (hR _) ?_ | refine ⟨_, hR _, ?_⟩ | refine ⟨_, _, hR _, ?_⟩ | refine vcI (fun _ => ?_) (fun _ => ?_) | (refine vcA ?_ ?_; focus (repeat' (first | omega | assumption | refine vcA ?_ ?_); done)) | omega | refine imp_in (fun _ => ?_))
    exact done_same ⟨by rw [printE, hr]; rfl, rfl⟩
  | true =>
    rw [hr] at hR
    have hps := print_size 12 v hr
    have hp := fun H => print_r 12 v H hr hs
    have hre : printE v = if 8192 < (printP v).length then ([], 3) else (printP v, 0) := by rw [printE, hr, if_pos rfl]
    rw [hre]
    generalize printP v = y at *
    by_cases hl : 8192 < y.length
    · have hc : (8192 < ((y.length : Nat) : Int)) = True := eq_true (by omega)
      rw [if_pos hl]
      refine acalls_vc L_ok mixed [] (rs := [.tmp 2, .tmp 3]) (n := 14) Tryz.func44 rfl rfl rfl rfl (Nat.le_of_ble_eq_true rfl) (by kernel_rfl) ?_
      repeat' (first | refine unhold ?_ | (simp -dsimp -implicitDefEqProofs (disch := (first | assumption | omega | (simp only [ll1, ll2, ll3, ll4, ll5, ll6, ll7, ll8]; omega))) only [go_sem, hc]) | refine acalls_same (hR _) ?_ | refine ⟨_, hR _, ?_⟩ | refine ⟨_, _, hR _, ?_⟩ | refine acalls_same (hp _) ?_ | refine ⟨_, hp _, ?_⟩ | refine ⟨_, _, hp _, ?_⟩ | refine vcI (fun _ => ?_) (fun _ => ?_) | (refine vcA ?_ ?_; focus (repeat' (first | omega | assumption | refine vcA ?_ ?_); done)) | omega | refine imp_in (fun _ => ?_))
      exact done_same ⟨rfl, rfl⟩
    · have hc : (8192 < ((y.length : Nat) : Int)) = False := eq_false (by omega)
      rw [if_neg hl]
      refine acalls_vc L_ok mixed [] (rs := [.tmp 2, .tmp 3]) (n := 14) Tryz.func44 rfl rfl rfl rfl (Nat.le_of_ble_eq_true rfl) (by kernel_rfl) ?_
      repeat' (first | refine unhold ?_ | (simp -dsimp -implicitDefEqProofs (disch := (first | assumption | omega | (simp only [ll1, ll2, ll3, ll4, ll5, ll6, ll7, ll8]; omega))) only [go_sem, hc]) | refine acalls_same (hR _) ?_ | refine ⟨_, hR _, ?_⟩ | refine ⟨_, _, hR _, ?_⟩ | refine acalls_same (hp _) ?_ | refine ⟨_, hp _, ?_⟩ | refine ⟨_, _, hp _, ?_⟩ | refine vcI (fun _ => ?_) (fun _ => ?_) | (refine vcA ?_ ?_; focus (repeat' (first | omega | assumption | refine vcA ?_ ?_); done)) | omega | refine imp_in (fun _ => ?_))
      exact done_same ⟨rfl, rfl⟩
theorem printE_cases (v : JV) : printE v = ([], 1) ∧ rightJ 12 v = false ∨ printE v = ([], 3) ∧ rightJ 12 v = true ∧ 8192 < (printP v).length ∨ printE v = (printP v, 0) ∧ rightJ 12 v = true ∧ (printP v).length ≤ 8192 := by
  unfold printE
  cases hr : rightJ 12 v with
  | false => exact .inl ⟨rfl, rfl⟩
  | true =>
    rw [if_pos rfl]
    by_cases h : 8192 < (printP v).length
    · rw [if_pos h]; exact .inr (.inl ⟨rfl, rfl, h⟩)
    · rw [if_neg h]; exact .inr (.inr ⟨rfl, rfl, by omega⟩)
theorem Length_c (v : JV) (H : List AObj) (hs : sizeJ v ≤ 10000) : ACalls Tryz.prog 46 [jAV v] H (fun x H' => x = .lit (.int .i64 (lengthE v)) ∧ H' = H) := by
  have hP := fun H => Print_c v H hs
  have hle : lengthE v = if (printE v).2 = 3 then 8193 else ((printE v).1.length : Int) := rfl
  rw [hle]
  unfold printAV at hP
  have h13 : (1 : Int) = 3 ↔ False := by decide
  rcases printE_cases v with ⟨e, _⟩ | ⟨e, _⟩ | ⟨e, _, hl⟩
  all_goals
    rw [e] at hP ⊢
    dsimp only at hP ⊢
    refine acalls_vc L_ok mixed [] (rs := [.tmp 2]) (n := 14) Tryz.func46 rfl rfl rfl rfl (Nat.le_of_ble_eq_true rfl) (by kernel_rfl) ?_
    repeat' (first | refine unhold ?_ | (simp -dsimp -implicitDefEqProofs (disch := (first | assumption | omega | (simp only [ll1, ll2, ll3, ll4, ll5, ll6, ll7, ll8]; omega))) only [go_sem]) | refine acalls_same (hP _) ?_ | refine ⟨_, hP _, ?_⟩ | refine ⟨_, _, hP _, ?_⟩ | refine vcI (fun _ => ?_) (fun _ => ?_) | (refine vcA ?_ ?_; focus (repeat' (first | omega | assumption | refine vcA ?_ ?_); done)) | omega | refine imp_in (fun _ => ?_))
    exact done_same ⟨rfl, rfl⟩
theorem Length_r (v : JV) (H : List AObj) (hs : sizeJ v ≤ 10000) : ACalls Tryz.prog 47 [jAV v] H (fun x H' => x = .lit (.int .i64 (lengthE v)) ∧ H' = H) := by
  have hP := fun H => Print_r v H hs
  have hle : lengthE v = if (printE v).2 = 3 then 8193 else ((printE v).1.length : Int) := rfl
  rw [hle]
  unfold printAV at hP
  rcases printE_cases v with ⟨e, _⟩ | ⟨e, _⟩ | ⟨e, _, hl⟩
  all_goals
    rw [e] at hP ⊢
    dsimp only at hP ⊢
    refine acalls_vc L_ok mixed [] (rs := [.tmp 2]) (n := 17) Tryz.func47 rfl rfl rfl rfl (Nat.le_of_ble_eq_true rfl) (by kernel_rfl) ?_
    repeat' (first | refine unhold ?_ | (simp -dsimp -implicitDefEqProofs (disch := (first | assumption | omega | (simp only [ll1, ll2, ll3, ll4, ll5, ll6, ll7, ll8]; omega))) only [go_sem]) | refine acalls_same (hP _) ?_ | refine ⟨_, hP _, ?_⟩ | refine ⟨_, _, hP _, ?_⟩ | refine vcI (fun _ => ?_) (fun _ => ?_) | (refine vcA ?_ ?_; focus (repeat' (first | omega | assumption | refine vcA ?_ ?_); done)) | omega | refine imp_in (fun _ => ?_))
    exact done_same ⟨rfl, rfl⟩
end Go.Proofs.YtplmbhjhihoneaaGreatDoor
end
