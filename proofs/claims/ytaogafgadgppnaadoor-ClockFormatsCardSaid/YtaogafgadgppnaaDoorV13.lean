import Derived.Test.YtaogafgadgppnaaDoorV12
namespace Go.Proofs.YtaogafgadgppnaaDoor
open Go Go.AI Go.Proofs
set_option linter.unusedSimpArgs false
set_option linter.unusedVariables false
set_option maxRecDepth 4000
attribute [-go_sem] ldK_part
theorem bin_booleq {P : Program} {t : TypeId} {a b : Bool} {k : AV → Prop} (hk : tyBool P t = true) (h : Run (k (.bool (a == b)))) : Run (binA P .eql t (.bool a) (.bool b) k) := ⟨hk, h⟩
set_option maxHeartbeats 4000000 in
theorem law5_ok (t d : Int) : CallsTo Tryd.prog 5 [.int .i64 t, .int .i64 d] [.p (.bool true)] := by
  refine f5_calls (Nat.le_of_ble_eq_true rfl) ?_
  by_cases h : inM t
  · (repeat' (first | simp (maxSteps := 2000000) (disch := omega) only [go_sem, ↓reduceIte, reduceIte, Nat.reduceAdd, Nat.reduceLT, Nat.reduceEqDiff, Nat.reduceLeDiff, Nat.reduceMul] | refine call_3 (date17_ok t h) (by rfl) (by rfl) ?_ | refine call_3 (date18_ok t h) (by rfl) (by rfl) ?_ | refine call_2 (wday19_ok d) (by rfl) (by rfl) ?_ | refine call_2 (wday20_ok d) (by rfl) (by rfl) ?_ | refine gA_dt (fun _ => ?_) (fun h => absurd rfl h) | refine call_1 awake12_ok (by rfl) (by rfl) ?_))
  · (repeat' (first | simp (maxSteps := 2000000) (disch := omega) only [go_sem, ↓reduceIte, reduceIte, Nat.reduceAdd, Nat.reduceLT, Nat.reduceEqDiff, Nat.reduceLeDiff, Nat.reduceMul] | refine call_3 (date17_bad t h) (by rfl) (by rfl) ?_ | refine call_3 (date18_bad t h) (by rfl) (by rfl) ?_ | refine call_2 (wday19_ok d) (by rfl) (by rfl) ?_ | refine call_2 (wday20_ok d) (by rfl) (by rfl) ?_ | refine gA_dt (fun _ => ?_) (fun h => absurd rfl h) | refine call_1 awake12_ok (by rfl) (by rfl) ?_))
set_option maxHeartbeats 4000000 in
theorem law6_ok (ws : List Win) (t : Int) (hl : ws.length = 7) : CallsTo Tryd.prog 6 [.agg (flat (ws.map Win.av)), .int .i64 t] [.p (.bool true)] := by
  refine f6_calls (Nat.le_of_ble_eq_true rfl) ?_
  (repeat' (first | simp (maxSteps := 2000000) (disch := omega) only [go_sem, ↓reduceIte, reduceIte, Nat.reduceAdd, Nat.reduceLT, Nat.reduceEqDiff, Nat.reduceLeDiff, Nat.reduceMul, wk_ment, wk_kill, beq_self_eq_true] | refine wk_whole hl rfl ?_ | refine call_2 (open21_ok ws t hl) (by simp [freeL, AV.free, wk_free]) (by rfl) ?_ | refine call_2 (ropen22_ok ws t hl) (by simp [freeL, AV.free, wk_free]) (by rfl) ?_ | refine call_2 (next23_ok ws t hl) (by simp [freeL, AV.free, wk_free]) (by rfl) ?_ | refine call_2 (rnext24_ok ws t hl) (by simp [freeL, AV.free, wk_free]) (by rfl) ?_ | refine bin_booleq (by kernel_rfl) ?_ | refine gA_dt (fun _ => ?_) (fun h => absurd rfl h) | refine call_1 awake12_ok (by rfl) (by rfl) ?_))
theorem mergeR_len (l : List Win) : (mergeR l).length ≤ l.length := by
  unfold mergeR
  split
  · rename_i h; exact (nrm_bd (allOk_iff.1 h)).2
  · simp
theorem cutL_len (v : Win) : ∀ y : List Win, (cutL v y).length ≤ y.length
  | [] => by simp [cutL]
  | w :: y => by
    have := cutL_len v y
    unfold cutL
    split <;> simp only [List.length_cons] <;> omega
theorem cmnD_len (y : List Win) : ∀ x : List Win, (cmnD x y).length ≤ x.length * y.length
  | [] => by simp [cmnD]
  | v :: x => by
    have h1 := cutL_len v y
    have h2 := cmnD_len y x
    rw [cmnD, List.length_append, List.length_cons, Nat.add_mul]
    omega
theorem commonR_len (a b : List Win) (ha : a.length ≤ 200) (hb : b.length ≤ 200) : (commonR a b).length ≤ 40000 := by
  unfold commonR
  split
  · rename_i h
    rw [Bool.and_eq_true] at h
    have h1 := (nrm_bd (allOk_iff.1 h.1)).2
    have h2 := (nrm_bd (allOk_iff.1 h.2)).2
    refine Nat.le_trans (cmnD_len _ _) (Nat.le_trans (Nat.mul_le_mul (Nat.le_trans h1 ha) (Nat.le_trans h2 hb)) (by decide))
  · simp
set_option maxHeartbeats 4000000 in
theorem law8_ok (l : List Win) (t : Int) : CallsTo Tryd.prog 8 [.sl (l.map Win.av), .int .i64 t] [.p (.bool true)] := by
  refine f8_calls (Nat.le_of_ble_eq_true rfl) ?_
  simp (maxSteps := 2000000) (disch := omega) only [go_sem, ↓reduceIte, reduceIte, Nat.reduceAdd, Nat.reduceLT, Nat.reduceEqDiff, Nat.reduceLeDiff, Nat.reduceMul]
  refine cA_d (fun _ => ?_) (fun hn => ?_)
  · simp (maxSteps := 2000000) (disch := omega) only [go_sem, ↓reduceIte, reduceIte, Nat.reduceAdd, Nat.reduceLT, Nat.reduceEqDiff, Nat.reduceLeDiff, Nat.reduceMul]
    refine call_1 awake12_ok (by rfl) (by rfl) ?_
    simp (maxSteps := 2000000) (disch := omega) only [go_sem, ↓reduceIte, reduceIte, Nat.reduceAdd, Nat.reduceLT, Nat.reduceEqDiff, Nat.reduceLeDiff, Nat.reduceMul]
  · have hm := mergeR_len l
    simp (maxSteps := 2000000) (disch := omega) only [go_sem, ↓reduceIte, reduceIte, Nat.reduceAdd, Nat.reduceLT, Nat.reduceEqDiff, Nat.reduceLeDiff, Nat.reduceMul]
    refine call_f2 (merge25_ok l (by omega)) (by rfl) (by rfl) ?_
    simp (maxSteps := 2000000) (disch := omega) only [go_sem, ↓reduceIte, reduceIte, Nat.reduceAdd, Nat.reduceLT, Nat.reduceEqDiff, Nat.reduceLeDiff, Nat.reduceMul]
    refine call_f2 (rmerge26_ok l (by omega)) (by rfl) (by rfl) ?_
    (repeat' (first | simp (maxSteps := 2000000) (disch := omega) only [go_sem, ↓reduceIte, reduceIte, Nat.reduceAdd, Nat.reduceLT, Nat.reduceEqDiff, Nat.reduceLeDiff, Nat.reduceMul, beq_self_eq_true] | refine callv_1 (by rfl) (same27_ok (mergeR l) (by omega)) (by rfl) ?_ | refine callv_1 (by rfl) (inside28_ok l t (by omega)) (by rfl) ?_ | refine callv_1 (by rfl) (rinside29_ok l t (by omega)) (by rfl) ?_ | refine bin_booleq (by kernel_rfl) ?_ | refine gA_dt (fun _ => ?_) (fun h => absurd rfl h) | refine call_1 awake12_ok (by rfl) (by rfl) ?_))
set_option maxHeartbeats 4000000 in
theorem law10_ok (a b : List Win) : CallsTo Tryd.prog 10 [.sl (a.map Win.av), .sl (b.map Win.av)] [.p (.bool true)] := by
  refine f10_calls (Nat.le_of_ble_eq_true rfl) ?_
  by_cases h : a.length ≤ 100 ∧ b.length ≤ 100
  · obtain ⟨h1, h2⟩ := h
    have hm := commonR_len a b (by omega) (by omega)
    (repeat' (first | simp (maxSteps := 2000000) (disch := omega) only [go_sem, ↓reduceIte, reduceIte, Nat.reduceAdd, Nat.reduceLT, Nat.reduceEqDiff, Nat.reduceLeDiff, Nat.reduceMul] | refine gA_df (fun _ => ?_) (fun h => absurd h (by omega))))
    refine cA_d (fun h => absurd h (by omega)) (fun _ => ?_)
    simp (maxSteps := 2000000) (disch := omega) only [go_sem, ↓reduceIte, reduceIte, Nat.reduceAdd, Nat.reduceLT, Nat.reduceEqDiff, Nat.reduceLeDiff, Nat.reduceMul]
    refine call_f2 (common30_ok a b (by omega) (by omega)) (by rfl) (by rfl) ?_
    simp (maxSteps := 2000000) (disch := omega) only [go_sem, ↓reduceIte, reduceIte, Nat.reduceAdd, Nat.reduceLT, Nat.reduceEqDiff, Nat.reduceLeDiff, Nat.reduceMul]
    refine call_f2 (rcommon31_ok a b (by omega) (by omega)) (by rfl) (by rfl) ?_
    (repeat' (first | simp (maxSteps := 2000000) (disch := omega) only [go_sem, ↓reduceIte, reduceIte, Nat.reduceAdd, Nat.reduceLT, Nat.reduceEqDiff, Nat.reduceLeDiff, Nat.reduceMul, beq_self_eq_true] | refine callv_1 (by rfl) (same27_ok (commonR a b) (by omega)) (by rfl) ?_ | refine gA_dt (fun _ => ?_) (fun h => absurd rfl h) | refine call_1 awake12_ok (by rfl) (by rfl) ?_))
  · (repeat' (first | simp (maxSteps := 2000000) (disch := omega) only [go_sem, ↓reduceIte, reduceIte, Nat.reduceAdd, Nat.reduceLT, Nat.reduceEqDiff, Nat.reduceLeDiff, Nat.reduceMul] | refine gA_df (fun _ => ?_) (fun _ => ?_) | refine cA_d (fun _ => ?_) (fun h => absurd h (by omega)) | refine call_1 awake12_ok (by rfl) (by rfl) ?_))
theorem common_comm (a b : List Win) : commonR a b = commonR b a ∧ commonE a b = commonE b a := by
  unfold commonR commonE
  rw [Bool.and_comm, cmnD_comm (nrm_canon a) (nrm_canon b)]
  exact ⟨rfl, rfl⟩
set_option maxHeartbeats 4000000 in
theorem law11_ok (a b : List Win) (t : Int) : CallsTo Tryd.prog 11 [.sl (a.map Win.av), .sl (b.map Win.av), .int .i64 t] [.p (.bool true)] := by
  refine f11_calls (Nat.le_of_ble_eq_true rfl) ?_
  by_cases h : a.length ≤ 100 ∧ b.length ≤ 100
  · obtain ⟨h1, h2⟩ := h
    have hm := commonR_len a b (by omega) (by omega)
    obtain ⟨c1, c2⟩ := common_comm b a
    (repeat' (first | simp (maxSteps := 2000000) (disch := omega) only [go_sem, ↓reduceIte, reduceIte, Nat.reduceAdd, Nat.reduceLT, Nat.reduceEqDiff, Nat.reduceLeDiff, Nat.reduceMul] | refine gA_df (fun _ => ?_) (fun h => absurd h (by omega))))
    refine cA_d (fun h => absurd h (by omega)) (fun _ => ?_)
    simp (maxSteps := 2000000) (disch := omega) only [go_sem, ↓reduceIte, reduceIte, Nat.reduceAdd, Nat.reduceLT, Nat.reduceEqDiff, Nat.reduceLeDiff, Nat.reduceMul]
    refine call_f2 (common30_ok a b (by omega) (by omega)) (by rfl) (by rfl) ?_
    simp (maxSteps := 2000000) (disch := omega) only [go_sem, ↓reduceIte, reduceIte, Nat.reduceAdd, Nat.reduceLT, Nat.reduceEqDiff, Nat.reduceLeDiff, Nat.reduceMul]
    refine call_f2 (common30_ok b a (by omega) (by omega)) (by rfl) (by rfl) ?_
    rw [c1, c2]
    have hany : (allOk a && allOk b) = true → (commonR a b).any (hasT t) = (a.any (hasT t) && b.any (hasT t)) := by
      intro h
      unfold commonR
      rw [if_pos h, cmnD_any, nrm_any, nrm_any]
    have hE : commonE a b = if (allOk a && allOk b) = true then 0 else 1 := rfl
    generalize commonR a b = C at *
    rw [hE]
    cases hk : (allOk a && allOk b) with
    | false =>
      simp only [Bool.false_eq_true, if_false]
      (repeat' (first | simp (maxSteps := 2000000) (disch := omega) only [go_sem, ↓reduceIte, reduceIte, Nat.reduceAdd, Nat.reduceLT, Nat.reduceEqDiff, Nat.reduceLeDiff, Nat.reduceMul] | refine gA_df (fun h => ?_) (fun h => ?_) | refine gA_dt (fun _ => ?_) (fun h => absurd rfl h) | refine cA_d (fun _ => ?_) (fun h => absurd h (by decide)) | refine call_1 awake12_ok (by rfl) (by rfl) ?_))
    | true =>
      have hany' := hany hk
      simp only [if_true]
      (repeat' (first | simp (maxSteps := 2000000) (disch := omega) only [go_sem, ↓reduceIte, reduceIte, Nat.reduceAdd, Nat.reduceLT, Nat.reduceEqDiff, Nat.reduceLeDiff, Nat.reduceMul, beq_self_eq_true] | refine gA_df (fun _ => ?_) (fun h => absurd h (by simp)) | refine cA_d (fun h => absurd h (by simp)) (fun _ => ?_)))
      refine callv_1 (by rfl) (inside28_ok C t (by omega)) (by rfl) ?_
      rw [hany']
      (repeat' (first | simp (maxSteps := 2000000) (disch := omega) only [go_sem, ↓reduceIte, reduceIte, Nat.reduceAdd, Nat.reduceLT, Nat.reduceEqDiff, Nat.reduceLeDiff, Nat.reduceMul, beq_self_eq_true] | refine call_1 (inside28_ok a t (by omega)) (by rfl) (by rfl) ?_))
      cases a.any (hasT t) <;> (repeat' (first | simp (maxSteps := 2000000) (disch := omega) only [go_sem, ↓reduceIte, reduceIte, Nat.reduceAdd, Nat.reduceLT, Nat.reduceEqDiff, Nat.reduceLeDiff, Nat.reduceMul, beq_self_eq_true] | refine call_1 (inside28_ok b t (by omega)) (by rfl) (by rfl) ?_ | refine bin_booleq (by kernel_rfl) ?_ | refine callv_1 (by rfl) (same27_ok C (by omega)) (by rfl) ?_ | refine gA_dt (fun _ => ?_) (fun h => absurd rfl h) | refine call_1 awake12_ok (by rfl) (by rfl) ?_))
  · (repeat' (first | simp (maxSteps := 2000000) (disch := omega) only [go_sem, ↓reduceIte, reduceIte, Nat.reduceAdd, Nat.reduceLT, Nat.reduceEqDiff, Nat.reduceLeDiff, Nat.reduceMul] | refine gA_df (fun _ => ?_) (fun _ => ?_) | refine cA_d (fun _ => ?_) (fun h => absurd h (by omega)) | refine call_1 awake12_ok (by rfl) (by rfl) ?_))
end Go.Proofs.YtaogafgadgppnaaDoor
