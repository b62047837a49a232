import Derived.Test.YtaogafgadgppnaaDoorV7
namespace Go.Proofs.YtaogafgadgppnaaDoor
open Go Go.AI Go.Proofs
set_option linter.unusedSimpArgs false
set_option linter.unusedVariables false
set_option maxRecDepth 4000
attribute [-go_sem] ldK_part
set_option maxHeartbeats 4000000 in
theorem rweek38_ok (ws : List Win) (hl : ws.length = 7) : CallsTo Tryd.prog 38 [.agg (flat (ws.map Win.av))] [.p (.bool (ws.all dayOk))] := by
  refine f38_calls (Nat.le_of_ble_eq_true rfl) ?_
  simp (maxSteps := 2000000) (disch := omega) only [go_sem, ↓reduceIte, reduceIte, Nat.reduceAdd, Nat.reduceLT, Nat.reduceEqDiff, Nat.reduceLeDiff, Nat.reduceMul, wk_ment, wk_kill]
  refine loop_of f38L4_is (fun s : List Win × List Win => ⟨[(3, .int .i64 s.1.length), (1, .ad 1 0 0)], [(1, .box (flat (ws.map Win.av)))]⟩)
    (fun s => ws = s.1 ++ s.2 ∧ ws.all dayOk = s.2.all dayOk) (fun s => s.2.length) ([], ws) ⟨rfl, rfl⟩ (le_intro (by simp only [allLook, allLookM, go_sem, ↓reduceIte, reduceIte, Nat.reduceAdd, Nat.reduceLT, Nat.reduceEqDiff, Nat.reduceLeDiff, Nat.reduceMul]; try simp) (by simp only [allLook, allLookM, go_sem, ↓reduceIte, reduceIte, Nat.reduceAdd, Nat.reduceLT, Nat.reduceEqDiff, Nat.reduceLeDiff, Nat.reduceMul]; try simp)) ?_
  rintro ⟨d, r⟩ R ⟨hdr, he⟩ hR
  simp only at hdr he
  have hlen : ws.length = d.length + r.length := by rw [hdr, List.length_append]
  simp (maxSteps := 2000000) (disch := omega) only [go_sem, ↓reduceIte, reduceIte, Nat.reduceAdd, Nat.reduceLT, Nat.reduceEqDiff, Nat.reduceLeDiff, Nat.reduceMul, wk_ment, wk_kill]
  cases r with
  | nil =>
    rw [List.length_nil] at hlen
    refine cA_d (fun h => absurd h (by omega)) (fun _ => ?_)
    rw [he]
    simp (maxSteps := 2000000) (disch := omega) only [go_sem, ↓reduceIte, reduceIte, Nat.reduceAdd, Nat.reduceLT, Nat.reduceEqDiff, Nat.reduceLeDiff, Nat.reduceMul]
    all_goals (try rfl)
  | cons x r =>
    rw [List.length_cons] at hlen
    refine cA_d (fun _ => ?_) (fun h => absurd (show ((d.length : Nat) : Int) < 7 by omega) h)
    have hx : ws[d.length]? = some x := by rw [hdr]; exact get_mid d r x _ rfl
    rw [List.all_cons] at he
    by_cases hd : 0 ≤ x.a ∧ x.a ≤ x.b ∧ x.b ≤ 86400
    · have hd1 : dayOk x = true := decide_eq_true hd
      rw [hd1, Bool.true_and] at he
      (repeat' (first | simp (maxSteps := 2000000) (disch := omega) only [go_sem, ↓reduceIte, reduceIte, Nat.reduceAdd, Nat.reduceLT, Nat.reduceEqDiff, Nat.reduceLeDiff, Nat.reduceMul, wk_ment, wk_kill] | refine run_idx (by omega) (by omega) ?_ | refine wk_a hx (by omega) ?_ | refine wk_b hx (by omega) ?_ | refine gA_df (fun _ => ?_) (fun h => absurd h (by omega))))
      refine cA_d (fun h => absurd h (by omega)) (fun _ => ?_)
      simp (maxSteps := 2000000) (disch := omega) only [go_sem, ↓reduceIte, reduceIte, Nat.reduceAdd, Nat.reduceLT, Nat.reduceEqDiff, Nat.reduceLeDiff, Nat.reduceMul, wk_ment, wk_kill]
      refine hR (d ++ [x], r) _ ⟨by rw [hdr]; simp, he⟩ (by simp) ?_
      exact (le_intro (by simp only [allLook, allLookM, go_sem, ↓reduceIte, reduceIte, Nat.reduceAdd, Nat.reduceLT, Nat.reduceEqDiff, Nat.reduceLeDiff, Nat.reduceMul, wk_ment, List.length_append, List.length_cons, List.length_nil, show ((d.length : Nat) : Int) + 1 = (d.length + (0 + 1) : Nat) by omega]; try simp) (by simp only [allLook, allLookM, go_sem, ↓reduceIte, reduceIte, Nat.reduceAdd, Nat.reduceLT, Nat.reduceEqDiff, Nat.reduceLeDiff, Nat.reduceMul, wk_ment, List.length_append, List.length_cons, List.length_nil, show ((d.length : Nat) : Int) + 1 = (d.length + (0 + 1) : Nat) by omega]; try simp))
    · have hd1 : dayOk x = false := decide_eq_false hd
      rw [hd1, Bool.false_and] at he
      rw [he]
      (repeat' (first | simp (maxSteps := 2000000) (disch := omega) only [go_sem, ↓reduceIte, reduceIte, Nat.reduceAdd, Nat.reduceLT, Nat.reduceEqDiff, Nat.reduceLeDiff, Nat.reduceMul, wk_ment, wk_kill] | refine run_idx (by omega) (by omega) ?_ | refine wk_a hx (by omega) ?_ | refine wk_b hx (by omega) ?_ | refine gA_df (fun _ => ?_) (fun _ => ?_) | refine cA_d (fun _ => ?_) (fun h => absurd h (by omega))))
def dayF (ws : List Win) (d : Int) : Win := ws.getD (d % 7).toNat ⟨0, 0⟩
theorem dayF_at {ws : List Win} (hl : ws.length = 7) (d : Int) : ws[(d % 7).toNat]? = some (dayF ws d) := by
  have h : (d % 7).toNat < ws.length := by omega
  rw [List.getElem?_eq_getElem h]
  unfold dayF
  rw [List.getD_eq_getElem?_getD, List.getElem?_eq_getElem h]
  rfl
def openB (ws : List Win) (t : Int) : Bool := decide ((dayF ws (t / 86400)).a ≤ t % 86400 ∧ t % 86400 < (dayF ws (t / 86400)).b)
def opR (ws : List Win) (t : Int) : Bool := if ws.all dayOk = true ∧ inM t then openB ws t else false
def opE (ws : List Win) (t : Int) : Int := if ws.all dayOk = true ∧ inM t then 0 else 1
set_option maxHeartbeats 4000000 in
theorem open21_ok (ws : List Win) (t : Int) (hl : ws.length = 7) : CallsTo Tryd.prog 21 [.agg (flat (ws.map Win.av)), .int .i64 t] [.p (.bool (opR ws t)), .p (.int .i64 (opE ws t))] := by
  refine f21_calls (Nat.le_of_ble_eq_true rfl) ?_
  unfold opR opE
  simp (maxSteps := 2000000) (disch := omega) only [go_sem, ↓reduceIte, reduceIte, Nat.reduceAdd, Nat.reduceLT, Nat.reduceEqDiff, Nat.reduceLeDiff, Nat.reduceMul, wk_ment, wk_kill]
  refine wk_whole hl rfl ?_
  simp (maxSteps := 2000000) (disch := omega) only [go_sem, ↓reduceIte, reduceIte, Nat.reduceAdd, Nat.reduceLT, Nat.reduceEqDiff, Nat.reduceLeDiff, Nat.reduceMul, wk_ment, wk_kill]
  refine call_1 (valid37_ok ws hl) (by simp [freeL, AV.free, wk_free]) (by rfl) ?_
  cases hok : ws.all dayOk with
  | false =>
    simp (maxSteps := 2000000) (disch := omega) only [go_sem, ↓reduceIte, reduceIte, Nat.reduceAdd, Nat.reduceLT, Nat.reduceEqDiff, Nat.reduceLeDiff, Nat.reduceMul, wk_ment, wk_kill]
    all_goals (try exact ⟨rfl, rfl⟩)
  | true =>
    simp (maxSteps := 2000000) (disch := omega) only [go_sem, ↓reduceIte, reduceIte, Nat.reduceAdd, Nat.reduceLT, Nat.reduceEqDiff, Nat.reduceLeDiff, Nat.reduceMul, wk_ment, wk_kill]
    refine call_1 (moment36_ok t) (by rfl) (by rfl) ?_
    by_cases h : inM t
    · rw [if_pos h, if_pos h, show decide (0 ≤ t ∧ t ≤ 3155759999) = true from decide_eq_true h]
      unfold inM at h
      have hx := dayF_at hl (t / 86400)
      unfold openB
      generalize dayF ws (t / 86400) = x at *
      (repeat' (first | simp (maxSteps := 2000000) (disch := omega) only [go_sem, ↓reduceIte, reduceIte, Nat.reduceAdd, Nat.reduceLT, Nat.reduceEqDiff, Nat.reduceLeDiff, Nat.reduceMul, wk_ment, wk_kill, Win.av] | refine run_idx (by omega) (by omega) ?_ | refine wk_part hx (by omega) ?_))
      refine gA_dt (fun h1 => ?_) (fun h1 => ?_)
      · simp (maxSteps := 2000000) (disch := omega) only [go_sem, ↓reduceIte, reduceIte, Nat.reduceAdd, Nat.reduceLT, Nat.reduceEqDiff, Nat.reduceLeDiff, Nat.reduceMul]
        exact congrArg AV.bool (decide_eq_decide.2 (by omega))
      · simp (maxSteps := 2000000) (disch := omega) only [go_sem, ↓reduceIte, reduceIte, Nat.reduceAdd, Nat.reduceLT, Nat.reduceEqDiff, Nat.reduceLeDiff, Nat.reduceMul]
        exact congrArg AV.bool (decide_eq_false (by omega)).symm
    · rw [if_neg h, if_neg h, show decide (0 ≤ t ∧ t ≤ 3155759999) = false from decide_eq_false h]
      simp (maxSteps := 2000000) (disch := omega) only [go_sem, ↓reduceIte, reduceIte, Nat.reduceAdd, Nat.reduceLT, Nat.reduceEqDiff, Nat.reduceLeDiff, Nat.reduceMul, wk_ment, wk_kill]
      all_goals (try exact ⟨rfl, rfl⟩)
set_option maxHeartbeats 4000000 in
theorem ropen22_ok (ws : List Win) (t : Int) (hl : ws.length = 7) : CallsTo Tryd.prog 22 [.agg (flat (ws.map Win.av)), .int .i64 t] [.p (.bool (opR ws t)), .p (.int .i64 (opE ws t))] := by
  refine f22_calls (Nat.le_of_ble_eq_true rfl) ?_
  unfold opR opE
  by_cases h : inM t
  · simp (maxSteps := 2000000) (disch := omega) only [go_sem, ↓reduceIte, reduceIte, Nat.reduceAdd, Nat.reduceLT, Nat.reduceEqDiff, Nat.reduceLeDiff, Nat.reduceMul, wk_ment, wk_kill]
    refine call_3 (date18_ok t h) (by rfl) (by rfl) ?_
    simp (maxSteps := 2000000) (disch := omega) only [go_sem, ↓reduceIte, reduceIte, Nat.reduceAdd, Nat.reduceLT, Nat.reduceEqDiff, Nat.reduceLeDiff, Nat.reduceMul, wk_ment, wk_kill]
    refine gA_df (fun _ => ?_) (fun h => absurd h (by simp))
    simp (maxSteps := 2000000) (disch := omega) only [go_sem, ↓reduceIte, reduceIte, Nat.reduceAdd, Nat.reduceLT, Nat.reduceEqDiff, Nat.reduceLeDiff, Nat.reduceMul, wk_ment, wk_kill]
    refine wk_whole hl rfl ?_
    simp (maxSteps := 2000000) (disch := omega) only [go_sem, ↓reduceIte, reduceIte, Nat.reduceAdd, Nat.reduceLT, Nat.reduceEqDiff, Nat.reduceLeDiff, Nat.reduceMul, wk_ment, wk_kill]
    refine call_1 (rweek38_ok ws hl) (by simp [freeL, AV.free, wk_free]) (by rfl) ?_
    cases hok : ws.all dayOk with
    | false =>
      simp (maxSteps := 2000000) (disch := omega) only [go_sem, ↓reduceIte, reduceIte, Nat.reduceAdd, Nat.reduceLT, Nat.reduceEqDiff, Nat.reduceLeDiff, Nat.reduceMul, wk_ment, wk_kill]
      all_goals (try exact ⟨rfl, rfl⟩)
    | true =>
      have h' := h
      unfold inM at h'
      have hx := dayF_at hl (t / 86400)
      unfold openB
      generalize dayF ws (t / 86400) = x at *
      (repeat' (first | simp (maxSteps := 2000000) (disch := omega) only [go_sem, ↓reduceIte, reduceIte, Nat.reduceAdd, Nat.reduceLT, Nat.reduceEqDiff, Nat.reduceLeDiff, Nat.reduceMul, wk_ment, wk_kill, Win.av, h, if_true, true_and] | refine run_idx (by omega) (by omega) ?_ | refine wk_part hx (by omega) ?_))
      refine gA_dt (fun h1 => ?_) (fun h1 => ?_)
      · simp (maxSteps := 2000000) (disch := omega) only [go_sem, ↓reduceIte, reduceIte, Nat.reduceAdd, Nat.reduceLT, Nat.reduceEqDiff, Nat.reduceLeDiff, Nat.reduceMul]
        first | exact congrArg AV.bool (decide_eq_decide.2 (by omega)) | exact ⟨congrArg AV.bool (decide_eq_decide.2 (by omega)), rfl⟩
      · simp (maxSteps := 2000000) (disch := omega) only [go_sem, ↓reduceIte, reduceIte, Nat.reduceAdd, Nat.reduceLT, Nat.reduceEqDiff, Nat.reduceLeDiff, Nat.reduceMul]
        first | exact congrArg AV.bool (decide_eq_false (by omega)).symm | exact ⟨congrArg AV.bool (decide_eq_false (by omega)).symm, rfl⟩
  · simp (maxSteps := 2000000) (disch := omega) only [go_sem, ↓reduceIte, reduceIte, Nat.reduceAdd, Nat.reduceLT, Nat.reduceEqDiff, Nat.reduceLeDiff, Nat.reduceMul, wk_ment, wk_kill]
    refine call_3 (date18_bad t h) (by rfl) (by rfl) ?_
    rw [if_neg (fun k => h k.2), if_neg (fun k => h k.2)]
    simp (maxSteps := 2000000) (disch := omega) only [go_sem, ↓reduceIte, reduceIte, Nat.reduceAdd, Nat.reduceLT, Nat.reduceEqDiff, Nat.reduceLeDiff, Nat.reduceMul, wk_ment, wk_kill]
    refine gA_df (fun h1 => absurd h1 (by simp)) (fun _ => ?_)
    simp (maxSteps := 2000000) (disch := omega) only [go_sem, ↓reduceIte, reduceIte, Nat.reduceAdd, Nat.reduceLT, Nat.reduceEqDiff, Nat.reduceLeDiff, Nat.reduceMul, wk_ment, wk_kill]
    all_goals (try exact ⟨rfl, rfl⟩)
end Go.Proofs.YtaogafgadgppnaaDoor
