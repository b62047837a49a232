import Derived.Test.YtkknahekpeaoiaaTC
namespace Go.Proofs.Ytkknahekpeaoiaa
open Go Go.AI Go.Proofs
set_option linter.unusedSimpArgs false
set_option linter.unusedVariables false
set_option maxRecDepth 4000
theorem dayL_any (a : List Asg) (c h t : Int) (w : Win) : (dayL a c h w).any (hasT t) = a.any fun x => ofBoth c h w x && hasT t (dayW w x) := by
  unfold dayL
  rw [List.any_map, List.any_filter]
  rfl
theorem cntF_sum {p q r : Int → Bool} : ∀ (k : Nat) (lo : Int), (∀ t, lo ≤ t → t < lo + k → (if p t = true then (1 : Int) else 0) = (if q t = true then 1 else 0) + if r t = true then 1 else 0) → cntF p lo k = cntF q lo k + cntF r lo k
  | 0, _, _ => rfl
  | k + 1, lo, h => by
    rw [cntF, cntF, cntF, cntF_sum k (lo + 1) (fun t h1 h2 => h t (by omega) (by omega)), h lo (by omega) (by omega)]
    omega
theorem days_split (a : List Asg) (c h : Int) (w : Win) (D : Int) (h1 : w.a ≤ D * 86400) (h2 : D * 86400 ≤ w.b) : daysG a c h w = daysG a c h ⟨w.a, D * 86400⟩ + daysG a c h ⟨D * 86400, w.b⟩ := by
  unfold daysG
  refine cntF_sum _ _ (fun t _ _ => ?_)
  simp only [dayL_any]
  have key : ∀ x : Asg, ((ofBoth c h ⟨w.a, D * 86400⟩ x && hasT t (dayW ⟨w.a, D * 86400⟩ x)) = if t < D then (ofBoth c h w x && hasT t (dayW w x)) else false) ∧ ((ofBoth c h ⟨D * 86400, w.b⟩ x && hasT t (dayW ⟨D * 86400, w.b⟩ x)) = if t < D then false else (ofBoth c h w x && hasT t (dayW w x))) := by
    intro x
    constructor
    all_goals
      rw [Bool.eq_iff_iff]
      unfold ofBoth hasT dayW meets
      split <;> simp only [Bool.and_eq_true, decide_eq_true_eq, Bool.false_eq_true, iff_false]
      all_goals
        simp only [cut, Asg.w]
        omega
  rw [show (fun x => ofBoth c h ⟨w.a, D * 86400⟩ x && hasT t (dayW ⟨w.a, D * 86400⟩ x)) = fun x => if t < D then (ofBoth c h w x && hasT t (dayW w x)) else false from funext fun x => (key x).1,
    show (fun x => ofBoth c h ⟨D * 86400, w.b⟩ x && hasT t (dayW ⟨D * 86400, w.b⟩ x)) = fun x => if t < D then false else (ofBoth c h w x && hasT t (dayW w x)) from funext fun x => (key x).2]
  by_cases hd : t < D
  · simp only [if_pos hd]
    simp
  · simp only [if_neg hd]
    simp
theorem days_bd (a : List Asg) (c h : Int) (w : Win) (hw : w.ok) : 0 ≤ daysG a c h w ∧ daysG a c h w ≤ w.b / 86400 - w.a / 86400 + 1 := by
  rw [daysG_span a c h w hw]
  have := cntF_le (p := fun t => (holdsT a h w).any (fun x => dayOn c t x.1)) (w.b / 86400 - w.a / 86400 + 1).toNat (w.a / 86400)
  unfold Win.ok at hw
  omega
set_option maxHeartbeats 8000000 in
theorem law9_ok (a : List Asg) (x : Asg) (D : Int) : CallsTo Try.prog 9 [.sl (a.map Asg.av), x.av, .int .i64 D] [.p (.bool true)] := by
  refine f9_calls (Nat.le_of_ble_eq_true rfl) ?_
  by_cases hc : a.length ≤ 60 ∧ x.w.ok ∧ 0 ≤ D ∧ D ≤ 36524 ∧ x.a ≤ D * 86400 ∧ D * 86400 ≤ x.b
  · obtain ⟨c1, c2, c3, c4, c5, c6⟩ := hc
    have hsp := days_split a x.c x.h x.w D c5 c6
    have hbd := days_bd a x.c x.h x.w c2
    have hok := c2
    unfold Win.ok Asg.w at hok
    simp only at hok
    have hb1 := days_bd a x.c x.h ⟨x.a, D * 86400⟩ (by unfold Win.ok; simp only; omega)
    have hb2 := days_bd a x.c x.h ⟨D * 86400, x.b⟩ (by unfold Win.ok; simp only; omega)
    have k0 := days19_ok a x.c x.h x.w c2 (by omega)
    have k1 := days19_ok a x.c x.h ⟨x.a, D * 86400⟩ (by unfold Win.ok; simp only; omega) (by omega)
    have k2 := days19_ok a x.c x.h ⟨D * 86400, x.b⟩ (by unfold Win.ok; simp only; omega) (by omega)
    change daysG a x.c x.h x.w = daysG a x.c x.h ⟨x.a, D * 86400⟩ + daysG a x.c x.h ⟨D * 86400, x.b⟩ at hsp
    change 0 ≤ daysG a x.c x.h x.w ∧ daysG a x.c x.h x.w ≤ x.b / 86400 - x.a / 86400 + 1 at hbd
    simp only at hb1 hb2
    generalize daysG a x.c x.h ⟨x.a, D * 86400⟩ = n1 at *
    generalize daysG a x.c x.h ⟨D * 86400, x.b⟩ = n2 at *
    generalize daysG a x.c x.h x.w = n0 at *
    simp (maxSteps := 2000000) (disch := omega) only [go_sem, ↓reduceIte, reduceIte, Nat.reduceAdd, Nat.reduceLT, Nat.reduceEqDiff, Nat.reduceLeDiff, Nat.reduceMul, Asg.av]
    refine gA_df (fun _ => ?_) (fun h => absurd h (by omega))
    simp (maxSteps := 2000000) (disch := omega) only [go_sem, ↓reduceIte, reduceIte, Nat.reduceAdd, Nat.reduceLT, Nat.reduceEqDiff, Nat.reduceLeDiff, Nat.reduceMul]
    refine call_1 (window21_ok x.w) (by rfl) (by rfl) ?_
    rw [decide_eq_true c2]
    (repeat' (first | simp (maxSteps := 2000000) (disch := omega) only [go_sem, ↓reduceIte, reduceIte, Nat.reduceAdd, Nat.reduceLT, Nat.reduceEqDiff, Nat.reduceLeDiff, Nat.reduceMul] | refine gA_df (fun _ => ?_) (fun h => absurd h (by omega))))
    refine cA_d (fun h => absurd h (by omega)) (fun _ => ?_)
    simp (maxSteps := 2000000) (disch := omega) only [go_sem, ↓reduceIte, reduceIte, Nat.reduceAdd, Nat.reduceLT, Nat.reduceEqDiff, Nat.reduceLeDiff, Nat.reduceMul]
    refine call_2 k0 (by rfl) (by rfl) ?_
    simp (maxSteps := 2000000) (disch := omega) only [go_sem, ↓reduceIte, reduceIte, Nat.reduceAdd, Nat.reduceLT, Nat.reduceEqDiff, Nat.reduceLeDiff, Nat.reduceMul]
    refine call_2 k1 (by rfl) (by rfl) ?_
    simp (maxSteps := 2000000) (disch := omega) only [go_sem, ↓reduceIte, reduceIte, Nat.reduceAdd, Nat.reduceLT, Nat.reduceEqDiff, Nat.reduceLeDiff, Nat.reduceMul]
    refine call_2 k2 (by rfl) (by rfl) ?_
    (repeat' (first | simp (maxSteps := 2000000) (disch := omega) only [go_sem, ↓reduceIte, reduceIte, Nat.reduceAdd, Nat.reduceLT, Nat.reduceEqDiff, Nat.reduceLeDiff, Nat.reduceMul] | refine gA_dt (fun _ => ?_) (fun h => absurd h (by first | omega | simp)) | refine call_1 awake13_ok (by rfl) (by rfl) ?_))
  · by_cases c1 : a.length ≤ 60
    · by_cases c2 : x.w.ok
      · simp (maxSteps := 2000000) (disch := omega) only [go_sem, ↓reduceIte, reduceIte, Nat.reduceAdd, Nat.reduceLT, Nat.reduceEqDiff, Nat.reduceLeDiff, Nat.reduceMul, Asg.av]
        refine gA_df (fun _ => ?_) (fun h => absurd h (by omega))
        simp (maxSteps := 2000000) (disch := omega) only [go_sem, ↓reduceIte, reduceIte, Nat.reduceAdd, Nat.reduceLT, Nat.reduceEqDiff, Nat.reduceLeDiff, Nat.reduceMul]
        refine call_1 (window21_ok x.w) (by rfl) (by rfl) ?_
        rw [decide_eq_true c2]
        have hok := c2
        unfold Win.ok Asg.w at hok
        simp only at hok
        have hc' : ¬ (0 ≤ D ∧ D ≤ 36524 ∧ x.a ≤ D * 86400 ∧ D * 86400 ≤ x.b) := fun k => hc ⟨c1, c2, k⟩
        (repeat' (first | simp (maxSteps := 2000000) (disch := omega) only [go_sem, ↓reduceIte, reduceIte, Nat.reduceAdd, Nat.reduceLT, Nat.reduceEqDiff, Nat.reduceLeDiff, Nat.reduceMul] | refine gA_df (fun _ => ?_) (fun _ => ?_) | refine cA_d (fun _ => ?_) (fun h => absurd h (by omega)) | refine cA_d (fun _ => ?_) (fun h => absurd (show D * 86400 > x.b by omega) h) | refine call_1 awake13_ok (by rfl) (by rfl) ?_))
      · simp (maxSteps := 2000000) (disch := omega) only [go_sem, ↓reduceIte, reduceIte, Nat.reduceAdd, Nat.reduceLT, Nat.reduceEqDiff, Nat.reduceLeDiff, Nat.reduceMul, Asg.av]
        refine gA_df (fun _ => ?_) (fun h => absurd h (by omega))
        simp (maxSteps := 2000000) (disch := omega) only [go_sem, ↓reduceIte, reduceIte, Nat.reduceAdd, Nat.reduceLT, Nat.reduceEqDiff, Nat.reduceLeDiff, Nat.reduceMul]
        refine call_1 (window21_ok x.w) (by rfl) (by rfl) ?_
        rw [decide_eq_false c2]
        simp (maxSteps := 2000000) (disch := omega) only [go_sem, ↓reduceIte, reduceIte, Nat.reduceAdd, Nat.reduceLT, Nat.reduceEqDiff, Nat.reduceLeDiff, Nat.reduceMul]
        refine call_1 awake13_ok (by rfl) (by rfl) ?_
        simp (maxSteps := 2000000) (disch := omega) only [go_sem, ↓reduceIte, reduceIte, Nat.reduceAdd, Nat.reduceLT, Nat.reduceEqDiff, Nat.reduceLeDiff, Nat.reduceMul]
    · simp (maxSteps := 2000000) (disch := omega) only [go_sem, ↓reduceIte, reduceIte, Nat.reduceAdd, Nat.reduceLT, Nat.reduceEqDiff, Nat.reduceLeDiff, Nat.reduceMul, Asg.av]
      refine gA_df (fun h => absurd h (by omega)) (fun _ => ?_)
      simp (maxSteps := 2000000) (disch := omega) only [go_sem, ↓reduceIte, reduceIte, Nat.reduceAdd, Nat.reduceLT, Nat.reduceEqDiff, Nat.reduceLeDiff, Nat.reduceMul]
      refine call_1 awake13_ok (by rfl) (by rfl) ?_
      simp (maxSteps := 2000000) (disch := omega) only [go_sem, ↓reduceIte, reduceIte, Nat.reduceAdd, Nat.reduceLT, Nat.reduceEqDiff, Nat.reduceLeDiff, Nat.reduceMul]
end Go.Proofs.Ytkknahekpeaoiaa
