import Derived.Test.YtaogafgadgppnaaDoorV8
namespace Go.Proofs.YtaogafgadgppnaaDoor
open Go Go.AI Go.Proofs
set_option linter.unusedSimpArgs false
set_option linter.unusedVariables false
set_option maxRecDepth 4000
attribute [-go_sem] ldK_part
/-- The first opening from t on, day by day. -/
def pn (ws : List Win) (t : Int) : Nat → Nat → Int × Int
  | _, 0 => (0, 7)
  | i, k + 1 =>
    if 36524 < t / 86400 + i then (0, 7)
    else if (if i = 0 then max (dayF ws (t / 86400 + i)).a (t % 86400) else (dayF ws (t / 86400 + i)).a) < (dayF ws (t / 86400 + i)).b
      then ((t / 86400 + i) * 86400 + (if i = 0 then max (dayF ws (t / 86400 + i)).a (t % 86400) else (dayF ws (t / 86400 + i)).a), 0) else pn ws t (i + 1) k
def rn (ws : List Win) (t : Int) : Nat → Nat → Int × Int
  | _, 0 => (0, 7)
  | i, k + 1 =>
    if 36524 < t / 86400 + i then (0, 7)
    else if (dayF ws (t / 86400 + i)).a < (dayF ws (t / 86400 + i)).b ∧ (t / 86400 + i) * 86400 + (dayF ws (t / 86400 + i)).a ≥ t
      then ((t / 86400 + i) * 86400 + (dayF ws (t / 86400 + i)).a, 0) else rn ws t (i + 1) k
def nxt (ws : List Win) (t : Int) : Int × Int := if ws.all dayOk = true ∧ inM t then pn ws t 0 8 else (0, 1)
theorem dayF_ok {ws : List Win} (hl : ws.length = 7) (hok : ws.all dayOk = true) (d : Int) : 0 ≤ (dayF ws d).a ∧ (dayF ws d).a ≤ (dayF ws d).b ∧ (dayF ws d).b ≤ 86400 := by
  have h := List.mem_of_getElem? (dayF_at hl d)
  exact of_decide_eq_true (List.all_eq_true.1 hok _ h)
theorem rn_eq {ws : List Win} {t : Int} (hl : ws.length = 7) (hok : ws.all dayOk = true) : ∀ (k i : Nat), 0 < i → rn ws t i k = pn ws t i k
  | 0, _, _ => rfl
  | k + 1, i, hi => by
    have hd := dayF_ok hl hok (t / 86400 + i)
    rw [rn, pn, rn_eq hl hok k (i + 1) (by omega)]
    rw [if_neg (show ¬ i = 0 by omega)]
    generalize dayF ws (t / 86400 + i) = x at *
    by_cases h : x.a < x.b
    · rw [if_pos (⟨h, by omega⟩ : x.a < x.b ∧ (t / 86400 + i) * 86400 + x.a ≥ t), if_pos h]
    · rw [if_neg (fun k : x.a < x.b ∧ _ => h k.1), if_neg h]
theorem rn_first {ws : List Win} {t : Int} (hl : ws.length = 7) (hok : ws.all dayOk = true) (ht : inM t) : (if openB ws t = true then (t, 0) else rn ws t 0 8) = pn ws t 0 8 := by
  have hd := dayF_ok hl hok (t / 86400)
  unfold inM at ht
  rw [rn, pn, rn_eq hl hok 7 1 (by omega)]
  rw [show t / 86400 + ((0 : Nat) : Int) = t / 86400 by omega]
  unfold openB
  generalize dayF ws (t / 86400) = x at *
  rw [if_neg (show ¬ 36524 < t / 86400 by omega), if_pos rfl, if_neg (show ¬ 36524 < t / 86400 by omega)]
  by_cases ho : x.a ≤ t % 86400 ∧ t % 86400 < x.b
  · rw [if_pos (decide_eq_true ho), if_pos (show max x.a (t % 86400) < x.b by omega)]
    rw [show max x.a (t % 86400) = t % 86400 by omega, show t / 86400 * 86400 + t % 86400 = t by omega]
  · rw [if_neg (by simpa using ho)]
    by_cases h2 : x.a < x.b ∧ t / 86400 * 86400 + x.a ≥ t
    · rw [if_pos h2, if_pos (show max x.a (t % 86400) < x.b by omega), show max x.a (t % 86400) = x.a by omega]
    · rw [if_neg h2, if_neg (show ¬ max x.a (t % 86400) < x.b by omega)]
set_option maxHeartbeats 8000000 in
theorem next23_ok (ws : List Win) (t : Int) (hl : ws.length = 7) : CallsTo Tryd.prog 23 [.agg (flat (ws.map Win.av)), .int .i64 t] [.p (.int .i64 (nxt ws t).1), .p (.int .i64 (nxt ws t).2)] := by
  refine f23_calls (Nat.le_of_ble_eq_true rfl) ?_
  unfold nxt
  simp (maxSteps := 2000000) (disch := omega) only [go_sem, ↓reduceIte, reduceIte, Nat.reduceAdd, Nat.reduceLT, Nat.reduceEqDiff, Nat.reduceLeDiff, Nat.reduceMul, wk_ment, wk_kill]
  refine wk_whole hl rfl ?_
  simp (maxSteps := 2000000) (disch := omega) only [go_sem, ↓reduceIte, reduceIte, Nat.reduceAdd, Nat.reduceLT, Nat.reduceEqDiff, Nat.reduceLeDiff, Nat.reduceMul, wk_ment, wk_kill]
  refine call_1 (valid37_ok ws hl) (by simp [freeL, AV.free, wk_free]) (by rfl) ?_
  cases hok : ws.all dayOk with
  | false =>
    simp (maxSteps := 2000000) (disch := omega) only [go_sem, ↓reduceIte, reduceIte, Nat.reduceAdd, Nat.reduceLT, Nat.reduceEqDiff, Nat.reduceLeDiff, Nat.reduceMul, wk_ment, wk_kill]
    all_goals (try exact ⟨rfl, rfl⟩)
  | true =>
  simp (maxSteps := 2000000) (disch := omega) only [go_sem, ↓reduceIte, reduceIte, Nat.reduceAdd, Nat.reduceLT, Nat.reduceEqDiff, Nat.reduceLeDiff, Nat.reduceMul, wk_ment, wk_kill]
  refine call_1 (moment36_ok t) (by rfl) (by rfl) ?_
  by_cases h : inM t
  case neg =>
    rw [if_neg h, show decide (0 ≤ t ∧ t ≤ 3155759999) = false from decide_eq_false h]
    simp (maxSteps := 2000000) (disch := omega) only [go_sem, ↓reduceIte, reduceIte, Nat.reduceAdd, Nat.reduceLT, Nat.reduceEqDiff, Nat.reduceLeDiff, Nat.reduceMul, wk_ment, wk_kill]
    all_goals (try exact ⟨rfl, rfl⟩)
  rw [if_pos h, show decide (0 ≤ t ∧ t ≤ 3155759999) = true from decide_eq_true h]
  unfold inM at h
  obtain ⟨N, hN⟩ : ∃ N, N = pn ws t 0 8 := ⟨_, rfl⟩
  rw [← hN]
  simp (maxSteps := 2000000) (disch := omega) only [go_sem, ↓reduceIte, reduceIte, Nat.reduceAdd, Nat.reduceLT, Nat.reduceEqDiff, Nat.reduceLeDiff, Nat.reduceMul, wk_ment, wk_kill]
  refine loop_of f23L8_is (fun i : Nat => ⟨[(17, .int .i64 i), (2, .ad 2 0 0), (1, .int .i64 t)], [(2, .box (flat (ws.map Win.av)))]⟩)
    (fun i => i ≤ 8 ∧ N = pn ws t i (8 - i)) (fun i => 8 - i) 0 ⟨by omega, hN⟩ (le_intro (by simp only [allLook, allLookM, go_sem, ↓reduceIte, reduceIte, Nat.reduceAdd, Nat.reduceLT, Nat.reduceEqDiff, Nat.reduceLeDiff, Nat.reduceMul]; try simp) (by simp only [allLook, allLookM, go_sem, ↓reduceIte, reduceIte, Nat.reduceAdd, Nat.reduceLT, Nat.reduceEqDiff, Nat.reduceLeDiff, Nat.reduceMul]; try simp)) ?_
  rintro i R ⟨hi, he⟩ hR
  simp (maxSteps := 2000000) (disch := omega) only [go_sem, ↓reduceIte, reduceIte, Nat.reduceAdd, Nat.reduceLT, Nat.reduceEqDiff, Nat.reduceLeDiff, Nat.reduceMul, wk_ment, wk_kill]
  refine cA_d (fun h1 => ?_) (fun h1 => ?_)
  case refine_2 =>
    rw [show 8 - i = 0 by omega, pn] at he
    rw [he]
    simp (maxSteps := 2000000) (disch := omega) only [go_sem, ↓reduceIte, reduceIte, Nat.reduceAdd, Nat.reduceLT, Nat.reduceEqDiff, Nat.reduceLeDiff, Nat.reduceMul]
    all_goals (try exact ⟨rfl, rfl⟩)
  rw [show 8 - i = (8 - (i + 1)) + 1 by omega, pn] at he
  (repeat' (first | simp (maxSteps := 2000000) (disch := omega) only [go_sem, ↓reduceIte, reduceIte, Nat.reduceAdd, Nat.reduceLT, Nat.reduceEqDiff, Nat.reduceLeDiff, Nat.reduceMul, wk_ment, wk_kill]))
  refine cA_d (fun h2 => ?_) (fun h2 => ?_)
  · rw [if_pos h2] at he
    rw [he]
    simp (maxSteps := 2000000) (disch := omega) only [go_sem, ↓reduceIte, reduceIte, Nat.reduceAdd, Nat.reduceLT, Nat.reduceEqDiff, Nat.reduceLeDiff, Nat.reduceMul]
    all_goals (try exact ⟨rfl, rfl⟩)
  rw [if_neg h2] at he
  have hd := dayF_ok hl hok (t / 86400 + i)
  have hx := dayF_at hl (t / 86400 + i)
  generalize dayF ws (t / 86400 + i) = x at *
  (repeat' (first | simp (maxSteps := 2000000) (disch := omega) only [go_sem, ↓reduceIte, reduceIte, Nat.reduceAdd, Nat.reduceLT, Nat.reduceEqDiff, Nat.reduceLeDiff, Nat.reduceMul, wk_ment, wk_kill, Win.av] | refine run_idx (by omega) (by omega) ?_ | refine wk_part hx (by omega) ?_))
  refine cA_d (fun h3 => ?_) (fun h3 => ?_)
  · have hi0 : i = 0 := by omega
    rw [if_pos hi0] at he
    (repeat' (first | simp (maxSteps := 2000000) (disch := omega) only [go_sem, ↓reduceIte, reduceIte, Nat.reduceAdd, Nat.reduceLT, Nat.reduceEqDiff, Nat.reduceLeDiff, Nat.reduceMul, wk_ment, wk_kill, Win.av] | refine run_idx (by omega) (by omega) ?_ | refine wk_part hx (by omega) ?_))
    refine cA_d (fun h4 => ?_) (fun h4 => ?_)
    · rw [if_pos h4] at he
      rw [he]
      (repeat' (first | simp (maxSteps := 2000000) (disch := omega) only [go_sem, ↓reduceIte, reduceIte, Nat.reduceAdd, Nat.reduceLT, Nat.reduceEqDiff, Nat.reduceLeDiff, Nat.reduceMul, wk_ment, wk_kill, Win.av] | refine run_idx (by omega) (by omega) ?_ | refine wk_part hx (by omega) ?_))
      all_goals (try exact ⟨rfl, rfl⟩)
    · rw [if_neg h4] at he
      simp (maxSteps := 2000000) (disch := omega) only [go_sem, ↓reduceIte, reduceIte, Nat.reduceAdd, Nat.reduceLT, Nat.reduceEqDiff, Nat.reduceLeDiff, Nat.reduceMul, wk_ment, wk_kill]
      refine hR (i + 1) _ ⟨by omega, he⟩ (by omega) ?_
      exact (le_intro (by simp only [allLook, allLookM, go_sem, ↓reduceIte, reduceIte, Nat.reduceAdd, Nat.reduceLT, Nat.reduceEqDiff, Nat.reduceLeDiff, Nat.reduceMul, wk_ment, wk_kill, show ((i : Nat) : Int) + 1 = (i + 1 : Nat) by omega]; try simp) (by simp only [allLook, allLookM, go_sem, ↓reduceIte, reduceIte, Nat.reduceAdd, Nat.reduceLT, Nat.reduceEqDiff, Nat.reduceLeDiff, Nat.reduceMul, wk_ment, wk_kill, show ((i : Nat) : Int) + 1 = (i + 1 : Nat) by omega]; try simp))
  · have hi0 : ¬ i = 0 := by omega
    rw [if_neg hi0] at he
    (repeat' (first | simp (maxSteps := 2000000) (disch := omega) only [go_sem, ↓reduceIte, reduceIte, Nat.reduceAdd, Nat.reduceLT, Nat.reduceEqDiff, Nat.reduceLeDiff, Nat.reduceMul, wk_ment, wk_kill, Win.av] | refine run_idx (by omega) (by omega) ?_ | refine wk_part hx (by omega) ?_))
    refine cA_d (fun h4 => ?_) (fun h4 => ?_)
    · rw [if_pos h4] at he
      rw [he]
      (repeat' (first | simp (maxSteps := 2000000) (disch := omega) only [go_sem, ↓reduceIte, reduceIte, Nat.reduceAdd, Nat.reduceLT, Nat.reduceEqDiff, Nat.reduceLeDiff, Nat.reduceMul, wk_ment, wk_kill, Win.av] | refine run_idx (by omega) (by omega) ?_ | refine wk_part hx (by omega) ?_))
      all_goals (try exact ⟨rfl, rfl⟩)
    · rw [if_neg h4] at he
      simp (maxSteps := 2000000) (disch := omega) only [go_sem, ↓reduceIte, reduceIte, Nat.reduceAdd, Nat.reduceLT, Nat.reduceEqDiff, Nat.reduceLeDiff, Nat.reduceMul, wk_ment, wk_kill]
      refine hR (i + 1) _ ⟨by omega, he⟩ (by omega) ?_
      exact (le_intro (by simp only [allLook, allLookM, go_sem, ↓reduceIte, reduceIte, Nat.reduceAdd, Nat.reduceLT, Nat.reduceEqDiff, Nat.reduceLeDiff, Nat.reduceMul, wk_ment, wk_kill, show ((i : Nat) : Int) + 1 = (i + 1 : Nat) by omega]; try simp) (by simp only [allLook, allLookM, go_sem, ↓reduceIte, reduceIte, Nat.reduceAdd, Nat.reduceLT, Nat.reduceEqDiff, Nat.reduceLeDiff, Nat.reduceMul, wk_ment, wk_kill, show ((i : Nat) : Int) + 1 = (i + 1 : Nat) by omega]; try simp))
set_option maxHeartbeats 8000000 in
theorem rnext24_ok (ws : List Win) (t : Int) (hl : ws.length = 7) : CallsTo Tryd.prog 24 [.agg (flat (ws.map Win.av)), .int .i64 t] [.p (.int .i64 (nxt ws t).1), .p (.int .i64 (nxt ws t).2)] := by
  refine f24_calls (Nat.le_of_ble_eq_true rfl) ?_
  unfold nxt
  simp (maxSteps := 2000000) (disch := omega) only [go_sem, ↓reduceIte, reduceIte, Nat.reduceAdd, Nat.reduceLT, Nat.reduceEqDiff, Nat.reduceLeDiff, Nat.reduceMul, wk_ment, wk_kill]
  refine wk_whole hl rfl ?_
  simp (maxSteps := 2000000) (disch := omega) only [go_sem, ↓reduceIte, reduceIte, Nat.reduceAdd, Nat.reduceLT, Nat.reduceEqDiff, Nat.reduceLeDiff, Nat.reduceMul, wk_ment, wk_kill]
  refine call_2 (ropen22_ok ws t hl) (by simp [freeL, AV.free, wk_free]) (by rfl) ?_
  unfold opR opE
  by_cases hc : ws.all dayOk = true ∧ inM t
  case neg =>
    rw [if_neg hc, if_neg hc, if_neg hc]
    simp (maxSteps := 2000000) (disch := omega) only [go_sem, ↓reduceIte, reduceIte, Nat.reduceAdd, Nat.reduceLT, Nat.reduceEqDiff, Nat.reduceLeDiff, Nat.reduceMul, wk_ment, wk_kill]
    refine cA_d (fun _ => ?_) (fun h => absurd (show ¬ (1 : Int) = 0 by decide) h)
    simp (maxSteps := 2000000) (disch := omega) only [go_sem, ↓reduceIte, reduceIte, Nat.reduceAdd, Nat.reduceLT, Nat.reduceEqDiff, Nat.reduceLeDiff, Nat.reduceMul]
    all_goals (try exact ⟨rfl, rfl⟩)
  obtain ⟨hok, h⟩ := hc
  rw [if_pos ⟨hok, h⟩, if_pos ⟨hok, h⟩, if_pos ⟨hok, h⟩, ← rn_first hl hok h]
  cases ho : openB ws t with
  | true =>
    simp (maxSteps := 2000000) (disch := omega) only [go_sem, ↓reduceIte, reduceIte, Nat.reduceAdd, Nat.reduceLT, Nat.reduceEqDiff, Nat.reduceLeDiff, Nat.reduceMul, wk_ment, wk_kill]
    refine cA_d (fun h => absurd h (by simp)) (fun _ => ?_)
    simp (maxSteps := 2000000) (disch := omega) only [go_sem, ↓reduceIte, reduceIte, Nat.reduceAdd, Nat.reduceLT, Nat.reduceEqDiff, Nat.reduceLeDiff, Nat.reduceMul, wk_ment, wk_kill]
    all_goals (try exact ⟨rfl, rfl⟩)
  | false =>
  simp only [Bool.false_eq_true, if_false]
  unfold inM at h
  obtain ⟨N, hN⟩ : ∃ N, N = rn ws t 0 8 := ⟨_, rfl⟩
  rw [← hN]
  simp (maxSteps := 2000000) (disch := omega) only [go_sem, ↓reduceIte, reduceIte, Nat.reduceAdd, Nat.reduceLT, Nat.reduceEqDiff, Nat.reduceLeDiff, Nat.reduceMul, wk_ment, wk_kill]
  refine cA_d (fun h => absurd h (by simp)) (fun _ => ?_)
  simp (maxSteps := 2000000) (disch := omega) only [go_sem, ↓reduceIte, reduceIte, Nat.reduceAdd, Nat.reduceLT, Nat.reduceEqDiff, Nat.reduceLeDiff, Nat.reduceMul, wk_ment, wk_kill]
  refine loop_of f24L13_is (fun i : Nat => ⟨[(8, .int .i64 (t / 86400 + i)), (2, .ad 2 0 0), (1, .int .i64 t)], [(2, .box (flat (ws.map Win.av)))]⟩)
    (fun i => i ≤ 8 ∧ t / 86400 + i ≤ 36525 ∧ N = rn ws t i (8 - i)) (fun i => 8 - i) 0 ⟨by omega, by omega, hN⟩ (le_intro (by simp only [allLook, allLookM, go_sem, ↓reduceIte, reduceIte, Nat.reduceAdd, Nat.reduceLT, Nat.reduceEqDiff, Nat.reduceLeDiff, Nat.reduceMul, show t / 86400 + ((0 : Nat) : Int) = t / 86400 by omega]; try simp) (by simp only [allLook, allLookM, go_sem, ↓reduceIte, reduceIte, Nat.reduceAdd, Nat.reduceLT, Nat.reduceEqDiff, Nat.reduceLeDiff, Nat.reduceMul, show t / 86400 + ((0 : Nat) : Int) = t / 86400 by omega]; try simp)) ?_
  rintro i R ⟨hi, hi2, he⟩ hR
  simp (maxSteps := 2000000) (disch := omega) only [go_sem, ↓reduceIte, reduceIte, Nat.reduceAdd, Nat.reduceLT, Nat.reduceEqDiff, Nat.reduceLeDiff, Nat.reduceMul, wk_ment, wk_kill]
  refine gA_dt (fun h1 => ?_) (fun h1 => ?_)
  case refine_2 =>
    rw [show 8 - i = 0 by omega, rn] at he
    rw [he]
    simp (maxSteps := 2000000) (disch := omega) only [go_sem, ↓reduceIte, reduceIte, Nat.reduceAdd, Nat.reduceLT, Nat.reduceEqDiff, Nat.reduceLeDiff, Nat.reduceMul]
    all_goals (try exact ⟨rfl, rfl⟩)
  rw [show 8 - i = (8 - (i + 1)) + 1 by omega, rn] at he
  (repeat' (first | simp (maxSteps := 2000000) (disch := omega) only [go_sem, ↓reduceIte, reduceIte, Nat.reduceAdd, Nat.reduceLT, Nat.reduceEqDiff, Nat.reduceLeDiff, Nat.reduceMul, wk_ment, wk_kill]))
  refine cA_d (fun h2 => ?_) (fun h2 => ?_)
  case refine_2 =>
    rw [if_pos (show 36524 < t / 86400 + i by omega)] at he
    rw [he]
    simp (maxSteps := 2000000) (disch := omega) only [go_sem, ↓reduceIte, reduceIte, Nat.reduceAdd, Nat.reduceLT, Nat.reduceEqDiff, Nat.reduceLeDiff, Nat.reduceMul]
    all_goals (try exact ⟨rfl, rfl⟩)
  rw [if_neg (show ¬ 36524 < t / 86400 + i by omega)] at he
  have hd := dayF_ok hl hok (t / 86400 + i)
  have hx := dayF_at hl (t / 86400 + i)
  generalize dayF ws (t / 86400 + i) = x at *
  (repeat' (first | simp (maxSteps := 2000000) (disch := omega) only [go_sem, ↓reduceIte, reduceIte, Nat.reduceAdd, Nat.reduceLT, Nat.reduceEqDiff, Nat.reduceLeDiff, Nat.reduceMul, wk_ment, wk_kill, Win.av] | refine run_idx (by omega) (by omega) ?_ | refine wk_part hx (by omega) ?_ | refine gA_dt (fun h3 => ?_) (fun h3 => ?_) | refine cA_d (fun h4 => ?_) (fun h4 => ?_)))
  all_goals first
    | (rw [if_pos (by omega)] at he
       rw [he]
       (repeat' (first | simp (maxSteps := 2000000) (disch := omega) only [go_sem, ↓reduceIte, reduceIte, Nat.reduceAdd, Nat.reduceLT, Nat.reduceEqDiff, Nat.reduceLeDiff, Nat.reduceMul, wk_ment, wk_kill, Win.av]))
       all_goals (try exact ⟨rfl, rfl⟩))
    | (rw [if_neg (by omega)] at he
       refine hR (i + 1) _ ⟨by omega, by omega, he⟩ (by omega) ?_
       exact (le_intro (by simp only [allLook, allLookM, go_sem, ↓reduceIte, reduceIte, Nat.reduceAdd, Nat.reduceLT, Nat.reduceEqDiff, Nat.reduceLeDiff, Nat.reduceMul, wk_ment, wk_kill, show t / 86400 + ((i : Nat) : Int) + 1 = t / 86400 + ((i + 1 : Nat) : Int) by omega]; try simp) (by simp only [allLook, allLookM, go_sem, ↓reduceIte, reduceIte, Nat.reduceAdd, Nat.reduceLT, Nat.reduceEqDiff, Nat.reduceLeDiff, Nat.reduceMul, wk_ment, wk_kill, show t / 86400 + ((i : Nat) : Int) + 1 = t / 86400 + ((i + 1 : Nat) : Int) by omega]; try simp)))
end Go.Proofs.YtaogafgadgppnaaDoor
