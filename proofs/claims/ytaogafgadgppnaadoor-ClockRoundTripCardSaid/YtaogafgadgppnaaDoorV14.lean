import Derived.Test.YtaogafgadgppnaaDoorV13
namespace Go.Proofs.YtaogafgadgppnaaDoor
open Go Go.AI Go.Proofs
set_option linter.unusedSimpArgs false
set_option linter.unusedVariables false
set_option maxRecDepth 4000
attribute [-go_sem] ldK_part
theorem openB_wrap {ws : List Win} {u v : Int} (h : (u / 86400) % 7 = (v / 86400) % 7) (h2 : u % 86400 = v % 86400) : openB ws u = openB ws v := by
  unfold openB dayF
  rw [h, h2]
def Gap (ws : List Win) (t hi : Int) : Prop := ∀ u, t ≤ u → u < hi → openB ws u = false
def nxtOk (ws : List Win) (t : Int) (r : Int × Int) : Prop :=
  (r.2 = 0 ∧ t ≤ r.1 ∧ r.1 ≤ 3155759999 ∧ openB ws r.1 = true ∧ Gap ws t r.1) ∨ (r.2 = 7 ∧ Gap ws t 3155760000)
theorem pn_spec {ws : List Win} {t : Int} (hl : ws.length = 7) (hok : ws.all dayOk = true) (ht : inM t) : ∀ (k i : Nat), k + i = 8 → Gap ws t ((t / 86400 + i) * 86400) → nxtOk ws t (pn ws t i k)
  | 0, i, hi, H => by
    refine .inr ⟨rfl, fun u h1 h2 => ?_⟩
    by_cases hu : u < (t / 86400 + i) * 86400
    · exact H u h1 hu
    · have e : i = 8 := by omega
      subst e
      rw [openB_wrap (v := (t / 86400 + 1 + (u / 86400 - t / 86400 - 1) % 7) * 86400 + u % 86400) (by omega) (by omega)]
      exact H _ (by omega) (by omega)
  | k + 1, i, hi, H => by
    have hd := dayF_ok hl hok (t / 86400 + i)
    have hop : ∀ u, u / 86400 = t / 86400 + i → openB ws u = decide ((dayF ws (t / 86400 + i)).a ≤ u % 86400 ∧ u % 86400 < (dayF ws (t / 86400 + i)).b) := by
      intro u hu
      unfold openB
      rw [hu]
    unfold inM at ht
    rw [pn]
    have ih := pn_spec hl hok ht k (i + 1) (by omega)
    generalize dayF ws (t / 86400 + i) = x at *
    by_cases h : 36524 < t / 86400 + i
    · rw [if_pos h]
      exact .inr ⟨rfl, fun u h1 h2 => H u h1 (by omega)⟩
    rw [if_neg h]
    by_cases h0 : i = 0
    · simp only [if_pos h0]
      by_cases h3 : max x.a (t % 86400) < x.b
      · rw [if_pos h3]
        refine .inl ⟨rfl, ?_, ?_, ?_, fun u h1 h2 => ?_⟩
        · simp only; omega
        · simp only; omega
        · rw [hop _ (by simp only; omega)]
          exact decide_eq_true (by simp only; omega)
        · simp only at h2
          rw [hop _ (by omega)]
          exact decide_eq_false (by omega)
      · rw [if_neg h3]
        refine ih (fun u h1 h2 => ?_)
        rw [hop _ (by omega)]
        exact decide_eq_false (by omega)
    · simp only [if_neg h0]
      by_cases h3 : x.a < x.b
      · rw [if_pos h3]
        refine .inl ⟨rfl, ?_, ?_, ?_, fun u h1 h2 => ?_⟩
        · simp only; omega
        · simp only; omega
        · rw [hop _ (by simp only; omega)]
          exact decide_eq_true (by simp only; omega)
        · simp only at h2
          by_cases hu : u < (t / 86400 + i) * 86400
          · exact H u h1 hu
          · rw [hop _ (by omega)]
            exact decide_eq_false (by omega)
      · rw [if_neg h3]
        refine ih (fun u h1 h2 => ?_)
        by_cases hu : u < (t / 86400 + i) * 86400
        · exact H u h1 hu
        · rw [hop _ (by omega)]
          exact decide_eq_false (by omega)
theorem nxt_spec {ws : List Win} {t : Int} (hl : ws.length = 7) (hok : ws.all dayOk = true) (ht : inM t) : nxtOk ws t (pn ws t 0 8) :=
  pn_spec hl hok ht 8 0 rfl (fun u h1 h2 => by omega)
set_option maxHeartbeats 8000000 in
theorem law7_ok (ws : List Win) (t more : Int) (hl : ws.length = 7) (hm0 : 0 ≤ more) (hm1 : more ≤ 4294967295) : CallsTo Tryd.prog 7 [.agg (flat (ws.map Win.av)), .int .i64 t, .int .u32 more] [.p (.bool true)] := by
  refine f7_calls (Nat.le_of_ble_eq_true rfl) ?_
  simp (maxSteps := 2000000) (disch := omega) only [go_sem, ↓reduceIte, reduceIte, Nat.reduceAdd, Nat.reduceLT, Nat.reduceEqDiff, Nat.reduceLeDiff, Nat.reduceMul, wk_ment, wk_kill]
  refine wk_whole hl rfl ?_
  simp (maxSteps := 2000000) (disch := omega) only [go_sem, ↓reduceIte, reduceIte, Nat.reduceAdd, Nat.reduceLT, Nat.reduceEqDiff, Nat.reduceLeDiff, Nat.reduceMul, wk_ment, wk_kill]
  refine call_2 (next23_ok ws t hl) (by simp [freeL, AV.free, wk_free]) (by rfl) ?_
  unfold nxt
  by_cases hc : ws.all dayOk = true ∧ inM t
  case neg =>
    rw [if_neg hc]
    (repeat' (first | simp (maxSteps := 2000000) (disch := omega) only [go_sem, ↓reduceIte, reduceIte, Nat.reduceAdd, Nat.reduceLT, Nat.reduceEqDiff, Nat.reduceLeDiff, Nat.reduceMul, wk_ment, wk_kill, beq_self_eq_true] | refine wk_whole hl rfl ?_ | refine call_2 (open21_ok ws t hl) (by simp [freeL, AV.free, wk_free]) (by rfl) ?_ | (rw [show opE ws t = 1 from if_neg hc]) | refine cA_d (fun _ => ?_) (fun h => absurd rfl h) | refine gA_dt (fun _ => ?_) (fun h => absurd rfl h) | refine call_1 awake12_ok (by rfl) (by rfl) ?_))
  rw [if_pos hc]
  have hs := nxt_spec hl hc.1 hc.2
  obtain ⟨N, hN⟩ : ∃ N, N = pn ws t 0 8 := ⟨_, rfl⟩
  rw [← hN] at hs ⊢
  obtain ⟨n, e⟩ := N
  have ht := hc.2
  unfold inM at ht
  have hopen : ∀ u, inM u → opR ws u = openB ws u := fun u hu => if_pos ⟨hc.1, hu⟩
  have hopE : ∀ u, inM u → opE ws u = 0 := fun u hu => if_pos ⟨hc.1, hu⟩
  have hop : ∀ u, inM u → CallsTo Tryd.prog 21 [.agg (flat (ws.map Win.av)), .int .i64 u] [.p (.bool (openB ws u)), .p (.int .i64 0)] := by
    intro u hu
    have := open21_ok ws u hl
    rwa [hopen u hu, hopE u hu] at this
  rcases hs with ⟨he, h1, h2, h3, hg⟩ | ⟨he, hg⟩
  · simp only at he h1 h2 h3 hg
    subst he
    have hn := hop n (by unfold inM; omega)
    rw [h3] at hn
    simp (maxSteps := 2000000) (disch := omega) only [go_sem, ↓reduceIte, reduceIte, Nat.reduceAdd, Nat.reduceLT, Nat.reduceEqDiff, Nat.reduceLeDiff, Nat.reduceMul, wk_ment, wk_kill]
    refine cA_d (fun h => absurd h (by decide)) (fun _ => ?_)
    (repeat' (first | simp (maxSteps := 2000000) (disch := omega) only [go_sem, ↓reduceIte, reduceIte, Nat.reduceAdd, Nat.reduceLT, Nat.reduceEqDiff, Nat.reduceLeDiff, Nat.reduceMul, wk_ment, wk_kill] | refine gA_df (fun _ => ?_) (fun h => absurd h (by omega))))
    refine cA_d (fun h => absurd h (by omega)) (fun _ => ?_)
    simp (maxSteps := 2000000) (disch := omega) only [go_sem, ↓reduceIte, reduceIte, Nat.reduceAdd, Nat.reduceLT, Nat.reduceEqDiff, Nat.reduceLeDiff, Nat.reduceMul, wk_ment, wk_kill]
    refine wk_whole hl rfl ?_
    simp (maxSteps := 2000000) (disch := omega) only [go_sem, ↓reduceIte, reduceIte, Nat.reduceAdd, Nat.reduceLT, Nat.reduceEqDiff, Nat.reduceLeDiff, Nat.reduceMul, wk_ment, wk_kill]
    refine call_2 hn (by simp [freeL, AV.free, wk_free]) (by rfl) ?_
    (repeat' (first | simp (maxSteps := 2000000) (disch := omega) only [go_sem, ↓reduceIte, reduceIte, Nat.reduceAdd, Nat.reduceLT, Nat.reduceEqDiff, Nat.reduceLeDiff, Nat.reduceMul, wk_ment, wk_kill] | refine gA_df (fun _ => ?_) (fun h => absurd h (by omega))))
    refine cA_d (fun h => absurd h (by decide)) (fun _ => ?_)
    simp (maxSteps := 2000000) (disch := omega) only [go_sem, ↓reduceIte, reduceIte, Nat.reduceAdd, Nat.reduceLT, Nat.reduceEqDiff, Nat.reduceLeDiff, Nat.reduceMul, wk_ment, wk_kill]
    refine cA_d (fun h4 => ?_) (fun h4 => ?_)
    · simp (maxSteps := 2000000) (disch := omega) only [go_sem, ↓reduceIte, reduceIte, Nat.reduceAdd, Nat.reduceLT, Nat.reduceEqDiff, Nat.reduceLeDiff, Nat.reduceMul, wk_ment, wk_kill]
      refine call_1 awake12_ok (by rfl) (by rfl) ?_
      simp (maxSteps := 2000000) (disch := omega) only [go_sem, ↓reduceIte, reduceIte, Nat.reduceAdd, Nat.reduceLT, Nat.reduceEqDiff, Nat.reduceLeDiff, Nat.reduceMul, wk_ment, wk_kill]
    · simp (maxSteps := 2000000) (disch := omega) only [go_sem, ↓reduceIte, reduceIte, Nat.reduceAdd, Nat.reduceLT, Nat.reduceEqDiff, Nat.reduceLeDiff, Nat.reduceMul, wk_ment, wk_kill]
      refine wk_whole hl rfl ?_
      have hb1 := Int.emod_nonneg more (show (n - 1) - t + 1 ≠ 0 by omega)
      have hb2 := Int.emod_lt_of_pos more (show 0 < (n - 1) - t + 1 by omega)
      simp (maxSteps := 2000000) (disch := omega) only [go_sem, ↓reduceIte, reduceIte, Nat.reduceAdd, Nat.reduceLT, Nat.reduceEqDiff, Nat.reduceLeDiff, Nat.reduceMul, wk_ment, wk_kill]
      have hq := hop (t + more % ((n - 1) - t + 1)) (by unfold inM; omega)
      rw [hg _ (by omega) (by omega)] at hq
      refine call_2 hq (by simp [freeL, AV.free, wk_free]) (by rfl) ?_
      (repeat' (first | simp (maxSteps := 2000000) (disch := omega) only [go_sem, ↓reduceIte, reduceIte, Nat.reduceAdd, Nat.reduceLT, Nat.reduceEqDiff, Nat.reduceLeDiff, Nat.reduceMul, wk_ment, wk_kill, beq_self_eq_true] | refine gA_dt (fun _ => ?_) (fun h => absurd rfl h) | refine call_1 awake12_ok (by rfl) (by rfl) ?_))
  · simp only at he hg
    subst he
    simp (maxSteps := 2000000) (disch := omega) only [go_sem, ↓reduceIte, reduceIte, Nat.reduceAdd, Nat.reduceLT, Nat.reduceEqDiff, Nat.reduceLeDiff, Nat.reduceMul, wk_ment, wk_kill]
    refine cA_d (fun h => absurd h (by decide)) (fun _ => ?_)
    (repeat' (first | simp (maxSteps := 2000000) (disch := omega) only [go_sem, ↓reduceIte, reduceIte, Nat.reduceAdd, Nat.reduceLT, Nat.reduceEqDiff, Nat.reduceLeDiff, Nat.reduceMul, wk_ment, wk_kill] | refine gA_df (fun _ => ?_) (fun h => absurd h (by omega))))
    refine cA_d (fun h => absurd h (by omega)) (fun _ => ?_)
    simp (maxSteps := 2000000) (disch := omega) only [go_sem, ↓reduceIte, reduceIte, Nat.reduceAdd, Nat.reduceLT, Nat.reduceEqDiff, Nat.reduceLeDiff, Nat.reduceMul, wk_ment, wk_kill]
    refine cA_d (fun h => absurd h (by decide)) (fun _ => ?_)
    simp (maxSteps := 2000000) (disch := omega) only [go_sem, ↓reduceIte, reduceIte, Nat.reduceAdd, Nat.reduceLT, Nat.reduceEqDiff, Nat.reduceLeDiff, Nat.reduceMul, wk_ment, wk_kill]
    refine cA_d (fun h => absurd h (by omega)) (fun _ => ?_)
    simp (maxSteps := 2000000) (disch := omega) only [go_sem, ↓reduceIte, reduceIte, Nat.reduceAdd, Nat.reduceLT, Nat.reduceEqDiff, Nat.reduceLeDiff, Nat.reduceMul, wk_ment, wk_kill]
    refine wk_whole hl rfl ?_
    have hb1 := Int.emod_nonneg more (show 3155759999 - t + 1 ≠ 0 by omega)
    have hb2 := Int.emod_lt_of_pos more (show 0 < 3155759999 - t + 1 by omega)
    simp (maxSteps := 2000000) (disch := omega) only [go_sem, ↓reduceIte, reduceIte, Nat.reduceAdd, Nat.reduceLT, Nat.reduceEqDiff, Nat.reduceLeDiff, Nat.reduceMul, wk_ment, wk_kill]
    have hq := hop (t + more % (3155759999 - t + 1)) (by unfold inM; omega)
    rw [hg _ (by omega) (by omega)] at hq
    refine call_2 hq (by simp [freeL, AV.free, wk_free]) (by rfl) ?_
    (repeat' (first | simp (maxSteps := 2000000) (disch := omega) only [go_sem, ↓reduceIte, reduceIte, Nat.reduceAdd, Nat.reduceLT, Nat.reduceEqDiff, Nat.reduceLeDiff, Nat.reduceMul, wk_ment, wk_kill, beq_self_eq_true] | refine gA_dt (fun _ => ?_) (fun h => absurd rfl h) | refine call_1 awake12_ok (by rfl) (by rfl) ?_))
end Go.Proofs.YtaogafgadgppnaaDoor
