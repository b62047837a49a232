import Derived.Test.YtaogafgadgppnaaDoorVA
namespace Go.Proofs.YtaogafgadgppnaaDoor
open Go Go.AI Go.Proofs
set_option linter.unusedSimpArgs false
set_option linter.unusedVariables false
set_option maxRecDepth 4000
theorem moment36_ok (t : Int) : CallsTo Tryd.prog 36 [.int .i64 t] [.p (.bool (decide (0 ≤ t ∧ t ≤ 3155759999)))] := by
  refine f36_calls (Nat.le_of_ble_eq_true rfl) ?_
  (repeat' (first | refine gA_dt (fun h => ?_) (fun h => ?_) | refine gA_df (fun h => ?_) (fun h => ?_) | refine cA_d (fun h => ?_) (fun h => ?_) | simp (maxSteps := 2000000) (disch := omega) only [go_sem, ↓reduceIte, reduceIte, Nat.reduceAdd, Nat.reduceLT, Nat.reduceEqDiff, Nat.reduceLeDiff, Nat.reduceMul]))
  all_goals first | exact congrArg AV.bool (decide_eq_decide.2 (by omega)) | exact congrArg AV.bool (decide_eq_true (by omega)).symm | exact congrArg AV.bool (decide_eq_false (by omega)).symm
def inM (t : Int) : Prop := 0 ≤ t ∧ t ≤ 3155759999
instance (t : Int) : Decidable (inM t) := by unfold inM; infer_instance
theorem date17_ok (t : Int) (h : inM t) : CallsTo Tryd.prog 17 [.int .i64 t] [.p (.int .i64 (t / 86400)), .p (.int .i64 (t % 86400)), .p (.int .i64 0)] := by
  unfold inM at h
  refine f17_calls (Nat.le_of_ble_eq_true rfl) ?_
  (repeat' (first | simp (maxSteps := 2000000) (disch := omega) only [go_sem, ↓reduceIte, reduceIte, Nat.reduceAdd, Nat.reduceLT, Nat.reduceEqDiff, Nat.reduceLeDiff, Nat.reduceMul] | refine call_1 (moment36_ok t) (by rfl) (by rfl) ?_ | refine gA_df (fun h1 => ?_) (fun h1 => ?_) | refine gA_dt (fun h1 => ?_) (fun h1 => ?_) | refine cA_d (fun h1 => ?_) (fun h1 => ?_) | refine cA_b (fun h1 => ?_) (fun h1 => ?_) | (exfalso; omega) | (exfalso; simp only [decide_eq_true_eq, decide_eq_false_iff_not] at *; unfold inM at *; omega)))
  all_goals (try exact ⟨rfl, rfl, rfl⟩)
theorem date17_bad (t : Int) (h : ¬ inM t) : CallsTo Tryd.prog 17 [.int .i64 t] [.p (.int .i64 0), .p (.int .i64 0), .p (.int .i64 1)] := by
  unfold inM at h
  refine f17_calls (Nat.le_of_ble_eq_true rfl) ?_
  (repeat' (first | simp (maxSteps := 2000000) (disch := omega) only [go_sem, ↓reduceIte, reduceIte, Nat.reduceAdd, Nat.reduceLT, Nat.reduceEqDiff, Nat.reduceLeDiff, Nat.reduceMul] | refine call_1 (moment36_ok t) (by rfl) (by rfl) ?_ | refine gA_df (fun h1 => ?_) (fun h1 => ?_) | refine gA_dt (fun h1 => ?_) (fun h1 => ?_) | refine cA_d (fun h1 => ?_) (fun h1 => ?_) | refine cA_b (fun h1 => ?_) (fun h1 => ?_) | (exfalso; omega) | (exfalso; simp only [decide_eq_true_eq, decide_eq_false_iff_not] at *; unfold inM at *; omega)))
  all_goals (try exact ⟨rfl, rfl, rfl⟩)
theorem date18_ok (t : Int) (h : inM t) : CallsTo Tryd.prog 18 [.int .i64 t] [.p (.int .i64 (t / 86400)), .p (.int .i64 (t % 86400)), .p (.int .i64 0)] := by
  unfold inM at h
  refine f18_calls (Nat.le_of_ble_eq_true rfl) ?_
  (repeat' (first | simp (maxSteps := 2000000) (disch := omega) only [go_sem, ↓reduceIte, reduceIte, Nat.reduceAdd, Nat.reduceLT, Nat.reduceEqDiff, Nat.reduceLeDiff, Nat.reduceMul] | refine call_1 (moment36_ok t) (by rfl) (by rfl) ?_ | refine gA_df (fun h1 => ?_) (fun h1 => ?_) | refine gA_dt (fun h1 => ?_) (fun h1 => ?_) | refine cA_d (fun h1 => ?_) (fun h1 => ?_) | refine cA_b (fun h1 => ?_) (fun h1 => ?_) | (exfalso; omega) | (exfalso; simp only [decide_eq_true_eq, decide_eq_false_iff_not] at *; unfold inM at *; omega)))
  all_goals (try exact ⟨rfl, rfl, rfl⟩)
theorem date18_bad (t : Int) (h : ¬ inM t) : CallsTo Tryd.prog 18 [.int .i64 t] [.p (.int .i64 0), .p (.int .i64 0), .p (.int .i64 1)] := by
  unfold inM at h
  refine f18_calls (Nat.le_of_ble_eq_true rfl) ?_
  (repeat' (first | simp (maxSteps := 2000000) (disch := omega) only [go_sem, ↓reduceIte, reduceIte, Nat.reduceAdd, Nat.reduceLT, Nat.reduceEqDiff, Nat.reduceLeDiff, Nat.reduceMul] | refine call_1 (moment36_ok t) (by rfl) (by rfl) ?_ | refine gA_df (fun h1 => ?_) (fun h1 => ?_) | refine gA_dt (fun h1 => ?_) (fun h1 => ?_) | refine cA_d (fun h1 => ?_) (fun h1 => ?_) | refine cA_b (fun h1 => ?_) (fun h1 => ?_) | (exfalso; omega) | (exfalso; simp only [decide_eq_true_eq, decide_eq_false_iff_not] at *; unfold inM at *; omega)))
  all_goals (try exact ⟨rfl, rfl, rfl⟩)
def wdR (d : Int) : Int := if 0 ≤ d ∧ d ≤ 36524 then d % 7 else 0
def wdE (d : Int) : Int := if 0 ≤ d ∧ d ≤ 36524 then 0 else 1
theorem wday19_ok (d : Int) : CallsTo Tryd.prog 19 [.int .i64 d] [.p (.int .i64 (wdR d)), .p (.int .i64 (wdE d))] := by
  refine f19_calls (Nat.le_of_ble_eq_true rfl) ?_
  unfold wdR wdE
  by_cases h : 0 ≤ d ∧ d ≤ 36524
  · rw [if_pos h, if_pos h]
    (repeat' (first | simp (maxSteps := 2000000) (disch := omega) only [go_sem, ↓reduceIte, reduceIte, Nat.reduceAdd, Nat.reduceLT, Nat.reduceEqDiff, Nat.reduceLeDiff, Nat.reduceMul] | refine gA_df (fun h1 => ?_) (fun h1 => ?_) | refine gA_dt (fun h1 => ?_) (fun h1 => ?_) | refine cA_d (fun h1 => ?_) (fun h1 => ?_) | refine cA_b (fun h1 => ?_) (fun h1 => ?_) | (exfalso; omega) | (exfalso; simp only [decide_eq_true_eq, decide_eq_false_iff_not] at *; unfold inM at *; omega)))
    all_goals (try exact ⟨rfl, rfl⟩)
  · rw [if_neg h, if_neg h]
    (repeat' (first | simp (maxSteps := 2000000) (disch := omega) only [go_sem, ↓reduceIte, reduceIte, Nat.reduceAdd, Nat.reduceLT, Nat.reduceEqDiff, Nat.reduceLeDiff, Nat.reduceMul] | refine gA_df (fun h1 => ?_) (fun h1 => ?_) | refine gA_dt (fun h1 => ?_) (fun h1 => ?_) | refine cA_d (fun h1 => ?_) (fun h1 => ?_) | refine cA_b (fun h1 => ?_) (fun h1 => ?_) | (exfalso; omega) | (exfalso; simp only [decide_eq_true_eq, decide_eq_false_iff_not] at *; unfold inM at *; omega)))
    all_goals (try exact ⟨rfl, rfl⟩)
theorem wday20_ok (d : Int) : CallsTo Tryd.prog 20 [.int .i64 d] [.p (.int .i64 (wdR d)), .p (.int .i64 (wdE d))] := by
  refine f20_calls (Nat.le_of_ble_eq_true rfl) ?_
  unfold wdR wdE
  by_cases h : 0 ≤ d ∧ d ≤ 36524
  · rw [if_pos h, if_pos h]
    (repeat' (first | simp (maxSteps := 2000000) (disch := omega) only [go_sem, ↓reduceIte, reduceIte, Nat.reduceAdd, Nat.reduceLT, Nat.reduceEqDiff, Nat.reduceLeDiff, Nat.reduceMul] | refine gA_df (fun h1 => ?_) (fun h1 => ?_) | refine gA_dt (fun h1 => ?_) (fun h1 => ?_) | refine cA_d (fun h1 => ?_) (fun h1 => ?_) | refine cA_b (fun h1 => ?_) (fun h1 => ?_) | (exfalso; omega) | (exfalso; simp only [decide_eq_true_eq, decide_eq_false_iff_not] at *; unfold inM at *; omega)))
    all_goals (try exact ⟨rfl, rfl⟩)
  · rw [if_neg h, if_neg h]
    (repeat' (first | simp (maxSteps := 2000000) (disch := omega) only [go_sem, ↓reduceIte, reduceIte, Nat.reduceAdd, Nat.reduceLT, Nat.reduceEqDiff, Nat.reduceLeDiff, Nat.reduceMul] | refine gA_df (fun h1 => ?_) (fun h1 => ?_) | refine gA_dt (fun h1 => ?_) (fun h1 => ?_) | refine cA_d (fun h1 => ?_) (fun h1 => ?_) | refine cA_b (fun h1 => ?_) (fun h1 => ?_) | (exfalso; omega) | (exfalso; simp only [decide_eq_true_eq, decide_eq_false_iff_not] at *; unfold inM at *; omega)))
    all_goals (try exact ⟨rfl, rfl⟩)
theorem wk_ment (id : Nat) : ∀ ws : List Win, mentL id (flat (ws.map Win.av)) = false
  | [] => rfl
  | x :: r => by
    rw [List.map_cons, flat]
    simp only [Win.av, AV.cells, List.cons_append, List.nil_append, mentL, AV.ment, Bool.false_or]
    exact wk_ment id r
theorem wk_kill (id : Nat) : ∀ ws : List Win, killL id (flat (ws.map Win.av)) = flat (ws.map Win.av)
  | [] => rfl
  | x :: r => by
    rw [List.map_cons, flat]
    simp only [Win.av, AV.cells, List.cons_append, List.nil_append, killL, kill_int]
    rw [wk_kill id r]
theorem wk_free : ∀ ws : List Win, freeL (flat (ws.map Win.av)) = true
  | [] => rfl
  | x :: r => by
    rw [List.map_cons, flat]
    simp only [Win.av, AV.cells, List.cons_append, List.nil_append, freeL, AV.free, Bool.true_and]
    exact wk_free r
theorem wk_cells {ws : List Win} : ∀ y ∈ ws.map Win.av, y.cells.length = 2 := by
  intro y hy
  obtain ⟨x, _, rfl⟩ := List.mem_map.1 hy
  rfl
theorem wk_len (ws : List Win) : (flat (ws.map Win.av)).length = ws.length * 2 := by rw [flat_length wk_cells, List.length_map]
theorem wk_one (ws : List Win) : allOne (flat (ws.map Win.av)) = true := by
  induction ws with
  | nil => rfl
  | cons x r ih =>
    rw [List.map_cons, flat]
    simp only [Win.av, AV.cells, List.cons_append, List.nil_append, allOne, AV.one, Bool.true_and]
    exact ih
theorem wk_whole {ws : List Win} (hl : ws.length = 7) {off : Nat} (ho : off = 0) {k : AV → Prop} (h : Run (k (.agg (flat (ws.map Win.av))))) : Run (ldK true 14 (flat (ws.map Win.av)) off k) := by
  subst ho
  rw [ldK_whole ⟨by rw [wk_len, hl], wk_one ws⟩]
  exact h
theorem wk_part {ws : List Win} {x : Win} {j off : Nat} (hx : ws[j]? = some x) (ho : off = j * 2) {k : AV → Prop} (h : Run (k x.av)) : Run (ldK true 2 (flat (ws.map Win.av)) off k) := by
  subst ho
  have hi : j < ws.length := (List.getElem?_eq_some_iff.1 hx).1
  have e : ws.drop j = x :: ws.drop (j + 1) := by
    rw [List.drop_eq_getElem_cons hi]
    rw [List.getElem?_eq_getElem hi] at hx
    rw [Option.some.inj hx]
  have e2 : ((flat (ws.map Win.av)).drop (j * 2)).take 2 = [.int .i64 x.a, .int .i64 x.b] := by
    rw [flat_drop wk_cells, ← List.map_drop, e]
    rfl
  refine ⟨by rw [wk_len]; omega, by rw [e2]; rfl, ?_⟩
  rw [e2]
  exact h
theorem wk_at {ws : List Win} {x : Win} {j off : Nat} (hx : ws[j]? = some x) (o : Nat) (ho : off = j * 2 + o) (h2 : o < 2) : (flat (ws.map Win.av))[off]? = [AV.int .i64 x.a, .int .i64 x.b][o]? := by
  subst ho
  exact flat_at wk_cells (by rw [List.getElem?_map, hx]; rfl) h2
theorem wk_a {ws : List Win} {x : Win} {j off : Nat} (hx : ws[j]? = some x) (ho : off = j * 2) {k : AV → Prop} (h : Run (k (.int .i64 x.a))) : Run (withV (flat (ws.map Win.av))[off]? k) := by
  rw [wk_at hx 0 (by omega) (by omega)]; exact h
theorem wk_b {ws : List Win} {x : Win} {j off : Nat} (hx : ws[j]? = some x) (ho : off = j * 2 + 1) {k : AV → Prop} (h : Run (k (.int .i64 x.b))) : Run (withV (flat (ws.map Win.av))[off]? k) := by
  rw [wk_at hx 1 (by omega) (by omega)]; exact h
theorem run_idx {a b c : Prop} (h1 : a) (h2 : b) (h : Run c) : Run (a ∧ b ∧ c) := ⟨h1, h2, h⟩
def dayOk (x : Win) : Bool := decide (0 ≤ x.a ∧ x.a ≤ x.b ∧ x.b ≤ 86400)
attribute [-go_sem] ldK_part
set_option maxHeartbeats 4000000 in
theorem valid37_ok (ws : List Win) (hl : ws.length = 7) : CallsTo Tryd.prog 37 [.agg (flat (ws.map Win.av))] [.p (.bool (ws.all dayOk))] := by
  refine f37_calls (Nat.le_of_ble_eq_true rfl) ?_
  simp (maxSteps := 2000000) (disch := omega) only [go_sem, ↓reduceIte, reduceIte, Nat.reduceAdd, Nat.reduceLT, Nat.reduceEqDiff, Nat.reduceLeDiff, Nat.reduceMul, wk_ment, wk_kill]
  refine wk_whole hl rfl ?_
  simp (maxSteps := 2000000) (disch := omega) only [go_sem, ↓reduceIte, reduceIte, Nat.reduceAdd, Nat.reduceLT, Nat.reduceEqDiff, Nat.reduceLeDiff, Nat.reduceMul, wk_ment, wk_kill]
  refine loop_of f37L4_is (fun s : List Win × List Win => ⟨[(6, .int .i64 s.1.length), (5, .agg (flat (ws.map Win.av)))], []⟩)
    (fun s => ws = s.1 ++ s.2 ∧ ws.all dayOk = s.2.all dayOk) (fun s => s.2.length) ([], ws) ⟨rfl, rfl⟩ (le_intro (by simp only [allLook, allLookM, go_sem, ↓reduceIte, reduceIte, Nat.reduceAdd, Nat.reduceLT, Nat.reduceEqDiff, Nat.reduceLeDiff, Nat.reduceMul]; try simp) (by simp only [allLook, allLookM, go_sem, ↓reduceIte, reduceIte, Nat.reduceAdd, Nat.reduceLT, Nat.reduceEqDiff, Nat.reduceLeDiff, Nat.reduceMul]; try simp)) ?_
  rintro ⟨d, r⟩ R ⟨hdr, he⟩ hR
  simp only at hdr he
  have hlen : ws.length = d.length + r.length := by rw [hdr, List.length_append]
  simp (maxSteps := 2000000) (disch := omega) only [go_sem, ↓reduceIte, reduceIte, Nat.reduceAdd, Nat.reduceLT, Nat.reduceEqDiff, Nat.reduceLeDiff, Nat.reduceMul, wk_ment, wk_kill]
  cases r with
  | nil =>
    rw [List.length_nil] at hlen
    refine cA_d (fun h => absurd h (by omega)) (fun _ => ?_)
    rw [he]
    simp (maxSteps := 2000000) (disch := omega) only [go_sem, ↓reduceIte, reduceIte, Nat.reduceAdd, Nat.reduceLT, Nat.reduceEqDiff, Nat.reduceLeDiff, Nat.reduceMul]
    all_goals (try rfl)
  | cons x r =>
    rw [List.length_cons] at hlen
    refine cA_d (fun _ => ?_) (fun h => absurd (show ((d.length : Nat) : Int) < 7 by omega) h)
    have hx : ws[d.length]? = some x := by rw [hdr]; exact get_mid d r x _ rfl
    rw [List.all_cons] at he
    simp (maxSteps := 2000000) (disch := omega) only [go_sem, ↓reduceIte, reduceIte, Nat.reduceAdd, Nat.reduceLT, Nat.reduceEqDiff, Nat.reduceLeDiff, Nat.reduceMul, wk_ment, wk_kill]
    refine ixR_map (f := Win.av) d.length rfl hx hl (fun _ => rfl) (fun _ => rfl) ?_
    by_cases hd : 0 ≤ x.a ∧ x.a ≤ x.b ∧ x.b ≤ 86400
    · have hd1 : dayOk x = true := decide_eq_true hd
      rw [hd1, Bool.true_and] at he
      (repeat' (first | simp (maxSteps := 2000000) (disch := omega) only [go_sem, ↓reduceIte, reduceIte, Nat.reduceAdd, Nat.reduceLT, Nat.reduceEqDiff, Nat.reduceLeDiff, Nat.reduceMul, wk_ment, wk_kill, Win.av] | refine gA_df (fun _ => ?_) (fun h => absurd h (by omega))))
      refine cA_d (fun h => absurd h (by omega)) (fun _ => ?_)
      simp (maxSteps := 2000000) (disch := omega) only [go_sem, ↓reduceIte, reduceIte, Nat.reduceAdd, Nat.reduceLT, Nat.reduceEqDiff, Nat.reduceLeDiff, Nat.reduceMul, wk_ment, wk_kill]
      refine hR (d ++ [x], r) _ ⟨by rw [hdr]; simp, he⟩ (by simp) ?_
      exact (le_intro (by simp only [allLook, allLookM, go_sem, ↓reduceIte, reduceIte, Nat.reduceAdd, Nat.reduceLT, Nat.reduceEqDiff, Nat.reduceLeDiff, Nat.reduceMul, wk_ment, List.length_append, List.length_cons, List.length_nil, show ((d.length : Nat) : Int) + 1 = (d.length + (0 + 1) : Nat) by omega]; try simp) (by simp only [allLook, allLookM, go_sem, ↓reduceIte, reduceIte, Nat.reduceAdd, Nat.reduceLT, Nat.reduceEqDiff, Nat.reduceLeDiff, Nat.reduceMul, wk_ment, List.length_append, List.length_cons, List.length_nil, show ((d.length : Nat) : Int) + 1 = (d.length + (0 + 1) : Nat) by omega]; try simp))
    · have hd1 : dayOk x = false := decide_eq_false hd
      rw [hd1, Bool.false_and] at he
      rw [he]
      (repeat' (first | simp (maxSteps := 2000000) (disch := omega) only [go_sem, ↓reduceIte, reduceIte, Nat.reduceAdd, Nat.reduceLT, Nat.reduceEqDiff, Nat.reduceLeDiff, Nat.reduceMul, wk_ment, wk_kill, Win.av] | refine gA_df (fun _ => ?_) (fun _ => ?_) | refine cA_d (fun _ => ?_) (fun h => absurd h (by omega))))
end Go.Proofs.YtaogafgadgppnaaDoor
