import Derived.Test.YtaogafgadgppnaaDoorV11
namespace Go.Proofs.YtaogafgadgppnaaDoor
open Go Go.AI Go.Proofs
set_option linter.unusedSimpArgs false
set_option linter.unusedVariables false
set_option maxRecDepth 4000
def exS : List UInt8 := [49, 32, 48, 49, 58, 48, 49, 58, 48, 49]
def exL : List Win := [⟨5, 9⟩, ⟨0, 5⟩, ⟨7, 7⟩, ⟨20, 30⟩]
def exM : List Win := [⟨0, 9⟩, ⟨20, 30⟩]
def exW : List Win := [⟨28800, 43200⟩, ⟨0, 0⟩, ⟨0, 0⟩, ⟨0, 0⟩, ⟨0, 0⟩, ⟨0, 0⟩, ⟨0, 0⟩]
theorem ex_fmt : fmtS 90061 = exS := by
  unfold fmtS
  rw [dec_small (by decide)]
  decide +kernel
theorem ofV_ex : ofV (Value.string ⟨⟨[49, 32, 48, 49, 58, 48, 49, 58, 48, 49]⟩⟩) = some (.str exS) := ofV_str (by decide)
theorem ex_date : CallsTo Tryd.prog 17 [.int .i64 90061] [.p (.int .i64 1), .p (.int .i64 3661), .p (.int .i64 0)] := date17_ok 90061 (by decide)
theorem ex_format : CallsTo Tryd.prog 13 [.int .i64 90061] [.p (.str exS), .p (.int .i64 0)] := by
  have h := format13_of 90061 (by decide) (itoa_small 1 (by decide))
  rwa [ex_fmt] at h
theorem ex_scan : scanT exS = 90061 := by decide +kernel
theorem ex_parse : CallsTo Tryd.prog 15 [.str exS] [.p (.int .i64 90061), .p (.int .i64 0)] := by
  have h := parse15_of exS (by decide) exS 0 (by rw [ex_scan]; exact ex_format)
  rwa [if_pos ⟨rfl, rfl⟩, if_pos ⟨rfl, rfl⟩, ex_scan] at h
theorem ex_merge : CallsTo Tryd.prog 25 [.sl (exL.map Win.av)] [.fresh 34 2 (exM.map Win.av), .p (.int .i64 0)] := by
  have h := merge25_ok exL (by decide)
  rwa [show mergeR exL = exM by decide +kernel, show mergeE exL = 0 by decide +kernel] at h
theorem ex_next : CallsTo Tryd.prog 23 [.agg (flat (exW.map Win.av)), .int .i64 43200] [.p (.int .i64 633600), .p (.int .i64 0)] := by
  have h := next23_ok exW 43200 rfl
  rwa [show nxt exW 43200 = (633600, 0) by decide +kernel] at h
set_option maxHeartbeats 8000000 in
theorem awake12_ok : CallsTo Tryd.prog 12 [] [.p (.bool true)] := by
  refine f12_calls (Nat.le_of_ble_eq_true rfl) ?_
  simp (maxSteps := 2000000) (disch := omega) only [go_sem, ↓reduceIte, reduceIte, Nat.reduceAdd, Nat.reduceLT, Nat.reduceEqDiff, Nat.reduceLeDiff, Nat.reduceMul, ofV_ex]
  refine call_3 ex_date (by rfl) (by rfl) ?_
  simp (maxSteps := 2000000) (disch := omega) only [go_sem, ↓reduceIte, reduceIte, Nat.reduceAdd, Nat.reduceLT, Nat.reduceEqDiff, Nat.reduceLeDiff, Nat.reduceMul, ofV_ex]
  refine call_2 ex_format (by rfl) (by rfl) ?_
  simp (maxSteps := 2000000) (disch := omega) only [go_sem, ↓reduceIte, reduceIte, Nat.reduceAdd, Nat.reduceLT, Nat.reduceEqDiff, Nat.reduceLeDiff, Nat.reduceMul, ofV_ex]
  refine call_2 ex_parse (by rfl) (by rfl) ?_
  simp (maxSteps := 2000000) (disch := omega) only [go_sem, ↓reduceIte, reduceIte, Nat.reduceAdd, Nat.reduceLT, Nat.reduceEqDiff, Nat.reduceLeDiff, Nat.reduceMul, ofV_ex]
  refine bsK_intro (xs := exL.map Win.av) rfl (by decide) (by decide) (by rfl) ?_
  simp (maxSteps := 2000000) (disch := omega) only [go_sem, ↓reduceIte, reduceIte, Nat.reduceAdd, Nat.reduceLT, Nat.reduceEqDiff, Nat.reduceLeDiff, Nat.reduceMul]
  refine callv_f2 (by rfl) ex_merge (win_scal _) (by rfl) ?_
  simp (maxSteps := 2000000) (disch := omega) only [go_sem, ↓reduceIte, reduceIte, Nat.reduceAdd, Nat.reduceLT, Nat.reduceEqDiff, Nat.reduceLeDiff, Nat.reduceMul]
  refine call_2 ex_next (by rfl) (by rfl) ?_
  (repeat' (first | simp (maxSteps := 2000000) (disch := omega) only [go_sem, ↓reduceIte, reduceIte, Nat.reduceAdd, Nat.reduceLT, Nat.reduceEqDiff, Nat.reduceLeDiff, Nat.reduceMul, Int.reduceEq, Int.reduceNe] | refine gA_dt (fun _ => ?_) (fun h => absurd rfl h) | refine bsK_intro (xs := exM.map Win.av) rfl (by decide) (by decide) (by rfl) ?_ | refine callv_1 (by rfl) (same27_ok exM (by decide)) (by rfl) ?_))
end Go.Proofs.YtaogafgadgppnaaDoor
