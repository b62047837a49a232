import Derived.Test.YtpclkldmkmmmhaaS17
namespace Go.Proofs.Ytpclkldmkmmmhaa
open Go Go.AI Go.Proofs
set_option linter.unusedSimpArgs false
set_option linter.unusedVariables false
set_option maxRecDepth 4000
def wP : List Product := [⟨[], 3, 25, 1, 400⟩]
def wL : List Sale := [⟨0, 10, 5, 0, 0⟩, ⟨0, 15, 20, 0, 7⟩]
def wB : List Sale := [⟨0, 10, 5, 0, 0⟩, ⟨0, 14, 1, 0, 0⟩]
theorem wP_ok : ∀ x ∈ wP, x.ok := by intro x hx; simp [wP] at hx; subst hx; simp [Product.ok, In64]
theorem wL_ok : ∀ x ∈ wL, x.ok := by intro x hx; simp [wL] at hx; rcases hx with rfl | rfl <;> simp [Sale.ok, In64]
theorem wB_ok : ∀ x ∈ wB, x.ok := by intro x hx; simp [wB] at hx; rcases hx with rfl | rfl <;> simp [Sale.ok, In64]
theorem w_find (s : Int) (hs : In64 s) (r : Int × Bool) (h : findG wL s 0 = r) : CallsTo Try.prog 14 [.sl (wL.map Sale.av), .int .i64 s] [.p (.int .i64 r.1), .p (.bool r.2)] := by
  subst h
  exact find_ok wL s wL_ok hs (by decide)
theorem w_dep : CallsTo Try.prog 18 [.sl (wP.map Product.av), .sl (wL.map Sale.av)] [.p (.int .i64 625), .p (.int .i64 0)] := by
  have h := dep18_ok wP wL wP_ok wL_ok (by decide) (by decide)
  rwa [show depS wP wL = (625, 0) from by decide +kernel] at h
theorem w_placed : CallsTo Try.prog 20 [.sl (wP.map Product.av), .sl (wL.map Sale.av), .agg [.int .i64 0, .int .i64 8]] [.fresh 52 3 ([(⟨3, 1, 10000⟩ : Placing)].map Placing.av), .p (.int .i64 0)] := by
  have h := placed20_ok wP wL ⟨0, 8⟩ wP_ok wL_ok (by simp [Win.ok, In64]) (by decide) (by decide)
  rwa [show placedS wP wL ⟨0, 8⟩ = ([⟨3, 1, 10000⟩], 0) from by decide +kernel] at h
theorem w_open : CallsTo Try.prog 23 [.sl (wL.map Sale.av), .sl ([11, 99].map (AV.int .i64)), .int .i64 0] [.fresh 3 1 ([10, 12, 13, 14, 15].map (AV.int .i64)), .p (.int .i64 0)] := by
  have h := open23_ok wL [11, 99] 0 wL_ok (by simp [In64]) (by decide) (by decide)
  rwa [show openS wL [11, 99] 0 = ([10, 12, 13, 14, 15], 0) from by decide +kernel] at h
theorem w_check (l : List Sale) (hl : ∀ x ∈ l, x.ok) (hn : l.length ≤ 1048576) (r : Int) (h : checkS 1 1 l = r) : CallsTo Try.prog 11 [.sl (wP.map Product.av), .sl (l.map Sale.av), .int .i64 1] [.p (.int .i64 r)] := by
  subst h
  exact check11_ok wP l 1 hl (by simp [In64]) hn (by decide)
set_option maxHeartbeats 4000000 in
theorem awake13_ok : CallsTo Try.prog 13 [] [.p (.bool true)] := by
  refine f13_calls (Nat.le_of_ble_eq_true rfl) ?_
  simp (maxSteps := 2000000) (disch := omega) only [go_sem, ↓reduceIte, reduceIte, Nat.reduceAdd, Nat.reduceLT, Nat.reduceEqDiff, Nat.reduceLeDiff, Nat.reduceMul]
  refine bsK_intro (xs := wP.map Product.av) rfl (by decide) (by decide) (by rfl) ?_
  simp (maxSteps := 2000000) (disch := omega) only [go_sem, ↓reduceIte, reduceIte, Nat.reduceAdd, Nat.reduceLT, Nat.reduceEqDiff, Nat.reduceLeDiff, Nat.reduceMul]
  refine bsK_intro (xs := wL.map Sale.av) rfl (by decide) (by decide) (by rfl) ?_
  simp (maxSteps := 2000000) (disch := omega) only [go_sem, ↓reduceIte, reduceIte, Nat.reduceAdd, Nat.reduceLT, Nat.reduceEqDiff, Nat.reduceLeDiff, Nat.reduceMul]
  refine bsK_intro (xs := wB.map Sale.av) rfl (by decide) (by decide) (by rfl) ?_
  simp (maxSteps := 2000000) (disch := omega) only [go_sem, ↓reduceIte, reduceIte, Nat.reduceAdd, Nat.reduceLT, Nat.reduceEqDiff, Nat.reduceLeDiff, Nat.reduceMul]
  refine callv_2 (by rfl) (w_find 14 (by simp [In64]) (0, true) (by decide +kernel)) (by rfl) ?_
  simp (maxSteps := 2000000) (disch := omega) only [go_sem, ↓reduceIte, reduceIte, Nat.reduceAdd, Nat.reduceLT, Nat.reduceEqDiff, Nat.reduceLeDiff, Nat.reduceMul]
  refine callv_2 (by rfl) (w_find 15 (by simp [In64]) (1, true) (by decide +kernel)) (by rfl) ?_
  simp (maxSteps := 2000000) (disch := omega) only [go_sem, ↓reduceIte, reduceIte, Nat.reduceAdd, Nat.reduceLT, Nat.reduceEqDiff, Nat.reduceLeDiff, Nat.reduceMul]
  refine callv_2 (by rfl) (w_find 35 (by simp [In64]) (0, false) (by decide +kernel)) (by rfl) ?_
  simp (maxSteps := 2000000) (disch := omega) only [go_sem, ↓reduceIte, reduceIte, Nat.reduceAdd, Nat.reduceLT, Nat.reduceEqDiff, Nat.reduceLeDiff, Nat.reduceMul]
  refine callv_2 (by rfl) w_dep (by rfl) ?_
  simp (maxSteps := 2000000) (disch := omega) only [go_sem, ↓reduceIte, reduceIte, Nat.reduceAdd, Nat.reduceLT, Nat.reduceEqDiff, Nat.reduceLeDiff, Nat.reduceMul]
  refine callv_f2 (by rfl) w_placed (Placing.flat_scal _) (by rfl) ?_
  simp (maxSteps := 2000000) (disch := omega) only [go_sem, ↓reduceIte, reduceIte, Nat.reduceAdd, Nat.reduceLT, Nat.reduceEqDiff, Nat.reduceLeDiff, Nat.reduceMul]
  refine bsK_intro (xs := [11, 99].map (AV.int .i64)) rfl (by decide) (by decide) (by rfl) ?_
  simp (maxSteps := 2000000) (disch := omega) only [go_sem, ↓reduceIte, reduceIte, Nat.reduceAdd, Nat.reduceLT, Nat.reduceEqDiff, Nat.reduceLeDiff, Nat.reduceMul]
  refine callv_f2 (by rfl) w_open (by decide) (by rfl) ?_
  simp (maxSteps := 2000000) (disch := omega) only [go_sem, ↓reduceIte, reduceIte, Nat.reduceAdd, Nat.reduceLT, Nat.reduceEqDiff, Nat.reduceLeDiff, Nat.reduceMul]
  refine callv_1 (by rfl) (w_check wL wL_ok (by decide) 0 (by decide +kernel)) (by rfl) ?_
  simp (maxSteps := 2000000) (disch := omega) only [go_sem, ↓reduceIte, reduceIte, Nat.reduceAdd, Nat.reduceLT, Nat.reduceEqDiff, Nat.reduceLeDiff, Nat.reduceMul, Int.reduceEq, Int.reduceNe, Int.reduceLT, Int.reduceLE]
  refine callv_1 (by rfl) (w_check wB wB_ok (by decide) 6 (by decide +kernel)) (by rfl) ?_
  simp (maxSteps := 2000000) (disch := omega) only [go_sem, ↓reduceIte, reduceIte, Nat.reduceAdd, Nat.reduceLT, Nat.reduceEqDiff, Nat.reduceLeDiff, Nat.reduceMul, Int.reduceEq, Int.reduceNe, Int.reduceLT, Int.reduceLE]
  refine bsK_intro (xs := [(⟨3, 1, 10000⟩ : Placing)].map Placing.av) rfl (by decide) (by decide) (by rfl) ?_
  simp (maxSteps := 2000000) (disch := omega) only [go_sem, ↓reduceIte, reduceIte, Nat.reduceAdd, Nat.reduceLT, Nat.reduceEqDiff, Nat.reduceLeDiff, Nat.reduceMul, Int.reduceEq, Int.reduceNe, Int.reduceLT, Int.reduceLE]
  refine callv_1 (by rfl) (same22_ok [⟨3, 1, 10000⟩] [⟨3, 1, 10000⟩] (by decide) (by decide)) (by rfl) ?_
  simp (maxSteps := 2000000) (disch := omega) only [go_sem, ↓reduceIte, reduceIte, Nat.reduceAdd, Nat.reduceLT, Nat.reduceEqDiff, Nat.reduceLeDiff, Nat.reduceMul, Int.reduceEq, Int.reduceNe, Int.reduceLT, Int.reduceLE]
  refine bsK_intro (xs := [10, 12, 13, 14, 15].map (AV.int .i64)) rfl (by decide) (by decide) (by rfl) ?_
  simp (maxSteps := 2000000) (disch := omega) only [go_sem, ↓reduceIte, reduceIte, Nat.reduceAdd, Nat.reduceLT, Nat.reduceEqDiff, Nat.reduceLeDiff, Nat.reduceMul, Int.reduceEq, Int.reduceNe, Int.reduceLT, Int.reduceLE]
  refine callv_1 (by rfl) (ints25_ok [10, 12, 13, 14, 15] [10, 12, 13, 14, 15] (by decide) (by decide)) (by rfl) ?_
  simp (maxSteps := 2000000) (disch := omega) only [go_sem, ↓reduceIte, reduceIte, Nat.reduceAdd, Nat.reduceLT, Nat.reduceEqDiff, Nat.reduceLeDiff, Nat.reduceMul, Int.reduceEq, Int.reduceNe, Int.reduceLT, Int.reduceLE]
  have b1 := block16_ok 16 (by simp [In64])
  rw [show (if (16 : Int) < 0 then -1 else 16 / 16) = 1 from by decide] at b1
  refine call_1 b1 (by rfl) (by rfl) ?_
  simp (maxSteps := 2000000) (disch := omega) only [go_sem, ↓reduceIte, reduceIte, Nat.reduceAdd, Nat.reduceLT, Nat.reduceEqDiff, Nat.reduceLeDiff, Nat.reduceMul, Int.reduceEq, Int.reduceNe, Int.reduceLT, Int.reduceLE]
  have b2 := block16_ok (-1) (by simp [In64])
  rw [show (if (-1 : Int) < 0 then -1 else (-1) / 16) = -1 from by decide] at b2
  refine call_1 b2 (by rfl) (by rfl) ?_
  simp (maxSteps := 2000000) (disch := omega) only [go_sem, ↓reduceIte, reduceIte, Nat.reduceAdd, Nat.reduceLT, Nat.reduceEqDiff, Nat.reduceLeDiff, Nat.reduceMul, Int.reduceEq, Int.reduceNe, Int.reduceLT, Int.reduceLE]
end Go.Proofs.Ytpclkldmkmmmhaa
