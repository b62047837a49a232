import Derived.Test.YtpclkldmkmmmhaaS3
namespace Go.Proofs.Ytpclkldmkmmmhaa
open Go Go.AI Go.Proofs
set_option linter.unusedSimpArgs false
set_option linter.unusedVariables false
set_option maxRecDepth 4000
def faultS (x : Sale) (np nq : Int) : Int :=
  if x.p < 0 ∨ np ≤ x.p then 7 else if x.f < 0 ∨ 1073741824 < x.f ∨ x.c < 1 ∨ 1000 < x.c ∨ 1073741824 < x.f + x.c - 1 then 1 else if x.r < 0 ∨ nq ≤ x.r then 7 else if x.t < 0 ∨ 3155759999 < x.t then 1 else 0
theorem fault28_ok (x : Sale) (np nq : Int) (hx : x.ok) (h1 : In64 np) (h2 : In64 nq) : CallsTo Try.prog 28 [x.av, .int .i64 np, .int .i64 nq] [.p (.int .i64 (faultS x np nq))] := by
  obtain ⟨p, f, c, r, t⟩ := x
  unfold Sale.ok In64 at hx
  unfold In64 at h1 h2
  simp only [] at hx
  refine f28_calls (Nat.le_of_ble_eq_true rfl) ?_
  unfold Sale.av
  (repeat' (first | refine gA_dt (fun h => ?_) (fun h => ?_) | refine gA_df (fun h => ?_) (fun h => ?_) | refine cA_d (fun h => ?_) (fun h => ?_) | simp (maxSteps := 2000000) (disch := omega) only [go_sem, ↓reduceIte, reduceIte, Nat.reduceAdd, Nat.reduceLT, Nat.reduceEqDiff, Nat.reduceLeDiff, Nat.reduceMul]))
  all_goals (simp only [AV.int.injEq, true_and, faultS])
  all_goals ((repeat' split) <;> omega)
theorem one33_ok (x : Sale) (np nq : Int) (hx : x.ok) (h1 : In64 np) (h2 : In64 nq) : CallsTo Try.prog 33 [.int .i64 np, x.av, .int .i64 nq] [.p (.int .i64 (faultS x np nq))] := by
  obtain ⟨p, f, c, r, t⟩ := x
  unfold Sale.ok In64 at hx
  unfold In64 at h1 h2
  simp only [] at hx
  refine f33_calls (Nat.le_of_ble_eq_true rfl) ?_
  unfold Sale.av
  (repeat' (first | refine gA_dt (fun h => ?_) (fun h => ?_) | refine gA_df (fun h => ?_) (fun h => ?_) | refine cA_d (fun h => ?_) (fun h => ?_) | simp (maxSteps := 2000000) (disch := omega) only [go_sem, ↓reduceIte, reduceIte, Nat.reduceAdd, Nat.reduceLT, Nat.reduceEqDiff, Nat.reduceLeDiff, Nat.reduceMul]))
  all_goals (simp only [AV.int.injEq, true_and, faultS])
  all_goals ((repeat' split) <;> omega)
end Go.Proofs.Ytpclkldmkmmmhaa
