import Derived.Test.YtpclkldmkmmmhaaS10
import Derived.Test.YtpclkldmkmmmhaaSB
namespace Go.Proofs.Ytpclkldmkmmmhaa
open Go Go.AI Go.Proofs
set_option linter.unusedSimpArgs false
set_option linter.unusedVariables false
set_option maxRecDepth 4000
theorem Sale.cells5 {l : List Sale} : ∀ y ∈ l.map Sale.av, y.cells.length = 5 := by
  intro y hy
  obtain ⟨x, _, rfl⟩ := List.mem_map.1 hy
  rfl
theorem clone29_ok (l : List Sale) (hn : l.length ≤ 1048576) : CallsTo Try.prog 29 [.sl (l.map Sale.av)] [.fresh 48 5 (l.map Sale.av)] := by
  refine f29_calls (Nat.le_of_ble_eq_true rfl) ?_
  simp (maxSteps := 2000000) (disch := omega) only [go_sem, ↓reduceIte, reduceIte, Nat.reduceAdd, Nat.reduceLT, Nat.reduceEqDiff, Nat.reduceLeDiff, Nat.reduceMul]
  refine nlR_ways (fun h => ?_) (fun h => ?_) (fun h => ?_)
  · simp (maxSteps := 2000000) (disch := omega) only [go_sem, ↓reduceIte, reduceIte, Nat.reduceAdd, Nat.reduceLT, Nat.reduceEqDiff, Nat.reduceLeDiff, Nat.reduceMul]
    rw [h]
  all_goals
    simp (maxSteps := 2000000) (disch := omega) only [go_sem, ↓reduceIte, reduceIte, Nat.reduceAdd, Nat.reduceLT, Nat.reduceEqDiff, Nat.reduceLeDiff, Nat.reduceMul]
    refine bsK_intro (xs := []) rfl (by decide) (by decide) (by rfl) ?_
    simp (maxSteps := 2000000) (disch := omega) only [go_sem, ↓reduceIte, reduceIte, Nat.reduceAdd, Nat.reduceLT, Nat.reduceEqDiff, Nat.reduceLeDiff, Nat.reduceMul]
    refine appendA_of (ty := 48) (k := 5) (bytes := 40) (z := [.int .i64 0, .int .i64 0, .int .i64 0, .int .i64 0, .int .i64 0]) (by kernel_rfl) (by kernel_rfl) (by kernel_rfl) rfl ?_
    simp (maxSteps := 2000000) (disch := omega) only [go_sem, ↓reduceIte, reduceIte, Nat.reduceAdd, Nat.reduceLT, Nat.reduceEqDiff, Nat.reduceLeDiff, Nat.reduceMul]
    refine appO_few (by decide) (by decide) (by simp) Sale.cells5 (by simp; omega) ?_
    simp (maxSteps := 2000000) (disch := omega) only [go_sem, ↓reduceIte, reduceIte, Nat.reduceAdd, Nat.reduceLT, Nat.reduceEqDiff, Nat.reduceLeDiff, Nat.reduceMul]
theorem cmp31_ok (x y : Sale) (hx : 0 ≤ x.f ∧ x.f ≤ 1073741824) (hy : 0 ≤ y.f ∧ y.f ≤ 1073741824) : CallsTo Try.prog 31 [x.av, y.av] [.p (.int .i64 (x.f - y.f))] := by
  obtain ⟨p, f, c, r, t⟩ := x
  obtain ⟨p', f', c', r', t'⟩ := y
  simp only [] at hx hy
  refine f31_calls (Nat.le_of_ble_eq_true rfl) ?_
  unfold Sale.av
  simp (maxSteps := 2000000) (disch := omega) only [go_sem, ↓reduceIte, reduceIte, Nat.reduceAdd, Nat.reduceLT, Nat.reduceEqDiff, Nat.reduceLeDiff, Nat.reduceMul]
end Go.Proofs.Ytpclkldmkmmmhaa
