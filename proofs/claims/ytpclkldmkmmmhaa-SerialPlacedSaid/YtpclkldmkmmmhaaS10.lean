import Derived.Test.YtpclkldmkmmmhaaS9
namespace Go.Proofs.Ytpclkldmkmmmhaa
open Go Go.AI Go.Proofs
set_option linter.unusedSimpArgs false
set_option linter.unusedVariables false
set_option maxRecDepth 4000
def gramsG (x : Placing) : List Placing → Int
  | [] => 0
  | y :: r => if y.pr = x.pr ∧ y.mat = x.mat then y.g else gramsG x r
theorem grams26_ok (l : List Placing) (x : Placing) (hn : l.length ≤ 1048576) : CallsTo Try.prog 26 [.sl (l.map Placing.av), x.av] [.p (.int .i64 (gramsG x l))] := by
  obtain ⟨p, m, g⟩ := x
  refine f26_calls (Nat.le_of_ble_eq_true rfl) ?_
  rw [show (Placing.mk p m g).av = .agg [.int .i64 p, .int .i64 m, .int .i64 g] from rfl]
  simp (maxSteps := 2000000) (disch := omega) only [go_sem, ↓reduceIte, reduceIte, Nat.reduceAdd, Nat.reduceLT, Nat.reduceEqDiff, Nat.reduceLeDiff, Nat.reduceMul]
  refine loop_of f26L4_is (fun i : Nat => ⟨[(5, .int .i64 i), (0, .sl (l.map Placing.av)), (3, .ad 3 0 0)], [(3, .box [.int .i64 p, .int .i64 m, .int .i64 g])]⟩) (fun i => i ≤ l.length ∧ gramsG ⟨p, m, g⟩ l = gramsG ⟨p, m, g⟩ (l.drop i)) (fun i => l.length - i) 0 ⟨Nat.zero_le _, rfl⟩ (le_intro (by simp only [allLook, allLookM, go_sem, ↓reduceIte, reduceIte, Nat.reduceAdd, Nat.reduceLT, Nat.reduceEqDiff, Nat.reduceLeDiff, Nat.reduceMul]; try simp) (by simp only [allLook, allLookM, go_sem, ↓reduceIte, reduceIte, Nat.reduceAdd, Nat.reduceLT, Nat.reduceEqDiff, Nat.reduceLeDiff, Nat.reduceMul]; try simp)) ?_
  rintro i R ⟨hi, hf⟩ hR
  simp (maxSteps := 2000000) (disch := omega) only [go_sem, ↓reduceIte, reduceIte, Nat.reduceAdd, Nat.reduceLT, Nat.reduceEqDiff, Nat.reduceLeDiff, Nat.reduceMul]
  refine cA_d (fun h1 => ?_) (fun h1 => ?_)
  · have hlt : i < l.length := by omega
    rw [List.drop_eq_getElem_cons hlt, gramsG] at hf
    simp only [] at hf
    simp (maxSteps := 2000000) (disch := omega) only [go_sem, ↓reduceIte, reduceIte, Nat.reduceAdd, Nat.reduceLT, Nat.reduceEqDiff, Nat.reduceLeDiff, Nat.reduceMul]
    refine idxS_map i rfl hlt (fun _ => rfl) ?_
    (repeat' (first | refine gA_dt (fun h => ?_) (fun h => ?_) | refine gA_df (fun h => ?_) (fun h => ?_) | refine cA_d (fun h => ?_) (fun h => ?_) | refine idxS_map i rfl hlt (fun _ => rfl) ?_ | simp (maxSteps := 2000000) (disch := omega) only [go_sem, ↓reduceIte, reduceIte, Nat.reduceAdd, Nat.reduceLT, Nat.reduceEqDiff, Nat.reduceLeDiff, Nat.reduceMul, Placing.av]))
    all_goals first | (rw [if_pos (by omega)] at hf; rw [hf]; done) | (rw [if_neg (by omega)] at hf; exact hR (i + 1) _ ⟨hlt, hf⟩ (by omega) (le_intro (by simp only [allLook, allLookM, go_sem, ↓reduceIte, reduceIte, Nat.reduceAdd, Nat.reduceLT, Nat.reduceEqDiff, Nat.reduceLeDiff, Nat.reduceMul]; try simp) (by simp only [allLook, allLookM, go_sem, ↓reduceIte, reduceIte, Nat.reduceAdd, Nat.reduceLT, Nat.reduceEqDiff, Nat.reduceLeDiff, Nat.reduceMul]; try simp)))
  · simp (maxSteps := 2000000) (disch := omega) only [go_sem, ↓reduceIte, reduceIte, Nat.reduceAdd, Nat.reduceLT, Nat.reduceEqDiff, Nat.reduceLeDiff, Nat.reduceMul]
    have : l.length = i := by omega
    subst this
    simp [hf, gramsG]
end Go.Proofs.Ytpclkldmkmmmhaa
