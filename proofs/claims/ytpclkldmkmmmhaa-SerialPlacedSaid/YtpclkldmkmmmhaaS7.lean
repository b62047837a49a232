import Derived.Test.YtpclkldmkmmmhaaS6
namespace Go.Proofs.Ytpclkldmkmmmhaa
open Go Go.AI Go.Proofs
set_option linter.unusedSimpArgs false
set_option linter.unusedVariables false
set_option maxRecDepth 4000
theorem open24_ok (l : List Sale) (paid : List Int) (b : Int) (hl : ∀ x ∈ l, x.ok) (hb : In64 b) (hn : l.length ≤ 1048576) (hm : paid.length ≤ 1048576) :
    CallsTo Try.prog 24 [.sl (l.map Sale.av), .sl (paid.map (AV.int .i64)), .int .i64 b] [.fresh 3 1 ((openS l paid b).1.map (AV.int .i64)), .p (.int .i64 (openS l paid b).2)] := by
  unfold In64 at hb
  refine f24_calls (Nat.le_of_ble_eq_true rfl) ?_
  by_cases hbb : b < 0 ∨ 67108864 < b
  · have hs : openS l paid b = ([], 1) := by unfold openS; rw [if_pos hbb]
    rw [hs]
    (repeat' (first | refine gA_dt (fun h => ?_) (fun h => ?_) | refine gA_df (fun h => ?_) (fun h => ?_) | refine cA_d (fun h => ?_) (fun h => ?_) | simp (maxSteps := 2000000) (disch := omega) only [go_sem, ↓reduceIte, reduceIte, Nat.reduceAdd, Nat.reduceLT, Nat.reduceEqDiff, Nat.reduceLeDiff, Nat.reduceMul]))
    all_goals first | (exfalso; omega) | exact ⟨rfl, trivial⟩
  · have hs : openS l paid b = (openG l paid b 16, 0) := by unfold openS; rw [if_neg hbb]
    rw [hs]
    (repeat' (first | refine gA_df (fun h => ?_) (fun h => ?_) | refine cA_d (fun h => ?_) (fun h => ?_) | simp (maxSteps := 2000000) (disch := omega) only [go_sem, ↓reduceIte, reduceIte, Nat.reduceAdd, Nat.reduceLT, Nat.reduceEqDiff, Nat.reduceLeDiff, Nat.reduceMul]))
    all_goals try (exfalso; omega)
    refine loop_of f24L9_is (fun i : Nat => ⟨[(9, .int .i64 (b * 16 + i)), (8, .own 8), (2, .int .i64 b), (0, .sl (l.map Sale.av)), (1, .sl (paid.map (AV.int .i64)))], [(8, .arr 3 1 ((openG l paid b i).map (AV.int .i64)))]⟩) (fun i => i ≤ 16) (fun i => 16 - i) 0 (Nat.zero_le _) (le_intro (by simp only [allLook, allLookM, go_sem, ↓reduceIte, reduceIte, Nat.reduceAdd, Nat.reduceLT, Nat.reduceEqDiff, Nat.reduceLeDiff, Nat.reduceMul]; try simp) (by simp only [allLook, allLookM, go_sem, ↓reduceIte, reduceIte, Nat.reduceAdd, Nat.reduceLT, Nat.reduceEqDiff, Nat.reduceLeDiff, Nat.reduceMul]; try simp)) ?_
    rintro i R hi hR
    have hlen := openG_len l paid b i
    simp (maxSteps := 2000000) (disch := omega) only [go_sem, ↓reduceIte, reduceIte, Nat.reduceAdd, Nat.reduceLT, Nat.reduceEqDiff, Nat.reduceLeDiff, Nat.reduceMul]
    refine cA_d (fun h1 => ?_) (fun h1 => ?_)
    · have hr := openG_succ l paid b i
      have hs1 : In64 (b * 16 + i) := by unfold In64; omega
      simp (maxSteps := 2000000) (disch := omega) only [go_sem, ↓reduceIte, reduceIte, Nat.reduceAdd, Nat.reduceLT, Nat.reduceEqDiff, Nat.reduceLeDiff, Nat.reduceMul]
      refine call_2 (find15_ok l (b * 16 + i) hl hs1 hn) (by rfl) (by rfl) ?_
      simp (maxSteps := 2000000) (disch := omega) only [go_sem, ↓reduceIte, reduceIte, Nat.reduceAdd, Nat.reduceLT, Nat.reduceEqDiff, Nat.reduceLeDiff, Nat.reduceMul]
      refine gA_bt (fun h2 => ?_) (fun h2 => ?_)
      · simp (maxSteps := 2000000) (disch := omega) only [go_sem, ↓reduceIte, reduceIte, Nat.reduceAdd, Nat.reduceLT, Nat.reduceEqDiff, Nat.reduceLeDiff, Nat.reduceMul]
        refine call_1 (has27_ok paid (b * 16 + i) hm) (by rfl) (by rfl) ?_
        simp (maxSteps := 2000000) (disch := omega) only [go_sem, ↓reduceIte, reduceIte, Nat.reduceAdd, Nat.reduceLT, Nat.reduceEqDiff, Nat.reduceLeDiff, Nat.reduceMul]
        refine cA_d (fun h3 => ?_) (fun h3 => ?_)
        · have hp : openP l paid (b * 16 + i) = true := by simp [openP, h2, h3]
          rw [if_pos hp] at hr
          simp (maxSteps := 2000000) (disch := omega) only [go_sem, ↓reduceIte, reduceIte, Nat.reduceAdd, Nat.reduceLT, Nat.reduceEqDiff, Nat.reduceLeDiff, Nat.reduceMul]
          refine bsK_intro (xs := [.int .i64 (b * 16 + i)]) rfl (by decide) (by decide) (by rfl) ?_
          simp (maxSteps := 2000000) (disch := omega) only [go_sem, ↓reduceIte, reduceIte, Nat.reduceAdd, Nat.reduceLT, Nat.reduceEqDiff, Nat.reduceLeDiff, Nat.reduceMul]
          refine appendA_of (ty := 3) (k := 1) (bytes := 8) (z := [.int .i64 0]) (by kernel_rfl) (by kernel_rfl) (by kernel_rfl) rfl ?_
          simp (maxSteps := 2000000) (disch := omega) only [go_sem, ↓reduceIte, reduceIte, Nat.reduceAdd, Nat.reduceLT, Nat.reduceEqDiff, Nat.reduceLeDiff, Nat.reduceMul]
          refine appO_few (by decide) (by decide) (by simp) (by simp [AV.cells]) (by simp; omega) ?_
          simp (maxSteps := 2000000) (disch := omega) only [go_sem, ↓reduceIte, reduceIte, Nat.reduceAdd, Nat.reduceLT, Nat.reduceEqDiff, Nat.reduceLeDiff, Nat.reduceMul]
          refine hR (i + 1) _ (by omega) (by omega) ?_
          rw [hr, List.map_append]
          rw [show (b * 16 + ((i + 1 : Nat) : Int)) = b * 16 + i + 1 by omega]
          exact (le_intro (by simp only [allLook, allLookM, go_sem, ↓reduceIte, reduceIte, Nat.reduceAdd, Nat.reduceLT, Nat.reduceEqDiff, Nat.reduceLeDiff, Nat.reduceMul]; try simp) (by simp only [allLook, allLookM, go_sem, ↓reduceIte, reduceIte, Nat.reduceAdd, Nat.reduceLT, Nat.reduceEqDiff, Nat.reduceLeDiff, Nat.reduceMul]; try simp))
        · have hp : ¬ openP l paid (b * 16 + i) = true := by simp [openP, h2]; simpa using h3
          rw [if_neg hp] at hr
          simp (maxSteps := 2000000) (disch := omega) only [go_sem, ↓reduceIte, reduceIte, Nat.reduceAdd, Nat.reduceLT, Nat.reduceEqDiff, Nat.reduceLeDiff, Nat.reduceMul]
          refine hR (i + 1) _ (by omega) (by omega) ?_
          rw [hr]
          rw [show (b * 16 + ((i + 1 : Nat) : Int)) = b * 16 + i + 1 by omega]
          exact (le_intro (by simp only [allLook, allLookM, go_sem, ↓reduceIte, reduceIte, Nat.reduceAdd, Nat.reduceLT, Nat.reduceEqDiff, Nat.reduceLeDiff, Nat.reduceMul]; try simp) (by simp only [allLook, allLookM, go_sem, ↓reduceIte, reduceIte, Nat.reduceAdd, Nat.reduceLT, Nat.reduceEqDiff, Nat.reduceLeDiff, Nat.reduceMul]; try simp))
      · have hp : ¬ openP l paid (b * 16 + i) = true := by simp [openP, h2]
        rw [if_neg hp] at hr
        simp (maxSteps := 2000000) (disch := omega) only [go_sem, ↓reduceIte, reduceIte, Nat.reduceAdd, Nat.reduceLT, Nat.reduceEqDiff, Nat.reduceLeDiff, Nat.reduceMul]
        refine hR (i + 1) _ (by omega) (by omega) ?_
        rw [hr]
        rw [show (b * 16 + ((i + 1 : Nat) : Int)) = b * 16 + i + 1 by omega]
        exact (le_intro (by simp only [allLook, allLookM, go_sem, ↓reduceIte, reduceIte, Nat.reduceAdd, Nat.reduceLT, Nat.reduceEqDiff, Nat.reduceLeDiff, Nat.reduceMul]; try simp) (by simp only [allLook, allLookM, go_sem, ↓reduceIte, reduceIte, Nat.reduceAdd, Nat.reduceLT, Nat.reduceEqDiff, Nat.reduceLeDiff, Nat.reduceMul]; try simp))
    · simp (maxSteps := 2000000) (disch := omega) only [go_sem, ↓reduceIte, reduceIte, Nat.reduceAdd, Nat.reduceLT, Nat.reduceEqDiff, Nat.reduceLeDiff, Nat.reduceMul]
      have : i = 16 := by omega
      subst this
      exact ⟨rfl, trivial⟩
end Go.Proofs.Ytpclkldmkmmmhaa
