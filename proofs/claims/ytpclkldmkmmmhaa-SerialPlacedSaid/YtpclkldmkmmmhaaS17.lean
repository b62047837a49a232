import Derived.Test.YtpclkldmkmmmhaaS16
namespace Go.Proofs.Ytpclkldmkmmmhaa
open Go Go.AI Go.Proofs
set_option linter.unusedSimpArgs false
set_option linter.unusedVariables false
set_option maxRecDepth 4000
theorem pairwise_at {l : List Sale} (h : l.Pairwise disj) {k i : Nat} (hki : k < i) (hi : i < l.length) : disj (l[k]'(by omega)) l[i] := List.pairwise_iff_getElem.1 h k i (by omega) hi hki
set_option maxHeartbeats 4000000 in
theorem check12_ok (np : List Product) (l : List Sale) (nq : Int) (hl : ∀ x ∈ l, x.ok) (hq : In64 nq) (hn : l.length ≤ 1048576) (hm : np.length ≤ 1048576) :
    CallsTo Try.prog 12 [.sl (np.map Product.av), .sl (l.map Sale.av), .int .i64 nq] [.p (.int .i64 (checkS np.length nq l))] := by
  refine f12_calls (Nat.le_of_ble_eq_true rfl) ?_
  simp (maxSteps := 2000000) (disch := omega) only [go_sem, ↓reduceIte, reduceIte, Nat.reduceAdd, Nat.reduceLT, Nat.reduceEqDiff, Nat.reduceLeDiff, Nat.reduceMul]
  refine cA_d (fun h1 => ?_) (fun h1 => ?_)
  · have hd : checkS np.length nq l = 8 := by unfold checkS; rw [if_pos (by omega)]
    rw [hd]
    simp (maxSteps := 2000000) (disch := omega) only [go_sem, ↓reduceIte, reduceIte, Nat.reduceAdd, Nat.reduceLT, Nat.reduceEqDiff, Nat.reduceLeDiff, Nat.reduceMul]
  have hd : checkS np.length nq l = if firstF np.length nq l ≠ 0 then firstF np.length nq l else if l.Pairwise disj then 0 else 6 := by unfold checkS; rw [if_neg (by omega)]
  rw [hd]
  simp (maxSteps := 2000000) (disch := omega) only [go_sem, ↓reduceIte, reduceIte, Nat.reduceAdd, Nat.reduceLT, Nat.reduceEqDiff, Nat.reduceLeDiff, Nat.reduceMul]
  refine loop_of f12L8_is (fun i : Nat => ⟨[(7, .int .i64 i), (1, .sl (l.map Sale.av)), (0, .sl (np.map Product.av)), (2, .int .i64 nq)], []⟩) (fun i => i ≤ l.length ∧ firstF np.length nq l = firstF np.length nq (l.drop i)) (fun i => l.length - i) 0 ⟨Nat.zero_le _, rfl⟩ (le_intro (by simp only [allLook, allLookM, go_sem, ↓reduceIte, reduceIte, Nat.reduceAdd, Nat.reduceLT, Nat.reduceEqDiff, Nat.reduceLeDiff, Nat.reduceMul]; try simp) (by simp only [allLook, allLookM, go_sem, ↓reduceIte, reduceIte, Nat.reduceAdd, Nat.reduceLT, Nat.reduceEqDiff, Nat.reduceLeDiff, Nat.reduceMul]; try simp)) ?_
  rintro i R ⟨hi, hf⟩ hR
  simp (maxSteps := 2000000) (disch := omega) only [go_sem, ↓reduceIte, reduceIte, Nat.reduceAdd, Nat.reduceLT, Nat.reduceEqDiff, Nat.reduceLeDiff, Nat.reduceMul]
  refine cA_d (fun h2 => ?_) (fun h2 => ?_)
  · have hlt : i < l.length := by omega
    rw [List.drop_eq_getElem_cons hlt, firstF] at hf
    simp (maxSteps := 2000000) (disch := omega) only [go_sem, ↓reduceIte, reduceIte, Nat.reduceAdd, Nat.reduceLT, Nat.reduceEqDiff, Nat.reduceLeDiff, Nat.reduceMul]
    refine idxS_map i rfl hlt (fun _ => rfl) ?_
    simp (maxSteps := 2000000) (disch := omega) only [go_sem, ↓reduceIte, reduceIte, Nat.reduceAdd, Nat.reduceLT, Nat.reduceEqDiff, Nat.reduceLeDiff, Nat.reduceMul, Sale.av]
    refine call_1 (one33_ok l[i] np.length nq (hl _ (List.getElem_mem _)) (by unfold In64; omega) hq) (by rfl) (by rfl) ?_
    simp (maxSteps := 2000000) (disch := omega) only [go_sem, ↓reduceIte, reduceIte, Nat.reduceAdd, Nat.reduceLT, Nat.reduceEqDiff, Nat.reduceLeDiff, Nat.reduceMul]
    refine cA_d (fun h3 => ?_) (fun h3 => ?_)
    · rw [if_pos h3] at hf
      simp (maxSteps := 2000000) (disch := omega) only [go_sem, ↓reduceIte, reduceIte, Nat.reduceAdd, Nat.reduceLT, Nat.reduceEqDiff, Nat.reduceLeDiff, Nat.reduceMul]
      rw [hf, if_pos h3]
    · rw [if_neg h3] at hf
      simp (maxSteps := 2000000) (disch := omega) only [go_sem, ↓reduceIte, reduceIte, Nat.reduceAdd, Nat.reduceLT, Nat.reduceEqDiff, Nat.reduceLeDiff, Nat.reduceMul]
      exact hR (i + 1) _ ⟨hlt, hf⟩ (by omega) (le_intro (by simp only [allLook, allLookM, go_sem, ↓reduceIte, reduceIte, Nat.reduceAdd, Nat.reduceLT, Nat.reduceEqDiff, Nat.reduceLeDiff, Nat.reduceMul]; try simp) (by simp only [allLook, allLookM, go_sem, ↓reduceIte, reduceIte, Nat.reduceAdd, Nat.reduceLT, Nat.reduceEqDiff, Nat.reduceLeDiff, Nat.reduceMul]; try simp))
  have : l.length = i := by omega
  have hff : firstF np.length nq l = 0 := by rw [hf, ← this]; simp [firstF]
  rw [if_neg (by rw [hff]; simp)]
  clear hd hf hR
  simp (maxSteps := 2000000) (disch := omega) only [go_sem, ↓reduceIte, reduceIte, Nat.reduceAdd, Nat.reduceLT, Nat.reduceEqDiff, Nat.reduceLeDiff, Nat.reduceMul]
  refine loop_of f12L22_is (fun i : Nat => ⟨[(9, .int .i64 i), (1, .sl (l.map Sale.av))], []⟩) (fun i => i ≤ l.length ∧ ∀ (k j : Nat) (hk : k < j) (hj : j < l.length), j < i → disj (l[k]'(by omega)) l[j]) (fun i => l.length - i) 0 ⟨Nat.zero_le _, fun k j _ _ h => by omega⟩ (le_intro (by simp only [allLook, allLookM, go_sem, ↓reduceIte, reduceIte, Nat.reduceAdd, Nat.reduceLT, Nat.reduceEqDiff, Nat.reduceLeDiff, Nat.reduceMul]; try simp) (by simp only [allLook, allLookM, go_sem, ↓reduceIte, reduceIte, Nat.reduceAdd, Nat.reduceLT, Nat.reduceEqDiff, Nat.reduceLeDiff, Nat.reduceMul]; try simp)) ?_
  rintro i R ⟨hi, hdj⟩ hR
  simp (maxSteps := 2000000) (disch := omega) only [go_sem, ↓reduceIte, reduceIte, Nat.reduceAdd, Nat.reduceLT, Nat.reduceEqDiff, Nat.reduceLeDiff, Nat.reduceMul]
  refine cA_d (fun h2 => ?_) (fun h2 => ?_)
  case refine_2 =>
    have hpw : l.Pairwise disj := List.pairwise_iff_getElem.2 fun k j hk hj hkj => hdj k j hkj hj (by omega)
    rw [if_pos hpw]
    simp (maxSteps := 2000000) (disch := omega) only [go_sem, ↓reduceIte, reduceIte, Nat.reduceAdd, Nat.reduceLT, Nat.reduceEqDiff, Nat.reduceLeDiff, Nat.reduceMul]
  have hlt : i < l.length := by omega
  simp (maxSteps := 2000000) (disch := omega) only [go_sem, ↓reduceIte, reduceIte, Nat.reduceAdd, Nat.reduceLT, Nat.reduceEqDiff, Nat.reduceLeDiff, Nat.reduceMul]
  refine loop_of f12L30_is (fun k : Nat => ⟨[(10, .int .i64 k), (9, .int .i64 i), (1, .sl (l.map Sale.av))], []⟩) (fun k => k ≤ i ∧ ∀ (j : Nat) (hj : j < i), j < k → disj (l[j]'(by omega)) l[i]) (fun k => i - k) 0 ⟨Nat.zero_le _, fun j _ h => by omega⟩ (le_intro (by simp only [allLook, allLookM, go_sem, ↓reduceIte, reduceIte, Nat.reduceAdd, Nat.reduceLT, Nat.reduceEqDiff, Nat.reduceLeDiff, Nat.reduceMul]; try simp) (by simp only [allLook, allLookM, go_sem, ↓reduceIte, reduceIte, Nat.reduceAdd, Nat.reduceLT, Nat.reduceEqDiff, Nat.reduceLeDiff, Nat.reduceMul]; try simp)) ?_
  rintro k R' ⟨hk, hdk⟩ hR'
  simp (maxSteps := 2000000) (disch := omega) only [go_sem, ↓reduceIte, reduceIte, Nat.reduceAdd, Nat.reduceLT, Nat.reduceEqDiff, Nat.reduceLeDiff, Nat.reduceMul]
  refine cA_d (fun h3 => ?_) (fun h3 => ?_)
  case refine_2 =>
    have hki : k = i := by omega
    subst hki
    simp (maxSteps := 2000000) (disch := omega) only [go_sem, ↓reduceIte, reduceIte, Nat.reduceAdd, Nat.reduceLT, Nat.reduceEqDiff, Nat.reduceLeDiff, Nat.reduceMul]
    refine hR (k + 1) _ ⟨hlt, fun a b hab hb hbi => ?_⟩ (by omega) (le_intro (by simp only [allLook, allLookM, go_sem, ↓reduceIte, reduceIte, Nat.reduceAdd, Nat.reduceLT, Nat.reduceEqDiff, Nat.reduceLeDiff, Nat.reduceMul]; try simp) (by simp only [allLook, allLookM, go_sem, ↓reduceIte, reduceIte, Nat.reduceAdd, Nat.reduceLT, Nat.reduceEqDiff, Nat.reduceLeDiff, Nat.reduceMul]; try simp))
    rcases Nat.lt_or_ge b k with h | h
    · exact hdj a b hab hb h
    · have : b = k := by omega
      subst this
      exact hdk a hab hab
  have hkl : k < l.length := by omega
  have hki : k < i := by omega
  have c1 := contains34_ok l[i] l[k].f (hl _ (List.getElem_mem _)) (hl _ (List.getElem_mem _)).2.1
  have c2 := contains34_ok l[k] l[i].f (hl _ (List.getElem_mem _)) (hl _ (List.getElem_mem _)).2.1
  simp (maxSteps := 2000000) (disch := omega) only [go_sem, ↓reduceIte, reduceIte, Nat.reduceAdd, Nat.reduceLT, Nat.reduceEqDiff, Nat.reduceLeDiff, Nat.reduceMul]
  refine idxS_map i rfl hlt (fun _ => rfl) ?_
  simp (maxSteps := 2000000) (disch := omega) only [go_sem, ↓reduceIte, reduceIte, Nat.reduceAdd, Nat.reduceLT, Nat.reduceEqDiff, Nat.reduceLeDiff, Nat.reduceMul, Sale.av]
  refine idxS_map k rfl hkl (fun _ => rfl) ?_
  simp (maxSteps := 2000000) (disch := omega) only [go_sem, ↓reduceIte, reduceIte, Nat.reduceAdd, Nat.reduceLT, Nat.reduceEqDiff, Nat.reduceLeDiff, Nat.reduceMul, Sale.av]
  refine callq_1 (by rfl) c1 (by rfl) ?_
  simp (maxSteps := 2000000) (disch := omega) only [go_sem, ↓reduceIte, reduceIte, Nat.reduceAdd, Nat.reduceLT, Nat.reduceEqDiff, Nat.reduceLeDiff, Nat.reduceMul]
  refine gA_bf (fun h4 => ?_) (fun h4 => ?_)
  · simp (maxSteps := 2000000) (disch := omega) only [go_sem, ↓reduceIte, reduceIte, Nat.reduceAdd, Nat.reduceLT, Nat.reduceEqDiff, Nat.reduceLeDiff, Nat.reduceMul]
    refine idxS_map k rfl hkl (fun _ => rfl) ?_
    simp (maxSteps := 2000000) (disch := omega) only [go_sem, ↓reduceIte, reduceIte, Nat.reduceAdd, Nat.reduceLT, Nat.reduceEqDiff, Nat.reduceLeDiff, Nat.reduceMul, Sale.av]
    refine idxS_map i rfl hlt (fun _ => rfl) ?_
    simp (maxSteps := 2000000) (disch := omega) only [go_sem, ↓reduceIte, reduceIte, Nat.reduceAdd, Nat.reduceLT, Nat.reduceEqDiff, Nat.reduceLeDiff, Nat.reduceMul, Sale.av]
    refine callq_1 (by rfl) c2 (by rfl) ?_
    simp (maxSteps := 2000000) (disch := omega) only [go_sem, ↓reduceIte, reduceIte, Nat.reduceAdd, Nat.reduceLT, Nat.reduceEqDiff, Nat.reduceLeDiff, Nat.reduceMul]
    refine cA_b (fun h5 => ?_) (fun h5 => ?_)
    · simp (maxSteps := 2000000) (disch := omega) only [go_sem, ↓reduceIte, reduceIte, Nat.reduceAdd, Nat.reduceLT, Nat.reduceEqDiff, Nat.reduceLeDiff, Nat.reduceMul]
      rw [if_neg (fun hp => by have := (pairwise_at hp hki hlt).1; rw [h5] at this; cases this)]
    · simp (maxSteps := 2000000) (disch := omega) only [go_sem, ↓reduceIte, reduceIte, Nat.reduceAdd, Nat.reduceLT, Nat.reduceEqDiff, Nat.reduceLeDiff, Nat.reduceMul]
      refine hR' (k + 1) _ ⟨by omega, fun j hj hjk => ?_⟩ (by omega) (le_intro (by simp only [allLook, allLookM, go_sem, ↓reduceIte, reduceIte, Nat.reduceAdd, Nat.reduceLT, Nat.reduceEqDiff, Nat.reduceLeDiff, Nat.reduceMul]; try simp) (by simp only [allLook, allLookM, go_sem, ↓reduceIte, reduceIte, Nat.reduceAdd, Nat.reduceLT, Nat.reduceEqDiff, Nat.reduceLeDiff, Nat.reduceMul]; try simp))
      rcases Nat.lt_or_ge j k with h | h
      · exact hdk j hj h
      · have : j = k := by omega
        subst this
        exact ⟨h5, h4⟩
  · simp (maxSteps := 2000000) (disch := omega) only [go_sem, ↓reduceIte, reduceIte, Nat.reduceAdd, Nat.reduceLT, Nat.reduceEqDiff, Nat.reduceLeDiff, Nat.reduceMul]
    rw [if_neg (fun hp => by have := (pairwise_at hp hki hlt).2; rw [h4] at this; cases this)]
end Go.Proofs.Ytpclkldmkmmmhaa
