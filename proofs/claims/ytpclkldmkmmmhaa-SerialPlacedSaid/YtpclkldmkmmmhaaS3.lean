import Derived.Test.YtpclkldmkmmmhaaS2
namespace Go.Proofs.Ytpclkldmkmmmhaa
open Go Go.AI Go.Proofs
set_option linter.unusedSimpArgs false
set_option linter.unusedVariables false
set_option maxRecDepth 4000
theorem dep19_ok (ps : List Product) (l : List Sale) (hp : ∀ x ∈ ps, x.ok) (hl : ∀ x ∈ l, x.ok) (hn : l.length ≤ 1048576) (hm : ps.length ≤ 1048576) :
    CallsTo Try.prog 19 [.sl (ps.map Product.av), .sl (l.map Sale.av)] [.p (.int .i64 (depS ps l).1), .p (.int .i64 (depS ps l).2)] := by
  refine f19_calls (Nat.le_of_ble_eq_true rfl) ?_
  simp (maxSteps := 2000000) (disch := omega) only [go_sem, ↓reduceIte, reduceIte, Nat.reduceAdd, Nat.reduceLT, Nat.reduceEqDiff, Nat.reduceLeDiff, Nat.reduceMul]
  refine cA_d (fun h1 => ?_) (fun h1 => ?_)
  · have hd : depS ps l = (0, 8) := by unfold depS; rw [if_pos (by omega)]
    rw [hd]
    simp (maxSteps := 2000000) (disch := omega) only [go_sem, ↓reduceIte, reduceIte, Nat.reduceAdd, Nat.reduceLT, Nat.reduceEqDiff, Nat.reduceLeDiff, Nat.reduceMul]
  · have hd : depS ps l = depG ps l 0 := by unfold depS; rw [if_neg (by omega)]
    rw [hd]
    simp (maxSteps := 2000000) (disch := omega) only [go_sem, ↓reduceIte, reduceIte, Nat.reduceAdd, Nat.reduceLT, Nat.reduceEqDiff, Nat.reduceLeDiff, Nat.reduceMul]
    refine loop_of f19L9_is (fun i : Nat × Int => ⟨[(7, .int .i64 i.1), (1, .sl (l.map Sale.av)), (0, .sl (ps.map Product.av)), (6, .int .i64 i.2)], []⟩) (fun i => i.1 ≤ l.length ∧ 0 ≤ i.2 ∧ i.2 ≤ i.1 * 1000000 ∧ depG ps l 0 = depG ps (l.drop i.1) i.2) (fun i => l.length - i.1) (0, 0) ⟨Nat.zero_le _, by simp, by simp, rfl⟩ (le_intro (by simp only [allLook, allLookM, go_sem, ↓reduceIte, reduceIte, Nat.reduceAdd, Nat.reduceLT, Nat.reduceEqDiff, Nat.reduceLeDiff, Nat.reduceMul]; try simp) (by simp only [allLook, allLookM, go_sem, ↓reduceIte, reduceIte, Nat.reduceAdd, Nat.reduceLT, Nat.reduceEqDiff, Nat.reduceLeDiff, Nat.reduceMul]; try simp)) ?_
    rintro ⟨i, n⟩ R ⟨hi, hn0, hn1, hf⟩ hR
    simp only at hi hn0 hn1 hf
    simp (maxSteps := 2000000) (disch := omega) only [go_sem, ↓reduceIte, reduceIte, Nat.reduceAdd, Nat.reduceLT, Nat.reduceEqDiff, Nat.reduceLeDiff, Nat.reduceMul]
    refine cA_d (fun h2 => ?_) (fun h2 => ?_)
    · have hlt : i < l.length := by omega
      rw [List.drop_eq_getElem_cons hlt, depG] at hf
      have hx := hl l[i] (List.getElem_mem _)
      unfold Sale.ok In64 at hx
      by_cases hp' : 0 ≤ l[i].p ∧ l[i].p < ps.length
      · have hy := hp ps[l[i].p.toNat] (List.getElem_mem (by omega))
        unfold Product.ok In64 at hy
        rw [dif_pos hp'] at hf
        (repeat' (first | refine gA_dt (fun h => ?_) (fun h => ?_) | refine gA_df (fun h => ?_) (fun h => ?_) | refine cA_d (fun h => ?_) (fun h => ?_) | refine idxS_map i rfl hlt (fun _ => rfl) ?_ | refine idxS_map l[i].p.toNat (by omega) (by omega) (fun _ => rfl) ?_ | simp (maxSteps := 2000000) (disch := omega) only [go_sem, ↓reduceIte, reduceIte, Nat.reduceAdd, Nat.reduceLT, Nat.reduceEqDiff, Nat.reduceLeDiff, Nat.reduceMul, Sale.av, Product.av]))
        all_goals try (exfalso; omega)
        all_goals try (rw [if_pos (by simp [depBad]; omega)] at hf; simp [hf]; done)
        have hc' := mul_bd (a := l[i].c) (b := ps[l[i].p.toNat].dep) (A := 1000) (B := 1000) (by omega) (by omega) (by omega) (by omega)
        rw [if_neg (by simp [depBad]; omega)] at hf
        simp (maxSteps := 2000000) (disch := omega) only [go_sem, ↓reduceIte, reduceIte, Nat.reduceAdd, Nat.reduceLT, Nat.reduceEqDiff, Nat.reduceLeDiff, Nat.reduceMul]
        refine hR (i + 1, n + l[i].c * ps[l[i].p.toNat].dep) _ ⟨hlt, by simp only []; omega, by simp only []; omega, hf⟩ (by simp only []; omega) (le_intro (by simp only [allLook, allLookM, go_sem, ↓reduceIte, reduceIte, Nat.reduceAdd, Nat.reduceLT, Nat.reduceEqDiff, Nat.reduceLeDiff, Nat.reduceMul]; try simp) (by simp only [allLook, allLookM, go_sem, ↓reduceIte, reduceIte, Nat.reduceAdd, Nat.reduceLT, Nat.reduceEqDiff, Nat.reduceLeDiff, Nat.reduceMul]; try simp))
      · rw [dif_neg hp'] at hf
        (repeat' (first | refine gA_dt (fun h => ?_) (fun h => ?_) | refine gA_df (fun h => ?_) (fun h => ?_) | refine cA_d (fun h => ?_) (fun h => ?_) | refine idxS_map i rfl hlt (fun _ => rfl) ?_ | simp (maxSteps := 2000000) (disch := omega) only [go_sem, ↓reduceIte, reduceIte, Nat.reduceAdd, Nat.reduceLT, Nat.reduceEqDiff, Nat.reduceLeDiff, Nat.reduceMul, Sale.av, Product.av]))
        all_goals try (exfalso; omega)
        all_goals simp [hf]
    · simp (maxSteps := 2000000) (disch := omega) only [go_sem, ↓reduceIte, reduceIte, Nat.reduceAdd, Nat.reduceLT, Nat.reduceEqDiff, Nat.reduceLeDiff, Nat.reduceMul]
      have : l.length = i := by omega
      subst this
      simp [hf, depG]
end Go.Proofs.Ytpclkldmkmmmhaa
