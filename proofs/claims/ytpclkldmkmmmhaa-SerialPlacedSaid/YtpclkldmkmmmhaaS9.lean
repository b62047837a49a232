import Derived.Test.YtpclkldmkmmmhaaS8
namespace Go.Proofs.Ytpclkldmkmmmhaa
open Go Go.AI Go.Proofs
set_option linter.unusedSimpArgs false
set_option linter.unusedVariables false
set_option maxRecDepth 4000
theorem bin_aggneq {P : Program} {t : TypeId} {ks : List Nat} {a b : List AV} {r : Bool} {k : AV → Prop} (hk : tyKinds P t = some ks) (he : eqL ks a b = some r) (h : Run (k (.bool (!r)))) : Run (binA P .neq t (.agg a) (.agg b) k) := by
  unfold Run at h ⊢
  simpa [binA, hk, he] using h
structure Placing where
  pr : Int
  mat : Int
  g : Int
  deriving DecidableEq
def Placing.av (x : Placing) : AV := .agg [.int .i64 x.pr, .int .i64 x.mat, .int .i64 x.g]
theorem same22_ok (a b : List Placing) (ha : a.length ≤ 1048576) (hb : b.length ≤ 1048576) : CallsTo Try.prog 22 [.sl (a.map Placing.av), .sl (b.map Placing.av)] [.p (.bool (decide (a = b)))] := by
  refine f22_calls (Nat.le_of_ble_eq_true rfl) ?_
  simp (maxSteps := 2000000) (disch := omega) only [go_sem, ↓reduceIte, reduceIte, Nat.reduceAdd, Nat.reduceLT, Nat.reduceEqDiff, Nat.reduceLeDiff, Nat.reduceMul]
  refine cA_d (fun h1 => ?_) (fun h1 => ?_)
  · have hne : a ≠ b := fun e => h1 (by rw [e])
    simp (maxSteps := 2000000) (disch := omega) only [go_sem, ↓reduceIte, reduceIte, Nat.reduceAdd, Nat.reduceLT, Nat.reduceEqDiff, Nat.reduceLeDiff, Nat.reduceMul]
    simp [hne]
  · simp (maxSteps := 2000000) (disch := omega) only [go_sem, ↓reduceIte, reduceIte, Nat.reduceAdd, Nat.reduceLT, Nat.reduceEqDiff, Nat.reduceLeDiff, Nat.reduceMul]
    have hlen : a.length = b.length := by omega
    refine loop_of f22L8_is (fun i : Nat => ⟨[(5, .int .i64 i), (0, .sl (a.map Placing.av)), (1, .sl (b.map Placing.av))], []⟩) (fun i => i ≤ a.length ∧ (a = b ↔ a.drop i = b.drop i)) (fun i => a.length - i) 0 ⟨Nat.zero_le _, by simp⟩ (le_intro (by simp only [allLook, allLookM, go_sem, ↓reduceIte, reduceIte, Nat.reduceAdd, Nat.reduceLT, Nat.reduceEqDiff, Nat.reduceLeDiff, Nat.reduceMul]; try simp) (by simp only [allLook, allLookM, go_sem, ↓reduceIte, reduceIte, Nat.reduceAdd, Nat.reduceLT, Nat.reduceEqDiff, Nat.reduceLeDiff, Nat.reduceMul]; try simp)) ?_
    rintro i R ⟨hi, hf⟩ hR
    simp (maxSteps := 2000000) (disch := omega) only [go_sem, ↓reduceIte, reduceIte, Nat.reduceAdd, Nat.reduceLT, Nat.reduceEqDiff, Nat.reduceLeDiff, Nat.reduceMul]
    refine cA_d (fun h2 => ?_) (fun h2 => ?_)
    · have hlt : i < a.length := by omega
      have hlt' : i < b.length := by omega
      rw [List.drop_eq_getElem_cons hlt, List.drop_eq_getElem_cons hlt', List.cons.injEq] at hf
      simp (maxSteps := 2000000) (disch := omega) only [go_sem, ↓reduceIte, reduceIte, Nat.reduceAdd, Nat.reduceLT, Nat.reduceEqDiff, Nat.reduceLeDiff, Nat.reduceMul]
      refine idxS_map i rfl hlt (fun _ => rfl) ?_
      simp (maxSteps := 2000000) (disch := omega) only [go_sem, ↓reduceIte, reduceIte, Nat.reduceAdd, Nat.reduceLT, Nat.reduceEqDiff, Nat.reduceLeDiff, Nat.reduceMul, Placing.av]
      refine idxS_map i rfl hlt' (fun _ => rfl) ?_
      simp (maxSteps := 2000000) (disch := omega) only [go_sem, ↓reduceIte, reduceIte, Nat.reduceAdd, Nat.reduceLT, Nat.reduceEqDiff, Nat.reduceLeDiff, Nat.reduceMul, Placing.av]
      refine bin_aggneq (ks := [0, 0, 0]) (r := decide (a[i] = b[i])) (by kernel_rfl) ?_ ?_
      · obtain ⟨x1, x2, x3⟩ := a[i]
        obtain ⟨y1, y2, y3⟩ := b[i]
        simp only [eqL, if_pos, Option.map_some, Option.some.injEq, Placing.mk.injEq, Bool.and_true]
        rw [Bool.eq_iff_iff]
        simp [and_assoc]
      simp (maxSteps := 2000000) (disch := omega) only [go_sem, ↓reduceIte, reduceIte, Nat.reduceAdd, Nat.reduceLT, Nat.reduceEqDiff, Nat.reduceLeDiff, Nat.reduceMul]
      refine cA_b (fun h3 => ?_) (fun h3 => ?_)
      · have h3' : a[i] ≠ b[i] := by simpa using h3
        have hne : a ≠ b := fun e => h3' (hf.1 e).1
        simp (maxSteps := 2000000) (disch := omega) only [go_sem, ↓reduceIte, reduceIte, Nat.reduceAdd, Nat.reduceLT, Nat.reduceEqDiff, Nat.reduceLeDiff, Nat.reduceMul]
        simp [hne]
      · have h3' : a[i] = b[i] := by simpa using h3
        simp (maxSteps := 2000000) (disch := omega) only [go_sem, ↓reduceIte, reduceIte, Nat.reduceAdd, Nat.reduceLT, Nat.reduceEqDiff, Nat.reduceLeDiff, Nat.reduceMul]
        refine hR (i + 1) _ ⟨hlt, by rw [hf]; exact ⟨fun h => h.2, fun h => ⟨h3', h⟩⟩⟩ (by omega) (le_intro (by simp only [allLook, allLookM, go_sem, ↓reduceIte, reduceIte, Nat.reduceAdd, Nat.reduceLT, Nat.reduceEqDiff, Nat.reduceLeDiff, Nat.reduceMul]; try simp) (by simp only [allLook, allLookM, go_sem, ↓reduceIte, reduceIte, Nat.reduceAdd, Nat.reduceLT, Nat.reduceEqDiff, Nat.reduceLeDiff, Nat.reduceMul]; try simp))
    · simp (maxSteps := 2000000) (disch := omega) only [go_sem, ↓reduceIte, reduceIte, Nat.reduceAdd, Nat.reduceLT, Nat.reduceEqDiff, Nat.reduceLeDiff, Nat.reduceMul]
      have : a.length = i := by omega
      have e1 : a.drop i = [] := by rw [← this]; simp
      have e2 : b.drop i = [] := by rw [← this, hlen]; simp
      rw [e1, e2] at hf
      simp [hf]
end Go.Proofs.Ytpclkldmkmmmhaa
