import Derived.Test.YtkknahekpeaoiaaTA
namespace Go.Proofs.Ytkknahekpeaoiaa
open Go Go.AI Go.Proofs
set_option linter.unusedSimpArgs false
set_option linter.unusedVariables false
set_option maxRecDepth 4000
attribute [-go_sem] f51n68_eq f51n79_eq f51n84_eq f51n88_eq
set_option maxHeartbeats 8000000 in
theorem sym51_s1 {g : FuncId} {L : Asg → Asg → Bool} (X A1 A2 B1 B2 Y Z : List (Asg × Nat)) (hcall1 : A1 ≠ [] → B1 ≠ [] → Sym g L X A1 B1 (A2 ++ (B2 ++ Y))) (hnil1 : A1 = [] ∨ B1 = [] → isortT L (A1 ++ B1) = A1 ++ B1)
    (hcall : A2 ≠ [] → B2 ≠ [] → Sym g L (X ++ isortT L (A1 ++ B1)) A2 B2 Y) (hnil : A2 = [] ∨ B2 = [] → isortT L (A2 ++ B2) = A2 ++ B2) (hl : X.length + A1.length + A2.length + B1.length + B2.length + Y.length ≤ 1099511627776)
    (e : List (Nat × AV)) (m : List (Nat × Ob)) (h0 : lk e 0 = some (.own 1000)) (h1 : lk e 1 = some (.int .i64 X.length)) (h2 : lk e 2 = some (.int .i64 (X.length + A1.length + A2.length : Nat))) (h3 : lk e 3 = some (.int .i64 (X.length + (A1.length + B1.length) + A2.length + B2.length : Nat))) (h4 : lk e 4 = some (.fn g [])) (h18 : lk e 18 = some (.int .i64 (X.length + (A1.length + B1.length) : Nat))) (h19 : lk e 19 = some (.int .i64 (X.length + (A1.length + B1.length) + (X.length + A1.length + A2.length) : Nat))) (h20 : lk e 20 = some (.int .i64 (X.length + A1.length : Nat)))
    (hm : lkM m 1000 = some (.arr 43 4 ((X ++ (A1 ++ (A2 ++ (B1 ++ (B2 ++ Y))))).map fT))) (hZ : Z = X ++ (isortT L (A1 ++ B1) ++ (isortT L (A2 ++ B2) ++ Y))) : Run (f51n79 (sQ 43 4 (Z.map fT)) ⟨e, m⟩) := by
  have hend : ((X.length + (A1.length + B1.length) + (X.length + A1.length + A2.length) : Nat) : Int) - (X.length + A1.length : Nat) = (X.length + (A1.length + B1.length) + A2.length : Nat) := by omega
  rw [f51n79_eq]
  simp (maxSteps := 2000000) (disch := omega) only [go_sem, ↓reduceIte, reduceIte, Nat.reduceAdd, Nat.reduceLT, Nat.reduceEqDiff, Nat.reduceLeDiff, Nat.reduceMul, h0, h1, h2, h3, h4, h18, h19, h20, hm, hend]
  have hsw : A2 = [] ∨ B1 = [] → A2 ++ (B1 ++ (B2 ++ Y)) = B1 ++ (A2 ++ (B2 ++ Y)) := by rintro (rfl | rfl) <;> simp
  refine gA_dt (fun h => ?_) (fun h => ?_)
  · have hA : A2 ≠ [] := by intro e; subst e; simp at h
    simp (maxSteps := 2000000) (disch := omega) only [go_sem, ↓reduceIte, reduceIte, Nat.reduceAdd, Nat.reduceLT, Nat.reduceEqDiff, Nat.reduceLeDiff, Nat.reduceMul, h0, h1, h2, h3, h4, h18, h19, h20, hm, hend]
    refine cA_d (fun h' => ?_) (fun h' => ?_)
    · have hB : B1 ≠ [] := by intro e; subst e; simp at h'
      have hso := rotate54_ok g (X ++ A1) A2 B1 (B2 ++ Y) hA hB (by simp; omega)
      rw [List.append_assoc, List.append_assoc, List.length_append, show X.length + A1.length + A2.length + B1.length = X.length + (A1.length + B1.length) + A2.length by omega] at hso
      simp (maxSteps := 2000000) (disch := omega) only [go_sem, ↓reduceIte, reduceIte, Nat.reduceAdd, Nat.reduceLT, Nat.reduceEqDiff, Nat.reduceLeDiff, Nat.reduceMul, h0, h1, h2, h3, h4, h18, h19, h20, hm, hend]
      refine call_s (id := 1000) (rest := [.int .i64 (X.length + A1.length : Nat), .int .i64 (X.length + A1.length + A2.length : Nat), .int .i64 (X.length + (A1.length + B1.length) + A2.length : Nat), .fn g []]) (rest' := [.int .i64 (X.length + A1.length : Nat), .int .i64 (X.length + A1.length + A2.length : Nat), .int .i64 (X.length + (A1.length + B1.length) + A2.length : Nat), .fn g []]) rfl (by simp only [go_sem, ↓reduceIte, reduceIte, Nat.reduceAdd, Nat.reduceLT, Nat.reduceEqDiff, Nat.reduceLeDiff, Nat.reduceMul, hm]) (by rfl) hso (fT_scal _) ?_
      simp (maxSteps := 2000000) (disch := omega) only [go_sem, ↓reduceIte, reduceIte, Nat.reduceAdd, Nat.reduceLT, Nat.reduceEqDiff, Nat.reduceLeDiff, Nat.reduceMul]
      exact sym51_s2 X A1 B1 A2 B2 Y Z hcall1 hnil1 hcall hnil (by omega) _ _ (by simp only [go_sem, ↓reduceIte, reduceIte, Nat.reduceAdd, Nat.reduceLT, Nat.reduceEqDiff, Nat.reduceLeDiff, Nat.reduceMul, h0]) (by simp only [go_sem, ↓reduceIte, reduceIte, Nat.reduceAdd, Nat.reduceLT, Nat.reduceEqDiff, Nat.reduceLeDiff, Nat.reduceMul, h1]) (by simp only [go_sem, ↓reduceIte, reduceIte, Nat.reduceAdd, Nat.reduceLT, Nat.reduceEqDiff, Nat.reduceLeDiff, Nat.reduceMul, h3]) (by simp only [go_sem, ↓reduceIte, reduceIte, Nat.reduceAdd, Nat.reduceLT, Nat.reduceEqDiff, Nat.reduceLeDiff, Nat.reduceMul, h4]) (by simp only [go_sem, ↓reduceIte, reduceIte, Nat.reduceAdd, Nat.reduceLT, Nat.reduceEqDiff, Nat.reduceLeDiff, Nat.reduceMul, h18]) (by simp only [go_sem, ↓reduceIte, reduceIte, Nat.reduceAdd, Nat.reduceLT, Nat.reduceEqDiff, Nat.reduceLeDiff, Nat.reduceMul, h20]) (by simp only [go_sem, ↓reduceIte, reduceIte, Nat.reduceAdd, Nat.reduceLT, Nat.reduceEqDiff, Nat.reduceLeDiff, Nat.reduceMul]) (by simp only [go_sem, ↓reduceIte, reduceIte, Nat.reduceAdd, Nat.reduceLT, Nat.reduceEqDiff, Nat.reduceLeDiff, Nat.reduceMul]) hZ
    · have hB : B1 = [] := List.eq_nil_of_length_eq_zero (by omega)
      simp (maxSteps := 2000000) (disch := omega) only [go_sem, ↓reduceIte, reduceIte, Nat.reduceAdd, Nat.reduceLT, Nat.reduceEqDiff, Nat.reduceLeDiff, Nat.reduceMul, hm]
      have hn := hsw (.inr hB)
      exact sym51_s2 X A1 B1 A2 B2 Y Z hcall1 hnil1 hcall hnil (by omega) _ _ (by simp only [go_sem, ↓reduceIte, reduceIte, Nat.reduceAdd, Nat.reduceLT, Nat.reduceEqDiff, Nat.reduceLeDiff, Nat.reduceMul, h0]) (by simp only [go_sem, ↓reduceIte, reduceIte, Nat.reduceAdd, Nat.reduceLT, Nat.reduceEqDiff, Nat.reduceLeDiff, Nat.reduceMul, h1]) (by simp only [go_sem, ↓reduceIte, reduceIte, Nat.reduceAdd, Nat.reduceLT, Nat.reduceEqDiff, Nat.reduceLeDiff, Nat.reduceMul, h3]) (by simp only [go_sem, ↓reduceIte, reduceIte, Nat.reduceAdd, Nat.reduceLT, Nat.reduceEqDiff, Nat.reduceLeDiff, Nat.reduceMul, h4]) (by simp only [go_sem, ↓reduceIte, reduceIte, Nat.reduceAdd, Nat.reduceLT, Nat.reduceEqDiff, Nat.reduceLeDiff, Nat.reduceMul, h18]) (by simp only [go_sem, ↓reduceIte, reduceIte, Nat.reduceAdd, Nat.reduceLT, Nat.reduceEqDiff, Nat.reduceLeDiff, Nat.reduceMul, h20]) (by simp only [go_sem, ↓reduceIte, reduceIte, Nat.reduceAdd, Nat.reduceLT, Nat.reduceEqDiff, Nat.reduceLeDiff, Nat.reduceMul]) (by simp only [go_sem, ↓reduceIte, reduceIte, Nat.reduceAdd, Nat.reduceLT, Nat.reduceEqDiff, Nat.reduceLeDiff, Nat.reduceMul, hm, hn]) hZ
  · have hA : A2 = [] := List.eq_nil_of_length_eq_zero (by omega)
    simp (maxSteps := 2000000) (disch := omega) only [go_sem, ↓reduceIte, reduceIte, Nat.reduceAdd, Nat.reduceLT, Nat.reduceEqDiff, Nat.reduceLeDiff, Nat.reduceMul, hm]
    have hn := hsw (.inl hA)
    exact sym51_s2 X A1 B1 A2 B2 Y Z hcall1 hnil1 hcall hnil (by omega) _ _ (by simp only [go_sem, ↓reduceIte, reduceIte, Nat.reduceAdd, Nat.reduceLT, Nat.reduceEqDiff, Nat.reduceLeDiff, Nat.reduceMul, h0]) (by simp only [go_sem, ↓reduceIte, reduceIte, Nat.reduceAdd, Nat.reduceLT, Nat.reduceEqDiff, Nat.reduceLeDiff, Nat.reduceMul, h1]) (by simp only [go_sem, ↓reduceIte, reduceIte, Nat.reduceAdd, Nat.reduceLT, Nat.reduceEqDiff, Nat.reduceLeDiff, Nat.reduceMul, h3]) (by simp only [go_sem, ↓reduceIte, reduceIte, Nat.reduceAdd, Nat.reduceLT, Nat.reduceEqDiff, Nat.reduceLeDiff, Nat.reduceMul, h4]) (by simp only [go_sem, ↓reduceIte, reduceIte, Nat.reduceAdd, Nat.reduceLT, Nat.reduceEqDiff, Nat.reduceLeDiff, Nat.reduceMul, h18]) (by simp only [go_sem, ↓reduceIte, reduceIte, Nat.reduceAdd, Nat.reduceLT, Nat.reduceEqDiff, Nat.reduceLeDiff, Nat.reduceMul, h20]) (by simp only [go_sem, ↓reduceIte, reduceIte, Nat.reduceAdd, Nat.reduceLT, Nat.reduceEqDiff, Nat.reduceLeDiff, Nat.reduceMul]) (by simp only [go_sem, ↓reduceIte, reduceIte, Nat.reduceAdd, Nat.reduceLT, Nat.reduceEqDiff, Nat.reduceLeDiff, Nat.reduceMul, hm, hn]) hZ
/-- The search: where both halves are cut. -/
def Cut (L : Asg → Asg → Bool) (a M : Nat) (A B : List (Asg × Nat)) (st r : Nat) : Prop :=
  (∀ x ∈ A.take (st - a), ∀ y ∈ B.drop (M - st), tl L x y) ∧ ∀ y ∈ B.take (M - r), ∀ x ∈ A.drop (r - a), tl L y x
set_option maxHeartbeats 8000000 in
theorem sym51_search {g : FuncId} {q : Asg → Prop} {L : Asg → Asg → Bool} (hC : Cmp g q L) (X A B Y Z : List (Asg × Nat)) (M : Nat) (hq : ∀ t ∈ A ++ B, q t.1) (ht : ∀ x ∈ A, ∀ y ∈ B, x.2 < y.2) (hsA : Srt L A) (hsB : Srt L B) (hl : X.length + A.length + B.length + Y.length ≤ 1099511627776)
    (hend : ∀ A1 A2 B1 B2 : List (Asg × Nat), A = A1 ++ A2 → B = B1 ++ B2 → M = X.length + A1.length + B1.length → (∀ x ∈ A1, ∀ y ∈ B2, tl L x y) → (∀ y ∈ B1, ∀ x ∈ A2, tl L y x) → ∀ e m, lk e 0 = some (.own 1000) → lk e 1 = some (.int .i64 X.length) → lk e 2 = some (.int .i64 (X.length + A.length : Nat)) → lk e 3 = some (.int .i64 (X.length + A.length + B.length : Nat)) → lk e 4 = some (.fn g []) → lk e 18 = some (.int .i64 M) → lk e 19 = some (.int .i64 (M + (X.length + A.length) : Nat)) → lk e 20 = some (.int .i64 (X.length + A1.length : Nat)) → lkM m 1000 = some (.arr 43 4 ((X ++ (A ++ (B ++ Y))).map fT)) → Run (f51n79 (sQ 43 4 (Z.map fT)) ⟨e, m⟩))
    (st0 r0 : Nat) (hst : X.length ≤ st0) (hr0 : r0 ≤ X.length + A.length) (hr1 : r0 ≤ M) (hst1 : M ≤ st0 + B.length) (hsr : st0 ≤ r0) (hcut : Cut L X.length M A B st0 r0)
    (e : List (Nat × AV)) (m : List (Nat × Ob)) (h0 : lk e 0 = some (.own 1000)) (h1 : lk e 1 = some (.int .i64 X.length)) (h2 : lk e 2 = some (.int .i64 (X.length + A.length : Nat))) (h3 : lk e 3 = some (.int .i64 (X.length + A.length + B.length : Nat))) (h4 : lk e 4 = some (.fn g [])) (h18 : lk e 18 = some (.int .i64 M)) (h19 : lk e 19 = some (.int .i64 (M + (X.length + A.length) : Nat))) (h20 : lk e 20 = some (.int .i64 st0)) (h21 : lk e 21 = some (.int .i64 r0)) (h22 : lk e 22 = some (.int .i64 ((M + (X.length + A.length) : Nat) - 1 : Int)))
    (hm : lkM m 1000 = some (.arr 43 4 ((X ++ (A ++ (B ++ Y))).map fT))) : Run (f51n68 (thenA (f51n79 (sQ 43 4 (Z.map fT))) (sQ 43 4 (Z.map fT))) ⟨e, m⟩) := by
  rw [f51n68_eq]
  refine loop_of f51L69_is (fun s : Nat × Nat => ⟨[(20, .int .i64 s.1), (21, .int .i64 s.2), (0, .own 1000), (1, .int .i64 X.length), (2, .int .i64 (X.length + A.length : Nat)), (3, .int .i64 (X.length + A.length + B.length : Nat)), (4, .fn g []), (18, .int .i64 M), (19, .int .i64 (M + (X.length + A.length) : Nat)), (22, .int .i64 ((M + (X.length + A.length) : Nat) - 1 : Int))], [(1000, .arr 43 4 ((X ++ (A ++ (B ++ Y))).map fT))]⟩)
    (fun s => st0 ≤ s.1 ∧ s.1 ≤ s.2 ∧ s.2 ≤ r0 ∧ Cut L X.length M A B s.1 s.2) (fun s => s.2 - s.1) (st0, r0) ⟨Nat.le_refl _, hsr, Nat.le_refl _, hcut⟩ (le_intro (by simp only [allLook, allLookM, go_sem, ↓reduceIte, reduceIte, Nat.reduceAdd, Nat.reduceLT, Nat.reduceEqDiff, Nat.reduceLeDiff, Nat.reduceMul, h0, h1, h2, h3, h4, h18, h19, h20, h21, h22, hm]; try simp) (by simp only [allLook, allLookM, go_sem, ↓reduceIte, reduceIte, Nat.reduceAdd, Nat.reduceLT, Nat.reduceEqDiff, Nat.reduceLeDiff, Nat.reduceMul, h0, h1, h2, h3, h4, h18, h19, h20, h21, h22, hm]; try simp)) ?_
  rintro ⟨i, j⟩ R ⟨hi0, hij, hj0, hc1, hc2⟩ hR
  simp only at hi0 hij hj0 hc1 hc2
  simp (maxSteps := 2000000) (disch := omega) only [go_sem, ↓reduceIte, reduceIte, Nat.reduceAdd, Nat.reduceLT, Nat.reduceEqDiff, Nat.reduceLeDiff, Nat.reduceMul]
  refine cA_d (fun h5 => ?_) (fun h5 => ?_)
  · have hlt : i < j := by omega
    obtain ⟨c, hc⟩ : ∃ c, c = (i + j) / 2 := ⟨_, rfl⟩
    have hkA : c - X.length < A.length := by omega
    have hkB : M - 1 - c < B.length := by omega
    have hk3 : ((i : Int) + (j : Int)) / 2 = (c : Nat) := by omega
    have hk4 : ((M + (X.length + A.length) : Nat) : Int) - 1 - (c : Nat) = (X.length + A.length + (M - 1 - c) : Nat) := by omega
    have hkm := ht _ (List.getElem_mem hkA) _ (List.getElem_mem hkB)
    obtain ⟨r, hr64, hrL, hcall⟩ := hC.ok B[M - 1 - c].1 A[c - X.length].1 (hq _ (by simp)) (hq _ (by simp))
    unfold In64 at hr64
    have g1 := get_in X A (B ++ Y) c (c - X.length) (by omega) hkA
    have g2 := get_in (X ++ A) B Y (X.length + A.length + (M - 1 - c)) (M - 1 - c) (by simp) hkB
    rw [List.append_assoc] at g2
    have q1 := srt_take hsA hkA
    have q2 := srt_drop hsA hkA
    have q3 := srt_take hsB hkB
    have q4 := srt_drop hsB hkB
    generalize hxe : A[c - X.length] = x at *
    generalize hye : B[M - 1 - c] = y at *
    simp (maxSteps := 2000000) (disch := omega) only [go_sem, ↓reduceIte, reduceIte, Nat.reduceAdd, Nat.reduceLT, Nat.reduceEqDiff, Nat.reduceLeDiff, Nat.reduceMul, hk3, hk4]
    (repeat' (first | simp (maxSteps := 2000000) (disch := omega) only [go_sem, ↓reduceIte, reduceIte, Nat.reduceAdd, Nat.reduceLT, Nat.reduceEqDiff, Nat.reduceLeDiff, Nat.reduceMul, fT, Asg.av, hk3, hk4] | refine idxO_get (X.length + A.length + (M - 1 - c)) (by omega) g2 ?_ | refine idxO_get c (by omega) g1 ?_ | refine at_get g2 ?_ | refine at_get g1 ?_ | refine callq_1 (by rfl) hcall (by rfl) ?_))
    refine cA_b (fun h6 => ?_) (fun h6 => ?_)
    · have hxy : tl L x y := tl_total (by omega) (fun h => by simp [hrL.2 ((tl_later hkm).1 h)] at h6)
      simp (maxSteps := 2000000) (disch := omega) only [go_sem, ↓reduceIte, reduceIte, Nat.reduceAdd, Nat.reduceLT, Nat.reduceEqDiff, Nat.reduceLeDiff, Nat.reduceMul]
      refine hR (c + 1, j) _ ⟨by omega, by omega, hj0, fun u hu v hv => ?_, hc2⟩ (by simp only; omega) (le_intro (by simp only [allLook, allLookM, go_sem, ↓reduceIte, reduceIte, Nat.reduceAdd, Nat.reduceLT, Nat.reduceEqDiff, Nat.reduceLeDiff, Nat.reduceMul, show ((c : Nat) : Int) + 1 = (c + 1 : Nat) by omega]; try simp) (by simp only [allLook, allLookM, go_sem, ↓reduceIte, reduceIte, Nat.reduceAdd, Nat.reduceLT, Nat.reduceEqDiff, Nat.reduceLeDiff, Nat.reduceMul, show ((c : Nat) : Int) + 1 = (c + 1 : Nat) by omega]; try simp))
      simp only at hu hv
      rw [show c + 1 - X.length = c - X.length + 1 by omega] at hu
      rw [show M - (c + 1) = M - 1 - c by omega] at hv
      have k1 : tl L u y := by
        rcases q1 u hu with e | e
        · rw [e]; exact hxy
        · exact tl_trans hC.less e hxy
      rcases q4 v hv with e | e
      · rw [e]; exact k1
      · exact tl_trans hC.less k1 e
    · have hyx : tl L y x := (tl_later hkm).2 (hrL.1 (by simpa using h6))
      simp (maxSteps := 2000000) (disch := omega) only [go_sem, ↓reduceIte, reduceIte, Nat.reduceAdd, Nat.reduceLT, Nat.reduceEqDiff, Nat.reduceLeDiff, Nat.reduceMul]
      refine hR (i, c) _ ⟨hi0, by omega, by omega, hc1, fun u hu v hv => ?_⟩ (by simp only; omega) (le_intro (by simp only [allLook, allLookM, go_sem, ↓reduceIte, reduceIte, Nat.reduceAdd, Nat.reduceLT, Nat.reduceEqDiff, Nat.reduceLeDiff, Nat.reduceMul]; try simp) (by simp only [allLook, allLookM, go_sem, ↓reduceIte, reduceIte, Nat.reduceAdd, Nat.reduceLT, Nat.reduceEqDiff, Nat.reduceLeDiff, Nat.reduceMul]; try simp))
      simp only at hu hv
      rw [show M - c = M - 1 - c + 1 by omega] at hu
      have k1 : tl L u x := by
        rcases q3 u hu with e | e
        · rw [e]; exact hyx
        · exact tl_trans hC.less e hyx
      rcases q2 v hv with e | e
      · rw [e]; exact k1
      · exact tl_trans hC.less k1 e
  · have hji : j = i := by omega
    subst hji
    simp (maxSteps := 2000000) (disch := omega) only [go_sem, ↓reduceIte, reduceIte, Nat.reduceAdd, Nat.reduceLT, Nat.reduceEqDiff, Nat.reduceLeDiff, Nat.reduceMul]
    have l1 : (A.take (j - X.length)).length = j - X.length := by rw [List.length_take]; omega
    have l2 : (B.take (M - j)).length = M - j := by rw [List.length_take]; omega
    refine hend (A.take (j - X.length)) (A.drop (j - X.length)) (B.take (M - j)) (B.drop (M - j)) (List.take_append_drop _ _).symm (List.take_append_drop _ _).symm (by omega) hc1 hc2 _ _ (by simp only [go_sem, ↓reduceIte, reduceIte, Nat.reduceAdd, Nat.reduceLT, Nat.reduceEqDiff, Nat.reduceLeDiff, Nat.reduceMul]) (by simp only [go_sem, ↓reduceIte, reduceIte, Nat.reduceAdd, Nat.reduceLT, Nat.reduceEqDiff, Nat.reduceLeDiff, Nat.reduceMul]) (by simp only [go_sem, ↓reduceIte, reduceIte, Nat.reduceAdd, Nat.reduceLT, Nat.reduceEqDiff, Nat.reduceLeDiff, Nat.reduceMul]) (by simp only [go_sem, ↓reduceIte, reduceIte, Nat.reduceAdd, Nat.reduceLT, Nat.reduceEqDiff, Nat.reduceLeDiff, Nat.reduceMul]) (by simp only [go_sem, ↓reduceIte, reduceIte, Nat.reduceAdd, Nat.reduceLT, Nat.reduceEqDiff, Nat.reduceLeDiff, Nat.reduceMul]) (by simp only [go_sem, ↓reduceIte, reduceIte, Nat.reduceAdd, Nat.reduceLT, Nat.reduceEqDiff, Nat.reduceLeDiff, Nat.reduceMul]) (by simp only [go_sem, ↓reduceIte, reduceIte, Nat.reduceAdd, Nat.reduceLT, Nat.reduceEqDiff, Nat.reduceLeDiff, Nat.reduceMul]) ?_ (by simp only [go_sem, ↓reduceIte, reduceIte, Nat.reduceAdd, Nat.reduceLT, Nat.reduceEqDiff, Nat.reduceLeDiff, Nat.reduceMul])
    rw [l1, show X.length + (j - X.length) = j by omega]
    exact (by simp only [go_sem, ↓reduceIte, reduceIte, Nat.reduceAdd, Nat.reduceLT, Nat.reduceEqDiff, Nat.reduceLeDiff, Nat.reduceMul])
set_option maxHeartbeats 8000000 in
theorem sym51_ok {g : FuncId} {q : Asg → Prop} {L : Asg → Asg → Bool} (hC : Cmp g q L) : ∀ (n : Nat) (X A B Y : List (Asg × Nat)), A.length + B.length ≤ n → A ≠ [] → B ≠ [] → (∀ t ∈ A ++ B, q t.1) → (∀ x ∈ A, ∀ y ∈ B, x.2 < y.2) → Srt L A → Srt L B → Dis (A ++ B) → X.length + A.length + B.length + Y.length ≤ 1099511627776 → Sym g L X A B Y := by
  intro n
  induction n with
  | zero => intro X A B Y hn hA; exact absurd (List.eq_nil_of_length_eq_zero (by omega)) hA
  | succ n ih =>
    intro X A B Y hn hA hB hq ht hsA hsB hd hl
    have hA0 : 0 < A.length := List.length_pos_iff.2 hA
    have hB0 : 0 < B.length := List.length_pos_iff.2 hB
    by_cases hA1 : A.length = 1
    · obtain ⟨x, rfl⟩ := List.length_eq_one_iff.1 hA1
      exact sym51_one hC X x B Y hq (fun y hy => ht x (by simp) y hy) hsB hd (by simpa using hl)
    by_cases hB1 : B.length = 1
    · obtain ⟨y, rfl⟩ := List.length_eq_one_iff.1 hB1
      exact sym51_two hC X A y Y hA1 hq (fun x hx => ht x hx y (by simp)) hsA hd (by simpa using hl)
    obtain ⟨M, hM⟩ : ∃ M, M = (X.length + (X.length + A.length + B.length)) / 2 := ⟨_, rfl⟩
    have hend : ∀ A1 A2 B1 B2 : List (Asg × Nat), A = A1 ++ A2 → B = B1 ++ B2 → M = X.length + A1.length + B1.length → (∀ x ∈ A1, ∀ y ∈ B2, tl L x y) → (∀ y ∈ B1, ∀ x ∈ A2, tl L y x) → ∀ e m, lk e 0 = some (.own 1000) → lk e 1 = some (.int .i64 X.length) → lk e 2 = some (.int .i64 (X.length + A.length : Nat)) → lk e 3 = some (.int .i64 (X.length + A.length + B.length : Nat)) → lk e 4 = some (.fn g []) → lk e 18 = some (.int .i64 M) → lk e 19 = some (.int .i64 (M + (X.length + A.length) : Nat)) → lk e 20 = some (.int .i64 (X.length + A1.length : Nat)) → lkM m 1000 = some (.arr 43 4 ((X ++ (A ++ (B ++ Y))).map fT)) → Run (f51n79 (sQ 43 4 ((X ++ (isortT L (A ++ B) ++ Y)).map fT)) ⟨e, m⟩) := by
      intro A1 A2 B1 B2 eA eB eM k1 k2 e m h0 h1 h2 h3 h4 h18 h19 h20 hm
      subst eA eB
      obtain ⟨sA1, sA2, _⟩ := List.pairwise_append.1 hsA
      obtain ⟨sB1, sB2, _⟩ := List.pairwise_append.1 hsB
      have d1 : Dis (A1 ++ B1) := hd.sublist ((List.sublist_append_left A1 A2).append (List.sublist_append_left B1 B2))
      have d2 : Dis (A2 ++ B2) := hd.sublist ((List.sublist_append_right A1 A2).append (List.sublist_append_right B1 B2))
      simp only [List.length_append] at hn hl hA1 hB1 hM hA0 hB0 h2 h3 h19
      refine sym51_s1 X A1 A2 B1 B2 Y _ (fun n1 n2 => ?_) (fun hn => isort_nil hC.less hn sA1 sB1 d1) (fun n1 n2 => ?_) (fun hn => isort_nil hC.less hn sA2 sB2 d2) (by omega) e m h0 h1 (by rw [h2, Nat.add_assoc]) (by rw [h3]; congr 3; omega) h4 (by rw [h18, eM, Nat.add_assoc]) (by rw [h19]; congr 3; omega) h20 (by rw [hm]; simp only [List.append_assoc]) ?_
      · exact ih X A1 B1 _ (by omega) n1 n2 (fun t h => hq t (by simp at h ⊢; rcases h with h | h <;> simp [h])) (fun x hx y hy => ht x (by simp [hx]) y (by simp [hy])) sA1 sB1 d1 (by simp; omega)
      · exact ih (X ++ isortT L (A1 ++ B1)) A2 B2 _ (by omega) n1 n2 (fun t h => hq t (by simp at h ⊢; rcases h with h | h <;> simp [h])) (fun x hx y hy => ht x (by simp [hx]) y (by simp [hy])) sA2 sB2 d2 (by rw [List.length_append, isortT_len, List.length_append]; omega)
      · rw [isortT_halves hC.less hsA hsB hd k1 k2, List.append_assoc]
    unfold Sym
    refine f51_sorts (Nat.le_of_ble_eq_true rfl) (fT_scal _) ?_
    simp (maxSteps := 2000000) (disch := omega) only [go_sem, ↓reduceIte, reduceIte, Nat.reduceAdd, Nat.reduceLT, Nat.reduceEqDiff, Nat.reduceLeDiff, Nat.reduceMul]
    refine cA_d (fun h => absurd h (by omega)) (fun _ => ?_)
    simp (maxSteps := 2000000) (disch := omega) only [go_sem, ↓reduceIte, reduceIte, Nat.reduceAdd, Nat.reduceLT, Nat.reduceEqDiff, Nat.reduceLeDiff, Nat.reduceMul]
    refine cA_d (fun h => absurd h (by omega)) (fun _ => ?_)
    have hk2 : ((X.length : Nat) : Int) + (X.length + A.length + B.length : Nat) = (X.length + (X.length + A.length + B.length) : Nat) := by omega
    have hk3 : ((X.length + (X.length + A.length + B.length) : Nat) : Int) / 2 = (M : Nat) := by omega
    have hk4 : ((M : Nat) : Int) + (X.length + A.length : Nat) = (M + (X.length + A.length) : Nat) := by omega
    simp (maxSteps := 2000000) (disch := omega) only [go_sem, ↓reduceIte, reduceIte, Nat.reduceAdd, Nat.reduceLT, Nat.reduceEqDiff, Nat.reduceLeDiff, Nat.reduceMul, hk2, hk3, hk4]
    refine cA_d (fun h => ?_) (fun h => ?_)
    · have hk5 : ((M + (X.length + A.length) : Nat) : Int) - (X.length + A.length + B.length : Nat) = (M - B.length : Nat) := by omega
      simp (maxSteps := 2000000) (disch := omega) only [go_sem, ↓reduceIte, reduceIte, Nat.reduceAdd, Nat.reduceLT, Nat.reduceEqDiff, Nat.reduceLeDiff, Nat.reduceMul, hk5]
      refine sym51_search hC X A B Y _ M hq ht hsA hsB hl hend (M - B.length) M (by omega) (by omega) (by omega) (by omega) (by omega) ⟨?_, ?_⟩ _ _ (by simp only [go_sem, ↓reduceIte, reduceIte, Nat.reduceAdd, Nat.reduceLT, Nat.reduceEqDiff, Nat.reduceLeDiff, Nat.reduceMul]) (by simp only [go_sem, ↓reduceIte, reduceIte, Nat.reduceAdd, Nat.reduceLT, Nat.reduceEqDiff, Nat.reduceLeDiff, Nat.reduceMul]) (by simp only [go_sem, ↓reduceIte, reduceIte, Nat.reduceAdd, Nat.reduceLT, Nat.reduceEqDiff, Nat.reduceLeDiff, Nat.reduceMul]) (by simp only [go_sem, ↓reduceIte, reduceIte, Nat.reduceAdd, Nat.reduceLT, Nat.reduceEqDiff, Nat.reduceLeDiff, Nat.reduceMul]) (by simp only [go_sem, ↓reduceIte, reduceIte, Nat.reduceAdd, Nat.reduceLT, Nat.reduceEqDiff, Nat.reduceLeDiff, Nat.reduceMul]) (by simp only [go_sem, ↓reduceIte, reduceIte, Nat.reduceAdd, Nat.reduceLT, Nat.reduceEqDiff, Nat.reduceLeDiff, Nat.reduceMul]) (by simp only [go_sem, ↓reduceIte, reduceIte, Nat.reduceAdd, Nat.reduceLT, Nat.reduceEqDiff, Nat.reduceLeDiff, Nat.reduceMul]) (by simp only [go_sem, ↓reduceIte, reduceIte, Nat.reduceAdd, Nat.reduceLT, Nat.reduceEqDiff, Nat.reduceLeDiff, Nat.reduceMul]) (by simp only [go_sem, ↓reduceIte, reduceIte, Nat.reduceAdd, Nat.reduceLT, Nat.reduceEqDiff, Nat.reduceLeDiff, Nat.reduceMul]) (by simp only [go_sem, ↓reduceIte, reduceIte, Nat.reduceAdd, Nat.reduceLT, Nat.reduceEqDiff, Nat.reduceLeDiff, Nat.reduceMul]) (by simp only [go_sem, ↓reduceIte, reduceIte, Nat.reduceAdd, Nat.reduceLT, Nat.reduceEqDiff, Nat.reduceLeDiff, Nat.reduceMul])
      · intro x _ y hy
        rw [List.drop_eq_nil_of_le (by omega)] at hy
        simp at hy
      · intro y hy
        rw [Nat.sub_self] at hy
        simp at hy
    · simp (maxSteps := 2000000) (disch := omega) only [go_sem, ↓reduceIte, reduceIte, Nat.reduceAdd, Nat.reduceLT, Nat.reduceEqDiff, Nat.reduceLeDiff, Nat.reduceMul]
      refine sym51_search hC X A B Y _ M hq ht hsA hsB hl hend X.length (X.length + A.length) (by omega) (by omega) (by omega) (by omega) (by omega) ⟨?_, ?_⟩ _ _ (by simp only [go_sem, ↓reduceIte, reduceIte, Nat.reduceAdd, Nat.reduceLT, Nat.reduceEqDiff, Nat.reduceLeDiff, Nat.reduceMul]) (by simp only [go_sem, ↓reduceIte, reduceIte, Nat.reduceAdd, Nat.reduceLT, Nat.reduceEqDiff, Nat.reduceLeDiff, Nat.reduceMul]) (by simp only [go_sem, ↓reduceIte, reduceIte, Nat.reduceAdd, Nat.reduceLT, Nat.reduceEqDiff, Nat.reduceLeDiff, Nat.reduceMul]) (by simp only [go_sem, ↓reduceIte, reduceIte, Nat.reduceAdd, Nat.reduceLT, Nat.reduceEqDiff, Nat.reduceLeDiff, Nat.reduceMul]) (by simp only [go_sem, ↓reduceIte, reduceIte, Nat.reduceAdd, Nat.reduceLT, Nat.reduceEqDiff, Nat.reduceLeDiff, Nat.reduceMul]) (by simp only [go_sem, ↓reduceIte, reduceIte, Nat.reduceAdd, Nat.reduceLT, Nat.reduceEqDiff, Nat.reduceLeDiff, Nat.reduceMul]) (by simp only [go_sem, ↓reduceIte, reduceIte, Nat.reduceAdd, Nat.reduceLT, Nat.reduceEqDiff, Nat.reduceLeDiff, Nat.reduceMul]) (by simp only [go_sem, ↓reduceIte, reduceIte, Nat.reduceAdd, Nat.reduceLT, Nat.reduceEqDiff, Nat.reduceLeDiff, Nat.reduceMul]) (by simp only [go_sem, ↓reduceIte, reduceIte, Nat.reduceAdd, Nat.reduceLT, Nat.reduceEqDiff, Nat.reduceLeDiff, Nat.reduceMul]) (by simp only [go_sem, ↓reduceIte, reduceIte, Nat.reduceAdd, Nat.reduceLT, Nat.reduceEqDiff, Nat.reduceLeDiff, Nat.reduceMul]) (by simp only [go_sem, ↓reduceIte, reduceIte, Nat.reduceAdd, Nat.reduceLT, Nat.reduceEqDiff, Nat.reduceLeDiff, Nat.reduceMul])
      · intro x hx
        rw [Nat.sub_self] at hx
        simp at hx
      · intro y _ x hx
        rw [List.drop_eq_nil_of_le (by omega)] at hx
        simp at hx
end Go.Proofs.Ytkknahekpeaoiaa

namespace Go.Proofs.Ytkknahekpeaoiaa
open Go Go.AI Go.Proofs
set_option linter.unusedSimpArgs false
set_option linter.unusedVariables false
set_option maxRecDepth 4000
def Inc (T : List (Asg × Nat)) : Prop := T.Pairwise fun x y => x.2 < y.2
theorem Inc.dis {T : List (Asg × Nat)} (h : Inc T) : Dis T := h.imp (fun h => by omega)
/-- Two neighbouring pieces, each in order, become one. -/
theorem sym_two {g : FuncId} {q : Asg → Prop} {L : Asg → Asg → Bool} (hC : Cmp g q L) (P V1 V2 S : List (Asg × Nat)) (h1 : V1 ≠ []) (h2 : V2 ≠ []) (hq : ∀ t ∈ V1 ++ V2, q t.1) (hi : Inc (V1 ++ V2)) (hl : P.length + V1.length + V2.length + S.length ≤ 1099511627776) :
    SortsTo Try.prog 51 43 4 ((P ++ (isortT L V1 ++ (isortT L V2 ++ S))).map fT) [.int .i64 P.length, .int .i64 (P.length + V1.length : Nat), .int .i64 (P.length + V1.length + V2.length : Nat), .fn g []] ((P ++ (isortT L (V1 ++ V2) ++ S)).map fT) := by
  have hp := (isortT_perm L V1).append (isortT_perm L V2)
  obtain ⟨i1, i2, i3⟩ := List.pairwise_append.1 hi
  have h := sym51_ok hC _ P (isortT L V1) (isortT L V2) S (Nat.le_refl _) (fun e => h1 (List.eq_nil_of_length_eq_zero (by rw [← isortT_len L V1, e]; rfl))) (fun e => h2 (List.eq_nil_of_length_eq_zero (by rw [← isortT_len L V2, e]; rfl)))
    (fun t ht => hq t (hp.mem_iff.1 ht)) (fun x hx y hy => i3 x ((isortT_perm L V1).mem_iff.1 hx) y ((isortT_perm L V2).mem_iff.1 hy)) (isortT_srt hC.less V1 (Inc.dis i1)) (isortT_srt hC.less V2 (Inc.dis i2)) ((Inc.dis hi).perm hp.symm) (by simp only [isortT_len]; omega)
  unfold Sym at h
  rw [isortT_len, isortT_len, isortT_cong hC.less (Inc.dis hi) hp] at h
  exact h
theorem chunk_len' (L : Asg → Asg → Bool) {c : Nat} (hc : 0 < c) (T : List (Asg × Nat)) : (chunk L c T).length = T.length := chunk_len L hc _ T (Nat.le_refl _)
/-- The first pieces of a list that has two of them. -/
theorem chunk_cut (L : Asg → Asg → Bool) {c : Nat} (hc : 0 < c) {V1 V2 V3 : List (Asg × Nat)} (h1 : V1.length = c) (h2 : V2.length = c) : chunk L c (V1 ++ (V2 ++ V3)) = isortT L V1 ++ (isortT L V2 ++ chunk L c V3) := by
  rw [chunk_append L hc 1 V1 _ (by omega), chunk_append L hc 1 V2 _ (by omega), chunk_one L hc (by omega), chunk_one L hc (by omega)]
theorem chunk_cut2 (L : Asg → Asg → Bool) {c : Nat} (hc : 0 < c) {V1 V2 : List (Asg × Nat)} (h1 : V1.length = c) (h2 : V2.length ≤ c) : chunk L c (V1 ++ V2) = isortT L V1 ++ isortT L V2 := by
  rw [chunk_append L hc 1 V1 _ (by omega), chunk_one L hc (by omega), chunk_one L hc (by omega)]
set_option maxHeartbeats 8000000 in
theorem stable45_ok {g : FuncId} {q : Asg → Prop} {L : Asg → Asg → Bool} (hC : Cmp g q L) (T : List (Asg × Nat)) (hq : ∀ t ∈ T, q t.1) (hi : Inc T) (hl : T.length ≤ 1099511627776) :
    SortsTo Try.prog 45 43 4 (T.map fT) [.int .i64 T.length, .fn g []] ((isortT L T).map fT) := by
  refine f45_sorts (Nat.le_of_ble_eq_true rfl) (fT_scal _) ?_
  simp (maxSteps := 2000000) (disch := omega) only [go_sem, ↓reduceIte, reduceIte, Nat.reduceAdd, Nat.reduceLT, Nat.reduceEqDiff, Nat.reduceLeDiff, Nat.reduceMul]
  refine loop_of f45L4_is (fun s : List (Asg × Nat) × List (Asg × Nat) => ⟨[(7, .int .i64 s.1.length), (8, .int .i64 (s.1.length + 20 : Nat)), (6, .int .i64 20), (0, .own 1000), (1, .int .i64 T.length), (2, .fn g [])], [(1000, .arr 43 4 ((chunk L 20 s.1 ++ s.2).map fT))]⟩)
    (fun s => s.1 ++ s.2 = T ∧ ∃ k, s.1.length = k * 20) (fun s => s.2.length) ([], T) ⟨rfl, 0, rfl⟩ (le_intro (by simp only [allLook, allLookM, go_sem, ↓reduceIte, reduceIte, Nat.reduceAdd, Nat.reduceLT, Nat.reduceEqDiff, Nat.reduceLeDiff, Nat.reduceMul, chunk_nil, List.nil_append, List.length_nil]; try simp) (by simp only [allLook, allLookM, go_sem, ↓reduceIte, reduceIte, Nat.reduceAdd, Nat.reduceLT, Nat.reduceEqDiff, Nat.reduceLeDiff, Nat.reduceMul, chunk_nil, List.nil_append, List.length_nil]; try simp)) ?_
  rintro ⟨U, V⟩ R ⟨hUV, k, hk⟩ hR
  simp only at hUV hk
  have hUVl : U.length + V.length = T.length := by rw [← List.length_append, hUV]
  have hcl := chunk_len' L (c := 20) (by omega) U
  have hV : ∀ t ∈ V, q t.1 := fun t ht => hq t (by rw [← hUV]; simp [ht])
  have hVi : Inc V := (List.pairwise_append.1 (hUV ▸ hi : Inc (U ++ V))).2.1
  simp (maxSteps := 2000000) (disch := omega) only [go_sem, ↓reduceIte, reduceIte, Nat.reduceAdd, Nat.reduceLT, Nat.reduceEqDiff, Nat.reduceLeDiff, Nat.reduceMul]
  refine cA_d (fun h2 => ?_) (fun h2 => ?_)
  · obtain ⟨V1, V2, rfl, hV1⟩ : ∃ V1 V2, V = V1 ++ V2 ∧ V1.length = 20 := ⟨V.take 20, V.drop 20, by simp, by simp; omega⟩
    have hso := insert50_ok hC (chunk L 20 U) V1 V2 (fun t ht => hV t (by simp [ht])) (List.pairwise_append.1 hVi).1 (by simp at hUVl; omega)
    rw [hcl, hV1] at hso
    simp (maxSteps := 2000000) (disch := omega) only [go_sem, ↓reduceIte, reduceIte, Nat.reduceAdd, Nat.reduceLT, Nat.reduceEqDiff, Nat.reduceLeDiff, Nat.reduceMul]
    refine call_s (id := 1000) (rest := [.int .i64 U.length, .int .i64 (U.length + 20 : Nat), .fn g []]) (rest' := [.int .i64 U.length, .int .i64 (U.length + 20 : Nat), .fn g []]) rfl (by simp only [go_sem, ↓reduceIte, reduceIte, Nat.reduceAdd, Nat.reduceLT, Nat.reduceEqDiff, Nat.reduceLeDiff, Nat.reduceMul]) (by rfl) hso (fT_scal _) ?_
    simp (maxSteps := 2000000) (disch := omega) only [go_sem, ↓reduceIte, reduceIte, Nat.reduceAdd, Nat.reduceLT, Nat.reduceEqDiff, Nat.reduceLeDiff, Nat.reduceMul]
    refine hR (U ++ V1, V2) _ ⟨by rw [← hUV]; simp, k + 1, by simp; omega⟩ (by simp; omega) ?_
    simp only [chunk_append L (c := 20) (by omega) k U V1 hk, chunk_one L (c := 20) (T := V1) (by omega) (by omega), List.length_append, hV1]
    exact (le_intro (by simp only [allLook, allLookM, go_sem, ↓reduceIte, reduceIte, Nat.reduceAdd, Nat.reduceLT, Nat.reduceEqDiff, Nat.reduceLeDiff, Nat.reduceMul, List.append_assoc, show ((U.length + 20 : Nat) : Int) + 20 = (U.length + 20 + 20 : Nat) by omega]; try simp) (by simp only [allLook, allLookM, go_sem, ↓reduceIte, reduceIte, Nat.reduceAdd, Nat.reduceLT, Nat.reduceEqDiff, Nat.reduceLeDiff, Nat.reduceMul, List.append_assoc, show ((U.length + 20 : Nat) : Int) + 20 = (U.length + 20 + 20 : Nat) by omega]; try simp))
  · have hso := insert50_ok hC (chunk L 20 U) V [] hV hVi (by simp; omega)
    rw [hcl, hUVl, List.append_nil, List.append_nil] at hso
    simp (maxSteps := 2000000) (disch := omega) only [go_sem, ↓reduceIte, reduceIte, Nat.reduceAdd, Nat.reduceLT, Nat.reduceEqDiff, Nat.reduceLeDiff, Nat.reduceMul]
    refine call_s (id := 1000) (rest := [.int .i64 U.length, .int .i64 T.length, .fn g []]) (rest' := [.int .i64 U.length, .int .i64 T.length, .fn g []]) rfl (by simp only [go_sem, ↓reduceIte, reduceIte, Nat.reduceAdd, Nat.reduceLT, Nat.reduceEqDiff, Nat.reduceLeDiff, Nat.reduceMul]) (by rfl) hso (fT_scal _) ?_
    have hT : chunk L 20 U ++ isortT L V = chunk L 20 T := by
      rw [← hUV, chunk_append L (by omega) k U V hk, chunk_one L (T := V) (by omega) (by omega)]
    rw [hT]
    clear hR hUV hk hcl hV hVi hso hT
    simp (maxSteps := 2000000) (disch := omega) only [go_sem, ↓reduceIte, reduceIte, Nat.reduceAdd, Nat.reduceLT, Nat.reduceEqDiff, Nat.reduceLeDiff, Nat.reduceMul]
    refine loop_of f45L14_is (fun c : Nat => ⟨[(6, .int .i64 c), (0, .own 1000), (1, .int .i64 T.length), (2, .fn g [])], [(1000, .arr 43 4 ((chunk L c T).map fT))]⟩)
      (fun c => 0 < c) (fun c => T.length - c) 20 (by omega) (le_intro (by simp only [allLook, allLookM, go_sem, ↓reduceIte, reduceIte, Nat.reduceAdd, Nat.reduceLT, Nat.reduceEqDiff, Nat.reduceLeDiff, Nat.reduceMul]; try simp) (by simp only [allLook, allLookM, go_sem, ↓reduceIte, reduceIte, Nat.reduceAdd, Nat.reduceLT, Nat.reduceEqDiff, Nat.reduceLeDiff, Nat.reduceMul]; try simp)) ?_
    rintro c R2 hc hR2
    simp (maxSteps := 2000000) (disch := omega) only [go_sem, ↓reduceIte, reduceIte, Nat.reduceAdd, Nat.reduceLT, Nat.reduceEqDiff, Nat.reduceLeDiff, Nat.reduceMul]
    refine cA_d (fun h3 => ?_) (fun h3 => ?_)
    · have hcT : c < T.length := by omega
      have hc2 : (2 : Int) * (c : Nat) = (2 * c : Nat) := by omega
      simp (maxSteps := 2000000) (disch := omega) only [go_sem, ↓reduceIte, reduceIte, Nat.reduceAdd, Nat.reduceLT, Nat.reduceEqDiff, Nat.reduceLeDiff, Nat.reduceMul, hc2]
      refine loop_of f45L22_is (fun s : List (Asg × Nat) × List (Asg × Nat) => ⟨[(7, .int .i64 s.1.length), (8, .int .i64 (s.1.length + 2 * c : Nat)), (6, .int .i64 c), (0, .own 1000), (1, .int .i64 T.length), (2, .fn g [])], [(1000, .arr 43 4 ((chunk L (2 * c) s.1 ++ chunk L c s.2).map fT))]⟩)
        (fun s => s.1 ++ s.2 = T ∧ ∃ k, s.1.length = k * (2 * c)) (fun s => s.2.length) ([], T) ⟨rfl, 0, by simp⟩ (le_intro (by simp only [allLook, allLookM, go_sem, ↓reduceIte, reduceIte, Nat.reduceAdd, Nat.reduceLT, Nat.reduceEqDiff, Nat.reduceLeDiff, Nat.reduceMul, chunk_nil, List.nil_append, List.length_nil, Nat.zero_add]; try simp) (by simp only [allLook, allLookM, go_sem, ↓reduceIte, reduceIte, Nat.reduceAdd, Nat.reduceLT, Nat.reduceEqDiff, Nat.reduceLeDiff, Nat.reduceMul, chunk_nil, List.nil_append, List.length_nil, Nat.zero_add]; try simp)) ?_
      rintro ⟨U, V⟩ R ⟨hUV, k, hk⟩ hR
      simp only at hUV hk
      have hUVl : U.length + V.length = T.length := by rw [← List.length_append, hUV]
      have hcl := chunk_len' L (c := 2 * c) (by omega) U
      have hV : ∀ t ∈ V, q t.1 := fun t ht => hq t (by rw [← hUV]; simp [ht])
      have hVi : Inc V := (List.pairwise_append.1 (hUV ▸ hi : Inc (U ++ V))).2.1
      simp (maxSteps := 2000000) (disch := omega) only [go_sem, ↓reduceIte, reduceIte, Nat.reduceAdd, Nat.reduceLT, Nat.reduceEqDiff, Nat.reduceLeDiff, Nat.reduceMul]
      refine cA_d (fun h4 => ?_) (fun h4 => ?_)
      · obtain ⟨V1, W, rfl, hV1⟩ : ∃ V1 W, V = V1 ++ W ∧ V1.length = c := ⟨V.take c, V.drop c, by simp, by simp; omega⟩
        rw [List.length_append] at hUVl
        obtain ⟨V2, V3, rfl, hV2⟩ : ∃ V2 V3, W = V2 ++ V3 ∧ V2.length = c := ⟨W.take c, W.drop c, by simp, by simp; omega⟩
        rw [List.length_append] at hUVl
        have hcl3 := chunk_len' L hc V3
        have hso := sym_two hC (chunk L (2 * c) U) V1 V2 (chunk L c V3) (by intro e; subst e; simp at hV1; omega) (by intro e; subst e; simp at hV2; omega) (fun t ht => hV t (by simp at ht ⊢; rcases ht with h | h <;> simp [h])) (by rw [← List.append_assoc] at hVi; exact (List.pairwise_append.1 hVi).1) (by omega)
        rw [hcl, hV1, hV2, show U.length + c + c = U.length + 2 * c by omega] at hso
        rw [chunk_cut L hc hV1 hV2]
        have hc3 : ((U.length : Nat) : Int) + (c : Nat) = (U.length + c : Nat) := by omega
        simp (maxSteps := 2000000) (disch := omega) only [go_sem, ↓reduceIte, reduceIte, Nat.reduceAdd, Nat.reduceLT, Nat.reduceEqDiff, Nat.reduceLeDiff, Nat.reduceMul, hc2, hc3]
        refine call_s (id := 1000) (rest := [.int .i64 U.length, .int .i64 (U.length + c : Nat), .int .i64 (U.length + 2 * c : Nat), .fn g []]) (rest' := [.int .i64 U.length, .int .i64 (U.length + c : Nat), .int .i64 (U.length + 2 * c : Nat), .fn g []]) rfl (by simp only [go_sem, ↓reduceIte, reduceIte, Nat.reduceAdd, Nat.reduceLT, Nat.reduceEqDiff, Nat.reduceLeDiff, Nat.reduceMul]) (by rfl) hso (fT_scal _) ?_
        simp (maxSteps := 2000000) (disch := omega) only [go_sem, ↓reduceIte, reduceIte, Nat.reduceAdd, Nat.reduceLT, Nat.reduceEqDiff, Nat.reduceLeDiff, Nat.reduceMul, hc2]
        refine hR (U ++ (V1 ++ V2), V3) _ ⟨by rw [← hUV]; simp, k + 1, by simp [Nat.add_mul]; omega⟩ (by simp; omega) ?_
        simp only [chunk_append L (c := 2 * c) (by omega) k U (V1 ++ V2) hk, chunk_one L (c := 2 * c) (T := V1 ++ V2) (by omega) (by simp; omega), List.length_append, hV1, hV2]
        exact (le_intro (by simp only [allLook, allLookM, go_sem, ↓reduceIte, reduceIte, Nat.reduceAdd, Nat.reduceLT, Nat.reduceEqDiff, Nat.reduceLeDiff, Nat.reduceMul, List.append_assoc, show U.length + (c + c) = U.length + 2 * c by omega, show ((U.length + 2 * c : Nat) : Int) + (2 * c : Nat) = (U.length + 2 * c + 2 * c : Nat) by omega]; try simp) (by simp only [allLook, allLookM, go_sem, ↓reduceIte, reduceIte, Nat.reduceAdd, Nat.reduceLT, Nat.reduceEqDiff, Nat.reduceLeDiff, Nat.reduceMul, List.append_assoc, show U.length + (c + c) = U.length + 2 * c by omega, show ((U.length + 2 * c : Nat) : Int) + (2 * c : Nat) = (U.length + 2 * c + 2 * c : Nat) by omega]; try simp))
      · have hc3 : ((U.length : Nat) : Int) + (c : Nat) = (U.length + c : Nat) := by omega
        simp (maxSteps := 2000000) (disch := omega) only [go_sem, ↓reduceIte, reduceIte, Nat.reduceAdd, Nat.reduceLT, Nat.reduceEqDiff, Nat.reduceLeDiff, Nat.reduceMul, hc3]
        refine cA_d (fun h5 => ?_) (fun h5 => ?_)
        · obtain ⟨V1, V2, rfl, hV1⟩ : ∃ V1 W, V = V1 ++ W ∧ V1.length = c := ⟨V.take c, V.drop c, by simp, by simp; omega⟩
          rw [List.length_append] at hUVl
          have hso := sym_two hC (chunk L (2 * c) U) V1 V2 [] (by intro e; subst e; simp at hV1; omega) (by intro e; subst e; simp at hUVl; omega) hV hVi (by simp; omega)
          rw [hcl, hV1, show U.length + c + V2.length = T.length by omega, List.append_nil, List.append_nil] at hso
          rw [chunk_cut2 L hc hV1 (by omega)]
          simp (maxSteps := 2000000) (disch := omega) only [go_sem, ↓reduceIte, reduceIte, Nat.reduceAdd, Nat.reduceLT, Nat.reduceEqDiff, Nat.reduceLeDiff, Nat.reduceMul, hc3]
          refine call_s (id := 1000) (rest := [.int .i64 U.length, .int .i64 (U.length + c : Nat), .int .i64 T.length, .fn g []]) (rest' := [.int .i64 U.length, .int .i64 (U.length + c : Nat), .int .i64 T.length, .fn g []]) rfl (by simp only [go_sem, ↓reduceIte, reduceIte, Nat.reduceAdd, Nat.reduceLT, Nat.reduceEqDiff, Nat.reduceLeDiff, Nat.reduceMul]) (by rfl) hso (fT_scal _) ?_
          simp (maxSteps := 2000000) (disch := omega) only [go_sem, ↓reduceIte, reduceIte, Nat.reduceAdd, Nat.reduceLT, Nat.reduceEqDiff, Nat.reduceLeDiff, Nat.reduceMul]
          refine hR2 (2 * c) _ (by omega) (by omega) ?_
          have hT : chunk L (2 * c) U ++ isortT L (V1 ++ V2) = chunk L (2 * c) T := by
            rw [← hUV, chunk_append L (by omega) k U _ hk, chunk_one L (T := V1 ++ V2) (by omega) (by simp; omega)]
          rw [hT]
          exact (le_intro (by simp only [allLook, allLookM, go_sem, ↓reduceIte, reduceIte, Nat.reduceAdd, Nat.reduceLT, Nat.reduceEqDiff, Nat.reduceLeDiff, Nat.reduceMul, show ((c : Nat) : Int) * 2 = (2 * c : Nat) by omega]; try simp) (by simp only [allLook, allLookM, go_sem, ↓reduceIte, reduceIte, Nat.reduceAdd, Nat.reduceLT, Nat.reduceEqDiff, Nat.reduceLeDiff, Nat.reduceMul, show ((c : Nat) : Int) * 2 = (2 * c : Nat) by omega]; try simp))
        · simp (maxSteps := 2000000) (disch := omega) only [go_sem, ↓reduceIte, reduceIte, Nat.reduceAdd, Nat.reduceLT, Nat.reduceEqDiff, Nat.reduceLeDiff, Nat.reduceMul]
          refine hR2 (2 * c) _ (by omega) (by omega) ?_
          have hT : chunk L (2 * c) U ++ chunk L c V = chunk L (2 * c) T := by
            rw [← hUV, chunk_append L (by omega) k U _ hk, chunk_one L (c := 2 * c) (T := V) (by omega) (by omega), chunk_one L (T := V) hc (by omega)]
          rw [hT]
          exact (le_intro (by simp only [allLook, allLookM, go_sem, ↓reduceIte, reduceIte, Nat.reduceAdd, Nat.reduceLT, Nat.reduceEqDiff, Nat.reduceLeDiff, Nat.reduceMul, show ((c : Nat) : Int) * 2 = (2 * c : Nat) by omega]; try simp) (by simp only [allLook, allLookM, go_sem, ↓reduceIte, reduceIte, Nat.reduceAdd, Nat.reduceLT, Nat.reduceEqDiff, Nat.reduceLeDiff, Nat.reduceMul, show ((c : Nat) : Int) * 2 = (2 * c : Nat) by omega]; try simp))
    · rw [chunk_one L hc (by omega)]
      simp (maxSteps := 2000000) (disch := omega) only [go_sem, ↓reduceIte, reduceIte, Nat.reduceAdd, Nat.reduceLT, Nat.reduceEqDiff, Nat.reduceLeDiff, Nat.reduceMul]
set_option maxHeartbeats 4000000 in
theorem stable35_ok {g : FuncId} {q : Asg → Prop} {L : Asg → Asg → Bool} (hC : Cmp g q L) (T : List (Asg × Nat)) (hq : ∀ t ∈ T, q t.1) (hi : Inc T) (hl : T.length ≤ 1099511627776) :
    SortsTo Try.prog 35 43 4 (T.map fT) [.fn g []] ((isortT L T).map fT) := by
  refine f35_sorts (Nat.le_of_ble_eq_true rfl) (fT_scal _) ?_
  simp (maxSteps := 2000000) (disch := omega) only [go_sem, ↓reduceIte, reduceIte, Nat.reduceAdd, Nat.reduceLT, Nat.reduceEqDiff, Nat.reduceLeDiff, Nat.reduceMul, List.length_map]
  refine call_s (id := 1000) (rest := [.int .i64 T.length, .fn g []]) (rest' := [.int .i64 T.length, .fn g []]) rfl (by simp only [go_sem, ↓reduceIte, reduceIte, Nat.reduceAdd, Nat.reduceLT, Nat.reduceEqDiff, Nat.reduceLeDiff, Nat.reduceMul]) (by rfl) (stable45_ok hC T hq hi hl) (fT_scal _) ?_
  simp (maxSteps := 2000000) (disch := omega) only [go_sem, ↓reduceIte, reduceIte, Nat.reduceAdd, Nat.reduceLT, Nat.reduceEqDiff, Nat.reduceLeDiff, Nat.reduceMul]
end Go.Proofs.Ytkknahekpeaoiaa

namespace Go.Proofs.Ytkknahekpeaoiaa
open Go Go.AI Go.Proofs
set_option linter.unusedSimpArgs false
set_option linter.unusedVariables false
set_option maxRecDepth 4000
def isL (c : UInt8) : Bool := decide (97 ≤ c.toNat ∧ c.toNat ≤ 122 ∨ 65 ≤ c.toNat ∧ c.toNat ≤ 90)
def isM (c : UInt8) : Bool := isL c || decide (48 ≤ c.toNat ∧ c.toNat ≤ 57 ∨ c.toNat = 45 ∨ c.toNat = 95 ∨ c.toNat = 46)
def nameOk : List UInt8 → Bool
  | [] => false
  | c :: r => decide (r.length + 1 ≤ 32) && (isL c && r.all isM)
set_option maxHeartbeats 4000000 in
theorem letter48_ok (c : UInt8) : CallsTo Try.prog 48 [.int .u8 c.toNat] [.p (.bool (isL c))] := by
  have hc := c.toNat_lt
  refine f48_calls (Nat.le_of_ble_eq_true rfl) ?_
  unfold isL
  (repeat' (first | refine gA_dt (fun h => ?_) (fun h => ?_) | refine gA_df (fun h => ?_) (fun h => ?_) | refine cA_d (fun h => ?_) (fun h => ?_) | simp (maxSteps := 2000000) (disch := omega) only [go_sem, ↓reduceIte, reduceIte, Nat.reduceAdd, Nat.reduceLT, Nat.reduceEqDiff, Nat.reduceLeDiff, Nat.reduceMul]))
  all_goals first | exact congrArg AV.bool (decide_eq_decide.2 (by omega)) | exact congrArg AV.bool (decide_eq_true (by omega)).symm | exact congrArg AV.bool (decide_eq_false (by omega)).symm
set_option maxHeartbeats 4000000 in
theorem letter44_ok (c : UInt8) : CallsTo Try.prog 44 [.int .u8 c.toNat] [.p (.bool (isL c))] := by
  have hc := c.toNat_lt
  refine f44_calls (Nat.le_of_ble_eq_true rfl) ?_
  unfold isL
  (repeat' (first | refine gA_dt (fun h => ?_) (fun h => ?_) | refine gA_df (fun h => ?_) (fun h => ?_) | refine cA_d (fun h => ?_) (fun h => ?_) | simp (maxSteps := 2000000) (disch := omega) only [go_sem, ↓reduceIte, reduceIte, Nat.reduceAdd, Nat.reduceLT, Nat.reduceEqDiff, Nat.reduceLeDiff, Nat.reduceMul]))
  all_goals first | exact congrArg AV.bool (decide_eq_decide.2 (by omega)) | exact congrArg AV.bool (decide_eq_true (by omega)).symm | exact congrArg AV.bool (decide_eq_false (by omega)).symm
theorem isM_of {c : UInt8} (h : isL c = true ∨ (48 ≤ c.toNat ∧ c.toNat ≤ 57 ∨ c.toNat = 45 ∨ c.toNat = 95 ∨ c.toNat = 46)) : isM c = true := by
  unfold isM
  rcases h with h | h
  · rw [h]; rfl
  · rw [decide_eq_true h, Bool.or_true]
theorem isM_not {c : UInt8} (h1 : isL c = false) (h : ¬ (48 ≤ c.toNat ∧ c.toNat ≤ 57 ∨ c.toNat = 45 ∨ c.toNat = 95 ∨ c.toNat = 46)) : isM c = false := by
  unfold isM
  rw [h1, decide_eq_false h]; rfl
theorem nameOk_bad {c0 c : UInt8} {r1 r2 : List UInt8} (h : isM c = false) : nameOk (c0 :: (r1 ++ c :: r2)) = false := by
  simp [nameOk, h]
/-- The tests of one byte of a name, after 'letter' has said no. -/
def oth (c : UInt8) : Prop := 48 ≤ c.toNat ∧ c.toNat ≤ 57 ∨ c.toNat = 45 ∨ c.toNat = 95 ∨ c.toNat = 46
set_option maxHeartbeats 8000000 in
theorem valid40_ok (s : List UInt8) : CallsTo Try.prog 40 [.str s] [.p (.bool (nameOk s))] := by
  refine f40_calls (Nat.le_of_ble_eq_true rfl) ?_
  cases s with
  | nil =>
    simp (maxSteps := 2000000) (disch := omega) only [go_sem, ↓reduceIte, reduceIte, Nat.reduceAdd, Nat.reduceLT, Nat.reduceEqDiff, Nat.reduceLeDiff, Nat.reduceMul, List.length_nil]
    refine gA_df (fun h => absurd h (by simp)) (fun h => ?_)
    simp (maxSteps := 2000000) (disch := omega) only [go_sem, ↓reduceIte, reduceIte, Nat.reduceAdd, Nat.reduceLT, Nat.reduceEqDiff, Nat.reduceLeDiff, Nat.reduceMul]
    rfl
  | cons c0 r =>
    simp (maxSteps := 2000000) (disch := omega) only [go_sem, ↓reduceIte, reduceIte, Nat.reduceAdd, Nat.reduceLT, Nat.reduceEqDiff, Nat.reduceLeDiff, Nat.reduceMul, List.length_cons]
    refine gA_df (fun h1 => ?_) (fun h1 => absurd h1 (by omega))
    simp (maxSteps := 2000000) (disch := omega) only [go_sem, ↓reduceIte, reduceIte, Nat.reduceAdd, Nat.reduceLT, Nat.reduceEqDiff, Nat.reduceLeDiff, Nat.reduceMul, List.length_cons]
    refine gA_df (fun h2 => ?_) (fun h2 => ?_)
    · simp (maxSteps := 2000000) (disch := omega) only [go_sem, ↓reduceIte, reduceIte, Nat.reduceAdd, Nat.reduceLT, Nat.reduceEqDiff, Nat.reduceLeDiff, Nat.reduceMul]
      refine ixS_at 0 rfl rfl ?_
      simp (maxSteps := 2000000) (disch := omega) only [go_sem, ↓reduceIte, reduceIte, Nat.reduceAdd, Nat.reduceLT, Nat.reduceEqDiff, Nat.reduceLeDiff, Nat.reduceMul]
      refine call_1 (letter48_ok c0) rfl rfl ?_
      cases hL : isL c0 with
      | false =>
        simp (maxSteps := 2000000) (disch := omega) only [go_sem, ↓reduceIte, reduceIte, Nat.reduceAdd, Nat.reduceLT, Nat.reduceEqDiff, Nat.reduceLeDiff, Nat.reduceMul]
        simp [nameOk, hL]
      | true =>
        simp (maxSteps := 2000000) (disch := omega) only [go_sem, ↓reduceIte, reduceIte, Nat.reduceAdd, Nat.reduceLT, Nat.reduceEqDiff, Nat.reduceLeDiff, Nat.reduceMul]
        have hlen : r.length + 1 ≤ 32 := by omega
        refine loop_of f40L8_is (fun s : List UInt8 × List UInt8 => ⟨[(3, .int .i64 (s.1.length + 1 : Nat)), (0, .str (c0 :: r))], []⟩)
          (fun s => r = s.1 ++ s.2 ∧ s.1.all isM = true) (fun s => s.2.length) ([], r) ⟨rfl, rfl⟩ (le_intro (by simp only [allLook, allLookM, go_sem, ↓reduceIte, reduceIte, Nat.reduceAdd, Nat.reduceLT, Nat.reduceEqDiff, Nat.reduceLeDiff, Nat.reduceMul]; try simp) (by simp only [allLook, allLookM, go_sem, ↓reduceIte, reduceIte, Nat.reduceAdd, Nat.reduceLT, Nat.reduceEqDiff, Nat.reduceLeDiff, Nat.reduceMul]; try simp)) ?_
        rintro ⟨r1, r2⟩ R ⟨hr, ha⟩ hR
        simp only at hr ha
        have hrl : r.length = r1.length + r2.length := by rw [hr, List.length_append]
        simp (maxSteps := 2000000) (disch := omega) only [go_sem, ↓reduceIte, reduceIte, Nat.reduceAdd, Nat.reduceLT, Nat.reduceEqDiff, Nat.reduceLeDiff, Nat.reduceMul, List.length_cons]
        cases r2 with
        | nil =>
          rw [List.append_nil] at hr
          subst hr
          refine cA_d (fun h3 => absurd h3 (by simp)) (fun h3 => ?_)
          simp (maxSteps := 2000000) (disch := omega) only [go_sem, ↓reduceIte, reduceIte, Nat.reduceAdd, Nat.reduceLT, Nat.reduceEqDiff, Nat.reduceLeDiff, Nat.reduceMul]
          simp [nameOk, hL, ha]; omega
        | cons c r2 =>
          rw [List.length_cons] at hrl
          refine cA_d (fun h3 => ?_) (fun h3 => absurd (show ((r1.length + 1 : Nat) : Int) < ((r.length + 1 : Nat) : Int) by omega) h3)
          have hc : c.toNat < 256 := c.toNat_lt
          have g1 : (c0 :: r)[r1.length + 1]? = some c := by rw [hr]; exact get_mid (c0 :: r1) r2 c (r1.length + 1) rfl
          have bad : isM c = false → nameOk (c0 :: r) = false := fun h => by rw [hr]; exact nameOk_bad h
          simp (maxSteps := 2000000) (disch := omega) only [go_sem, ↓reduceIte, reduceIte, Nat.reduceAdd, Nat.reduceLT, Nat.reduceEqDiff, Nat.reduceLeDiff, Nat.reduceMul]
          refine ixS_at (r1.length + 1) (by omega) g1 ?_
          simp (maxSteps := 2000000) (disch := omega) only [go_sem, ↓reduceIte, reduceIte, Nat.reduceAdd, Nat.reduceLT, Nat.reduceEqDiff, Nat.reduceLeDiff, Nat.reduceMul]
          refine call_1 (letter48_ok c) rfl rfl ?_
          have next : isM c = true → ∀ s', (St.le ⟨[(3, .int .i64 (r1.length + 1 + 1 : Nat)), (0, .str (c0 :: r))], []⟩ s') → Run (R s') := fun h s' hs => hR (r1 ++ [c], r2) s' ⟨by rw [hr]; simp, by simp [ha, h]⟩ (by simp) (by simpa using hs)
          cases hL2 : isL c with
          | true =>
            simp (maxSteps := 2000000) (disch := omega) only [go_sem, ↓reduceIte, reduceIte, Nat.reduceAdd, Nat.reduceLT, Nat.reduceEqDiff, Nat.reduceLeDiff, Nat.reduceMul]
            exact next (isM_of (.inl hL2)) _ (le_intro (by simp only [allLook, allLookM, go_sem, ↓reduceIte, reduceIte, Nat.reduceAdd, Nat.reduceLT, Nat.reduceEqDiff, Nat.reduceLeDiff, Nat.reduceMul, show ((r1.length + 1 : Nat) : Int) + 1 = (r1.length + 1 + 1 : Nat) by omega]; try simp) (by simp only [allLook, allLookM, go_sem, ↓reduceIte, reduceIte, Nat.reduceAdd, Nat.reduceLT, Nat.reduceEqDiff, Nat.reduceLeDiff, Nat.reduceMul, show ((r1.length + 1 : Nat) : Int) + 1 = (r1.length + 1 + 1 : Nat) by omega]; try simp))
          | false =>
            have no : ¬ (48 ≤ c.toNat ∧ c.toNat ≤ 57 ∨ c.toNat = 45 ∨ c.toNat = 95 ∨ c.toNat = 46) → nameOk (c0 :: r) = false := fun h => bad (isM_not hL2 h)
            have yes : (48 ≤ c.toNat ∧ c.toNat ≤ 57 ∨ c.toNat = 45 ∨ c.toNat = 95 ∨ c.toNat = 46) → ∀ s', (St.le ⟨[(3, .int .i64 (r1.length + 1 + 1 : Nat)), (0, .str (c0 :: r))], []⟩ s') → Run (R s') := fun h => next (isM_of (.inr h))
            (repeat' (first | refine gA_dt (fun h => ?_) (fun h => ?_) | refine gA_df (fun h => ?_) (fun h => ?_) | refine cA_d (fun h => ?_) (fun h => ?_) | simp (maxSteps := 2000000) (disch := omega) only [go_sem, ↓reduceIte, reduceIte, Nat.reduceAdd, Nat.reduceLT, Nat.reduceEqDiff, Nat.reduceLeDiff, Nat.reduceMul]))
            all_goals first | exact congrArg AV.bool (no (by omega)).symm | exact yes (by omega) _ (le_intro (by simp only [allLook, allLookM, go_sem, ↓reduceIte, reduceIte, Nat.reduceAdd, Nat.reduceLT, Nat.reduceEqDiff, Nat.reduceLeDiff, Nat.reduceMul, show ((r1.length + 1 : Nat) : Int) + 1 = (r1.length + 1 + 1 : Nat) by omega]; try simp) (by simp only [allLook, allLookM, go_sem, ↓reduceIte, reduceIte, Nat.reduceAdd, Nat.reduceLT, Nat.reduceEqDiff, Nat.reduceLeDiff, Nat.reduceMul, show ((r1.length + 1 : Nat) : Int) + 1 = (r1.length + 1 + 1 : Nat) by omega]; try simp))
    · simp (maxSteps := 2000000) (disch := omega) only [go_sem, ↓reduceIte, reduceIte, Nat.reduceAdd, Nat.reduceLT, Nat.reduceEqDiff, Nat.reduceLeDiff, Nat.reduceMul]
      simp [nameOk]; omega
end Go.Proofs.Ytkknahekpeaoiaa

namespace Go.Proofs.Ytkknahekpeaoiaa
open Go Go.AI Go.Proofs
set_option linter.unusedSimpArgs false
set_option linter.unusedVariables false
set_option maxRecDepth 4000
theorem nameOk_bad' {c : UInt8} {r1 r2 : List UInt8} (h : isM c = false) : nameOk (r1 ++ c :: r2) = false := by
  have hl : isL c = false := by
    unfold isM at h
    cases e : isL c with
    | false => rfl
    | true => rw [e] at h; exact h
  cases r1 with
  | nil => simp [nameOk, hl]
  | cons c0 r1 => simp [nameOk, h]
set_option maxHeartbeats 8000000 in
theorem valid29_ok (s : List UInt8) : CallsTo Try.prog 29 [.str s] [.p (.bool (nameOk s))] := by
  refine f29_calls (Nat.le_of_ble_eq_true rfl) ?_
  cases s with
  | nil =>
    simp (maxSteps := 2000000) (disch := omega) only [go_sem, ↓reduceIte, reduceIte, Nat.reduceAdd, Nat.reduceLT, Nat.reduceEqDiff, Nat.reduceLeDiff, Nat.reduceMul, List.length_nil]
    refine gA_df (fun h => absurd h (by simp)) (fun h => ?_)
    simp (maxSteps := 2000000) (disch := omega) only [go_sem, ↓reduceIte, reduceIte, Nat.reduceAdd, Nat.reduceLT, Nat.reduceEqDiff, Nat.reduceLeDiff, Nat.reduceMul]
    rfl
  | cons c0 r =>
    simp (maxSteps := 2000000) (disch := omega) only [go_sem, ↓reduceIte, reduceIte, Nat.reduceAdd, Nat.reduceLT, Nat.reduceEqDiff, Nat.reduceLeDiff, Nat.reduceMul, List.length_cons]
    refine gA_df (fun h1 => ?_) (fun h1 => absurd h1 (by omega))
    simp (maxSteps := 2000000) (disch := omega) only [go_sem, ↓reduceIte, reduceIte, Nat.reduceAdd, Nat.reduceLT, Nat.reduceEqDiff, Nat.reduceLeDiff, Nat.reduceMul, List.length_cons]
    refine gA_df (fun h2 => ?_) (fun h2 => ?_)
    · simp (maxSteps := 2000000) (disch := omega) only [go_sem, ↓reduceIte, reduceIte, Nat.reduceAdd, Nat.reduceLT, Nat.reduceEqDiff, Nat.reduceLeDiff, Nat.reduceMul]
      refine ixS_at 0 rfl rfl ?_
      simp (maxSteps := 2000000) (disch := omega) only [go_sem, ↓reduceIte, reduceIte, Nat.reduceAdd, Nat.reduceLT, Nat.reduceEqDiff, Nat.reduceLeDiff, Nat.reduceMul]
      refine call_1 (letter44_ok c0) rfl rfl ?_
      cases hL : isL c0 with
      | false =>
        simp (maxSteps := 2000000) (disch := omega) only [go_sem, ↓reduceIte, reduceIte, Nat.reduceAdd, Nat.reduceLT, Nat.reduceEqDiff, Nat.reduceLeDiff, Nat.reduceMul]
        simp [nameOk, hL]
      | true =>
        simp (maxSteps := 2000000) (disch := omega) only [go_sem, ↓reduceIte, reduceIte, Nat.reduceAdd, Nat.reduceLT, Nat.reduceEqDiff, Nat.reduceLeDiff, Nat.reduceMul]
        have hlen : r.length + 1 ≤ 32 := by omega
        refine loop_of f29L8_is (fun s : List UInt8 × List UInt8 => ⟨[(3, .int .i64 (s.1.length : Nat)), (0, .str (c0 :: r))], []⟩)
          (fun s => c0 :: r = s.1 ++ s.2 ∧ s.1.all isM = true) (fun s => s.2.length) ([], c0 :: r) ⟨rfl, rfl⟩ (le_intro (by simp only [allLook, allLookM, go_sem, ↓reduceIte, reduceIte, Nat.reduceAdd, Nat.reduceLT, Nat.reduceEqDiff, Nat.reduceLeDiff, Nat.reduceMul]; try simp) (by simp only [allLook, allLookM, go_sem, ↓reduceIte, reduceIte, Nat.reduceAdd, Nat.reduceLT, Nat.reduceEqDiff, Nat.reduceLeDiff, Nat.reduceMul]; try simp)) ?_
        rintro ⟨r1, r2⟩ R ⟨hr, ha⟩ hR
        simp only at hr ha
        have hrl : r.length + 1 = r1.length + r2.length := by rw [← List.length_append, ← hr]; rfl
        simp (maxSteps := 2000000) (disch := omega) only [go_sem, ↓reduceIte, reduceIte, Nat.reduceAdd, Nat.reduceLT, Nat.reduceEqDiff, Nat.reduceLeDiff, Nat.reduceMul, List.length_cons]
        cases r2 with
        | nil =>
          rw [List.append_nil] at hr
          refine cA_d (fun h3 => absurd h3 (by simp at hrl; omega)) (fun h3 => ?_)
          simp (maxSteps := 2000000) (disch := omega) only [go_sem, ↓reduceIte, reduceIte, Nat.reduceAdd, Nat.reduceLT, Nat.reduceEqDiff, Nat.reduceLeDiff, Nat.reduceMul]
          rw [← hr, List.all_cons, Bool.and_eq_true] at ha
          simp [nameOk, hL, ha.2]; omega
        | cons c r2 =>
          rw [List.length_cons] at hrl
          refine cA_d (fun h3 => ?_) (fun h3 => absurd (show ((r1.length : Nat) : Int) < ((r.length + 1 : Nat) : Int) by omega) h3)
          have hc : c.toNat < 256 := c.toNat_lt
          have g1 : (c0 :: r)[r1.length]? = some c := by rw [hr]; exact get_mid r1 r2 c r1.length rfl
          have bad : isM c = false → nameOk (c0 :: r) = false := fun h => by rw [hr]; exact nameOk_bad' h
          simp (maxSteps := 2000000) (disch := omega) only [go_sem, ↓reduceIte, reduceIte, Nat.reduceAdd, Nat.reduceLT, Nat.reduceEqDiff, Nat.reduceLeDiff, Nat.reduceMul]
          refine ixS_at r1.length (by omega) g1 ?_
          simp (maxSteps := 2000000) (disch := omega) only [go_sem, ↓reduceIte, reduceIte, Nat.reduceAdd, Nat.reduceLT, Nat.reduceEqDiff, Nat.reduceLeDiff, Nat.reduceMul]
          refine call_1 (letter44_ok c) rfl rfl ?_
          have next : isM c = true → ∀ s', (St.le ⟨[(3, .int .i64 (r1.length + 1 : Nat)), (0, .str (c0 :: r))], []⟩ s') → Run (R s') := fun h s' hs => hR (r1 ++ [c], r2) s' ⟨by rw [hr]; simp, by simp [ha, h]⟩ (by simp) (by simpa using hs)
          cases hL2 : isL c with
          | true =>
            simp (maxSteps := 2000000) (disch := omega) only [go_sem, ↓reduceIte, reduceIte, Nat.reduceAdd, Nat.reduceLT, Nat.reduceEqDiff, Nat.reduceLeDiff, Nat.reduceMul]
            exact next (isM_of (.inl hL2)) _ (le_intro (by simp only [allLook, allLookM, go_sem, ↓reduceIte, reduceIte, Nat.reduceAdd, Nat.reduceLT, Nat.reduceEqDiff, Nat.reduceLeDiff, Nat.reduceMul, show ((r1.length : Nat) : Int) + 1 = (r1.length + 1 : Nat) by omega]; try simp) (by simp only [allLook, allLookM, go_sem, ↓reduceIte, reduceIte, Nat.reduceAdd, Nat.reduceLT, Nat.reduceEqDiff, Nat.reduceLeDiff, Nat.reduceMul, show ((r1.length : Nat) : Int) + 1 = (r1.length + 1 : Nat) by omega]; try simp))
          | false =>
            have no : ¬ (48 ≤ c.toNat ∧ c.toNat ≤ 57 ∨ c.toNat = 45 ∨ c.toNat = 95 ∨ c.toNat = 46) → nameOk (c0 :: r) = false := fun h => bad (isM_not hL2 h)
            have yes : (48 ≤ c.toNat ∧ c.toNat ≤ 57 ∨ c.toNat = 45 ∨ c.toNat = 95 ∨ c.toNat = 46) → ∀ s', (St.le ⟨[(3, .int .i64 (r1.length + 1 : Nat)), (0, .str (c0 :: r))], []⟩ s') → Run (R s') := fun h => next (isM_of (.inr h))
            (repeat' (first | refine gA_dt (fun h => ?_) (fun h => ?_) | refine gA_df (fun h => ?_) (fun h => ?_) | refine cA_d (fun h => ?_) (fun h => ?_) | simp (maxSteps := 2000000) (disch := omega) only [go_sem, ↓reduceIte, reduceIte, Nat.reduceAdd, Nat.reduceLT, Nat.reduceEqDiff, Nat.reduceLeDiff, Nat.reduceMul]))
            all_goals first | exact congrArg AV.bool (no (by omega)).symm | exact yes (by omega) _ (le_intro (by simp only [allLook, allLookM, go_sem, ↓reduceIte, reduceIte, Nat.reduceAdd, Nat.reduceLT, Nat.reduceEqDiff, Nat.reduceLeDiff, Nat.reduceMul, show ((r1.length : Nat) : Int) + 1 = (r1.length + 1 : Nat) by omega]; try simp) (by simp only [allLook, allLookM, go_sem, ↓reduceIte, reduceIte, Nat.reduceAdd, Nat.reduceLT, Nat.reduceEqDiff, Nat.reduceLeDiff, Nat.reduceMul, show ((r1.length : Nat) : Int) + 1 = (r1.length + 1 : Nat) by omega]; try simp))
    · simp (maxSteps := 2000000) (disch := omega) only [go_sem, ↓reduceIte, reduceIte, Nat.reduceAdd, Nat.reduceLT, Nat.reduceEqDiff, Nat.reduceLeDiff, Nat.reduceMul]
      simp [nameOk]; omega
end Go.Proofs.Ytkknahekpeaoiaa

namespace Go.Proofs.Ytkknahekpeaoiaa
open Go Go.AI Go.Proofs
set_option linter.unusedSimpArgs false
set_option linter.unusedVariables false
set_option maxRecDepth 4000
structure Win where
  a : Int
  b : Int
  deriving DecidableEq
def Win.av (w : Win) : AV := .agg [.int .i64 w.a, .int .i64 w.b]
def Win.in (w : Win) : Prop := In64 w.a ∧ In64 w.b
def Win.ok (w : Win) : Prop := 0 ≤ w.a ∧ w.a ≤ w.b ∧ w.b ≤ 3155760000
instance (w : Win) : Decidable w.ok := by unfold Win.ok; infer_instance
/-- The common part. -/
def cut (v w : Win) : Win := ⟨max v.a w.a, min v.b w.b⟩
def Asg.w (x : Asg) : Win := ⟨x.a, x.b⟩
/-- Is there a common moment? -/
def meets (v w : Win) : Bool := decide ((cut v w).a < (cut v w).b)
def covers (x : Asg) (t : Int) : Bool := decide (x.a ≤ t ∧ t < x.b)
def bef (x y : Asg) : Bool := decide (x.a < y.a ∨ (x.a = y.a ∧ x.c < y.c))
theorem valid24_ok (w : Win) : CallsTo Try.prog 24 [w.av] [.p (.bool (decide w.ok))] := by
  refine f24_calls (Nat.le_of_ble_eq_true rfl) ?_
  unfold Win.ok Win.av
  (repeat' (first | refine gA_dt (fun h => ?_) (fun h => ?_) | refine gA_df (fun h => ?_) (fun h => ?_) | refine cA_d (fun h => ?_) (fun h => ?_) | simp (maxSteps := 2000000) (disch := omega) only [go_sem, ↓reduceIte, reduceIte, Nat.reduceAdd, Nat.reduceLT, Nat.reduceEqDiff, Nat.reduceLeDiff, Nat.reduceMul]))
  all_goals first | exact congrArg AV.bool (decide_eq_decide.2 (by omega)) | exact congrArg AV.bool (decide_eq_true (by omega)).symm | exact congrArg AV.bool (decide_eq_false (by omega)).symm
theorem window21_ok (w : Win) : CallsTo Try.prog 21 [w.av] [.p (.bool (decide w.ok))] := by
  refine f21_calls (Nat.le_of_ble_eq_true rfl) ?_
  unfold Win.ok Win.av
  (repeat' (first | refine gA_dt (fun h => ?_) (fun h => ?_) | refine gA_df (fun h => ?_) (fun h => ?_) | refine cA_d (fun h => ?_) (fun h => ?_) | simp (maxSteps := 2000000) (disch := omega) only [go_sem, ↓reduceIte, reduceIte, Nat.reduceAdd, Nat.reduceLT, Nat.reduceEqDiff, Nat.reduceLeDiff, Nat.reduceMul]))
  all_goals first | exact congrArg AV.bool (decide_eq_decide.2 (by omega)) | exact congrArg AV.bool (decide_eq_true (by omega)).symm | exact congrArg AV.bool (decide_eq_false (by omega)).symm
theorem empty26_ok (w : Win) : CallsTo Try.prog 26 [w.av] [.p (.bool (decide (w.b ≤ w.a)))] := by
  refine f26_calls (Nat.le_of_ble_eq_true rfl) ?_
  unfold Win.av
  (repeat' (first | refine gA_dt (fun h => ?_) (fun h => ?_) | refine gA_df (fun h => ?_) (fun h => ?_) | refine cA_d (fun h => ?_) (fun h => ?_) | simp (maxSteps := 2000000) (disch := omega) only [go_sem, ↓reduceIte, reduceIte, Nat.reduceAdd, Nat.reduceLT, Nat.reduceEqDiff, Nat.reduceLeDiff, Nat.reduceMul]))
theorem common27_ok (v w : Win) : CallsTo Try.prog 27 [v.av, w.av] [.p (cut v w).av] := by
  refine f27_calls (Nat.le_of_ble_eq_true rfl) ?_
  unfold Win.av cut
  (repeat' (first | refine gA_dt (fun h => ?_) (fun h => ?_) | refine gA_df (fun h => ?_) (fun h => ?_) | refine cA_d (fun h => ?_) (fun h => ?_) | simp (maxSteps := 2000000) (disch := omega) only [go_sem, ↓reduceIte, reduceIte, Nat.reduceAdd, Nat.reduceLT, Nat.reduceEqDiff, Nat.reduceLeDiff, Nat.reduceMul]))
theorem covers22_ok (x : Asg) (t : Int) : CallsTo Try.prog 22 [x.av, .int .i64 t] [.p (.bool (covers x t))] := by
  refine f22_calls (Nat.le_of_ble_eq_true rfl) ?_
  unfold Asg.av covers
  (repeat' (first | refine gA_dt (fun h => ?_) (fun h => ?_) | refine gA_df (fun h => ?_) (fun h => ?_) | refine cA_d (fun h => ?_) (fun h => ?_) | simp (maxSteps := 2000000) (disch := omega) only [go_sem, ↓reduceIte, reduceIte, Nat.reduceAdd, Nat.reduceLT, Nat.reduceEqDiff, Nat.reduceLeDiff, Nat.reduceMul]))
  all_goals first | exact congrArg AV.bool (decide_eq_decide.2 (by omega)) | exact congrArg AV.bool (decide_eq_true (by omega)).symm | exact congrArg AV.bool (decide_eq_false (by omega)).symm
theorem before37_ok (x y : Asg) : CallsTo Try.prog 37 [x.av, y.av] [.p (.bool (bef x y))] := by
  refine f37_calls (Nat.le_of_ble_eq_true rfl) ?_
  unfold Asg.av bef
  (repeat' (first | refine gA_dt (fun h => ?_) (fun h => ?_) | refine gA_df (fun h => ?_) (fun h => ?_) | refine cA_d (fun h => ?_) (fun h => ?_) | simp (maxSteps := 2000000) (disch := omega) only [go_sem, ↓reduceIte, reduceIte, Nat.reduceAdd, Nat.reduceLT, Nat.reduceEqDiff, Nat.reduceLeDiff, Nat.reduceMul]))
  all_goals first | exact congrArg AV.bool (decide_eq_decide.2 (by omega)) | exact congrArg AV.bool (decide_eq_true (by omega)).symm | exact congrArg AV.bool (decide_eq_false (by omega)).symm
end Go.Proofs.Ytkknahekpeaoiaa

namespace Go.Proofs.Ytkknahekpeaoiaa
open Go Go.AI Go.Proofs
set_option linter.unusedSimpArgs false
set_option linter.unusedVariables false
set_option maxRecDepth 4000
set_option maxHeartbeats 4000000 in
theorem rcommon30_ok (v w : Win) : CallsTo Try.prog 30 [v.av, w.av] [.p (cut v w).av, .p (.bool (meets v w))] := by
  refine f30_calls (Nat.le_of_ble_eq_true rfl) ?_
  unfold Win.av meets cut
  (repeat' (first | simp (maxSteps := 2000000) (disch := omega) only [go_sem, ↓reduceIte, reduceIte, Nat.reduceAdd, Nat.reduceLT, Nat.reduceEqDiff, Nat.reduceLeDiff, Nat.reduceMul] | refine f30r5_at 4 ?_ | refine cA_d (fun h => ?_) (fun h => ?_)))
  · rw [show max v.a w.a = w.a by omega, show min v.b w.b = w.b by omega]; exact ⟨rfl, rfl⟩
  · rw [show max v.a w.a = w.a by omega, show min v.b w.b = v.b by omega]; exact ⟨rfl, rfl⟩
  · rw [show max v.a w.a = v.a by omega, show min v.b w.b = w.b by omega]; exact ⟨rfl, rfl⟩
  · rw [show max v.a w.a = v.a by omega, show min v.b w.b = v.b by omega]; exact ⟨rfl, rfl⟩
def overlaps (x y : Asg) : Bool := decide (y.c = x.c) && meets x.w y.w
theorem bool_and_true {p q : Prop} [Decidable p] [Decidable q] (h : p) : AV.bool (decide p && decide q) = AV.bool (decide q) := by rw [decide_eq_true h, Bool.true_and]
theorem bool_and_false {p : Prop} [Decidable p] {q : Bool} (h : ¬ p) : AV.bool (decide p && q) = AV.bool false := by rw [decide_eq_false h, Bool.false_and]
set_option maxHeartbeats 4000000 in
theorem over25_ok (x y : Asg) : CallsTo Try.prog 25 [y.av, .pp [.int .i64 x.c, .int .i64 x.h, .int .i64 x.a, .int .i64 x.b] 0] [.p (.bool (overlaps x y))] := by
  refine f25_calls (Nat.le_of_ble_eq_true rfl) ?_
  unfold overlaps meets
  (repeat' (first | simp (maxSteps := 2000000) (disch := omega) only [go_sem, ↓reduceIte, reduceIte, Nat.reduceAdd, Nat.reduceLT, Nat.reduceEqDiff, Nat.reduceLeDiff, Nat.reduceMul, Asg.av] | refine call_1 (common27_ok ⟨x.a, x.b⟩ ⟨y.a, y.b⟩) (by rfl) (by rfl) ?_ | refine call_1 (empty26_ok (cut ⟨x.a, x.b⟩ ⟨y.a, y.b⟩)) (by rfl) (by rfl) ?_ | refine gA_dt (fun h => ?_) (fun h => ?_)))
  · rw [bool_and_true h]; exact congrArg AV.bool (decide_eq_decide.2 (by unfold Asg.w cut; simp only; omega))
  · rw [bool_and_false h]
def holdsAt (c t : Int) (x : Asg) : Bool := decide (x.c = c) && covers x t
set_option maxHeartbeats 4000000 in
theorem own33_ok (c t : Int) (x : Asg) : CallsTo Try.prog 33 [x.av, .pp [.int .i64 c] 0, .pp [.int .i64 t] 0] [.p (.bool (holdsAt c t x))] := by
  refine f33_calls (Nat.le_of_ble_eq_true rfl) ?_
  unfold holdsAt covers
  (repeat' (first | simp (maxSteps := 2000000) (disch := omega) only [go_sem, ↓reduceIte, reduceIte, Nat.reduceAdd, Nat.reduceLT, Nat.reduceEqDiff, Nat.reduceLeDiff, Nat.reduceMul, Asg.av] | refine gA_dt (fun h1 => ?_) (fun h1 => ?_)))
  · rw [bool_and_true ‹x.c = c›]; exact congrArg AV.bool (decide_eq_decide.2 (by omega))
  · rw [bool_and_true ‹x.c = c›, decide_eq_false (by omega)]
  · rw [bool_and_false h1]
def ofHouse (h : Int) (w : Win) (x : Asg) : Bool := decide (x.h = h) && meets x.w w
set_option maxHeartbeats 4000000 in
theorem hold34_ok (h : Int) (w : Win) (x : Asg) : CallsTo Try.prog 34 [x.av, .pp [.int .i64 h] 0, .pp [.int .i64 w.a, .int .i64 w.b] 0] [.p (.bool (ofHouse h w x))] := by
  refine f34_calls (Nat.le_of_ble_eq_true rfl) ?_
  unfold ofHouse meets
  (repeat' (first | simp (maxSteps := 2000000) (disch := omega) only [go_sem, ↓reduceIte, reduceIte, Nat.reduceAdd, Nat.reduceLT, Nat.reduceEqDiff, Nat.reduceLeDiff, Nat.reduceMul, Asg.av] | refine call_1 (common27_ok ⟨x.a, x.b⟩ ⟨w.a, w.b⟩) (by rfl) (by rfl) ?_ | refine call_1 (empty26_ok (cut ⟨x.a, x.b⟩ ⟨w.a, w.b⟩)) (by rfl) (by rfl) ?_ | refine gA_dt (fun h1 => ?_) (fun h1 => ?_)))
  · rw [bool_and_true h1]; exact congrArg AV.bool (decide_eq_decide.2 (by unfold Asg.w cut; simp only; omega))
  · rw [bool_and_false h1]
def ofBoth (c h : Int) (w : Win) (x : Asg) : Bool := decide (x.c = c ∧ x.h = h) && meets x.w w
set_option maxHeartbeats 4000000 in
theorem day38_ok (c h : Int) (w : Win) (x : Asg) : CallsTo Try.prog 38 [x.av, .pp [.int .i64 c] 0, .pp [.int .i64 h] 0, .pp [.int .i64 w.a, .int .i64 w.b] 0] [.p (.bool (ofBoth c h w x))] := by
  refine f38_calls (Nat.le_of_ble_eq_true rfl) ?_
  unfold ofBoth meets
  (repeat' (first | simp (maxSteps := 2000000) (disch := omega) only [go_sem, ↓reduceIte, reduceIte, Nat.reduceAdd, Nat.reduceLT, Nat.reduceEqDiff, Nat.reduceLeDiff, Nat.reduceMul, Asg.av] | refine call_1 (common27_ok ⟨x.a, x.b⟩ ⟨w.a, w.b⟩) (by rfl) (by rfl) ?_ | refine call_1 (empty26_ok (cut ⟨x.a, x.b⟩ ⟨w.a, w.b⟩)) (by rfl) (by rfl) ?_ | refine gA_dt (fun h1 => ?_) (fun h1 => ?_)))
  · rw [bool_and_true ⟨‹x.c = c›, h1⟩]; exact congrArg AV.bool (decide_eq_decide.2 (by unfold Asg.w cut; simp only; omega))
  · rw [bool_and_false (fun h => h1 h.2)]
  · rw [bool_and_false (fun h => h1 h.1)]
/-- Assignments that 'Holds' sorts: their windows are valid. -/
def inTime (x : Asg) : Prop := 0 ≤ x.a ∧ x.a ≤ 3155760000
theorem bef_less : Less bef where
  irr x := by simp [bef]
  tr x y z h1 h2 := by simp [bef] at *; omega
  ng x y z h1 h2 := by simp [bef] at *; omega
set_option maxHeartbeats 4000000 in
theorem cmp36_ok : Cmp 36 inTime bef where
  less := bef_less
  ok x y hx hy := by
    unfold inTime at hx hy
    by_cases h1 : x.a = y.a
    · by_cases h2 : x.c < y.c
      · refine ⟨-1, by unfold In64; omega, by simp [bef]; omega, ?_⟩
        refine f36_calls (Nat.le_of_ble_eq_true rfl) ?_
        (repeat' (first | simp (maxSteps := 2000000) (disch := omega) only [go_sem, ↓reduceIte, reduceIte, Nat.reduceAdd, Nat.reduceLT, Nat.reduceEqDiff, Nat.reduceLeDiff, Nat.reduceMul, Asg.av] | refine cA_d (fun h => ?_) (fun h => ?_) | (exfalso; omega)))
      · by_cases h3 : y.c < x.c
        · refine ⟨1, by unfold In64; omega, by simp [bef]; omega, ?_⟩
          refine f36_calls (Nat.le_of_ble_eq_true rfl) ?_
          (repeat' (first | simp (maxSteps := 2000000) (disch := omega) only [go_sem, ↓reduceIte, reduceIte, Nat.reduceAdd, Nat.reduceLT, Nat.reduceEqDiff, Nat.reduceLeDiff, Nat.reduceMul, Asg.av] | refine cA_d (fun h => ?_) (fun h => ?_) | (exfalso; omega)))
        · refine ⟨0, by unfold In64; omega, by simp [bef]; omega, ?_⟩
          refine f36_calls (Nat.le_of_ble_eq_true rfl) ?_
          (repeat' (first | simp (maxSteps := 2000000) (disch := omega) only [go_sem, ↓reduceIte, reduceIte, Nat.reduceAdd, Nat.reduceLT, Nat.reduceEqDiff, Nat.reduceLeDiff, Nat.reduceMul, Asg.av] | refine cA_d (fun h => ?_) (fun h => ?_) | (exfalso; omega)))
    · refine ⟨x.a - y.a, by unfold In64; omega, by simp [bef]; omega, ?_⟩
      refine f36_calls (Nat.le_of_ble_eq_true rfl) ?_
      (repeat' (first | simp (maxSteps := 2000000) (disch := omega) only [go_sem, ↓reduceIte, reduceIte, Nat.reduceAdd, Nat.reduceLT, Nat.reduceEqDiff, Nat.reduceLeDiff, Nat.reduceMul, Asg.av] | refine cA_d (fun h => ?_) (fun h => ?_) | (exfalso; omega)))
end Go.Proofs.Ytkknahekpeaoiaa

namespace Go.Proofs.Ytkknahekpeaoiaa
open Go Go.AI Go.Proofs
set_option linter.unusedSimpArgs false
set_option linter.unusedVariables false
set_option maxRecDepth 4000
structure House where
  id : List UInt8
  n : Int
def House.av (x : House) : AV := .agg [.str x.id, .int .i64 x.n]
def House.ok (x : House) : Prop := In64 x.n
def idxP {α : Type} (p : α → Bool) : List α → Nat → Int
  | [], _ => -1
  | x :: r, i => if p x then i else idxP p r (i + 1)
theorem idxP_any {α : Type} (p : α → Bool) : ∀ (l : List α) (i : Nat), 0 ≤ idxP p l i ↔ l.any p = true
  | [], i => by simp [idxP]
  | x :: r, i => by
    unfold idxP
    split
    · rename_i h; simp [h]
    · rename_i h; rw [idxP_any p r (i + 1)]; simp [h]
theorem index43_ok (l : List Asg) (g : FuncId) (caps : List AV) (p : Asg → Bool) (hn : l.length ≤ 1048576) (hf : freeL caps = true) (hg : ∀ x ∈ l, CallsTo Try.prog g (x.av :: caps) [.p (.bool (p x))]) :
    CallsTo Try.prog 43 [.sl (l.map Asg.av), .fn g caps] [.p (.int .i64 (idxP p l 0))] := by
  refine f43_calls (Nat.le_of_ble_eq_true rfl) ?_
  simp (maxSteps := 2000000) (disch := omega) only [go_sem, ↓reduceIte, reduceIte, Nat.reduceAdd, Nat.reduceLT, Nat.reduceEqDiff, Nat.reduceLeDiff, Nat.reduceMul]
  refine loop_of f43L4_is (fun i : Nat => ⟨[(8, .int .i64 i), (7, .int .i64 l.length), (0, .sl (l.map Asg.av)), (1, .fn g caps)], []⟩) (fun i => i ≤ l.length ∧ idxP p l 0 = idxP p (l.drop i) i) (fun i => l.length - i) 0 ⟨Nat.zero_le _, by simp⟩ (le_intro (by simp only [allLook, allLookM, go_sem, ↓reduceIte, reduceIte, Nat.reduceAdd, Nat.reduceLT, Nat.reduceEqDiff, Nat.reduceLeDiff, Nat.reduceMul]; try simp) (by simp only [allLook, allLookM, go_sem, ↓reduceIte, reduceIte, Nat.reduceAdd, Nat.reduceLT, Nat.reduceEqDiff, Nat.reduceLeDiff, Nat.reduceMul]; try simp)) ?_
  rintro i R ⟨hi, hf'⟩ hR
  simp (maxSteps := 2000000) (disch := omega) only [go_sem, ↓reduceIte, reduceIte, Nat.reduceAdd, Nat.reduceLT, Nat.reduceEqDiff, Nat.reduceLeDiff, Nat.reduceMul]
  refine cA_d (fun h2 => ?_) (fun h2 => ?_)
  · have hlt : i < l.length := by omega
    rw [List.drop_eq_getElem_cons hlt, idxP] at hf'
    simp (maxSteps := 2000000) (disch := omega) only [go_sem, ↓reduceIte, reduceIte, Nat.reduceAdd, Nat.reduceLT, Nat.reduceEqDiff, Nat.reduceLeDiff, Nat.reduceMul]
    refine idxS_map i rfl hlt (fun _ => rfl) ?_
    simp (maxSteps := 2000000) (disch := omega) only [go_sem, ↓reduceIte, reduceIte, Nat.reduceAdd, Nat.reduceLT, Nat.reduceEqDiff, Nat.reduceLeDiff, Nat.reduceMul, Asg.av]
    refine call_1 (hg l[i] (List.getElem_mem _)) (by simpa [freeL, AV.free, Asg.av] using hf) (by rfl) ?_
    simp (maxSteps := 2000000) (disch := omega) only [go_sem, ↓reduceIte, reduceIte, Nat.reduceAdd, Nat.reduceLT, Nat.reduceEqDiff, Nat.reduceLeDiff, Nat.reduceMul]
    refine cA_b (fun h3 => ?_) (fun h3 => ?_)
    · rw [if_pos h3] at hf'
      simp (maxSteps := 2000000) (disch := omega) only [go_sem, ↓reduceIte, reduceIte, Nat.reduceAdd, Nat.reduceLT, Nat.reduceEqDiff, Nat.reduceLeDiff, Nat.reduceMul]
      rw [hf']
    · rw [if_neg (by simp [h3])] at hf'
      simp (maxSteps := 2000000) (disch := omega) only [go_sem, ↓reduceIte, reduceIte, Nat.reduceAdd, Nat.reduceLT, Nat.reduceEqDiff, Nat.reduceLeDiff, Nat.reduceMul]
      refine hR (i + 1) _ ⟨hlt, hf'⟩ (by omega) (le_intro (by simp only [allLook, allLookM, go_sem, ↓reduceIte, reduceIte, Nat.reduceAdd, Nat.reduceLT, Nat.reduceEqDiff, Nat.reduceLeDiff, Nat.reduceMul]; try simp) (by simp only [allLook, allLookM, go_sem, ↓reduceIte, reduceIte, Nat.reduceAdd, Nat.reduceLT, Nat.reduceEqDiff, Nat.reduceLeDiff, Nat.reduceMul]; try simp))
  · have : l.length = i := by omega
    subst this
    rw [List.drop_length, idxP] at hf'
    simp (maxSteps := 2000000) (disch := omega) only [go_sem, ↓reduceIte, reduceIte, Nat.reduceAdd, Nat.reduceLT, Nat.reduceEqDiff, Nat.reduceLeDiff, Nat.reduceMul]
    rw [hf']
theorem any28_ok (l : List Asg) (g : FuncId) (caps : List AV) (p : Asg → Bool) (hn : l.length ≤ 1048576) (hf : freeL caps = true) (hg : ∀ x ∈ l, CallsTo Try.prog g (x.av :: caps) [.p (.bool (p x))]) :
    CallsTo Try.prog 28 [.sl (l.map Asg.av), .fn g caps] [.p (.bool (l.any p))] := by
  refine f28_calls (Nat.le_of_ble_eq_true rfl) ?_
  simp (maxSteps := 2000000) (disch := omega) only [go_sem, ↓reduceIte, reduceIte, Nat.reduceAdd, Nat.reduceLT, Nat.reduceEqDiff, Nat.reduceLeDiff, Nat.reduceMul]
  refine call_1 (index43_ok l g caps p hn hf hg) (by simpa [freeL, AV.free] using hf) (by rfl) ?_
  simp (maxSteps := 2000000) (disch := omega) only [go_sem, ↓reduceIte, reduceIte, Nat.reduceAdd, Nat.reduceLT, Nat.reduceEqDiff, Nat.reduceLeDiff, Nat.reduceMul]
  have := idxP_any p l 0
  congr 1
  rw [Bool.eq_iff_iff, ← this]
  simp
theorem index49_ok (l : List House) (g : FuncId) (caps : List AV) (p : House → Bool) (hn : l.length ≤ 1048576) (hf : freeL caps = true) (hg : ∀ x ∈ l, CallsTo Try.prog g (x.av :: caps) [.p (.bool (p x))]) :
    CallsTo Try.prog 49 [.sl (l.map House.av), .fn g caps] [.p (.int .i64 (idxP p l 0))] := by
  refine f49_calls (Nat.le_of_ble_eq_true rfl) ?_
  simp (maxSteps := 2000000) (disch := omega) only [go_sem, ↓reduceIte, reduceIte, Nat.reduceAdd, Nat.reduceLT, Nat.reduceEqDiff, Nat.reduceLeDiff, Nat.reduceMul]
  refine loop_of f49L4_is (fun i : Nat => ⟨[(8, .int .i64 i), (7, .int .i64 l.length), (0, .sl (l.map House.av)), (1, .fn g caps)], []⟩) (fun i => i ≤ l.length ∧ idxP p l 0 = idxP p (l.drop i) i) (fun i => l.length - i) 0 ⟨Nat.zero_le _, by simp⟩ (le_intro (by simp only [allLook, allLookM, go_sem, ↓reduceIte, reduceIte, Nat.reduceAdd, Nat.reduceLT, Nat.reduceEqDiff, Nat.reduceLeDiff, Nat.reduceMul]; try simp) (by simp only [allLook, allLookM, go_sem, ↓reduceIte, reduceIte, Nat.reduceAdd, Nat.reduceLT, Nat.reduceEqDiff, Nat.reduceLeDiff, Nat.reduceMul]; try simp)) ?_
  rintro i R ⟨hi, hf'⟩ hR
  simp (maxSteps := 2000000) (disch := omega) only [go_sem, ↓reduceIte, reduceIte, Nat.reduceAdd, Nat.reduceLT, Nat.reduceEqDiff, Nat.reduceLeDiff, Nat.reduceMul]
  refine cA_d (fun h2 => ?_) (fun h2 => ?_)
  · have hlt : i < l.length := by omega
    rw [List.drop_eq_getElem_cons hlt, idxP] at hf'
    simp (maxSteps := 2000000) (disch := omega) only [go_sem, ↓reduceIte, reduceIte, Nat.reduceAdd, Nat.reduceLT, Nat.reduceEqDiff, Nat.reduceLeDiff, Nat.reduceMul]
    refine idxS_map i rfl hlt (fun _ => rfl) ?_
    simp (maxSteps := 2000000) (disch := omega) only [go_sem, ↓reduceIte, reduceIte, Nat.reduceAdd, Nat.reduceLT, Nat.reduceEqDiff, Nat.reduceLeDiff, Nat.reduceMul, House.av]
    refine call_1 (hg l[i] (List.getElem_mem _)) (by simpa [freeL, AV.free, House.av] using hf) (by rfl) ?_
    simp (maxSteps := 2000000) (disch := omega) only [go_sem, ↓reduceIte, reduceIte, Nat.reduceAdd, Nat.reduceLT, Nat.reduceEqDiff, Nat.reduceLeDiff, Nat.reduceMul]
    refine cA_b (fun h3 => ?_) (fun h3 => ?_)
    · rw [if_pos h3] at hf'
      simp (maxSteps := 2000000) (disch := omega) only [go_sem, ↓reduceIte, reduceIte, Nat.reduceAdd, Nat.reduceLT, Nat.reduceEqDiff, Nat.reduceLeDiff, Nat.reduceMul]
      rw [hf']
    · rw [if_neg (by simp [h3])] at hf'
      simp (maxSteps := 2000000) (disch := omega) only [go_sem, ↓reduceIte, reduceIte, Nat.reduceAdd, Nat.reduceLT, Nat.reduceEqDiff, Nat.reduceLeDiff, Nat.reduceMul]
      refine hR (i + 1) _ ⟨hlt, hf'⟩ (by omega) (le_intro (by simp only [allLook, allLookM, go_sem, ↓reduceIte, reduceIte, Nat.reduceAdd, Nat.reduceLT, Nat.reduceEqDiff, Nat.reduceLeDiff, Nat.reduceMul]; try simp) (by simp only [allLook, allLookM, go_sem, ↓reduceIte, reduceIte, Nat.reduceAdd, Nat.reduceLT, Nat.reduceEqDiff, Nat.reduceLeDiff, Nat.reduceMul]; try simp))
  · have : l.length = i := by omega
    subst this
    rw [List.drop_length, idxP] at hf'
    simp (maxSteps := 2000000) (disch := omega) only [go_sem, ↓reduceIte, reduceIte, Nat.reduceAdd, Nat.reduceLT, Nat.reduceEqDiff, Nat.reduceLeDiff, Nat.reduceMul]
    rw [hf']
theorem any41_ok (l : List House) (g : FuncId) (caps : List AV) (p : House → Bool) (hn : l.length ≤ 1048576) (hf : freeL caps = true) (hg : ∀ x ∈ l, CallsTo Try.prog g (x.av :: caps) [.p (.bool (p x))]) :
    CallsTo Try.prog 41 [.sl (l.map House.av), .fn g caps] [.p (.bool (l.any p))] := by
  refine f41_calls (Nat.le_of_ble_eq_true rfl) ?_
  simp (maxSteps := 2000000) (disch := omega) only [go_sem, ↓reduceIte, reduceIte, Nat.reduceAdd, Nat.reduceLT, Nat.reduceEqDiff, Nat.reduceLeDiff, Nat.reduceMul]
  refine call_1 (index49_ok l g caps p hn hf hg) (by simpa [freeL, AV.free] using hf) (by rfl) ?_
  simp (maxSteps := 2000000) (disch := omega) only [go_sem, ↓reduceIte, reduceIte, Nat.reduceAdd, Nat.reduceLT, Nat.reduceEqDiff, Nat.reduceLeDiff, Nat.reduceMul]
  have := idxP_any p l 0
  congr 1
  rw [Bool.eq_iff_iff, ← this]
  simp
theorem same42_ok (x h : House) : CallsTo Try.prog 42 [x.av, .pp [.str h.id, .int .i64 h.n] 0] [.p (.bool (decide (x.id = h.id)))] := by
  refine f42_calls (Nat.le_of_ble_eq_true rfl) ?_
  (repeat' (first | simp (maxSteps := 2000000) (disch := omega) only [go_sem, ↓reduceIte, reduceIte, Nat.reduceAdd, Nat.reduceLT, Nat.reduceEqDiff, Nat.reduceLeDiff, Nat.reduceMul, House.av]))
end Go.Proofs.Ytkknahekpeaoiaa

namespace Go.Proofs.Ytkknahekpeaoiaa
open Go Go.AI Go.Proofs
set_option linter.unusedSimpArgs false
set_option linter.unusedVariables false
set_option maxRecDepth 4000
def houseE : List House → Int
  | [] => 0
  | x :: r => if nameOk x.id = false then 5 else if x.n < 1 ∨ 100 < x.n then 1 else houseE r
def sameId (h x : House) : Bool := decide (x.id = h.id)
def dupF {α : Type} (P : α → α → Bool) (done : List α) : List α → Bool
  | [] => false
  | h :: r => done.any (P h) || dupF P (done ++ [h]) r
def peopleE (l : List House) : Int := if 256 < l.length then 8 else if houseE l ≠ 0 then houseE l else if dupF sameId [] l = true then 6 else 0
theorem house_cells {l : List House} : ∀ y ∈ l.map House.av, y.cells.length = 2 := by
  intro y hy
  obtain ⟨x, _, rfl⟩ := List.mem_map.1 hy
  rfl
theorem asg_cells {l : List Asg} : ∀ y ∈ l.map Asg.av, y.cells.length = 4 := by
  intro y hy
  obtain ⟨x, _, rfl⟩ := List.mem_map.1 hy
  rfl
set_option maxHeartbeats 4000000 in
theorem people23_ok (l : List House) (hl : ∀ x ∈ l, x.ok) : CallsTo Try.prog 23 [.sl (l.map House.av)] [.p (.int .i64 (peopleE l))] := by
  refine f23_calls (Nat.le_of_ble_eq_true rfl) ?_
  unfold peopleE
  simp (maxSteps := 2000000) (disch := omega) only [go_sem, ↓reduceIte, reduceIte, Nat.reduceAdd, Nat.reduceLT, Nat.reduceEqDiff, Nat.reduceLeDiff, Nat.reduceMul]
  refine cA_d (fun h1 => ?_) (fun h1 => ?_)
  · rw [if_pos (by omega)]
    simp (maxSteps := 2000000) (disch := omega) only [go_sem, ↓reduceIte, reduceIte, Nat.reduceAdd, Nat.reduceLT, Nat.reduceEqDiff, Nat.reduceLeDiff, Nat.reduceMul]
  · rw [if_neg (by omega)]
    simp (maxSteps := 2000000) (disch := omega) only [go_sem, ↓reduceIte, reduceIte, Nat.reduceAdd, Nat.reduceLT, Nat.reduceEqDiff, Nat.reduceLeDiff, Nat.reduceMul]
    refine loop_of f23L8_is (fun s : List House × List House => ⟨[(12, .int .i64 s.1.length), (11, .int .i64 l.length), (10, .sl (l.map House.av)), (0, .sl (l.map House.av))], []⟩)
      (fun s => l = s.1 ++ s.2 ∧ houseE l = houseE s.2) (fun s => s.2.length) ([], l) ⟨rfl, rfl⟩ (le_intro (by simp only [allLook, allLookM, go_sem, ↓reduceIte, reduceIte, Nat.reduceAdd, Nat.reduceLT, Nat.reduceEqDiff, Nat.reduceLeDiff, Nat.reduceMul]; try simp) (by simp only [allLook, allLookM, go_sem, ↓reduceIte, reduceIte, Nat.reduceAdd, Nat.reduceLT, Nat.reduceEqDiff, Nat.reduceLeDiff, Nat.reduceMul]; try simp)) ?_
    rintro ⟨d, r⟩ R ⟨hdr, he⟩ hR
    simp only at hdr he
    have hlen : l.length = d.length + r.length := by rw [hdr, List.length_append]
    simp (maxSteps := 2000000) (disch := omega) only [go_sem, ↓reduceIte, reduceIte, Nat.reduceAdd, Nat.reduceLT, Nat.reduceEqDiff, Nat.reduceLeDiff, Nat.reduceMul]
    cases r with
    | nil =>
      rw [List.length_nil] at hlen
      refine cA_d (fun h => absurd h (by omega)) (fun _ => ?_)
      rw [he]
      rw [show houseE [] = 0 from rfl, if_neg (by simp)]
      clear hR he hdr hlen
      simp (maxSteps := 2000000) (disch := omega) only [go_sem, ↓reduceIte, reduceIte, Nat.reduceAdd, Nat.reduceLT, Nat.reduceEqDiff, Nat.reduceLeDiff, Nat.reduceMul]
      refine loop_of f23L26_is (fun s : List House × List House => ⟨[(31, .int .i64 s.1.length), (30, .int .i64 l.length), (29, .sl (l.map House.av)), (0, .sl (l.map House.av))], []⟩)
        (fun s => l = s.1 ++ s.2 ∧ dupF sameId [] l = dupF sameId s.1 s.2) (fun s => s.2.length) ([], l) ⟨rfl, rfl⟩ (le_intro (by simp only [allLook, allLookM, go_sem, ↓reduceIte, reduceIte, Nat.reduceAdd, Nat.reduceLT, Nat.reduceEqDiff, Nat.reduceLeDiff, Nat.reduceMul]; try simp) (by simp only [allLook, allLookM, go_sem, ↓reduceIte, reduceIte, Nat.reduceAdd, Nat.reduceLT, Nat.reduceEqDiff, Nat.reduceLeDiff, Nat.reduceMul]; try simp)) ?_
      rintro ⟨d, r⟩ R ⟨hdr, he⟩ hR
      simp only at hdr he
      have hlen : l.length = d.length + r.length := by rw [hdr, List.length_append]
      simp (maxSteps := 2000000) (disch := omega) only [go_sem, ↓reduceIte, reduceIte, Nat.reduceAdd, Nat.reduceLT, Nat.reduceEqDiff, Nat.reduceLeDiff, Nat.reduceMul]
      cases r with
      | nil =>
        rw [List.length_nil] at hlen
        refine cA_d (fun h => absurd h (by omega)) (fun _ => ?_)
        rw [he]
        simp (maxSteps := 2000000) (disch := omega) only [go_sem, ↓reduceIte, reduceIte, Nat.reduceAdd, Nat.reduceLT, Nat.reduceEqDiff, Nat.reduceLeDiff, Nat.reduceMul]
        simp [dupF]
      | cons x r =>
        rw [List.length_cons] at hlen
        refine cA_d (fun _ => ?_) (fun h => absurd (show ((d.length : Nat) : Int) < l.length by omega) h)
        have hlt : d.length < l.length := by omega
        have hx : l[d.length]'hlt = x := by simp [hdr]
        have htk : l.take d.length = d := by rw [hdr]; simp
        simp (maxSteps := 2000000) (disch := omega) only [go_sem, ↓reduceIte, reduceIte, Nat.reduceAdd, Nat.reduceLT, Nat.reduceEqDiff, Nat.reduceLeDiff, Nat.reduceMul]
        refine idxS_map d.length rfl hlt (fun _ => rfl) ?_
        rw [hx]
        simp (maxSteps := 2000000) (disch := omega) only [go_sem, ↓reduceIte, reduceIte, Nat.reduceAdd, Nat.reduceLT, Nat.reduceEqDiff, Nat.reduceLeDiff, Nat.reduceMul, House.av]
        refine slK_at_sl 0 d.length house_cells (by rfl) rfl (Nat.zero_le _) (by simp; omega) ?_
        rw [List.drop_zero, ← List.map_take, htk]
        simp (maxSteps := 2000000) (disch := omega) only [go_sem, ↓reduceIte, reduceIte, Nat.reduceAdd, Nat.reduceLT, Nat.reduceEqDiff, Nat.reduceLeDiff, Nat.reduceMul]
        refine callv_1 (by rfl) (any41_ok d 42 [.pp [.str x.id, .int .i64 x.n] 0] (sameId x) (by omega) (by rfl) (fun y _ => same42_ok y x)) (by rfl) ?_
        rw [dupF] at he
        cases ha : d.any (sameId x) with
        | true =>
          rw [ha, Bool.true_or] at he
          rw [he]
          simp (maxSteps := 2000000) (disch := omega) only [go_sem, ↓reduceIte, reduceIte, Nat.reduceAdd, Nat.reduceLT, Nat.reduceEqDiff, Nat.reduceLeDiff, Nat.reduceMul]
        | false =>
          rw [ha, Bool.false_or] at he
          simp (maxSteps := 2000000) (disch := omega) only [go_sem, ↓reduceIte, reduceIte, Nat.reduceAdd, Nat.reduceLT, Nat.reduceEqDiff, Nat.reduceLeDiff, Nat.reduceMul]
          refine hR (d ++ [x], r) _ ⟨by rw [hdr]; simp, he⟩ (by simp) ?_
          exact (le_intro (by simp only [allLook, allLookM, go_sem, ↓reduceIte, reduceIte, Nat.reduceAdd, Nat.reduceLT, Nat.reduceEqDiff, Nat.reduceLeDiff, Nat.reduceMul, List.length_append, List.length_cons, List.length_nil, show ((d.length : Nat) : Int) + 1 = (d.length + (0 + 1) : Nat) by omega]; try simp) (by simp only [allLook, allLookM, go_sem, ↓reduceIte, reduceIte, Nat.reduceAdd, Nat.reduceLT, Nat.reduceEqDiff, Nat.reduceLeDiff, Nat.reduceMul, List.length_append, List.length_cons, List.length_nil, show ((d.length : Nat) : Int) + 1 = (d.length + (0 + 1) : Nat) by omega]; try simp))
    | cons x r =>
      rw [List.length_cons] at hlen
      refine cA_d (fun _ => ?_) (fun h => absurd (show ((d.length : Nat) : Int) < l.length by omega) h)
      have hlt : d.length < l.length := by omega
      have hx : l[d.length]'hlt = x := by simp [hdr]
      have hxo := hl x (by rw [hdr]; simp)
      unfold House.ok In64 at hxo
      rw [houseE] at he
      simp (maxSteps := 2000000) (disch := omega) only [go_sem, ↓reduceIte, reduceIte, Nat.reduceAdd, Nat.reduceLT, Nat.reduceEqDiff, Nat.reduceLeDiff, Nat.reduceMul]
      refine idxS_map d.length rfl hlt (fun _ => rfl) ?_
      rw [hx]
      simp (maxSteps := 2000000) (disch := omega) only [go_sem, ↓reduceIte, reduceIte, Nat.reduceAdd, Nat.reduceLT, Nat.reduceEqDiff, Nat.reduceLeDiff, Nat.reduceMul, House.av]
      refine call_1 (valid40_ok x.id) (by rfl) (by rfl) ?_
      cases hn : nameOk x.id with
      | false =>
        rw [if_pos hn] at he
        simp (maxSteps := 2000000) (disch := omega) only [go_sem, ↓reduceIte, reduceIte, Nat.reduceAdd, Nat.reduceLT, Nat.reduceEqDiff, Nat.reduceLeDiff, Nat.reduceMul]
        rw [he]
        try simp
      | true =>
        rw [if_neg (by simp [hn])] at he
        simp (maxSteps := 2000000) (disch := omega) only [go_sem, ↓reduceIte, reduceIte, Nat.reduceAdd, Nat.reduceLT, Nat.reduceEqDiff, Nat.reduceLeDiff, Nat.reduceMul]
        (repeat' (first | simp (maxSteps := 2000000) (disch := omega) only [go_sem, ↓reduceIte, reduceIte, Nat.reduceAdd, Nat.reduceLT, Nat.reduceEqDiff, Nat.reduceLeDiff, Nat.reduceMul] | refine gA_df (fun h => ?_) (fun h => ?_) | refine cA_d (fun h => ?_) (fun h => ?_)))
        all_goals first
          | (rw [if_pos (by omega)] at he; rw [he]; simp; done)
          | (rw [if_neg (by omega)] at he; refine hR (d ++ [x], r) _ ⟨by rw [hdr]; simp, he⟩ (by simp) ?_; exact (le_intro (by simp only [allLook, allLookM, go_sem, ↓reduceIte, reduceIte, Nat.reduceAdd, Nat.reduceLT, Nat.reduceEqDiff, Nat.reduceLeDiff, Nat.reduceMul, List.length_append, List.length_cons, List.length_nil, show ((d.length : Nat) : Int) + 1 = (d.length + (0 + 1) : Nat) by omega]; try simp) (by simp only [allLook, allLookM, go_sem, ↓reduceIte, reduceIte, Nat.reduceAdd, Nat.reduceLT, Nat.reduceEqDiff, Nat.reduceLeDiff, Nat.reduceMul, List.length_append, List.length_cons, List.length_nil, show ((d.length : Nat) : Int) + 1 = (d.length + (0 + 1) : Nat) by omega]; try simp)))
end Go.Proofs.Ytkknahekpeaoiaa

namespace Go.Proofs.Ytkknahekpeaoiaa
open Go Go.AI Go.Proofs
set_option linter.unusedSimpArgs false
set_option linter.unusedVariables false
set_option maxRecDepth 4000
def asgE (n : Int) (m : Nat) : List Asg → Int
  | [] => 0
  | x :: r => if x.c < 0 ∨ n ≤ x.c ∨ x.h < 0 ∨ (m : Int) ≤ x.h then 7 else if ¬ x.w.ok then 1 else asgE n m r
def lapE (a : List Asg) : Int := if dupF overlaps [] a = true then 12 else 0
def restE (n : Int) (m : Nat) (a : List Asg) : Int := if asgE n m a ≠ 0 then asgE n m a else lapE a
def checkE (l : List House) (n : Int) (a : List Asg) : Int :=
  if n < 0 ∨ 256 < n then 1 else if peopleE l ≠ 0 then peopleE l else if 512 < a.length then 8 else restE n l.length a
set_option maxHeartbeats 4000000 in
theorem check11_ok (l : List House) (n : Int) (a : List Asg) (hl : ∀ x ∈ l, x.ok) : CallsTo Try.prog 11 [.sl (l.map House.av), .int .i64 n, .sl (a.map Asg.av)] [.p (.int .i64 (checkE l n a))] := by
  refine f11_calls (Nat.le_of_ble_eq_true rfl) ?_
  by_cases h1 : n < 0 ∨ 256 < n
  · unfold checkE
    rw [if_pos h1]
    (repeat' (first | simp (maxSteps := 2000000) (disch := omega) only [go_sem, ↓reduceIte, reduceIte, Nat.reduceAdd, Nat.reduceLT, Nat.reduceEqDiff, Nat.reduceLeDiff, Nat.reduceMul] | refine gA_df (fun h => ?_) (fun h => ?_) | refine cA_d (fun h => ?_) (fun h => ?_) | (exfalso; omega)))
  by_cases h2 : peopleE l ≠ 0
  · unfold checkE
    rw [if_neg h1, if_pos h2]
    (repeat' (first | simp (maxSteps := 2000000) (disch := omega) only [go_sem, ↓reduceIte, reduceIte, Nat.reduceAdd, Nat.reduceLT, Nat.reduceEqDiff, Nat.reduceLeDiff, Nat.reduceMul] | refine gA_df (fun h => ?_) (fun h => ?_) | refine cA_d (fun h => ?_) (fun h => ?_) | refine call_1 (people23_ok l hl) (by rfl) (by rfl) ?_ | (exfalso; omega)))
  by_cases h3 : 512 < a.length
  · unfold checkE
    rw [if_neg h1, if_neg h2, if_pos h3]
    (repeat' (first | simp (maxSteps := 2000000) (disch := omega) only [go_sem, ↓reduceIte, reduceIte, Nat.reduceAdd, Nat.reduceLT, Nat.reduceEqDiff, Nat.reduceLeDiff, Nat.reduceMul] | refine gA_df (fun h => ?_) (fun h => ?_) | refine cA_d (fun h => ?_) (fun h => ?_) | refine call_1 (people23_ok l hl) (by rfl) (by rfl) ?_ | (exfalso; omega)))
  unfold checkE
  rw [if_neg h1, if_neg h2, if_neg h3]
  simp (maxSteps := 2000000) (disch := omega) only [go_sem, ↓reduceIte, reduceIte, Nat.reduceAdd, Nat.reduceLT, Nat.reduceEqDiff, Nat.reduceLeDiff, Nat.reduceMul]
  refine gA_df (fun _ => ?_) (fun h => absurd h (by omega))
  simp (maxSteps := 2000000) (disch := omega) only [go_sem, ↓reduceIte, reduceIte, Nat.reduceAdd, Nat.reduceLT, Nat.reduceEqDiff, Nat.reduceLeDiff, Nat.reduceMul]
  refine cA_d (fun h => absurd h (by omega)) (fun _ => ?_)
  simp (maxSteps := 2000000) (disch := omega) only [go_sem, ↓reduceIte, reduceIte, Nat.reduceAdd, Nat.reduceLT, Nat.reduceEqDiff, Nat.reduceLeDiff, Nat.reduceMul]
  refine call_1 (people23_ok l hl) (by rfl) (by rfl) ?_
  simp (maxSteps := 2000000) (disch := omega) only [go_sem, ↓reduceIte, reduceIte, Nat.reduceAdd, Nat.reduceLT, Nat.reduceEqDiff, Nat.reduceLeDiff, Nat.reduceMul]
  refine cA_d (fun h => absurd h (by omega)) (fun _ => ?_)
  simp (maxSteps := 2000000) (disch := omega) only [go_sem, ↓reduceIte, reduceIte, Nat.reduceAdd, Nat.reduceLT, Nat.reduceEqDiff, Nat.reduceLeDiff, Nat.reduceMul]
  refine cA_d (fun h => absurd h (by omega)) (fun _ => ?_)
  simp (maxSteps := 2000000) (disch := omega) only [go_sem, ↓reduceIte, reduceIte, Nat.reduceAdd, Nat.reduceLT, Nat.reduceEqDiff, Nat.reduceLeDiff, Nat.reduceMul]
  refine loop_of f11L17_is (fun s : List Asg × List Asg => ⟨[(29, .int .i64 s.1.length), (28, .int .i64 a.length), (27, .sl (a.map Asg.av)), (0, .sl (l.map House.av)), (1, .int .i64 n), (2, .sl (a.map Asg.av))], []⟩)
      (fun s => a = s.1 ++ s.2 ∧ asgE n l.length a = asgE n l.length s.2) (fun s => s.2.length) ([], a) ⟨rfl, rfl⟩ (le_intro (by simp only [allLook, allLookM, go_sem, ↓reduceIte, reduceIte, Nat.reduceAdd, Nat.reduceLT, Nat.reduceEqDiff, Nat.reduceLeDiff, Nat.reduceMul]; try simp) (by simp only [allLook, allLookM, go_sem, ↓reduceIte, reduceIte, Nat.reduceAdd, Nat.reduceLT, Nat.reduceEqDiff, Nat.reduceLeDiff, Nat.reduceMul]; try simp)) ?_
  rintro ⟨d, r⟩ R ⟨hdr, he⟩ hR
  simp only at hdr he
  have hlen : a.length = d.length + r.length := by rw [hdr, List.length_append]
  simp (maxSteps := 2000000) (disch := omega) only [go_sem, ↓reduceIte, reduceIte, Nat.reduceAdd, Nat.reduceLT, Nat.reduceEqDiff, Nat.reduceLeDiff, Nat.reduceMul]
  cases r with
  | nil =>
    rw [List.length_nil] at hlen
    refine cA_d (fun h => absurd h (by omega)) (fun _ => ?_)
    unfold restE
    rw [he]
    rw [show asgE n l.length [] = 0 from rfl, if_neg (by simp)]
    unfold lapE
    clear hR he hdr hlen
    simp (maxSteps := 2000000) (disch := omega) only [go_sem, ↓reduceIte, reduceIte, Nat.reduceAdd, Nat.reduceLT, Nat.reduceEqDiff, Nat.reduceLeDiff, Nat.reduceMul]
    refine loop_of f11L35_is (fun s : List Asg × List Asg => ⟨[(61, .int .i64 s.1.length), (60, .int .i64 a.length), (59, .sl (a.map Asg.av)), (2, .sl (a.map Asg.av))], []⟩)
      (fun s => a = s.1 ++ s.2 ∧ dupF overlaps [] a = dupF overlaps s.1 s.2) (fun s => s.2.length) ([], a) ⟨rfl, rfl⟩ (le_intro (by simp only [allLook, allLookM, go_sem, ↓reduceIte, reduceIte, Nat.reduceAdd, Nat.reduceLT, Nat.reduceEqDiff, Nat.reduceLeDiff, Nat.reduceMul]; try simp) (by simp only [allLook, allLookM, go_sem, ↓reduceIte, reduceIte, Nat.reduceAdd, Nat.reduceLT, Nat.reduceEqDiff, Nat.reduceLeDiff, Nat.reduceMul]; try simp)) ?_
    rintro ⟨d, r⟩ R ⟨hdr, he⟩ hR
    simp only at hdr he
    have hlen : a.length = d.length + r.length := by rw [hdr, List.length_append]
    simp (maxSteps := 2000000) (disch := omega) only [go_sem, ↓reduceIte, reduceIte, Nat.reduceAdd, Nat.reduceLT, Nat.reduceEqDiff, Nat.reduceLeDiff, Nat.reduceMul]
    cases r with
    | nil =>
      rw [List.length_nil] at hlen
      refine cA_d (fun h => absurd h (by omega)) (fun _ => ?_)
      rw [he]
      simp (maxSteps := 2000000) (disch := omega) only [go_sem, ↓reduceIte, reduceIte, Nat.reduceAdd, Nat.reduceLT, Nat.reduceEqDiff, Nat.reduceLeDiff, Nat.reduceMul]
      simp [dupF]
    | cons x r =>
      rw [List.length_cons] at hlen
      refine cA_d (fun _ => ?_) (fun h => absurd (show ((d.length : Nat) : Int) < a.length by omega) h)
      have hlt : d.length < a.length := by omega
      have hx : a[d.length]'hlt = x := by simp [hdr]
      have htk : a.take d.length = d := by rw [hdr]; simp
      simp (maxSteps := 2000000) (disch := omega) only [go_sem, ↓reduceIte, reduceIte, Nat.reduceAdd, Nat.reduceLT, Nat.reduceEqDiff, Nat.reduceLeDiff, Nat.reduceMul]
      refine idxS_map d.length rfl hlt (fun _ => rfl) ?_
      rw [hx]
      simp (maxSteps := 2000000) (disch := omega) only [go_sem, ↓reduceIte, reduceIte, Nat.reduceAdd, Nat.reduceLT, Nat.reduceEqDiff, Nat.reduceLeDiff, Nat.reduceMul, Asg.av]
      refine slK_at_sl 0 d.length asg_cells (by rfl) rfl (Nat.zero_le _) (by simp; omega) ?_
      rw [List.drop_zero, ← List.map_take, htk]
      simp (maxSteps := 2000000) (disch := omega) only [go_sem, ↓reduceIte, reduceIte, Nat.reduceAdd, Nat.reduceLT, Nat.reduceEqDiff, Nat.reduceLeDiff, Nat.reduceMul]
      refine callv_1 (by rfl) (any28_ok d 25 [.pp [.int .i64 x.c, .int .i64 x.h, .int .i64 x.a, .int .i64 x.b] 0] (overlaps x) (by omega) (by rfl) (fun y _ => over25_ok x y)) (by rfl) ?_
      rw [dupF] at he
      cases ha : d.any (overlaps x) with
      | true =>
        rw [ha, Bool.true_or] at he
        rw [he]
        simp (maxSteps := 2000000) (disch := omega) only [go_sem, ↓reduceIte, reduceIte, Nat.reduceAdd, Nat.reduceLT, Nat.reduceEqDiff, Nat.reduceLeDiff, Nat.reduceMul]
      | false =>
        rw [ha, Bool.false_or] at he
        simp (maxSteps := 2000000) (disch := omega) only [go_sem, ↓reduceIte, reduceIte, Nat.reduceAdd, Nat.reduceLT, Nat.reduceEqDiff, Nat.reduceLeDiff, Nat.reduceMul]
        refine hR (d ++ [x], r) _ ⟨by rw [hdr]; simp, he⟩ (by simp) ?_
        exact (le_intro (by simp only [allLook, allLookM, go_sem, ↓reduceIte, reduceIte, Nat.reduceAdd, Nat.reduceLT, Nat.reduceEqDiff, Nat.reduceLeDiff, Nat.reduceMul, List.length_append, List.length_cons, List.length_nil, show ((d.length : Nat) : Int) + 1 = (d.length + (0 + 1) : Nat) by omega]; try simp) (by simp only [allLook, allLookM, go_sem, ↓reduceIte, reduceIte, Nat.reduceAdd, Nat.reduceLT, Nat.reduceEqDiff, Nat.reduceLeDiff, Nat.reduceMul, List.length_append, List.length_cons, List.length_nil, show ((d.length : Nat) : Int) + 1 = (d.length + (0 + 1) : Nat) by omega]; try simp))
  | cons x r =>
    rw [List.length_cons] at hlen
    refine cA_d (fun _ => ?_) (fun h => absurd (show ((d.length : Nat) : Int) < a.length by omega) h)
    have hlt : d.length < a.length := by omega
    have hx : a[d.length]'hlt = x := by simp [hdr]
    rw [asgE] at he
    simp (maxSteps := 2000000) (disch := omega) only [go_sem, ↓reduceIte, reduceIte, Nat.reduceAdd, Nat.reduceLT, Nat.reduceEqDiff, Nat.reduceLeDiff, Nat.reduceMul]
    refine idxS_map d.length rfl hlt (fun _ => rfl) ?_
    rw [hx]
    by_cases h4 : x.c < 0 ∨ n ≤ x.c ∨ x.h < 0 ∨ (l.length : Int) ≤ x.h
    · rw [if_pos h4] at he
      unfold restE
      rw [he, if_pos (by decide)]
      (repeat' (first | simp (maxSteps := 2000000) (disch := omega) only [go_sem, ↓reduceIte, reduceIte, Nat.reduceAdd, Nat.reduceLT, Nat.reduceEqDiff, Nat.reduceLeDiff, Nat.reduceMul, Asg.av] | refine gA_df (fun h => ?_) (fun h => ?_) | refine cA_d (fun h => ?_) (fun h => ?_) | (exfalso; omega)))
    · rw [if_neg h4] at he
      simp (maxSteps := 2000000) (disch := omega) only [go_sem, ↓reduceIte, reduceIte, Nat.reduceAdd, Nat.reduceLT, Nat.reduceEqDiff, Nat.reduceLeDiff, Nat.reduceMul, Asg.av]
      refine gA_df (fun _ => ?_) (fun h => absurd h (by omega))
      simp (maxSteps := 2000000) (disch := omega) only [go_sem, ↓reduceIte, reduceIte, Nat.reduceAdd, Nat.reduceLT, Nat.reduceEqDiff, Nat.reduceLeDiff, Nat.reduceMul]
      refine gA_df (fun _ => ?_) (fun h => absurd h (by omega))
      simp (maxSteps := 2000000) (disch := omega) only [go_sem, ↓reduceIte, reduceIte, Nat.reduceAdd, Nat.reduceLT, Nat.reduceEqDiff, Nat.reduceLeDiff, Nat.reduceMul]
      refine gA_df (fun _ => ?_) (fun h => absurd h (by omega))
      simp (maxSteps := 2000000) (disch := omega) only [go_sem, ↓reduceIte, reduceIte, Nat.reduceAdd, Nat.reduceLT, Nat.reduceEqDiff, Nat.reduceLeDiff, Nat.reduceMul]
      refine cA_d (fun h => absurd h (by omega)) (fun _ => ?_)
      simp (maxSteps := 2000000) (disch := omega) only [go_sem, ↓reduceIte, reduceIte, Nat.reduceAdd, Nat.reduceLT, Nat.reduceEqDiff, Nat.reduceLeDiff, Nat.reduceMul]
      refine call_1 (valid24_ok x.w) (by rfl) (by rfl) ?_
      simp (maxSteps := 2000000) (disch := omega) only [go_sem, ↓reduceIte, reduceIte, Nat.reduceAdd, Nat.reduceLT, Nat.reduceEqDiff, Nat.reduceLeDiff, Nat.reduceMul]
      refine cA_d (fun h5 => ?_) (fun h5 => ?_)
      · rw [if_pos h5] at he
        unfold restE
        rw [he, if_pos (by decide)]
        simp (maxSteps := 2000000) (disch := omega) only [go_sem, ↓reduceIte, reduceIte, Nat.reduceAdd, Nat.reduceLT, Nat.reduceEqDiff, Nat.reduceLeDiff, Nat.reduceMul]
      · rw [if_neg h5] at he
        simp (maxSteps := 2000000) (disch := omega) only [go_sem, ↓reduceIte, reduceIte, Nat.reduceAdd, Nat.reduceLT, Nat.reduceEqDiff, Nat.reduceLeDiff, Nat.reduceMul]
        refine hR (d ++ [x], r) _ ⟨by rw [hdr]; simp, he⟩ (by simp) ?_
        exact (le_intro (by simp only [allLook, allLookM, go_sem, ↓reduceIte, reduceIte, Nat.reduceAdd, Nat.reduceLT, Nat.reduceEqDiff, Nat.reduceLeDiff, Nat.reduceMul, List.length_append, List.length_cons, List.length_nil, show ((d.length : Nat) : Int) + 1 = (d.length + (0 + 1) : Nat) by omega]; try simp) (by simp only [allLook, allLookM, go_sem, ↓reduceIte, reduceIte, Nat.reduceAdd, Nat.reduceLT, Nat.reduceEqDiff, Nat.reduceLeDiff, Nat.reduceMul, List.length_append, List.length_cons, List.length_nil, show ((d.length : Nat) : Int) + 1 = (d.length + (0 + 1) : Nat) by omega]; try simp))
end Go.Proofs.Ytkknahekpeaoiaa

namespace Go.Proofs.Ytkknahekpeaoiaa
open Go Go.AI Go.Proofs
set_option linter.unusedSimpArgs false
set_option linter.unusedVariables false
set_option maxRecDepth 4000
theorem callq_2 {P : Program} {g : FuncId} {caps args ys : List AV} {d : Nat} {e : List (Nat × AV)} {m : List (Nat × Ob)} {K : St → Prop} {x y : AV} (hv : viewL m (args ++ caps) = some ys) (hc : CallsTo P g ys [.p x, .p y]) (hs : (x.scal && y.scal) = true) (hk : Run (K ⟨(d, .tup [x, y]) :: e, m⟩)) : Run (callQ P (some d) (.fn g caps) args K ⟨e, m⟩) :=
  ⟨ys, hv, _, hc, by simpa [scalR] using hs, hk⟩
set_option maxHeartbeats 8000000 in
theorem rcheck12_ok (l : List House) (n : Int) (a : List Asg) (hl : ∀ x ∈ l, x.ok) : CallsTo Try.prog 12 [.sl (l.map House.av), .int .i64 n, .sl (a.map Asg.av)] [.p (.int .i64 (checkE l n a))] := by
  refine f12_calls (Nat.le_of_ble_eq_true rfl) ?_
  by_cases h1 : n < 0 ∨ 256 < n
  · unfold checkE
    rw [if_pos h1]
    (repeat' (first | simp (maxSteps := 2000000) (disch := omega) only [go_sem, ↓reduceIte, reduceIte, Nat.reduceAdd, Nat.reduceLT, Nat.reduceEqDiff, Nat.reduceLeDiff, Nat.reduceMul] | refine gA_df (fun h => ?_) (fun h => ?_) | refine cA_d (fun h => ?_) (fun h => ?_) | (exfalso; omega)))
  unfold checkE
  rw [if_neg h1]
  simp (maxSteps := 2000000) (disch := omega) only [go_sem, ↓reduceIte, reduceIte, Nat.reduceAdd, Nat.reduceLT, Nat.reduceEqDiff, Nat.reduceLeDiff, Nat.reduceMul]
  refine gA_df (fun _ => ?_) (fun h => absurd h (by omega))
  simp (maxSteps := 2000000) (disch := omega) only [go_sem, ↓reduceIte, reduceIte, Nat.reduceAdd, Nat.reduceLT, Nat.reduceEqDiff, Nat.reduceLeDiff, Nat.reduceMul]
  refine cA_d (fun h => absurd h (by omega)) (fun _ => ?_)
  simp (maxSteps := 2000000) (disch := omega) only [go_sem, ↓reduceIte, reduceIte, Nat.reduceAdd, Nat.reduceLT, Nat.reduceEqDiff, Nat.reduceLeDiff, Nat.reduceMul]
  refine cA_d (fun h2 => ?_) (fun h2 => ?_)
  · have hp : peopleE l = 8 := by unfold peopleE; rw [if_pos (by omega)]
    rw [hp, if_pos (by decide)]
    simp (maxSteps := 2000000) (disch := omega) only [go_sem, ↓reduceIte, reduceIte, Nat.reduceAdd, Nat.reduceLT, Nat.reduceEqDiff, Nat.reduceLeDiff, Nat.reduceMul]
  have hp : peopleE l = if houseE l ≠ 0 then houseE l else if dupF sameId [] l = true then 6 else 0 := by unfold peopleE; rw [if_neg (by omega)]
  simp (maxSteps := 2000000) (disch := omega) only [go_sem, ↓reduceIte, reduceIte, Nat.reduceAdd, Nat.reduceLT, Nat.reduceEqDiff, Nat.reduceLeDiff, Nat.reduceMul]
  refine loop_of f12L12_is (fun s : List House × List House => ⟨[(7, .int .i64 s.1.length), (0, .sl (l.map House.av)), (1, .int .i64 n), (2, .sl (a.map Asg.av))], []⟩)
    (fun s => l = s.1 ++ s.2 ∧ houseE l = houseE s.2) (fun s => s.2.length) ([], l) ⟨rfl, rfl⟩ (le_intro (by simp only [allLook, allLookM, go_sem, ↓reduceIte, reduceIte, Nat.reduceAdd, Nat.reduceLT, Nat.reduceEqDiff, Nat.reduceLeDiff, Nat.reduceMul]; try simp) (by simp only [allLook, allLookM, go_sem, ↓reduceIte, reduceIte, Nat.reduceAdd, Nat.reduceLT, Nat.reduceEqDiff, Nat.reduceLeDiff, Nat.reduceMul]; try simp)) ?_
  rintro ⟨d, r⟩ R ⟨hdr, he⟩ hR
  simp only at hdr he
  have hlen : l.length = d.length + r.length := by rw [hdr, List.length_append]
  simp (maxSteps := 2000000) (disch := omega) only [go_sem, ↓reduceIte, reduceIte, Nat.reduceAdd, Nat.reduceLT, Nat.reduceEqDiff, Nat.reduceLeDiff, Nat.reduceMul]
  cases r with
  | cons x r =>
    rw [List.length_cons] at hlen
    refine cA_d (fun _ => ?_) (fun h => absurd (show ((d.length : Nat) : Int) < l.length by omega) h)
    have hx : l[d.length]? = some x := by rw [hdr]; exact get_mid d r x _ rfl
    have hxo := hl x (by rw [hdr]; simp)
    unfold House.ok In64 at hxo
    rw [houseE] at he
    (repeat' (first | simp (maxSteps := 2000000) (disch := omega) only [go_sem, ↓reduceIte, reduceIte, Nat.reduceAdd, Nat.reduceLT, Nat.reduceEqDiff, Nat.reduceLeDiff, Nat.reduceMul, House.av] | refine idxS_get d.length rfl hx rfl ?_))
    refine call_1 (valid29_ok x.id) (by rfl) (by rfl) ?_
    cases hn : nameOk x.id with
    | false =>
      rw [if_pos hn] at he
      rw [he] at hp
      simp (maxSteps := 2000000) (disch := omega) only [go_sem, ↓reduceIte, reduceIte, Nat.reduceAdd, Nat.reduceLT, Nat.reduceEqDiff, Nat.reduceLeDiff, Nat.reduceMul]
      rw [hp]
      simp
    | true =>
      rw [if_neg (by simp [hn])] at he
      simp (maxSteps := 2000000) (disch := omega) only [go_sem, ↓reduceIte, reduceIte, Nat.reduceAdd, Nat.reduceLT, Nat.reduceEqDiff, Nat.reduceLeDiff, Nat.reduceMul]
      (repeat' (first | simp (maxSteps := 2000000) (disch := omega) only [go_sem, ↓reduceIte, reduceIte, Nat.reduceAdd, Nat.reduceLT, Nat.reduceEqDiff, Nat.reduceLeDiff, Nat.reduceMul, House.av] | refine idxS_get d.length rfl hx rfl ?_ | refine gA_df (fun h => ?_) (fun h => ?_) | refine cA_d (fun h => ?_) (fun h => ?_)))
      all_goals first
        | (rw [if_pos (by omega)] at he; rw [he] at hp; rw [hp]; simp; done)
        | (rw [if_neg (by omega)] at he; refine hR (d ++ [x], r) _ ⟨by rw [hdr]; simp, he⟩ (by simp) ?_; exact (le_intro (by simp only [allLook, allLookM, go_sem, ↓reduceIte, reduceIte, Nat.reduceAdd, Nat.reduceLT, Nat.reduceEqDiff, Nat.reduceLeDiff, Nat.reduceMul, List.length_append, List.length_cons, List.length_nil, show ((d.length : Nat) : Int) + 1 = (d.length + (0 + 1) : Nat) by omega]; try simp) (by simp only [allLook, allLookM, go_sem, ↓reduceIte, reduceIte, Nat.reduceAdd, Nat.reduceLT, Nat.reduceEqDiff, Nat.reduceLeDiff, Nat.reduceMul, List.length_append, List.length_cons, List.length_nil, show ((d.length : Nat) : Int) + 1 = (d.length + (0 + 1) : Nat) by omega]; try simp)))
  | nil =>
  rw [List.length_nil] at hlen
  refine cA_d (fun h => absurd h (by omega)) (fun _ => ?_)
  rw [he, show houseE [] = 0 from rfl, if_neg (by simp)] at hp
  clear hR he hdr hlen
  simp (maxSteps := 2000000) (disch := omega) only [go_sem, ↓reduceIte, reduceIte, Nat.reduceAdd, Nat.reduceLT, Nat.reduceEqDiff, Nat.reduceLeDiff, Nat.reduceMul]
  refine loop_of f12L29_is (fun s : List House × List House => ⟨[(8, .int .i64 s.1.length), (0, .sl (l.map House.av)), (1, .int .i64 n), (2, .sl (a.map Asg.av))], []⟩)
    (fun s => l = s.1 ++ s.2 ∧ dupF sameId [] l = dupF sameId s.1 s.2) (fun s => s.2.length) ([], l) ⟨rfl, rfl⟩ (le_intro (by simp only [allLook, allLookM, go_sem, ↓reduceIte, reduceIte, Nat.reduceAdd, Nat.reduceLT, Nat.reduceEqDiff, Nat.reduceLeDiff, Nat.reduceMul]; try simp) (by simp only [allLook, allLookM, go_sem, ↓reduceIte, reduceIte, Nat.reduceAdd, Nat.reduceLT, Nat.reduceEqDiff, Nat.reduceLeDiff, Nat.reduceMul]; try simp)) ?_
  rintro ⟨d, r⟩ R ⟨hdr, he⟩ hR
  simp only at hdr he
  have hlen : l.length = d.length + r.length := by rw [hdr, List.length_append]
  simp (maxSteps := 2000000) (disch := omega) only [go_sem, ↓reduceIte, reduceIte, Nat.reduceAdd, Nat.reduceLT, Nat.reduceEqDiff, Nat.reduceLeDiff, Nat.reduceMul]
  cases r with
  | cons x r =>
    rw [List.length_cons] at hlen
    refine cA_d (fun _ => ?_) (fun h => absurd (show ((d.length : Nat) : Int) < l.length by omega) h)
    have hx : l[d.length]? = some x := by rw [hdr]; exact get_mid d r x _ rfl
    rw [dupF] at he
    simp (maxSteps := 2000000) (disch := omega) only [go_sem, ↓reduceIte, reduceIte, Nat.reduceAdd, Nat.reduceLT, Nat.reduceEqDiff, Nat.reduceLeDiff, Nat.reduceMul]
    refine loop_of f12L37_is (fun s : List House × List House => ⟨[(9, .int .i64 s.1.length), (8, .int .i64 d.length), (0, .sl (l.map House.av)), (1, .int .i64 n), (2, .sl (a.map Asg.av))], []⟩)
      (fun s => d = s.1 ++ s.2 ∧ d.any (sameId x) = s.2.any (sameId x)) (fun s => s.2.length) ([], d) ⟨rfl, rfl⟩ (le_intro (by simp only [allLook, allLookM, go_sem, ↓reduceIte, reduceIte, Nat.reduceAdd, Nat.reduceLT, Nat.reduceEqDiff, Nat.reduceLeDiff, Nat.reduceMul]; try simp) (by simp only [allLook, allLookM, go_sem, ↓reduceIte, reduceIte, Nat.reduceAdd, Nat.reduceLT, Nat.reduceEqDiff, Nat.reduceLeDiff, Nat.reduceMul]; try simp)) ?_
    rintro ⟨d1, d2⟩ R2 ⟨hd, ha⟩ hR2
    simp only at hd ha
    have hlen2 : d.length = d1.length + d2.length := by rw [hd, List.length_append]
    simp (maxSteps := 2000000) (disch := omega) only [go_sem, ↓reduceIte, reduceIte, Nat.reduceAdd, Nat.reduceLT, Nat.reduceEqDiff, Nat.reduceLeDiff, Nat.reduceMul]
    cases d2 with
    | nil =>
      rw [List.length_nil] at hlen2
      refine cA_d (fun h => absurd h (by omega)) (fun _ => ?_)
      rw [ha, List.any_nil, Bool.false_or] at he
      simp (maxSteps := 2000000) (disch := omega) only [go_sem, ↓reduceIte, reduceIte, Nat.reduceAdd, Nat.reduceLT, Nat.reduceEqDiff, Nat.reduceLeDiff, Nat.reduceMul]
      refine hR (d ++ [x], r) _ ⟨by rw [hdr]; simp, he⟩ (by simp) ?_
      exact (le_intro (by simp only [allLook, allLookM, go_sem, ↓reduceIte, reduceIte, Nat.reduceAdd, Nat.reduceLT, Nat.reduceEqDiff, Nat.reduceLeDiff, Nat.reduceMul, List.length_append, List.length_cons, List.length_nil, show ((d.length : Nat) : Int) + 1 = (d.length + (0 + 1) : Nat) by omega]; try simp) (by simp only [allLook, allLookM, go_sem, ↓reduceIte, reduceIte, Nat.reduceAdd, Nat.reduceLT, Nat.reduceEqDiff, Nat.reduceLeDiff, Nat.reduceMul, List.length_append, List.length_cons, List.length_nil, show ((d.length : Nat) : Int) + 1 = (d.length + (0 + 1) : Nat) by omega]; try simp))
    | cons y d2 =>
      rw [List.length_cons] at hlen2
      refine cA_d (fun _ => ?_) (fun h => absurd (show ((d1.length : Nat) : Int) < d.length by omega) h)
      have hy : l[d1.length]? = some y := by rw [hdr, hd, List.append_assoc]; exact get_mid d1 _ y _ rfl
      (repeat' (first | simp (maxSteps := 2000000) (disch := omega) only [go_sem, ↓reduceIte, reduceIte, Nat.reduceAdd, Nat.reduceLT, Nat.reduceEqDiff, Nat.reduceLeDiff, Nat.reduceMul, House.av] | refine idxS_get d.length rfl hx rfl ?_ | refine idxS_get d1.length rfl hy rfl ?_))
      refine cA_d (fun h => ?_) (fun h => ?_)
      · rw [ha, List.any_cons, show sameId x y = true from decide_eq_true h.symm, Bool.true_or, Bool.true_or] at he
        rw [he, if_pos rfl] at hp
        rw [hp]
        simp (maxSteps := 2000000) (disch := omega) only [go_sem, ↓reduceIte, reduceIte, Nat.reduceAdd, Nat.reduceLT, Nat.reduceEqDiff, Nat.reduceLeDiff, Nat.reduceMul]
        all_goals (try simp)
      · rw [List.any_cons, show sameId x y = false from decide_eq_false (fun e => h e.symm), Bool.false_or] at ha
        simp (maxSteps := 2000000) (disch := omega) only [go_sem, ↓reduceIte, reduceIte, Nat.reduceAdd, Nat.reduceLT, Nat.reduceEqDiff, Nat.reduceLeDiff, Nat.reduceMul]
        refine hR2 (d1 ++ [y], d2) _ ⟨by rw [hd]; simp, ha⟩ (by simp) ?_
        exact (le_intro (by simp only [allLook, allLookM, go_sem, ↓reduceIte, reduceIte, Nat.reduceAdd, Nat.reduceLT, Nat.reduceEqDiff, Nat.reduceLeDiff, Nat.reduceMul, List.length_append, List.length_cons, List.length_nil, show ((d1.length : Nat) : Int) + 1 = (d1.length + (0 + 1) : Nat) by omega]; try simp) (by simp only [allLook, allLookM, go_sem, ↓reduceIte, reduceIte, Nat.reduceAdd, Nat.reduceLT, Nat.reduceEqDiff, Nat.reduceLeDiff, Nat.reduceMul, List.length_append, List.length_cons, List.length_nil, show ((d1.length : Nat) : Int) + 1 = (d1.length + (0 + 1) : Nat) by omega]; try simp))
  | nil =>
  rw [List.length_nil] at hlen
  refine cA_d (fun h => absurd h (by omega)) (fun _ => ?_)
  rw [he, show dupF sameId d [] = false from rfl, if_neg (by simp)] at hp
  rw [hp, if_neg (by simp)]
  clear hR he hdr hlen
  simp (maxSteps := 2000000) (disch := omega) only [go_sem, ↓reduceIte, reduceIte, Nat.reduceAdd, Nat.reduceLT, Nat.reduceEqDiff, Nat.reduceLeDiff, Nat.reduceMul]
  refine cA_d (fun h => ?_) (fun h => ?_)
  · rw [if_pos (by omega)]
    simp (maxSteps := 2000000) (disch := omega) only [go_sem, ↓reduceIte, reduceIte, Nat.reduceAdd, Nat.reduceLT, Nat.reduceEqDiff, Nat.reduceLeDiff, Nat.reduceMul]
  rw [if_neg (by omega)]
  simp (maxSteps := 2000000) (disch := omega) only [go_sem, ↓reduceIte, reduceIte, Nat.reduceAdd, Nat.reduceLT, Nat.reduceEqDiff, Nat.reduceLeDiff, Nat.reduceMul]
  refine loop_of f12L55_is (fun s : List Asg × List Asg => ⟨[(10, .int .i64 s.1.length), (0, .sl (l.map House.av)), (1, .int .i64 n), (2, .sl (a.map Asg.av))], []⟩)
    (fun s => a = s.1 ++ s.2 ∧ asgE n l.length a = asgE n l.length s.2) (fun s => s.2.length) ([], a) ⟨rfl, rfl⟩ (le_intro (by simp only [allLook, allLookM, go_sem, ↓reduceIte, reduceIte, Nat.reduceAdd, Nat.reduceLT, Nat.reduceEqDiff, Nat.reduceLeDiff, Nat.reduceMul]; try simp) (by simp only [allLook, allLookM, go_sem, ↓reduceIte, reduceIte, Nat.reduceAdd, Nat.reduceLT, Nat.reduceEqDiff, Nat.reduceLeDiff, Nat.reduceMul]; try simp)) ?_
  rintro ⟨d, r⟩ R ⟨hdr, he⟩ hR
  simp only at hdr he
  have hlen : a.length = d.length + r.length := by rw [hdr, List.length_append]
  simp (maxSteps := 2000000) (disch := omega) only [go_sem, ↓reduceIte, reduceIte, Nat.reduceAdd, Nat.reduceLT, Nat.reduceEqDiff, Nat.reduceLeDiff, Nat.reduceMul]
  cases r with
  | cons x r =>
    rw [List.length_cons] at hlen
    refine cA_d (fun _ => ?_) (fun h => absurd (show ((d.length : Nat) : Int) < a.length by omega) h)
    have hx : a[d.length]? = some x := by rw [hdr]; exact get_mid d r x _ rfl
    rw [asgE] at he
    by_cases h4 : x.c < 0 ∨ n ≤ x.c ∨ x.h < 0 ∨ (l.length : Int) ≤ x.h
    · rw [if_pos h4] at he
      unfold restE
      rw [he, if_pos (by decide)]
      (repeat' (first | simp (maxSteps := 2000000) (disch := omega) only [go_sem, ↓reduceIte, reduceIte, Nat.reduceAdd, Nat.reduceLT, Nat.reduceEqDiff, Nat.reduceLeDiff, Nat.reduceMul, Asg.av] | refine idxS_get d.length rfl hx rfl ?_ | refine gA_df (fun h => ?_) (fun h => ?_) | refine cA_d (fun h => ?_) (fun h => ?_) | (exfalso; omega)))
    · rw [if_neg h4] at he
      (repeat' (first | simp (maxSteps := 2000000) (disch := omega) only [go_sem, ↓reduceIte, reduceIte, Nat.reduceAdd, Nat.reduceLT, Nat.reduceEqDiff, Nat.reduceLeDiff, Nat.reduceMul, Asg.av] | refine idxS_get d.length rfl hx rfl ?_ | refine gA_df (fun _ => ?_) (fun h => absurd h (by omega))))
      refine cA_d (fun h => absurd h (by omega)) (fun _ => ?_)
      (repeat' (first | simp (maxSteps := 2000000) (disch := omega) only [go_sem, ↓reduceIte, reduceIte, Nat.reduceAdd, Nat.reduceLT, Nat.reduceEqDiff, Nat.reduceLeDiff, Nat.reduceMul, Asg.av] | refine idxS_get d.length rfl hx rfl ?_))
      refine call_1 (window21_ok x.w) (by rfl) (by rfl) ?_
      simp (maxSteps := 2000000) (disch := omega) only [go_sem, ↓reduceIte, reduceIte, Nat.reduceAdd, Nat.reduceLT, Nat.reduceEqDiff, Nat.reduceLeDiff, Nat.reduceMul]
      refine cA_d (fun h5 => ?_) (fun h5 => ?_)
      · rw [if_pos h5] at he
        unfold restE
        rw [he, if_pos (by decide)]
        simp (maxSteps := 2000000) (disch := omega) only [go_sem, ↓reduceIte, reduceIte, Nat.reduceAdd, Nat.reduceLT, Nat.reduceEqDiff, Nat.reduceLeDiff, Nat.reduceMul]
      · rw [if_neg h5] at he
        simp (maxSteps := 2000000) (disch := omega) only [go_sem, ↓reduceIte, reduceIte, Nat.reduceAdd, Nat.reduceLT, Nat.reduceEqDiff, Nat.reduceLeDiff, Nat.reduceMul]
        refine hR (d ++ [x], r) _ ⟨by rw [hdr]; simp, he⟩ (by simp) ?_
        exact (le_intro (by simp only [allLook, allLookM, go_sem, ↓reduceIte, reduceIte, Nat.reduceAdd, Nat.reduceLT, Nat.reduceEqDiff, Nat.reduceLeDiff, Nat.reduceMul, List.length_append, List.length_cons, List.length_nil, show ((d.length : Nat) : Int) + 1 = (d.length + (0 + 1) : Nat) by omega]; try simp) (by simp only [allLook, allLookM, go_sem, ↓reduceIte, reduceIte, Nat.reduceAdd, Nat.reduceLT, Nat.reduceEqDiff, Nat.reduceLeDiff, Nat.reduceMul, List.length_append, List.length_cons, List.length_nil, show ((d.length : Nat) : Int) + 1 = (d.length + (0 + 1) : Nat) by omega]; try simp))
  | nil =>
  rw [List.length_nil] at hlen
  refine cA_d (fun h => absurd h (by omega)) (fun _ => ?_)
  unfold restE
  rw [he, show asgE n l.length [] = 0 from rfl, if_neg (by simp)]
  unfold lapE
  clear hR he hdr hlen
  simp (maxSteps := 2000000) (disch := omega) only [go_sem, ↓reduceIte, reduceIte, Nat.reduceAdd, Nat.reduceLT, Nat.reduceEqDiff, Nat.reduceLeDiff, Nat.reduceMul]
  refine loop_of f12L72_is (fun s : List Asg × List Asg => ⟨[(11, .int .i64 s.1.length), (2, .sl (a.map Asg.av))], []⟩)
    (fun s => a = s.1 ++ s.2 ∧ dupF overlaps [] a = dupF overlaps s.1 s.2) (fun s => s.2.length) ([], a) ⟨rfl, rfl⟩ (le_intro (by simp only [allLook, allLookM, go_sem, ↓reduceIte, reduceIte, Nat.reduceAdd, Nat.reduceLT, Nat.reduceEqDiff, Nat.reduceLeDiff, Nat.reduceMul]; try simp) (by simp only [allLook, allLookM, go_sem, ↓reduceIte, reduceIte, Nat.reduceAdd, Nat.reduceLT, Nat.reduceEqDiff, Nat.reduceLeDiff, Nat.reduceMul]; try simp)) ?_
  rintro ⟨d, r⟩ R ⟨hdr, he⟩ hR
  simp only at hdr he
  have hlen : a.length = d.length + r.length := by rw [hdr, List.length_append]
  simp (maxSteps := 2000000) (disch := omega) only [go_sem, ↓reduceIte, reduceIte, Nat.reduceAdd, Nat.reduceLT, Nat.reduceEqDiff, Nat.reduceLeDiff, Nat.reduceMul]
  cases r with
  | nil =>
    rw [List.length_nil] at hlen
    refine cA_d (fun h => absurd h (by omega)) (fun _ => ?_)
    rw [he]
    simp (maxSteps := 2000000) (disch := omega) only [go_sem, ↓reduceIte, reduceIte, Nat.reduceAdd, Nat.reduceLT, Nat.reduceEqDiff, Nat.reduceLeDiff, Nat.reduceMul]
    simp [dupF]
  | cons x r =>
    rw [List.length_cons] at hlen
    refine cA_d (fun _ => ?_) (fun h => absurd (show ((d.length : Nat) : Int) < a.length by omega) h)
    have hx : a[d.length]? = some x := by rw [hdr]; exact get_mid d r x _ rfl
    rw [dupF] at he
    simp (maxSteps := 2000000) (disch := omega) only [go_sem, ↓reduceIte, reduceIte, Nat.reduceAdd, Nat.reduceLT, Nat.reduceEqDiff, Nat.reduceLeDiff, Nat.reduceMul]
    refine loop_of f12L80_is (fun s : List Asg × List Asg => ⟨[(12, .int .i64 s.1.length), (11, .int .i64 d.length), (2, .sl (a.map Asg.av))], []⟩)
      (fun s => d = s.1 ++ s.2 ∧ d.any (overlaps x) = s.2.any (overlaps x)) (fun s => s.2.length) ([], d) ⟨rfl, rfl⟩ (le_intro (by simp only [allLook, allLookM, go_sem, ↓reduceIte, reduceIte, Nat.reduceAdd, Nat.reduceLT, Nat.reduceEqDiff, Nat.reduceLeDiff, Nat.reduceMul]; try simp) (by simp only [allLook, allLookM, go_sem, ↓reduceIte, reduceIte, Nat.reduceAdd, Nat.reduceLT, Nat.reduceEqDiff, Nat.reduceLeDiff, Nat.reduceMul]; try simp)) ?_
    rintro ⟨d1, d2⟩ R2 ⟨hd, ha⟩ hR2
    simp only at hd ha
    have hlen2 : d.length = d1.length + d2.length := by rw [hd, List.length_append]
    simp (maxSteps := 2000000) (disch := omega) only [go_sem, ↓reduceIte, reduceIte, Nat.reduceAdd, Nat.reduceLT, Nat.reduceEqDiff, Nat.reduceLeDiff, Nat.reduceMul]
    cases d2 with
    | nil =>
      rw [List.length_nil] at hlen2
      refine cA_d (fun h => absurd h (by omega)) (fun _ => ?_)
      rw [ha, List.any_nil, Bool.false_or] at he
      simp (maxSteps := 2000000) (disch := omega) only [go_sem, ↓reduceIte, reduceIte, Nat.reduceAdd, Nat.reduceLT, Nat.reduceEqDiff, Nat.reduceLeDiff, Nat.reduceMul]
      refine hR (d ++ [x], r) _ ⟨by rw [hdr]; simp, he⟩ (by simp) ?_
      exact (le_intro (by simp only [allLook, allLookM, go_sem, ↓reduceIte, reduceIte, Nat.reduceAdd, Nat.reduceLT, Nat.reduceEqDiff, Nat.reduceLeDiff, Nat.reduceMul, List.length_append, List.length_cons, List.length_nil, show ((d.length : Nat) : Int) + 1 = (d.length + (0 + 1) : Nat) by omega]; try simp) (by simp only [allLook, allLookM, go_sem, ↓reduceIte, reduceIte, Nat.reduceAdd, Nat.reduceLT, Nat.reduceEqDiff, Nat.reduceLeDiff, Nat.reduceMul, List.length_append, List.length_cons, List.length_nil, show ((d.length : Nat) : Int) + 1 = (d.length + (0 + 1) : Nat) by omega]; try simp))
    | cons y d2 =>
      rw [List.length_cons] at hlen2
      refine cA_d (fun _ => ?_) (fun h => absurd (show ((d1.length : Nat) : Int) < d.length by omega) h)
      have hy : a[d1.length]? = some y := by rw [hdr, hd, List.append_assoc]; exact get_mid d1 _ y _ rfl
      (repeat' (first | simp (maxSteps := 2000000) (disch := omega) only [go_sem, ↓reduceIte, reduceIte, Nat.reduceAdd, Nat.reduceLT, Nat.reduceEqDiff, Nat.reduceLeDiff, Nat.reduceMul, Asg.av, Win.av] | refine idxS_get d.length rfl hx rfl ?_ | refine idxS_get d1.length rfl hy rfl ?_ | refine callq_2 (by rfl) (rcommon30_ok x.w y.w) (by rfl) ?_))
      rw [List.any_cons] at ha
      have next : overlaps x y = false → ∀ s', (St.le ⟨[(12, .int .i64 (d1.length + 1 : Nat)), (11, .int .i64 d.length), (2, .sl (a.map Asg.av))], []⟩ s') → Run (R2 s') := fun h s' hs => by
        rw [h, Bool.false_or] at ha
        exact hR2 (d1 ++ [y], d2) s' ⟨by rw [hd]; simp, ha⟩ (by simp) (by simpa using hs)
      cases hm : meets x.w y.w with
      | false =>
        simp (maxSteps := 2000000) (disch := omega) only [go_sem, ↓reduceIte, reduceIte, Nat.reduceAdd, Nat.reduceLT, Nat.reduceEqDiff, Nat.reduceLeDiff, Nat.reduceMul]
        exact next (by unfold overlaps; rw [hm, Bool.and_false]) _ (le_intro (by simp only [allLook, allLookM, go_sem, ↓reduceIte, reduceIte, Nat.reduceAdd, Nat.reduceLT, Nat.reduceEqDiff, Nat.reduceLeDiff, Nat.reduceMul, show ((d1.length : Nat) : Int) + 1 = (d1.length + 1 : Nat) by omega]; try simp) (by simp only [allLook, allLookM, go_sem, ↓reduceIte, reduceIte, Nat.reduceAdd, Nat.reduceLT, Nat.reduceEqDiff, Nat.reduceLeDiff, Nat.reduceMul, show ((d1.length : Nat) : Int) + 1 = (d1.length + 1 : Nat) by omega]; try simp))
      | true =>
        (repeat' (first | simp (maxSteps := 2000000) (disch := omega) only [go_sem, ↓reduceIte, reduceIte, Nat.reduceAdd, Nat.reduceLT, Nat.reduceEqDiff, Nat.reduceLeDiff, Nat.reduceMul, Asg.av] | refine idxS_get d.length rfl hx rfl ?_ | refine idxS_get d1.length rfl hy rfl ?_))
        refine cA_d (fun h => ?_) (fun h => ?_)
        · have ho : overlaps x y = true := by unfold overlaps; rw [hm, Bool.and_true]; exact decide_eq_true h.symm
          rw [ha, ho, Bool.true_or, Bool.true_or] at he
          rw [he]
          simp (maxSteps := 2000000) (disch := omega) only [go_sem, ↓reduceIte, reduceIte, Nat.reduceAdd, Nat.reduceLT, Nat.reduceEqDiff, Nat.reduceLeDiff, Nat.reduceMul]
        · simp (maxSteps := 2000000) (disch := omega) only [go_sem, ↓reduceIte, reduceIte, Nat.reduceAdd, Nat.reduceLT, Nat.reduceEqDiff, Nat.reduceLeDiff, Nat.reduceMul]
          exact next (by unfold overlaps; rw [hm, Bool.and_true]; exact decide_eq_false (fun e => h e.symm)) _ (le_intro (by simp only [allLook, allLookM, go_sem, ↓reduceIte, reduceIte, Nat.reduceAdd, Nat.reduceLT, Nat.reduceEqDiff, Nat.reduceLeDiff, Nat.reduceMul, show ((d1.length : Nat) : Int) + 1 = (d1.length + 1 : Nat) by omega]; try simp) (by simp only [allLook, allLookM, go_sem, ↓reduceIte, reduceIte, Nat.reduceAdd, Nat.reduceLT, Nat.reduceEqDiff, Nat.reduceLeDiff, Nat.reduceMul, show ((d1.length : Nat) : Int) + 1 = (d1.length + 1 : Nat) by omega]; try simp))
end Go.Proofs.Ytkknahekpeaoiaa
