import Derived.Test.YtaogafgadgppnaaDoorV14
namespace Go.Proofs.YtaogafgadgppnaaDoor
open Go Go.AI Go.Proofs
set_option linter.unusedSimpArgs false
set_option linter.unusedVariables false
set_option maxRecDepth 4000
theorem nrm_nrm (l : List Win) : nrm (nrm l) = nrm l :=
  canon_uniq _ _ (nrm_canon _) (nrm_canon _) (fun t => by rw [nrm_any])
theorem nrm_turn (l : List Win) : nrm (l.reverse ++ nrm l) = nrm l :=
  canon_uniq _ _ (nrm_canon _) (nrm_canon _) (fun t => by rw [nrm_any, List.any_append, List.any_reverse, nrm_any, Bool.or_self])
theorem allOk_nrm {l : List Win} (h : allOk l = true) : allOk (nrm l) = true :=
  allOk_iff.2 (fun w hw => by
    have := (nrm_bd (allOk_iff.1 h)).1 w hw
    unfold Win.ok
    omega)
theorem allOk_turn {l : List Win} (h : allOk l = true) : allOk (l.reverse ++ nrm l) = true :=
  allOk_iff.2 (fun w hw => by
    rcases List.mem_append.1 hw with h1 | h1
    · exact allOk_iff.1 h w (List.mem_reverse.1 h1)
    · exact allOk_iff.1 (allOk_nrm h) w h1)
theorem rev_step (l : List Win) (i : Nat) (hi : i < l.length) : (l.reverse.take i ++ l.drop i).set i (l[l.length - 1 - i]'(by omega)) = l.reverse.take (i + 1) ++ l.drop (i + 1) := by
  have h1 : (l.reverse.take i).length = i := by simp; omega
  rw [List.set_append_right _ _ (by omega), h1, Nat.sub_self, List.drop_eq_getElem_cons hi, List.set_cons_zero, List.take_add_one]
  rw [List.getElem?_eq_getElem (by simpa using hi), List.getElem_reverse]
  simp
set_option maxHeartbeats 8000000 in
theorem law9_ok (l : List Win) (t : Int) : CallsTo Tryd.prog 9 [.sl (l.map Win.av), .int .i64 t] [.p (.bool true)] := by
  refine f9_calls (Nat.le_of_ble_eq_true rfl) ?_
  simp (maxSteps := 2000000) (disch := omega) only [go_sem, ↓reduceIte, reduceIte, Nat.reduceAdd, Nat.reduceLT, Nat.reduceEqDiff, Nat.reduceLeDiff, Nat.reduceMul]
  refine cA_d (fun _ => ?_) (fun hn => ?_)
  · simp (maxSteps := 2000000) (disch := omega) only [go_sem, ↓reduceIte, reduceIte, Nat.reduceAdd, Nat.reduceLT, Nat.reduceEqDiff, Nat.reduceLeDiff, Nat.reduceMul]
    refine call_1 awake12_ok (by rfl) (by rfl) ?_
    simp (maxSteps := 2000000) (disch := omega) only [go_sem, ↓reduceIte, reduceIte, Nat.reduceAdd, Nat.reduceLT, Nat.reduceEqDiff, Nat.reduceLeDiff, Nat.reduceMul]
  have hlen : l.length ≤ 200 := by omega
  have hm := mergeR_len l
  simp (maxSteps := 2000000) (disch := omega) only [go_sem, ↓reduceIte, reduceIte, Nat.reduceAdd, Nat.reduceLT, Nat.reduceEqDiff, Nat.reduceLeDiff, Nat.reduceMul]
  refine call_f2 (merge25_ok l (by omega)) (by rfl) (by rfl) ?_
  simp (maxSteps := 2000000) (disch := omega) only [go_sem, ↓reduceIte, reduceIte, Nat.reduceAdd, Nat.reduceLT, Nat.reduceEqDiff, Nat.reduceLeDiff, Nat.reduceMul]
  have hcan : Canon (mergeR l) := by
    unfold mergeR
    split
    · exact nrm_canon l
    · exact ⟨by simp, .nil⟩
  refine loop_of f9L9_is (fun p : List Win × List Win => ⟨[(28, .int .i64 p.1.length), (27, .int .i64 l.length), (26, .sl (l.map Win.av)), (0, .sl (l.map Win.av)), (1, .int .i64 t), (5, .own 23), (6, .int .i64 (mergeE l))], [(23, .arr 34 2 ((mergeR l).map Win.av))]⟩)
    (fun p => l = p.1 ++ p.2 ∧ allOk l = allOk p.2) (fun p => p.2.length) ([], l) ⟨rfl, rfl⟩ (le_intro (by simp only [allLook, allLookM, go_sem, ↓reduceIte, reduceIte, Nat.reduceAdd, Nat.reduceLT, Nat.reduceEqDiff, Nat.reduceLeDiff, Nat.reduceMul]; try simp) (by simp only [allLook, allLookM, go_sem, ↓reduceIte, reduceIte, Nat.reduceAdd, Nat.reduceLT, Nat.reduceEqDiff, Nat.reduceLeDiff, Nat.reduceMul]; try simp)) ?_
  rintro ⟨d, r⟩ R ⟨hdr, he⟩ hR
  simp only at hdr he
  have hl0 : l.length = d.length + r.length := by rw [hdr, List.length_append]
  simp (maxSteps := 2000000) (disch := omega) only [go_sem, ↓reduceIte, reduceIte, Nat.reduceAdd, Nat.reduceLT, Nat.reduceEqDiff, Nat.reduceLeDiff, Nat.reduceMul]
  cases r with
  | cons x r =>
    rw [List.length_cons] at hl0
    refine cA_d (fun _ => ?_) (fun h => absurd (show ((d.length : Nat) : Int) < l.length by omega) h)
    have hx : l[d.length]? = some x := by rw [hdr]; exact get_mid d r x _ rfl
    have hcons : allOk (x :: r) = (decide x.ok && allOk r) := rfl
    rw [hcons] at he
    by_cases hok : x.ok
    · rw [decide_eq_true hok, Bool.true_and] at he
      unfold Win.ok at hok
      (repeat' (first | simp (maxSteps := 2000000) (disch := omega) only [go_sem, ↓reduceIte, reduceIte, Nat.reduceAdd, Nat.reduceLT, Nat.reduceEqDiff, Nat.reduceLeDiff, Nat.reduceMul, Win.av] | refine idxS_get d.length rfl hx rfl ?_ | refine gA_df (fun _ => ?_) (fun h => absurd h (by omega))))
      refine cA_d (fun h => absurd h (by omega)) (fun _ => ?_)
      simp (maxSteps := 2000000) (disch := omega) only [go_sem, ↓reduceIte, reduceIte, Nat.reduceAdd, Nat.reduceLT, Nat.reduceEqDiff, Nat.reduceLeDiff, Nat.reduceMul]
      refine hR (d ++ [x], r) _ ⟨by rw [hdr]; simp, he⟩ (by simp) ?_
      exact (le_intro (by simp only [allLook, allLookM, go_sem, ↓reduceIte, reduceIte, Nat.reduceAdd, Nat.reduceLT, Nat.reduceEqDiff, Nat.reduceLeDiff, Nat.reduceMul, List.length_append, List.length_cons, List.length_nil, show ((d.length : Nat) : Int) + 1 = (d.length + (0 + 1) : Nat) by omega]; try simp) (by simp only [allLook, allLookM, go_sem, ↓reduceIte, reduceIte, Nat.reduceAdd, Nat.reduceLT, Nat.reduceEqDiff, Nat.reduceLeDiff, Nat.reduceMul, List.length_append, List.length_cons, List.length_nil, show ((d.length : Nat) : Int) + 1 = (d.length + (0 + 1) : Nat) by omega]; try simp))
    · rw [decide_eq_false hok, Bool.false_and] at he
      have e1 : mergeE l = 1 := by unfold mergeE; rw [he]; rfl
      have e2 : mergeR l = [] := by unfold mergeR; rw [he]; rfl
      rw [e1, e2]
      unfold Win.ok at hok
      (repeat' (first | simp (maxSteps := 2000000) (disch := omega) only [go_sem, ↓reduceIte, reduceIte, Nat.reduceAdd, Nat.reduceLT, Nat.reduceEqDiff, Nat.reduceLeDiff, Nat.reduceMul, Win.av] | refine idxS_get d.length rfl hx rfl ?_ | refine gA_df (fun _ => ?_) (fun _ => ?_) | refine cA_d (fun _ => ?_) (fun h => absurd h (by omega)) | refine gA_dt (fun _ => ?_) (fun h => absurd rfl h) | refine call_1 awake12_ok (by rfl) (by rfl) ?_))
  | nil =>
    have hok : allOk l = true := he
    refine cA_d (fun h => absurd h (by rw [List.length_nil] at hl0; omega)) (fun _ => ?_)
    have e1 : mergeE l = 0 := by unfold mergeE; rw [hok]; rfl
    have e2 : mergeR l = nrm l := by unfold mergeR; rw [hok]; rfl
    have hbd := nrm_bd (allOk_iff.1 hok)
    rw [e1]
    simp (maxSteps := 2000000) (disch := omega) only [go_sem, ↓reduceIte, reduceIte, Nat.reduceAdd, Nat.reduceLT, Nat.reduceEqDiff, Nat.reduceLeDiff, Nat.reduceMul]
    refine cA_d (fun h => absurd h (by simp)) (fun _ => ?_)
    simp (maxSteps := 2000000) (disch := omega) only [go_sem, ↓reduceIte, reduceIte, Nat.reduceAdd, Nat.reduceLT, Nat.reduceEqDiff, Nat.reduceLeDiff, Nat.reduceMul]
    generalize hM : mergeR l = M at *
    refine loop_of f9L27_is (fun i : Nat => ⟨[(62, .int .i64 i), (61, .int .i64 M.length), (60, .own 23), (0, .sl (l.map Win.av)), (1, .int .i64 t), (5, .own 23), (6, .int .i64 0)], [(23, .arr 34 2 (M.map Win.av))]⟩)
      (fun i => i ≤ M.length) (fun i => M.length - i) 0 (Nat.zero_le _) (le_intro (by simp only [allLook, allLookM, go_sem, ↓reduceIte, reduceIte, Nat.reduceAdd, Nat.reduceLT, Nat.reduceEqDiff, Nat.reduceLeDiff, Nat.reduceMul]; try simp) (by simp only [allLook, allLookM, go_sem, ↓reduceIte, reduceIte, Nat.reduceAdd, Nat.reduceLT, Nat.reduceEqDiff, Nat.reduceLeDiff, Nat.reduceMul]; try simp)) ?_
    rintro i R2 hi hR2
    simp (maxSteps := 2000000) (disch := omega) only [go_sem, ↓reduceIte, reduceIte, Nat.reduceAdd, Nat.reduceLT, Nat.reduceEqDiff, Nat.reduceLeDiff, Nat.reduceMul]
    refine cA_d (fun h2 => ?_) (fun h2 => ?_)
    · have hlt : i < M.length := by omega
      have hw : M[i]? = some M[i] := List.getElem?_eq_getElem hlt
      have hw1 := hcan.1 M[i] (List.getElem_mem _)
      by_cases h0 : i = 0
      · (repeat' (first | simp (maxSteps := 2000000) (disch := omega) only [go_sem, ↓reduceIte, reduceIte, Nat.reduceAdd, Nat.reduceLT, Nat.reduceEqDiff, Nat.reduceLeDiff, Nat.reduceMul, Win.av] | refine idxO_get i rfl hw ?_ | refine at_get hw ?_ | refine gA_df (fun _ => ?_) (fun h => absurd h (by omega)) | refine gA_dt (fun h => absurd h (by omega)) (fun _ => ?_)))
        refine hR2 (i + 1) _ hlt (by omega) ?_
        exact (le_intro (by simp only [allLook, allLookM, go_sem, ↓reduceIte, reduceIte, Nat.reduceAdd, Nat.reduceLT, Nat.reduceEqDiff, Nat.reduceLeDiff, Nat.reduceMul, show ((i : Nat) : Int) + 1 = (i + 1 : Nat) by omega]; try simp) (by simp only [allLook, allLookM, go_sem, ↓reduceIte, reduceIte, Nat.reduceAdd, Nat.reduceLT, Nat.reduceEqDiff, Nat.reduceLeDiff, Nat.reduceMul, show ((i : Nat) : Int) + 1 = (i + 1 : Nat) by omega]; try simp))
      · have hv : M[i - 1]? = some (M[i - 1]'(by omega)) := List.getElem?_eq_getElem (by omega)
        have hvw : (M[i - 1]'(by omega)).b < M[i].a := List.pairwise_iff_getElem.1 hcan.2 (i - 1) i (by omega) hlt (by omega)
        (repeat' (first | simp (maxSteps := 2000000) (disch := omega) only [go_sem, ↓reduceIte, reduceIte, Nat.reduceAdd, Nat.reduceLT, Nat.reduceEqDiff, Nat.reduceLeDiff, Nat.reduceMul, Win.av] | refine idxO_get i rfl hw ?_ | refine at_get hw ?_ | refine idxO_get (i - 1) (by omega) hv ?_ | refine at_get hv ?_ | refine gA_df (fun _ => ?_) (fun h => absurd h (by omega)) | refine gA_dt (fun _ => ?_) (fun h => absurd h (by omega))))
        refine cA_d (fun h => absurd h (by omega)) (fun _ => ?_)
        simp (maxSteps := 2000000) (disch := omega) only [go_sem, ↓reduceIte, reduceIte, Nat.reduceAdd, Nat.reduceLT, Nat.reduceEqDiff, Nat.reduceLeDiff, Nat.reduceMul]
        refine hR2 (i + 1) _ hlt (by omega) ?_
        exact (le_intro (by simp only [allLook, allLookM, go_sem, ↓reduceIte, reduceIte, Nat.reduceAdd, Nat.reduceLT, Nat.reduceEqDiff, Nat.reduceLeDiff, Nat.reduceMul, show ((i : Nat) : Int) + 1 = (i + 1 : Nat) by omega]; try simp) (by simp only [allLook, allLookM, go_sem, ↓reduceIte, reduceIte, Nat.reduceAdd, Nat.reduceLT, Nat.reduceEqDiff, Nat.reduceLeDiff, Nat.reduceMul, show ((i : Nat) : Int) + 1 = (i + 1 : Nat) by omega]; try simp))
    · simp (maxSteps := 2000000) (disch := omega) only [go_sem, ↓reduceIte, reduceIte, Nat.reduceAdd, Nat.reduceLT, Nat.reduceEqDiff, Nat.reduceLeDiff, Nat.reduceMul]
      refine bsK_intro (xs := []) rfl (by decide) (by decide) (by rfl) ?_
      simp (maxSteps := 2000000) (disch := omega) only [go_sem, ↓reduceIte, reduceIte, Nat.reduceAdd, Nat.reduceLT, Nat.reduceEqDiff, Nat.reduceLeDiff, Nat.reduceMul]
      refine appendA_of (ty := 34) (k := 2) (bytes := 16) (z := [.int .i64 0, .int .i64 0]) (by kernel_rfl) (by kernel_rfl) (by kernel_rfl) rfl ?_
      simp (maxSteps := 2000000) (disch := omega) only [go_sem, ↓reduceIte, reduceIte, Nat.reduceAdd, Nat.reduceLT, Nat.reduceEqDiff, Nat.reduceLeDiff, Nat.reduceMul]
      refine appO_few (by decide) (by decide) (by simp) (by simp [AV.cells, Win.av]) (by simp; omega) ?_
      simp (maxSteps := 2000000) (disch := omega) only [go_sem, ↓reduceIte, reduceIte, Nat.reduceAdd, Nat.reduceLT, Nat.reduceEqDiff, Nat.reduceLeDiff, Nat.reduceMul]
      refine loop_of f9L42_is (fun i : Nat => ⟨[(93, .int .i64 i), (92, .int .i64 l.length), (11, .own 88), (0, .sl (l.map Win.av)), (1, .int .i64 t), (5, .own 23), (6, .int .i64 0)], [(88, .arr 34 2 ((l.reverse.take i ++ l.drop i).map Win.av)), (23, .arr 34 2 (M.map Win.av))]⟩)
        (fun i => i ≤ l.length) (fun i => l.length - i) 0 (Nat.zero_le _) (le_intro (by simp only [allLook, allLookM, go_sem, ↓reduceIte, reduceIte, Nat.reduceAdd, Nat.reduceLT, Nat.reduceEqDiff, Nat.reduceLeDiff, Nat.reduceMul]; try simp) (by simp only [allLook, allLookM, go_sem, ↓reduceIte, reduceIte, Nat.reduceAdd, Nat.reduceLT, Nat.reduceEqDiff, Nat.reduceLeDiff, Nat.reduceMul]; try simp)) ?_
      rintro j R3 hj hR3
      simp (maxSteps := 2000000) (disch := omega) only [go_sem, ↓reduceIte, reduceIte, Nat.reduceAdd, Nat.reduceLT, Nat.reduceEqDiff, Nat.reduceLeDiff, Nat.reduceMul]
      refine cA_d (fun h3 => ?_) (fun h3 => ?_)
      · have hlt : j < l.length := by omega
        have hx : l[l.length - 1 - j]? = some (l[l.length - 1 - j]'(by omega)) := List.getElem?_eq_getElem (by omega)
        have hst := rev_step l j hlt
        have hbl : (l.reverse.take j ++ l.drop j).length = l.length := by simp; omega
        obtain ⟨y, hy⟩ : ∃ y, (l.reverse.take j ++ l.drop j)[j]? = some y := ⟨_, List.getElem?_eq_getElem (by omega)⟩
        obtain ⟨B, hB⟩ : ∃ B, B = l.reverse.take j ++ l.drop j := ⟨_, rfl⟩
        rw [← hB] at hst hbl hy ⊢
        (repeat' (first | simp (maxSteps := 2000000) (disch := omega) only [go_sem, ↓reduceIte, reduceIte, Nat.reduceAdd, Nat.reduceLT, Nat.reduceEqDiff, Nat.reduceLeDiff, Nat.reduceMul, Win.av] | refine idxS_get (l.length - 1 - j) (by omega) hx rfl ?_ | refine idxO_get j rfl hy ?_))
        refine stO_map (f := Win.av) (cs := fun w => [.int .i64 w.a, .int .i64 w.b]) (fun _ => rfl) (fun _ => rfl) (fun _ => ⟨rfl, rfl⟩) (by omega) (l[l.length - 1 - j]'(by omega)) ?_
        rw [hst]
        simp (maxSteps := 2000000) (disch := omega) only [go_sem, ↓reduceIte, reduceIte, Nat.reduceAdd, Nat.reduceLT, Nat.reduceEqDiff, Nat.reduceLeDiff, Nat.reduceMul]
        refine hR3 (j + 1) _ hlt (by omega) ?_
        exact (le_intro (by simp only [allLook, allLookM, go_sem, ↓reduceIte, reduceIte, Nat.reduceAdd, Nat.reduceLT, Nat.reduceEqDiff, Nat.reduceLeDiff, Nat.reduceMul, show ((j : Nat) : Int) + 1 = (j + 1 : Nat) by omega]; try simp) (by simp only [allLook, allLookM, go_sem, ↓reduceIte, reduceIte, Nat.reduceAdd, Nat.reduceLT, Nat.reduceEqDiff, Nat.reduceLeDiff, Nat.reduceMul, show ((j : Nat) : Int) + 1 = (j + 1 : Nat) by omega]; try simp))
      · have hjl : j = l.length := by omega
        subst hjl
        rw [List.take_of_length_le (by simp), List.drop_length, List.append_nil]
        simp (maxSteps := 2000000) (disch := omega) only [go_sem, ↓reduceIte, reduceIte, Nat.reduceAdd, Nat.reduceLT, Nat.reduceEqDiff, Nat.reduceLeDiff, Nat.reduceMul]
        refine callv_f2 (by rfl) (merge25_ok M (by omega)) (win_scal _) (by rfl) ?_
        simp (maxSteps := 2000000) (disch := omega) only [go_sem, ↓reduceIte, reduceIte, Nat.reduceAdd, Nat.reduceLT, Nat.reduceEqDiff, Nat.reduceLeDiff, Nat.reduceMul]
        refine appendA_of (ty := 34) (k := 2) (bytes := 16) (z := [.int .i64 0, .int .i64 0]) (by kernel_rfl) (by kernel_rfl) (by kernel_rfl) rfl ?_
        simp (maxSteps := 2000000) (disch := omega) only [go_sem, ↓reduceIte, reduceIte, Nat.reduceAdd, Nat.reduceLT, Nat.reduceEqDiff, Nat.reduceLeDiff, Nat.reduceMul]
        refine appO_few (by decide) (by decide) (by simp) (by simp [AV.cells, Win.av]) (by simp; omega) ?_
        rw [← List.map_append]
        simp (maxSteps := 2000000) (disch := omega) only [go_sem, ↓reduceIte, reduceIte, Nat.reduceAdd, Nat.reduceLT, Nat.reduceEqDiff, Nat.reduceLeDiff, Nat.reduceMul]
        refine callv_f2 (by rfl) (merge25_ok (l.reverse ++ M) (by simp; omega)) (win_scal _) (by rfl) ?_
        have g1 : mergeE M = 0 := by rw [e2]; unfold mergeE; rw [allOk_nrm hok]; rfl
        have g2 : mergeE (l.reverse ++ M) = 0 := by rw [e2]; unfold mergeE; rw [allOk_turn hok]; rfl
        have g3 : mergeR M = M := by rw [e2]; unfold mergeR; rw [allOk_nrm hok, nrm_nrm]; rfl
        have g4 : mergeR (l.reverse ++ M) = M := by rw [e2]; unfold mergeR; rw [allOk_turn hok, nrm_turn]; rfl
        rw [g1, g2, g3, g4]
        have g5 : M.any (hasT t) = l.any (hasT t) := by rw [e2, nrm_any]
        have hin := inside28_ok M t (by omega)
        rw [g5] at hin
        (repeat' (first | simp (maxSteps := 2000000) (disch := omega) only [go_sem, ↓reduceIte, reduceIte, Nat.reduceAdd, Nat.reduceLT, Nat.reduceEqDiff, Nat.reduceLeDiff, Nat.reduceMul, beq_self_eq_true] | refine callv_1 (by rfl) hin (by rfl) ?_ | refine callv_1 (by rfl) (inside28_ok l t (by omega)) (by rfl) ?_ | refine callv_1 (by rfl) (same27_ok M (by omega)) (by rfl) ?_ | refine bin_booleq (by kernel_rfl) ?_ | refine gA_dt (fun _ => ?_) (fun h => absurd rfl h) | refine call_1 awake12_ok (by rfl) (by rfl) ?_))
        trace_state
end Go.Proofs.YtaogafgadgppnaaDoor
