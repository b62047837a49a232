import Derived.Test.YtojenglklffkoaaTA
namespace Go.Proofs.Ytojenglklffkoaa
open Go Go.AI Go.Proofs
set_option linter.unusedSimpArgs false
set_option linter.unusedVariables false
set_option maxRecDepth 4000
set_option maxHeartbeats 4000000 in
theorem net13_ok (x : Case) (hx : x.ok) (hs : x.small = true) :
    CallsTo Try.prog 13 [.sl (x.ps.map Product.av), .sl (x.l.map Sale.av), .sl (x.d.map Payout.av), .sl (x.o.map (AV.int .i64)), .int .i64 x.n] [.fresh 3 1 ((netS x).1.map (AV.int .i64)), .p (.int .i64 (netS x).2)] := by
  obtain ⟨ps, l, d, o, n⟩ := x
  obtain ⟨hp, hl, hd, ho, hn⟩ := hx
  simp only at hp hl hd ho hn
  unfold Case.small at hs
  rw [decide_eq_true_eq] at hs
  simp only at hs
  have hn' := hn
  unfold In64 at hn'
  refine f13_calls (Nat.le_of_ble_eq_true rfl) ?_
  simp only
  by_cases e1 : n < 1 ∨ 32 < n
  · rw [show netS ⟨ps, l, d, o, n⟩ = ([], 1) by unfold netS; simp only; rw [if_pos e1]]
    (repeat' (first | simp (maxSteps := 2000000) (disch := omega) only [go_sem, ↓reduceIte, reduceIte, Nat.reduceAdd, Nat.reduceLT, Nat.reduceEqDiff, Nat.reduceLeDiff, Nat.reduceMul, List.map_nil] | refine gA_dt (fun h => ?_) (fun h => ?_) | refine gA_df (fun h => ?_) (fun h => ?_) | refine cA_d (fun h => ?_) (fun h => ?_) | (exfalso; omega) | exact trivial))
  have k1 := check12_ok ps l n hl hn (by omega) (by omega)
  have k2 := dep19_ok ps l hp hl (by omega) (by omega)
  have k3 := total29_ok d hd (by omega)
  (repeat' (first | simp (maxSteps := 2000000) (disch := omega) only [go_sem, ↓reduceIte, reduceIte, Nat.reduceAdd, Nat.reduceLT, Nat.reduceEqDiff, Nat.reduceLeDiff, Nat.reduceMul] | refine gA_dt (fun h => absurd h (by omega)) (fun h => ?_) | refine gA_df (fun h => ?_) (fun h => absurd h (by omega)) | refine cA_d (fun h => absurd h (by omega)) (fun h => ?_)))
  refine call_1 k1 (by rfl) (by rfl) ?_
  simp (maxSteps := 2000000) (disch := omega) only [go_sem, ↓reduceIte, reduceIte, Nat.reduceAdd, Nat.reduceLT, Nat.reduceEqDiff, Nat.reduceLeDiff, Nat.reduceMul]
  refine cA_d (fun e2 => ?_) (fun e2 => ?_)
  · rw [show netS ⟨ps, l, d, o, n⟩ = ([], checkS ps.length n l) by unfold netS; simp only; rw [if_neg e1, if_pos e2]]
    simp (maxSteps := 2000000) (disch := omega) only [go_sem, ↓reduceIte, reduceIte, Nat.reduceAdd, Nat.reduceLT, Nat.reduceEqDiff, Nat.reduceLeDiff, Nat.reduceMul, List.map_nil]
    exact trivial
  simp (maxSteps := 2000000) (disch := omega) only [go_sem, ↓reduceIte, reduceIte, Nat.reduceAdd, Nat.reduceLT, Nat.reduceEqDiff, Nat.reduceLeDiff, Nat.reduceMul]
  refine call_2 k2 (by rfl) (by rfl) ?_
  simp (maxSteps := 2000000) (disch := omega) only [go_sem, ↓reduceIte, reduceIte, Nat.reduceAdd, Nat.reduceLT, Nat.reduceEqDiff, Nat.reduceLeDiff, Nat.reduceMul]
  refine cA_d (fun e3 => ?_) (fun e3 => ?_)
  · rw [show netS ⟨ps, l, d, o, n⟩ = ([], (depS ps l).2) by unfold netS; simp only; rw [if_neg e1, if_neg e2, if_pos e3]]
    simp (maxSteps := 2000000) (disch := omega) only [go_sem, ↓reduceIte, reduceIte, Nat.reduceAdd, Nat.reduceLT, Nat.reduceEqDiff, Nat.reduceLeDiff, Nat.reduceMul, List.map_nil]
    exact trivial
  simp (maxSteps := 2000000) (disch := omega) only [go_sem, ↓reduceIte, reduceIte, Nat.reduceAdd, Nat.reduceLT, Nat.reduceEqDiff, Nat.reduceLeDiff, Nat.reduceMul]
  refine call_2 k3 (by rfl) (by rfl) ?_
  simp (maxSteps := 2000000) (disch := omega) only [go_sem, ↓reduceIte, reduceIte, Nat.reduceAdd, Nat.reduceLT, Nat.reduceEqDiff, Nat.reduceLeDiff, Nat.reduceMul]
  refine cA_d (fun e4 => ?_) (fun e4 => ?_)
  · rw [show netS ⟨ps, l, d, o, n⟩ = ([], (totS d).2) by unfold netS; simp only; rw [if_neg e1, if_neg e2, if_neg e3, if_pos e4]]
    simp (maxSteps := 2000000) (disch := omega) only [go_sem, ↓reduceIte, reduceIte, Nat.reduceAdd, Nat.reduceLT, Nat.reduceEqDiff, Nat.reduceLeDiff, Nat.reduceMul, List.map_nil]
    exact trivial
  simp (maxSteps := 2000000) (disch := omega) only [go_sem, ↓reduceIte, reduceIte, Nat.reduceAdd, Nat.reduceLT, Nat.reduceEqDiff, Nat.reduceLeDiff, Nat.reduceMul]
  unfold In64 at hn
  by_cases e5 : knownS d o n ≠ 0
  · rw [show netS ⟨ps, l, d, o, n⟩ = ([], knownS d o n) by unfold netS; simp only; rw [if_neg e1, if_neg e2, if_neg e3, if_neg e4, if_pos e5]]
    simp only [List.map_nil]
    unfold knownS at e5 ⊢
    refine cA_d (fun h3 => ?_) (fun h3 => ?_)
    · rw [if_pos (by omega)]
      simp (maxSteps := 2000000) (disch := omega) only [go_sem, ↓reduceIte, reduceIte, Nat.reduceAdd, Nat.reduceLT, Nat.reduceEqDiff, Nat.reduceLeDiff, Nat.reduceMul]
      exact trivial
    rw [if_neg (by omega)] at e5 ⊢
    simp (maxSteps := 2000000) (disch := omega) only [go_sem, ↓reduceIte, reduceIte, Nat.reduceAdd, Nat.reduceLT, Nat.reduceEqDiff, Nat.reduceLeDiff, Nat.reduceMul]
    refine loop_of f13L27_is (fun i : Nat => ⟨[(13, .int .i64 i), (2, .sl (d.map Payout.av)), (3, .sl (o.map (AV.int .i64))), (4, .int .i64 n)], []⟩) (fun i => i ≤ o.length ∧ o.all (fun x => decide (0 ≤ x ∧ x < n)) = (o.drop i).all (fun x => decide (0 ≤ x ∧ x < n))) (fun i => o.length - i) 0 ⟨Nat.zero_le _, by simp⟩ (le_intro (by simp only [allLook, allLookM, go_sem, ↓reduceIte, reduceIte, Nat.reduceAdd, Nat.reduceLT, Nat.reduceEqDiff, Nat.reduceLeDiff, Nat.reduceMul]; try simp) (by simp only [allLook, allLookM, go_sem, ↓reduceIte, reduceIte, Nat.reduceAdd, Nat.reduceLT, Nat.reduceEqDiff, Nat.reduceLeDiff, Nat.reduceMul]; try simp)) ?_
    rintro i R ⟨hi, hf⟩ hR
    simp (maxSteps := 2000000) (disch := omega) only [go_sem, ↓reduceIte, reduceIte, Nat.reduceAdd, Nat.reduceLT, Nat.reduceEqDiff, Nat.reduceLeDiff, Nat.reduceMul]
    refine cA_d (fun h4 => ?_) (fun h4 => ?_)
    · have hlt : i < o.length := by omega
      have hx := ho o[i] (List.getElem_mem _)
      unfold In64 at hx
      rw [List.drop_eq_getElem_cons hlt, List.all_cons] at hf
      (repeat' (first | refine gA_dt (fun h => ?_) (fun h => ?_) | refine gA_df (fun h => ?_) (fun h => ?_) | refine cA_d (fun h => ?_) (fun h => ?_) | (exfalso; omega) | refine idxS_map i rfl hlt (fun _ => rfl) ?_ | simp (maxSteps := 2000000) (disch := omega) only [go_sem, ↓reduceIte, reduceIte, Nat.reduceAdd, Nat.reduceLT, Nat.reduceEqDiff, Nat.reduceLeDiff, Nat.reduceMul]))
      all_goals first
        | (rw [show decide (0 ≤ o[i] ∧ o[i] < n) = false from decide_eq_false (by omega), Bool.false_and] at hf; rw [hf]; rfl)
        | (rw [show decide (0 ≤ o[i] ∧ o[i] < n) = true from decide_eq_true (by omega), Bool.true_and] at hf; refine hR (i + 1) _ ⟨hlt, hf⟩ (by omega) ?_; exact (le_intro (by simp only [allLook, allLookM, go_sem, ↓reduceIte, reduceIte, Nat.reduceAdd, Nat.reduceLT, Nat.reduceEqDiff, Nat.reduceLeDiff, Nat.reduceMul]; try simp) (by simp only [allLook, allLookM, go_sem, ↓reduceIte, reduceIte, Nat.reduceAdd, Nat.reduceLT, Nat.reduceEqDiff, Nat.reduceLeDiff, Nat.reduceMul]; try simp)))
    have hio : o.length = i := by omega
    rw [← hio, List.drop_length, List.all_nil] at hf
    rw [if_pos hf] at e5 ⊢
    clear hR
    simp (maxSteps := 2000000) (disch := omega) only [go_sem, ↓reduceIte, reduceIte, Nat.reduceAdd, Nat.reduceLT, Nat.reduceEqDiff, Nat.reduceLeDiff, Nat.reduceMul]
    refine loop_of f13L40_is (fun i : Nat => ⟨[(14, .int .i64 i), (2, .sl (d.map Payout.av)), (3, .sl (o.map (AV.int .i64)))], []⟩) (fun i => i ≤ d.length ∧ d.all (fun x => decide (0 ≤ x.m ∧ x.m < o.length)) = (d.drop i).all (fun x => decide (0 ≤ x.m ∧ x.m < o.length))) (fun i => d.length - i) 0 ⟨Nat.zero_le _, by simp⟩ (le_intro (by simp only [allLook, allLookM, go_sem, ↓reduceIte, reduceIte, Nat.reduceAdd, Nat.reduceLT, Nat.reduceEqDiff, Nat.reduceLeDiff, Nat.reduceMul]; try simp) (by simp only [allLook, allLookM, go_sem, ↓reduceIte, reduceIte, Nat.reduceAdd, Nat.reduceLT, Nat.reduceEqDiff, Nat.reduceLeDiff, Nat.reduceMul]; try simp)) ?_
    rintro j R' ⟨hj, hg⟩ hR
    simp (maxSteps := 2000000) (disch := omega) only [go_sem, ↓reduceIte, reduceIte, Nat.reduceAdd, Nat.reduceLT, Nat.reduceEqDiff, Nat.reduceLeDiff, Nat.reduceMul]
    refine cA_d (fun h5 => ?_) (fun h5 => ?_)
    · have hlt : j < d.length := by omega
      have hx := hd d[j] (List.getElem_mem _)
      unfold Payout.ok In64 at hx
      rw [List.drop_eq_getElem_cons hlt, List.all_cons] at hg
      (repeat' (first | refine gA_dt (fun h => ?_) (fun h => ?_) | refine gA_df (fun h => ?_) (fun h => ?_) | refine cA_d (fun h => ?_) (fun h => ?_) | (exfalso; omega) | refine idxS_map j rfl hlt (fun _ => rfl) ?_ | simp (maxSteps := 2000000) (disch := omega) only [go_sem, ↓reduceIte, reduceIte, Nat.reduceAdd, Nat.reduceLT, Nat.reduceEqDiff, Nat.reduceLeDiff, Nat.reduceMul, Payout.av]))
      all_goals first
        | (rw [show decide (0 ≤ d[j].m ∧ d[j].m < o.length) = false from decide_eq_false (by omega), Bool.false_and] at hg; rw [hg]; rfl)
        | (rw [show decide (0 ≤ d[j].m ∧ d[j].m < o.length) = true from decide_eq_true (by omega), Bool.true_and] at hg; refine hR (j + 1) _ ⟨hlt, hg⟩ (by omega) ?_; exact (le_intro (by simp only [allLook, allLookM, go_sem, ↓reduceIte, reduceIte, Nat.reduceAdd, Nat.reduceLT, Nat.reduceEqDiff, Nat.reduceLeDiff, Nat.reduceMul]; try simp) (by simp only [allLook, allLookM, go_sem, ↓reduceIte, reduceIte, Nat.reduceAdd, Nat.reduceLT, Nat.reduceEqDiff, Nat.reduceLeDiff, Nat.reduceMul]; try simp)))
    have hjd : d.length = j := by omega
    rw [← hjd, List.drop_length, List.all_nil] at hg
    rw [if_pos hg] at e5
    exact absurd rfl e5
  rw [show netS ⟨ps, l, d, o, n⟩ = (posN ps o n.toNat d l, 0) by unfold netS; simp only; rw [if_neg e1, if_neg e2, if_neg e3, if_neg e4, if_neg e5]]
  have z2 := checkS_zero (Decidable.not_not.1 e2)
  obtain ⟨z3, z3'⟩ := depS_zero (Decidable.not_not.1 e3)
  obtain ⟨z4, z4'⟩ := totS_zero (Decidable.not_not.1 e4)
  obtain ⟨z5, z5', z5''⟩ := knownS_zero (Decidable.not_not.1 e5)
  refine cA_d (fun h => absurd h (by omega)) (fun h3 => ?_)
  simp (maxSteps := 2000000) (disch := omega) only [go_sem, ↓reduceIte, reduceIte, Nat.reduceAdd, Nat.reduceLT, Nat.reduceEqDiff, Nat.reduceLeDiff, Nat.reduceMul]
  refine loop_of f13L27_is (fun i : Nat => ⟨[(13, .int .i64 i), (0, .sl (ps.map Product.av)), (1, .sl (l.map Sale.av)), (2, .sl (d.map Payout.av)), (3, .sl (o.map (AV.int .i64))), (4, .int .i64 n)], []⟩) (fun i => i ≤ o.length) (fun i => o.length - i) 0 (Nat.zero_le _) (le_intro (by simp only [allLook, allLookM, go_sem, ↓reduceIte, reduceIte, Nat.reduceAdd, Nat.reduceLT, Nat.reduceEqDiff, Nat.reduceLeDiff, Nat.reduceMul]; try simp) (by simp only [allLook, allLookM, go_sem, ↓reduceIte, reduceIte, Nat.reduceAdd, Nat.reduceLT, Nat.reduceEqDiff, Nat.reduceLeDiff, Nat.reduceMul]; try simp)) ?_
  rintro i R hi hR
  simp (maxSteps := 2000000) (disch := omega) only [go_sem, ↓reduceIte, reduceIte, Nat.reduceAdd, Nat.reduceLT, Nat.reduceEqDiff, Nat.reduceLeDiff, Nat.reduceMul]
  refine cA_d (fun h4 => ?_) (fun h4 => ?_)
  · have hlt : i < o.length := by omega
    have hx := z5' o[i] (List.getElem_mem _)
    (repeat' (first | refine gA_dt (fun h => ?_) (fun h => ?_) | refine gA_df (fun h => ?_) (fun h => ?_) | refine cA_d (fun h => ?_) (fun h => ?_) | (exfalso; omega) | refine idxS_map i rfl hlt (fun _ => rfl) ?_ | simp (maxSteps := 2000000) (disch := omega) only [go_sem, ↓reduceIte, reduceIte, Nat.reduceAdd, Nat.reduceLT, Nat.reduceEqDiff, Nat.reduceLeDiff, Nat.reduceMul]))
    refine hR (i + 1) _ hlt (by omega) ?_
    exact (le_intro (by simp only [allLook, allLookM, go_sem, ↓reduceIte, reduceIte, Nat.reduceAdd, Nat.reduceLT, Nat.reduceEqDiff, Nat.reduceLeDiff, Nat.reduceMul]; try simp) (by simp only [allLook, allLookM, go_sem, ↓reduceIte, reduceIte, Nat.reduceAdd, Nat.reduceLT, Nat.reduceEqDiff, Nat.reduceLeDiff, Nat.reduceMul]; try simp))
  clear hR
  simp (maxSteps := 2000000) (disch := omega) only [go_sem, ↓reduceIte, reduceIte, Nat.reduceAdd, Nat.reduceLT, Nat.reduceEqDiff, Nat.reduceLeDiff, Nat.reduceMul]
  refine loop_of f13L40_is (fun i : Nat => ⟨[(14, .int .i64 i), (0, .sl (ps.map Product.av)), (1, .sl (l.map Sale.av)), (2, .sl (d.map Payout.av)), (3, .sl (o.map (AV.int .i64))), (4, .int .i64 n)], []⟩) (fun i => i ≤ d.length) (fun i => d.length - i) 0 (Nat.zero_le _) (le_intro (by simp only [allLook, allLookM, go_sem, ↓reduceIte, reduceIte, Nat.reduceAdd, Nat.reduceLT, Nat.reduceEqDiff, Nat.reduceLeDiff, Nat.reduceMul]; try simp) (by simp only [allLook, allLookM, go_sem, ↓reduceIte, reduceIte, Nat.reduceAdd, Nat.reduceLT, Nat.reduceEqDiff, Nat.reduceLeDiff, Nat.reduceMul]; try simp)) ?_
  rintro i2 R2 hi2 hR
  simp (maxSteps := 2000000) (disch := omega) only [go_sem, ↓reduceIte, reduceIte, Nat.reduceAdd, Nat.reduceLT, Nat.reduceEqDiff, Nat.reduceLeDiff, Nat.reduceMul]
  refine cA_d (fun h5 => ?_) (fun h5 => ?_)
  · have hlt : i2 < d.length := by omega
    have hx := z5'' d[i2] (List.getElem_mem _)
    (repeat' (first | refine gA_dt (fun h => ?_) (fun h => ?_) | refine gA_df (fun h => ?_) (fun h => ?_) | refine cA_d (fun h => ?_) (fun h => ?_) | (exfalso; omega) | refine idxS_map i2 rfl hlt (fun _ => rfl) ?_ | simp (maxSteps := 2000000) (disch := omega) only [go_sem, ↓reduceIte, reduceIte, Nat.reduceAdd, Nat.reduceLT, Nat.reduceEqDiff, Nat.reduceLeDiff, Nat.reduceMul, Payout.av]))
    refine hR (i2 + 1) _ hlt (by omega) ?_
    exact (le_intro (by simp only [allLook, allLookM, go_sem, ↓reduceIte, reduceIte, Nat.reduceAdd, Nat.reduceLT, Nat.reduceEqDiff, Nat.reduceLeDiff, Nat.reduceMul]; try simp) (by simp only [allLook, allLookM, go_sem, ↓reduceIte, reduceIte, Nat.reduceAdd, Nat.reduceLT, Nat.reduceEqDiff, Nat.reduceLeDiff, Nat.reduceMul]; try simp))
  clear hR
  obtain ⟨N, rfl⟩ : ∃ N : Nat, n = N := ⟨n.toNat, by omega⟩
  rw [Int.toNat_natCast] at *
  simp (maxSteps := 2000000) (disch := omega) only [go_sem, ↓reduceIte, reduceIte, Nat.reduceAdd, Nat.reduceLT, Nat.reduceEqDiff, Nat.reduceLeDiff, Nat.reduceMul]
  refine mkK_intro (N + 1) (by omega) rfl (by decide) (by omega) (by omega) ?_
  rw [show List.replicate (N + 1) (AV.int .i64 0) = (payAll o N (d.take 0)).map (AV.int .i64) by simp [payAll]]
  simp (maxSteps := 2000000) (disch := omega) only [go_sem, ↓reduceIte, reduceIte, Nat.reduceAdd, Nat.reduceLT, Nat.reduceEqDiff, Nat.reduceLeDiff, Nat.reduceMul]
  refine loop_of f13L54_is (fun i : Nat => ⟨[(16, .int .i64 i), (2, .sl (d.map Payout.av)), (15, .own 98), (0, .sl (ps.map Product.av)), (1, .sl (l.map Sale.av)), (3, .sl (o.map (AV.int .i64))), (4, .int .i64 N)], [(98, .arr 3 1 ((payAll o N (d.take i)).map (AV.int .i64)))]⟩)
    (fun i => i ≤ d.length) (fun i => d.length - i) 0 (Nat.zero_le _) (le_intro (by simp only [allLook, allLookM, go_sem, ↓reduceIte, reduceIte, Nat.reduceAdd, Nat.reduceLT, Nat.reduceEqDiff, Nat.reduceLeDiff, Nat.reduceMul]; try simp) (by simp only [allLook, allLookM, go_sem, ↓reduceIte, reduceIte, Nat.reduceAdd, Nat.reduceLT, Nat.reduceEqDiff, Nat.reduceLeDiff, Nat.reduceMul]; try simp)) ?_
  rintro i R hi hR
  simp (maxSteps := 2000000) (disch := omega) only [go_sem, ↓reduceIte, reduceIte, Nat.reduceAdd, Nat.reduceLT, Nat.reduceEqDiff, Nat.reduceLeDiff, Nat.reduceMul]
  refine cA_d (fun h2 => ?_) (fun h2 => ?_)
  · have hlt : i < d.length := by omega
    have hx := hd d[i] (List.getElem_mem _)
    unfold Payout.ok In64 at hx
    have hm := z5'' d[i] (List.getElem_mem _)
    have hml : d[i].m.toNat < o.length := by omega
    have hox := z5' o[d[i].m.toNat] (List.getElem_mem hml)
    have ha := z4' d[i] (List.getElem_mem _)
    have hpa := payAll_ok (o := o) (n := N) (d := d.take i) (fun y hy => z4' y (List.mem_of_mem_take hy))
    have htl : (d.take i).length ≤ 512 := by simp; omega
    have hst := payAll_take o N d i hlt
    generalize hP : payAll o N (d.take i) = P at *
    have hpl : o[d[i].m.toNat].toNat < P.length := by omega
    have hpn : N < P.length := by omega
    have hb1 := hpa.2 P[o[d[i].m.toNat].toNat] (List.getElem_mem hpl)
    unfold payStep at hst
    rw [show o.getD d[i].m.toNat 0 = o[d[i].m.toNat] by simp [List.getD, hml]] at hst
    rw [addAt_eq hpl] at hst
    have hpn' : N < (P.set o[d[i].m.toNat].toNat (P[o[d[i].m.toNat].toNat] + d[i].a)).length := by simp; omega
    rw [addAt_eq hpn'] at hst
    have hb2 : bdL (2000000000000000) (P.set o[d[i].m.toNat].toNat (P[o[d[i].m.toNat].toNat] + d[i].a)) := by
      intro y hy
      rcases List.mem_or_eq_of_mem_set hy with hy | rfl
      · have := hpa.2 y hy; omega
      · omega
    have hb3 := hb2 _ (List.getElem_mem hpn')
    rw [← Int.sub_eq_add_neg] at hst
    simp (maxSteps := 2000000) (disch := omega) only [go_sem, ↓reduceIte, reduceIte, Nat.reduceAdd, Nat.reduceLT, Nat.reduceEqDiff, Nat.reduceLeDiff, Nat.reduceMul]
    refine idxS_map i rfl hlt (fun _ => rfl) ?_
    simp (maxSteps := 2000000) (disch := omega) only [go_sem, ↓reduceIte, reduceIte, Nat.reduceAdd, Nat.reduceLT, Nat.reduceEqDiff, Nat.reduceLeDiff, Nat.reduceMul, Payout.av]
    refine idxS_map d[i].m.toNat (by omega) hml (fun _ => rfl) ?_
    (repeat' (first | simp (maxSteps := 2000000) (disch := omega) only [go_sem, ↓reduceIte, reduceIte, Nat.reduceAdd, Nat.reduceLT, Nat.reduceEqDiff, Nat.reduceLeDiff, Nat.reduceMul, Payout.av] | refine idxS_map i rfl hlt (fun _ => rfl) ?_ | refine idxO_map o[d[i].m.toNat].toNat (by omega) hpl ?_ | refine idxO_map N rfl hpn' ?_ | refine at_map hpl ?_ | refine at_map hpn' ?_ | refine stO_int hpl ?_ | refine stO_int hpn' ?_))
    refine hR (i + 1) _ hlt (by omega) ?_
    rw [hst]
    exact (le_intro (by simp only [allLook, allLookM, go_sem, ↓reduceIte, reduceIte, Nat.reduceAdd, Nat.reduceLT, Nat.reduceEqDiff, Nat.reduceLeDiff, Nat.reduceMul]; try simp) (by simp only [allLook, allLookM, go_sem, ↓reduceIte, reduceIte, Nat.reduceAdd, Nat.reduceLT, Nat.reduceEqDiff, Nat.reduceLeDiff, Nat.reduceMul]; try simp))
  have hil : d.length = i := by omega
  subst hil
  rw [List.take_length]
  clear hR
  simp (maxSteps := 2000000) (disch := omega) only [go_sem, ↓reduceIte, reduceIte, Nat.reduceAdd, Nat.reduceLT, Nat.reduceEqDiff, Nat.reduceLeDiff, Nat.reduceMul]
  refine loop_of f13L67_is (fun i : Nat => ⟨[(18, .int .i64 i), (1, .sl (l.map Sale.av)), (15, .own 98), (0, .sl (ps.map Product.av)), (4, .int .i64 N)], [(98, .arr 3 1 ((posN ps o N d (l.take i)).map (AV.int .i64)))]⟩)
    (fun i => i ≤ l.length) (fun i => l.length - i) 0 (Nat.zero_le _) (le_intro (by simp only [allLook, allLookM, go_sem, ↓reduceIte, reduceIte, Nat.reduceAdd, Nat.reduceLT, Nat.reduceEqDiff, Nat.reduceLeDiff, Nat.reduceMul, List.take_zero, show posN ps o N d [] = payAll o N d from rfl]; try simp) (by simp only [allLook, allLookM, go_sem, ↓reduceIte, reduceIte, Nat.reduceAdd, Nat.reduceLT, Nat.reduceEqDiff, Nat.reduceLeDiff, Nat.reduceMul, List.take_zero, show posN ps o N d [] = payAll o N d from rfl]; try simp)) ?_
  rintro i R hi hR
  simp (maxSteps := 2000000) (disch := omega) only [go_sem, ↓reduceIte, reduceIte, Nat.reduceAdd, Nat.reduceLT, Nat.reduceEqDiff, Nat.reduceLeDiff, Nat.reduceMul]
  refine cA_d (fun h2 => ?_) (fun h2 => ?_)
  · have hlt : i < l.length := by omega
    have hx := hl l[i] (List.getElem_mem _)
    unfold Sale.ok In64 at hx
    have hr := z2 l[i] (List.getElem_mem _)
    have hpp := z3' l[i] (List.getElem_mem _)
    have hpi : l[i].p.toNat < ps.length := by omega
    have hge : prodD ps l[i] = ps[l[i].p.toNat].dep := by simp [prodD, List.getD, hpi]
    have hpa := posN_ok (ps := ps) (o := o) (n := N) (d := d) (l := l.take i) z4' (fun y hy => (z3' y (List.mem_of_mem_take hy)).2.2)
    have htl : (l.take i).length ≤ 512 := by simp; omega
    have hst := posN_take ps o N d l i hlt
    rw [hge] at hpp
    unfold saleStep at hst
    rw [hge] at hst
    generalize hP : posN ps o N d (l.take i) = P at *
    have hpl : l[i].r.toNat < P.length := by omega
    have hb1 := hpa.2 P[l[i].r.toNat] (List.getElem_mem hpl)
    rw [addAt_eq hpl, ← Int.sub_eq_add_neg] at hst
    have hpn' : N < (P.set l[i].r.toNat (P[l[i].r.toNat] - l[i].c * ps[l[i].p.toNat].dep)).length := by simp; omega
    rw [addAt_eq hpn'] at hst
    have hb2 : bdL (2000000000000000) (P.set l[i].r.toNat (P[l[i].r.toNat] - l[i].c * ps[l[i].p.toNat].dep)) := by
      intro y hy
      rcases List.mem_or_eq_of_mem_set hy with hy | rfl
      · have := hpa.2 y hy; omega
      · omega
    have hb3 := hb2 _ (List.getElem_mem hpn')
    simp (maxSteps := 2000000) (disch := omega) only [go_sem, ↓reduceIte, reduceIte, Nat.reduceAdd, Nat.reduceLT, Nat.reduceEqDiff, Nat.reduceLeDiff, Nat.reduceMul]
    refine idxS_map i rfl hlt (fun _ => rfl) ?_
    simp (maxSteps := 2000000) (disch := omega) only [go_sem, ↓reduceIte, reduceIte, Nat.reduceAdd, Nat.reduceLT, Nat.reduceEqDiff, Nat.reduceLeDiff, Nat.reduceMul, Sale.av]
    (repeat' (first | simp (maxSteps := 2000000) (disch := omega) only [go_sem, ↓reduceIte, reduceIte, Nat.reduceAdd, Nat.reduceLT, Nat.reduceEqDiff, Nat.reduceLeDiff, Nat.reduceMul, Product.av, Sale.av] | refine idxS_map i rfl hlt (fun _ => rfl) ?_ | refine idxS_map l[i].p.toNat (by omega) hpi (fun _ => rfl) ?_ | refine idxO_map l[i].r.toNat (by omega) hpl ?_ | refine idxO_map N rfl hpn' ?_ | refine at_map hpl ?_ | refine at_map hpn' ?_ | refine stO_int hpl ?_ | refine stO_int hpn' ?_))
    refine hR (i + 1) _ hlt (by omega) ?_
    rw [hst]
    exact (le_intro (by simp only [allLook, allLookM, go_sem, ↓reduceIte, reduceIte, Nat.reduceAdd, Nat.reduceLT, Nat.reduceEqDiff, Nat.reduceLeDiff, Nat.reduceMul]; try simp) (by simp only [allLook, allLookM, go_sem, ↓reduceIte, reduceIte, Nat.reduceAdd, Nat.reduceLT, Nat.reduceEqDiff, Nat.reduceLeDiff, Nat.reduceMul]; try simp))
  have hil : l.length = i := by omega
  subst hil
  rw [List.take_length]
  simp (maxSteps := 2000000) (disch := omega) only [go_sem, ↓reduceIte, reduceIte, Nat.reduceAdd, Nat.reduceLT, Nat.reduceEqDiff, Nat.reduceLeDiff, Nat.reduceMul]
  exact trivial
end Go.Proofs.Ytojenglklffkoaa

namespace Go.Proofs.Ytojenglklffkoaa
open Go Go.AI Go.Proofs
set_option linter.unusedSimpArgs false
set_option linter.unusedVariables false
set_option maxRecDepth 4000
theorem bin_aggneq {P : Program} {t : TypeId} {ks : List Nat} {a b : List AV} {r : Bool} {k : AV → Prop} (hk : tyKinds P t = some ks) (he : eqL ks a b = some r) (h : Run (k (.bool (!r)))) : Run (binA P .neq t (.agg a) (.agg b) k) := by
  unfold Run at h ⊢
  simpa [binA, hk, he] using h
structure Due where
  pr : Int
  mat : Int
  g : Int
  deriving DecidableEq
def Due.av (x : Due) : AV := .agg [.int .i64 x.pr, .int .i64 x.mat, .int .i64 x.g]
theorem same22_ok (a b : List Due) (ha : a.length ≤ 1048576) (hb : b.length ≤ 1048576) : CallsTo Try.prog 17 [.sl (a.map Due.av), .sl (b.map Due.av)] [.p (.bool (decide (a = b)))] := by
  refine f17_calls (Nat.le_of_ble_eq_true rfl) ?_
  simp (maxSteps := 2000000) (disch := omega) only [go_sem, ↓reduceIte, reduceIte, Nat.reduceAdd, Nat.reduceLT, Nat.reduceEqDiff, Nat.reduceLeDiff, Nat.reduceMul]
  refine cA_d (fun h1 => ?_) (fun h1 => ?_)
  · have hne : a ≠ b := fun e => h1 (by rw [e])
    simp (maxSteps := 2000000) (disch := omega) only [go_sem, ↓reduceIte, reduceIte, Nat.reduceAdd, Nat.reduceLT, Nat.reduceEqDiff, Nat.reduceLeDiff, Nat.reduceMul]
    simp [hne]
  · simp (maxSteps := 2000000) (disch := omega) only [go_sem, ↓reduceIte, reduceIte, Nat.reduceAdd, Nat.reduceLT, Nat.reduceEqDiff, Nat.reduceLeDiff, Nat.reduceMul]
    have hlen : a.length = b.length := by omega
    refine loop_of f17L8_is (fun i : Nat => ⟨[(5, .int .i64 i), (0, .sl (a.map Due.av)), (1, .sl (b.map Due.av))], []⟩) (fun i => i ≤ a.length ∧ (a = b ↔ a.drop i = b.drop i)) (fun i => a.length - i) 0 ⟨Nat.zero_le _, by simp⟩ (le_intro (by simp only [allLook, allLookM, go_sem, ↓reduceIte, reduceIte, Nat.reduceAdd, Nat.reduceLT, Nat.reduceEqDiff, Nat.reduceLeDiff, Nat.reduceMul]; try simp) (by simp only [allLook, allLookM, go_sem, ↓reduceIte, reduceIte, Nat.reduceAdd, Nat.reduceLT, Nat.reduceEqDiff, Nat.reduceLeDiff, Nat.reduceMul]; try simp)) ?_
    rintro i R ⟨hi, hf⟩ hR
    simp (maxSteps := 2000000) (disch := omega) only [go_sem, ↓reduceIte, reduceIte, Nat.reduceAdd, Nat.reduceLT, Nat.reduceEqDiff, Nat.reduceLeDiff, Nat.reduceMul]
    refine cA_d (fun h2 => ?_) (fun h2 => ?_)
    · have hlt : i < a.length := by omega
      have hlt' : i < b.length := by omega
      rw [List.drop_eq_getElem_cons hlt, List.drop_eq_getElem_cons hlt', List.cons.injEq] at hf
      simp (maxSteps := 2000000) (disch := omega) only [go_sem, ↓reduceIte, reduceIte, Nat.reduceAdd, Nat.reduceLT, Nat.reduceEqDiff, Nat.reduceLeDiff, Nat.reduceMul]
      refine idxS_map i rfl hlt (fun _ => rfl) ?_
      simp (maxSteps := 2000000) (disch := omega) only [go_sem, ↓reduceIte, reduceIte, Nat.reduceAdd, Nat.reduceLT, Nat.reduceEqDiff, Nat.reduceLeDiff, Nat.reduceMul, Due.av]
      refine idxS_map i rfl hlt' (fun _ => rfl) ?_
      simp (maxSteps := 2000000) (disch := omega) only [go_sem, ↓reduceIte, reduceIte, Nat.reduceAdd, Nat.reduceLT, Nat.reduceEqDiff, Nat.reduceLeDiff, Nat.reduceMul, Due.av]
      refine bin_aggneq (ks := [0, 0, 0]) (r := decide (a[i] = b[i])) (by kernel_rfl) ?_ ?_
      · obtain ⟨x1, x2, x3⟩ := a[i]
        obtain ⟨y1, y2, y3⟩ := b[i]
        simp only [eqL, if_pos, Option.map_some, Option.some.injEq, Due.mk.injEq, Bool.and_true]
        rw [Bool.eq_iff_iff]
        simp [and_assoc]
      simp (maxSteps := 2000000) (disch := omega) only [go_sem, ↓reduceIte, reduceIte, Nat.reduceAdd, Nat.reduceLT, Nat.reduceEqDiff, Nat.reduceLeDiff, Nat.reduceMul]
      refine cA_b (fun h3 => ?_) (fun h3 => ?_)
      · have h3' : a[i] ≠ b[i] := by simpa using h3
        have hne : a ≠ b := fun e => h3' (hf.1 e).1
        simp (maxSteps := 2000000) (disch := omega) only [go_sem, ↓reduceIte, reduceIte, Nat.reduceAdd, Nat.reduceLT, Nat.reduceEqDiff, Nat.reduceLeDiff, Nat.reduceMul]
        simp [hne]
      · have h3' : a[i] = b[i] := by simpa using h3
        simp (maxSteps := 2000000) (disch := omega) only [go_sem, ↓reduceIte, reduceIte, Nat.reduceAdd, Nat.reduceLT, Nat.reduceEqDiff, Nat.reduceLeDiff, Nat.reduceMul]
        refine hR (i + 1) _ ⟨hlt, by rw [hf]; exact ⟨fun h => h.2, fun h => ⟨h3', h⟩⟩⟩ (by omega) (le_intro (by simp only [allLook, allLookM, go_sem, ↓reduceIte, reduceIte, Nat.reduceAdd, Nat.reduceLT, Nat.reduceEqDiff, Nat.reduceLeDiff, Nat.reduceMul]; try simp) (by simp only [allLook, allLookM, go_sem, ↓reduceIte, reduceIte, Nat.reduceAdd, Nat.reduceLT, Nat.reduceEqDiff, Nat.reduceLeDiff, Nat.reduceMul]; try simp))
    · simp (maxSteps := 2000000) (disch := omega) only [go_sem, ↓reduceIte, reduceIte, Nat.reduceAdd, Nat.reduceLT, Nat.reduceEqDiff, Nat.reduceLeDiff, Nat.reduceMul]
      have : a.length = i := by omega
      have e1 : a.drop i = [] := by rw [← this]; simp
      have e2 : b.drop i = [] := by rw [← this, hlen]; simp
      rw [e1, e2] at hf
      simp [hf]
end Go.Proofs.Ytojenglklffkoaa

namespace Go.Proofs.Ytojenglklffkoaa
open Go Go.AI Go.Proofs
set_option linter.unusedSimpArgs false
set_option linter.unusedVariables false
def ltP (x y : Int) : Bool := decide (x < y)
def gtP (x y : Int) : Bool := decide (y < x)
def lo (l : List Int) : Nat := ext ltP l
def hi (l : List Int) : Nat := ext gtP l
def amt (l : List Int) : Int := min (-(l.getD (lo l) 0)) (l.getD (hi l) 0)
def pay (l : List Int) : List Int := let m := l.set (lo l) (l.getD (lo l) 0 + amt l); m.set (hi l) (m.getD (hi l) 0 - amt l)
/-- The payments, at most 'k' of them. -/
def duesG : Nat → List Int → List Due
  | 0, _ => []
  | k + 1, l => if l = [] ∨ amt l = 0 then [] else ⟨lo l, hi l, amt l⟩ :: duesG k (pay l)
def sumI : List Int → Int
  | [] => 0
  | x :: r => x + sumI r
def cnt : List Int → Nat
  | [] => 0
  | x :: r => (if x = 0 then 0 else 1) + cnt r
theorem cnt_le : ∀ l : List Int, cnt l ≤ l.length
  | [] => Nat.le_refl _
  | x :: r => by unfold cnt; have := cnt_le r; simp; split <;> omega
theorem extI_ok (p : Int → Int → Bool) (l : List Int) (ht : ∀ x y z, p x y = false → p y z = false → p x z = false) (ha : ∀ x y, p x y = true → p y x = false) (hr : ∀ x, p x x = false) : ∀ (r : List Int) (i b : Nat), l.drop i = r → b < l.length → (∀ j, (hj : j < l.length) → j < i → p l[j] (l.getD b 0) = false) →
    extI p l r i b < l.length ∧ ∀ j, (hj : j < l.length) → p l[j] (l.getD (extI p l r i b) 0) = false
  | [], i, b, hd, hb, h => by
    unfold extI
    refine ⟨hb, fun j hj => h j hj ?_⟩
    have := List.drop_eq_nil_iff.1 hd
    omega
  | x :: r, i, b, hd, hb, h => by
    have hi : i < l.length := by
      rcases Nat.lt_or_ge i l.length with h | h
      · exact h
      · rw [List.drop_eq_nil_of_le h] at hd; cases hd
    rw [List.drop_eq_getElem_cons hi] at hd
    obtain ⟨rfl, hd2⟩ := List.cons.inj hd
    unfold extI
    refine extI_ok p l ht ha hr r (i + 1) _ hd2 ?_ ?_
    · split <;> assumption
    · intro j hj hji
      split
      · rename_i hp
        rw [show l.getD i 0 = l[i] by simp [List.getD, hi]]
        rcases Nat.lt_or_ge j i with h' | h'
        · exact ht _ _ _ (h j hj h') (ha _ _ hp)
        · have : j = i := by omega
          subst this
          exact hr _
      · rename_i hp
        rcases Nat.lt_or_ge j i with h' | h'
        · exact h j hj h'
        · have : j = i := by omega
          subst this
          simpa using hp
theorem lo_ok {l : List Int} (h : l ≠ []) : lo l < l.length ∧ ∀ j, (hj : j < l.length) → l.getD (lo l) 0 ≤ l[j] := by
  have := extI_ok ltP l (by simp [ltP]; omega) (by simp [ltP]; omega) (by simp [ltP]) l 0 0 (by simp) (List.length_pos_iff.2 h) (by omega)
  refine ⟨this.1, fun j hj => ?_⟩
  have := this.2 j hj
  simpa [ltP, lo, ext] using this
theorem hi_ok {l : List Int} (h : l ≠ []) : hi l < l.length ∧ ∀ j, (hj : j < l.length) → l[j] ≤ l.getD (hi l) 0 := by
  have := extI_ok gtP l (by simp [gtP]; omega) (by simp [gtP]; omega) (by simp [gtP]) l 0 0 (by simp) (List.length_pos_iff.2 h) (by omega)
  refine ⟨this.1, fun j hj => ?_⟩
  have := this.2 j hj
  simpa [gtP, hi, ext] using this
theorem sumI_set : ∀ (l : List Int) (i : Nat) (v : Int), (h : i < l.length) → sumI (l.set i v) = sumI l - l[i] + v
  | x :: r, 0, v, h => by simp [sumI]; omega
  | x :: r, i + 1, v, h => by
    have := sumI_set r i v (by simpa using h)
    simp [sumI, this]; omega
theorem cnt_set : ∀ (l : List Int) (i : Nat) (v : Int), (h : i < l.length) → cnt (l.set i v) + (if l[i] = 0 then 0 else 1) = cnt l + (if v = 0 then 0 else 1)
  | x :: r, 0, v, h => by simp [cnt]; omega
  | x :: r, i + 1, v, h => by
    have := cnt_set r i v (by simpa using h)
    simp [cnt]; omega
theorem sumI_nonneg : ∀ (l : List Int), (∀ x ∈ l, 0 ≤ x) → 0 ≤ sumI l ∧ ∀ x ∈ l, x ≤ sumI l
  | [], _ => ⟨Int.le_refl _, by simp⟩
  | x :: r, h => by
    have := sumI_nonneg r (fun y hy => h y (by simp [hy]))
    have hx := h x (by simp)
    unfold sumI
    refine ⟨by omega, fun y hy => ?_⟩
    rcases List.mem_cons.1 hy with rfl | hy
    · omega
    · have := this.2 y hy; omega
theorem sumI_nonpos : ∀ (l : List Int), (∀ x ∈ l, x ≤ 0) → sumI l ≤ 0 ∧ ∀ x ∈ l, sumI l ≤ x
  | [], _ => ⟨Int.le_refl _, by simp⟩
  | x :: r, h => by
    have := sumI_nonpos r (fun y hy => h y (by simp [hy]))
    have hx := h x (by simp)
    unfold sumI
    refine ⟨by omega, fun y hy => ?_⟩
    rcases List.mem_cons.1 hy with rfl | hy
    · omega
    · have := this.2 y hy; omega
end Go.Proofs.Ytojenglklffkoaa

namespace Go.Proofs.Ytojenglklffkoaa
open Go Go.AI Go.Proofs
set_option linter.unusedSimpArgs false
set_option linter.unusedVariables false
theorem cnt_zero : ∀ (l : List Int), cnt l = 0 ↔ ∀ x ∈ l, x = 0
  | [] => by simp [cnt]
  | x :: r => by
    unfold cnt
    have := cnt_zero r
    by_cases h : x = 0
    · simp [h, this]
    · simp [h]
structure Step (l : List Int) : Prop where
  lo : lo l < l.length
  hi : hi l < l.length
  lv : l.getD (Ytojenglklffkoaa.lo l) 0 ≤ 0
  hv : 0 ≤ l.getD (Ytojenglklffkoaa.hi l) 0
  le : ∀ x ∈ l, l.getD (Ytojenglklffkoaa.lo l) 0 ≤ x ∧ x ≤ l.getD (Ytojenglklffkoaa.hi l) 0
theorem step_ok {l : List Int} (h : l ≠ []) (hs : sumI l = 0) : Step l := by
  obtain ⟨h1, h2⟩ := lo_ok h
  obtain ⟨h3, h4⟩ := hi_ok h
  refine ⟨h1, h3, ?_, ?_, ?_⟩
  · by_cases hp : 0 < l.getD (lo l) 0
    · have h0 : ∀ x ∈ l, 0 ≤ x := by
        intro x hx
        obtain ⟨j, hj, rfl⟩ := List.getElem_of_mem hx
        have := h2 j hj
        omega
      have := (sumI_nonneg l h0).2 _ (List.getElem_mem h1)
      simp [List.getD, h1] at hp
      omega
    · omega
  · by_cases hp : l.getD (hi l) 0 < 0
    · have h0 : ∀ x ∈ l, x ≤ 0 := by
        intro x hx
        obtain ⟨j, hj, rfl⟩ := List.getElem_of_mem hx
        have := h4 j hj
        omega
      have := (sumI_nonpos l h0).2 _ (List.getElem_mem h3)
      simp [List.getD, h3] at hp
      omega
    · omega
  · intro x hx
    obtain ⟨j, hj, rfl⟩ := List.getElem_of_mem hx
    exact ⟨h2 j hj, h4 j hj⟩
theorem amt_zero {l : List Int} (h : l ≠ []) (hs : sumI l = 0) : amt l = 0 ↔ cnt l = 0 := by
  have st := step_ok h hs
  obtain ⟨h1, h3, h5, h6, h7⟩ := st
  rw [cnt_zero]
  unfold amt
  constructor
  · intro hm
    have : l.getD (lo l) 0 = 0 ∨ l.getD (hi l) 0 = 0 := by omega
    rcases this with h0 | h0
    · have hn : ∀ x ∈ l, 0 ≤ x := fun x hx => by have := h7 x hx; omega
      intro x hx
      have := (sumI_nonneg l hn).2 x hx
      have := hn x hx
      omega
    · have hn : ∀ x ∈ l, x ≤ 0 := fun x hx => by have := h7 x hx; omega
      intro x hx
      have := (sumI_nonpos l hn).2 x hx
      have := hn x hx
      omega
  · intro hz
    have e1 := hz _ (List.getElem_mem h1)
    have e2 := hz _ (List.getElem_mem h3)
    simp [List.getD, h1, h3, e1, e2]
structure Paid (l : List Int) : Prop where
  ne : lo l ≠ hi l
  pos : 1 ≤ amt l
  le : l.getD (lo l) 0 ≤ -amt l ∧ amt l ≤ l.getD (hi l) 0
  eq : pay l = (l.set (lo l) (l.getD (lo l) 0 + amt l)).set (hi l) (l.getD (hi l) 0 - amt l)
  len : (pay l).length = l.length
  sum : sumI (pay l) = 0
  dec : cnt (pay l) + 1 ≤ cnt l
  two : 2 ≤ cnt l
  bd : ∀ B, bdL B l → bdL B (pay l)
theorem paid_ok {l : List Int} (h : l ≠ []) (hs : sumI l = 0) (hn : amt l ≠ 0) : Paid l := by
  obtain ⟨h1, h3, h5, h6, h7⟩ := step_ok h hs
  have hne : lo l ≠ hi l := by
    intro e
    rw [e] at h5
    unfold amt at hn
    rw [e] at hn
    omega
  have ha : 1 ≤ amt l := by unfold amt at hn ⊢; omega
  have hle : l.getD (lo l) 0 ≤ -amt l ∧ amt l ≤ l.getD (hi l) 0 := by unfold amt; omega
  have hz : -(l.getD (lo l) 0) = amt l ∨ l.getD (hi l) 0 = amt l := by unfold amt; omega
  have heq : pay l = (l.set (lo l) (l.getD (lo l) 0 + amt l)).set (hi l) (l.getD (hi l) 0 - amt l) := by
    unfold pay
    simp only
    rw [show (l.set (lo l) (l.getD (lo l) 0 + amt l)).getD (hi l) 0 = l.getD (hi l) 0 by simp [List.getD, List.getElem?_set, hne]]
  have g1 : l.getD (lo l) 0 = l[lo l] := by simp [List.getD, h1]
  have g2 : l.getD (hi l) 0 = l[hi l] := by simp [List.getD, h3]
  have h3' : hi l < (l.set (lo l) (l.getD (lo l) 0 + amt l)).length := by simpa using h3
  have e3 : (l.set (lo l) (l.getD (lo l) 0 + amt l))[hi l] = l[hi l] := by simp [List.getElem_set, hne]
  have c1 := cnt_set l (lo l) (l.getD (lo l) 0 + amt l) h1
  have c2 := cnt_set _ (hi l) (l.getD (hi l) 0 - amt l) h3'
  rw [e3] at c2
  rw [← heq] at c2
  rw [if_neg (by omega)] at c1 c2
  have s1 := sumI_set l (lo l) (l.getD (lo l) 0 + amt l) h1
  have s2 := sumI_set _ (hi l) (l.getD (hi l) 0 - amt l) h3'
  rw [e3, ← heq] at s2
  refine ⟨hne, ha, hle, heq, by rw [heq]; simp, by omega, ?_, ?_, ?_⟩
  · rcases hz with hz | hz
    · rw [if_pos (by omega)] at c1
      split at c2 <;> omega
    · rw [if_pos (show l.getD (hi l) 0 - amt l = 0 by omega)] at c2
      split at c1 <;> omega
  · have d1 := cnt_set l (lo l) 0 h1
    have d2 := cnt_set (l.set (lo l) 0) (hi l) 0 (by simpa using h3)
    rw [show (l.set (lo l) 0)[hi l]'(by simpa using h3) = l[hi l] by simp [List.getElem_set, hne]] at d2
    rw [if_neg (by omega), if_pos rfl] at d1 d2
    omega
  · intro B hB x hx
    rw [heq] at hx
    have b1 := hB _ (List.getElem_mem h1)
    have b2 := hB _ (List.getElem_mem h3)
    rcases List.mem_or_eq_of_mem_set hx with hx | rfl
    · rcases List.mem_or_eq_of_mem_set hx with hx | rfl
      · exact hB x hx
      · omega
    · omega
theorem duesG_more : ∀ (k : Nat) (l : List Int), sumI l = 0 → cnt l ≤ k → duesG k l = duesG (cnt l) l
  | 0, l, hs, h => by rw [show cnt l = 0 by omega]
  | k + 1, l, hs, h => by
    by_cases h0 : l = []
    · subst h0; rfl
    by_cases h1 : amt l = 0
    · have := (amt_zero h0 hs).1 h1
      rw [this]
      unfold duesG
      rw [if_pos (.inr h1)]
    · have p := paid_ok h0 hs h1
      have hd := p.dec
      obtain ⟨c, hc⟩ : ∃ c, cnt l = c + 1 := ⟨cnt l - 1, by omega⟩
      rw [hc]
      unfold duesG
      rw [if_neg (by simp [h0, h1]), if_neg (by simp [h0, h1])]
      rw [duesG_more k _ p.sum (by omega), duesG_more c _ p.sum (by omega)]
theorem duesG_len : ∀ (k : Nat) (l : List Int), sumI l = 0 → cnt l ≤ k → (cnt l = 0 ∧ duesG k l = []) ∨ (duesG k l).length < cnt l
  | 0, l, hs, h => .inl ⟨by omega, rfl⟩
  | k + 1, l, hs, h => by
    by_cases h0 : l = []
    · subst h0; exact .inl ⟨rfl, by simp [duesG]⟩
    by_cases h1 : amt l = 0
    · refine .inl ⟨(amt_zero h0 hs).1 h1, ?_⟩
      unfold duesG
      rw [if_pos (.inr h1)]
    · have p := paid_ok h0 hs h1
      have hd := p.dec
      have h2 := p.two
      refine .inr ?_
      unfold duesG
      rw [if_neg (by simp [h0, h1])]
      rcases duesG_len k (pay l) p.sum (by omega) with ⟨h3, h4⟩ | h3
      · rw [h4]; simp; omega
      · simp; omega
end Go.Proofs.Ytojenglklffkoaa

namespace Go.Proofs.Ytojenglklffkoaa
open Go Go.AI Go.Proofs
set_option linter.unusedSimpArgs false
set_option linter.unusedVariables false
set_option maxRecDepth 4000
def duesS (l : List Int) : List Due × Int := if 33 < l.length then ([], 8) else if posG l ≠ 0 then ([], 1) else if sumI l ≠ 0 then ([], 16) else (duesG l.length l, 0)
theorem posG_zero : ∀ (l : List Int), posG l = 0 → bdL 1125899906842624 l
  | [], _, x, hx => by simp at hx
  | y :: r, h, x, hx => by
    unfold posG at h
    split at h
    · simp at h
    · rcases List.mem_cons.1 hx with rfl | hx
      · omega
      · exact posG_zero r h x hx
theorem sumI_bd {B : Int} (hB : 0 ≤ B) : ∀ (l : List Int), bdL B l → -(l.length * B) ≤ sumI l ∧ sumI l ≤ l.length * B
  | [], _ => by simp [sumI]
  | x :: r, h => by
    have h1 := sumI_bd hB r (fun y hy => h y (by simp [hy]))
    have h2 := h x (by simp)
    unfold sumI
    rw [List.length_cons, Int.natCast_add, Int.add_mul]
    omega
theorem sumI_take (l : List Int) (i : Nat) (h : i < l.length) : sumI (l.take (i + 1)) = sumI (l.take i) + l[i] := by
  rw [← List.take_append_getElem h]
  have : ∀ (a : List Int) (b : Int), sumI (a ++ [b]) = sumI a + b := by
    intro a b
    induction a with
    | nil => simp [sumI]
    | cons x r ih => simp [sumI, ih]; omega
  exact this _ _
theorem call_v1 {P : Program} {g : FuncId} {d : Nat} {args caps ys : List AV} {K : St → Prop} {e : List (Nat × AV)} {m : List (Nat × Ob)} {x : AV} (hv : viewL m (args ++ caps) = some ys) (hc : CallsTo P g ys [.p x]) (hs : scalF [.p x]) (hk : Run (K ⟨(d, x) :: e, m⟩)) : Run (callA P (some d) (.fn g caps) args K ⟨e, m⟩) :=
  call_view hv hc hs rfl hk
set_option maxHeartbeats 4000000 in
theorem dues15_ok (l : List Int) (hl : ∀ x ∈ l, In64 x) (hn : l.length ≤ 1048576) :
    CallsTo Try.prog 15 [.sl (l.map (AV.int .i64))] [.fresh 50 3 ((duesS l).1.map Due.av), .p (.int .i64 (duesS l).2)] := by
  refine f15_calls (Nat.le_of_ble_eq_true rfl) ?_
  simp (maxSteps := 2000000) (disch := omega) only [go_sem, ↓reduceIte, reduceIte, Nat.reduceAdd, Nat.reduceLT, Nat.reduceEqDiff, Nat.reduceLeDiff, Nat.reduceMul]
  refine cA_d (fun e1 => ?_) (fun e1 => ?_)
  · rw [show duesS l = ([], 8) by unfold duesS; rw [if_pos (by omega)]]
    simp (maxSteps := 2000000) (disch := omega) only [go_sem, ↓reduceIte, reduceIte, Nat.reduceAdd, Nat.reduceLT, Nat.reduceEqDiff, Nat.reduceLeDiff, Nat.reduceMul, List.map_nil]
    exact trivial
  simp (maxSteps := 2000000) (disch := omega) only [go_sem, ↓reduceIte, reduceIte, Nat.reduceAdd, Nat.reduceLT, Nat.reduceEqDiff, Nat.reduceLeDiff, Nat.reduceMul]
  refine call_1 (in30_ok l hl hn) (by rfl) (by rfl) ?_
  simp (maxSteps := 2000000) (disch := omega) only [go_sem, ↓reduceIte, reduceIte, Nat.reduceAdd, Nat.reduceLT, Nat.reduceEqDiff, Nat.reduceLeDiff, Nat.reduceMul]
  refine cA_d (fun e2 => ?_) (fun e2 => ?_)
  · rw [show duesS l = ([], 1) by unfold duesS; rw [if_neg (by omega), if_pos e2]]
    simp (maxSteps := 2000000) (disch := omega) only [go_sem, ↓reduceIte, reduceIte, Nat.reduceAdd, Nat.reduceLT, Nat.reduceEqDiff, Nat.reduceLeDiff, Nat.reduceMul, List.map_nil]
    exact trivial
  have hb := posG_zero l (Decidable.not_not.1 e2)
  simp (maxSteps := 2000000) (disch := omega) only [go_sem, ↓reduceIte, reduceIte, Nat.reduceAdd, Nat.reduceLT, Nat.reduceEqDiff, Nat.reduceLeDiff, Nat.reduceMul]
  refine loop_of f15L13_is (fun i : Nat => ⟨[(20, .int .i64 i), (19, .int .i64 l.length), (18, .sl (l.map (AV.int .i64))), (0, .sl (l.map (AV.int .i64))), (4, .int .i64 (sumI (l.take i)))], []⟩) (fun i => i ≤ l.length) (fun i => l.length - i) 0 (Nat.zero_le _) (le_intro (by simp only [allLook, allLookM, go_sem, ↓reduceIte, reduceIte, Nat.reduceAdd, Nat.reduceLT, Nat.reduceEqDiff, Nat.reduceLeDiff, Nat.reduceMul, List.take_zero, show sumI [] = 0 from rfl]; try simp) (by simp only [allLook, allLookM, go_sem, ↓reduceIte, reduceIte, Nat.reduceAdd, Nat.reduceLT, Nat.reduceEqDiff, Nat.reduceLeDiff, Nat.reduceMul, List.take_zero, show sumI [] = 0 from rfl]; try simp)) ?_
  rintro i R hii hR
  have hsb := sumI_bd (B := 1125899906842624) (by omega) (l.take i) (fun y hy => hb y (List.mem_of_mem_take hy))
  have htl : (l.take i).length ≤ 33 := by simp; omega
  simp (maxSteps := 2000000) (disch := omega) only [go_sem, ↓reduceIte, reduceIte, Nat.reduceAdd, Nat.reduceLT, Nat.reduceEqDiff, Nat.reduceLeDiff, Nat.reduceMul]
  refine cA_d (fun h2 => ?_) (fun h2 => ?_)
  · have hlt : i < l.length := by omega
    have hst := sumI_take l i hlt
    have hx := hb l[i] (List.getElem_mem _)
    simp (maxSteps := 2000000) (disch := omega) only [go_sem, ↓reduceIte, reduceIte, Nat.reduceAdd, Nat.reduceLT, Nat.reduceEqDiff, Nat.reduceLeDiff, Nat.reduceMul]
    refine idxS_map i rfl hlt (fun _ => rfl) ?_
    simp (maxSteps := 2000000) (disch := omega) only [go_sem, ↓reduceIte, reduceIte, Nat.reduceAdd, Nat.reduceLT, Nat.reduceEqDiff, Nat.reduceLeDiff, Nat.reduceMul]
    refine hR (i + 1) _ hlt (by omega) ?_
    rw [hst]
    exact (le_intro (by simp only [allLook, allLookM, go_sem, ↓reduceIte, reduceIte, Nat.reduceAdd, Nat.reduceLT, Nat.reduceEqDiff, Nat.reduceLeDiff, Nat.reduceMul]; try simp) (by simp only [allLook, allLookM, go_sem, ↓reduceIte, reduceIte, Nat.reduceAdd, Nat.reduceLT, Nat.reduceEqDiff, Nat.reduceLeDiff, Nat.reduceMul]; try simp))
  have hil : l.length = i := by omega
  subst hil
  rw [List.take_length] at hsb ⊢
  clear hR hii
  simp (maxSteps := 2000000) (disch := omega) only [go_sem, ↓reduceIte, reduceIte, Nat.reduceAdd, Nat.reduceLT, Nat.reduceEqDiff, Nat.reduceLeDiff, Nat.reduceMul]
  refine cA_d (fun e3 => ?_) (fun e3 => ?_)
  · rw [show duesS l = ([], 16) by unfold duesS; rw [if_neg (by omega), if_neg e2, if_pos e3]]
    simp (maxSteps := 2000000) (disch := omega) only [go_sem, ↓reduceIte, reduceIte, Nat.reduceAdd, Nat.reduceLT, Nat.reduceEqDiff, Nat.reduceLeDiff, Nat.reduceMul, List.map_nil]
    exact trivial
  rw [show duesS l = (duesG l.length l, 0) by unfold duesS; rw [if_neg (by omega), if_neg e2, if_neg e3]]
  simp (maxSteps := 2000000) (disch := omega) only [go_sem, ↓reduceIte, reduceIte, Nat.reduceAdd, Nat.reduceLT, Nat.reduceEqDiff, Nat.reduceLeDiff, Nat.reduceMul]
  refine call_f1 (clone31_ok l hn) (by rfl) (by rfl) ?_
  simp (maxSteps := 2000000) (disch := omega) only [go_sem, ↓reduceIte, reduceIte, Nat.reduceAdd, Nat.reduceLT, Nat.reduceEqDiff, Nat.reduceLeDiff, Nat.reduceMul]
  have hs0 : sumI l = 0 := Decidable.not_not.1 e3
  refine loop_of f15L30_is (fun s : List Due × List Int => ⟨[(8, .own 8), (7, .own 31)], [(8, .arr 50 3 (s.1.map Due.av)), (31, .arr 3 1 (s.2.map (AV.int .i64)))]⟩)
    (fun s => s.2.length = l.length ∧ sumI s.2 = 0 ∧ bdL 1125899906842624 s.2 ∧ s.1.length + cnt s.2 ≤ l.length ∧ duesG l.length l = s.1 ++ duesG (cnt s.2) s.2) (fun s => cnt s.2) ([], l) ⟨rfl, hs0, hb, by simpa using cnt_le l, duesG_more _ _ hs0 (cnt_le l)⟩ (le_intro (by simp only [allLook, allLookM, go_sem, ↓reduceIte, reduceIte, Nat.reduceAdd, Nat.reduceLT, Nat.reduceEqDiff, Nat.reduceLeDiff, Nat.reduceMul, List.map_nil]; try simp) (by simp only [allLook, allLookM, go_sem, ↓reduceIte, reduceIte, Nat.reduceAdd, Nat.reduceLT, Nat.reduceEqDiff, Nat.reduceLeDiff, Nat.reduceMul, List.map_nil]; try simp)) ?_
  rintro ⟨acc, c⟩ R ⟨q1, q2, q3, q4, q5⟩ hR
  simp only at q1 q2 q3 q4 q5
  simp (maxSteps := 2000000) (disch := omega) only [go_sem, ↓reduceIte, reduceIte, Nat.reduceAdd, Nat.reduceLT, Nat.reduceEqDiff, Nat.reduceLeDiff, Nat.reduceMul]
  refine cA_d (fun h3 => ?_) (fun h3 => ?_)
  · have hc0 : c ≠ [] := by intro e; rw [e] at h3; simp at h3
    have hcl : ∀ x ∈ c, In64 x := fun x hx => by have := q3 x hx; unfold In64; omega
    obtain ⟨s1, s2, s3, s4, s5⟩ := step_ok hc0 q2
    have g1 : c.getD (lo c) 0 = c[lo c] := by simp [List.getD, s1]
    have g2 : c.getD (hi c) 0 = c[hi c] := by simp [List.getD, s2]
    have b1 := q3 _ (List.getElem_mem s1)
    have b2 := q3 _ (List.getElem_mem s2)
    have ham : amt c = min (-(c[lo c])) c[hi c] := by unfold amt; rw [g1, g2]
    have cf := ext32_ok c 33 ltP hcl (by omega) (fun x y hx hy => lt33_ok x y hx hy)
    have ct := ext32_ok c 34 gtP hcl (by omega) (fun x y hx hy => gt34_ok x y hx hy)
    simp (maxSteps := 2000000) (disch := omega) only [go_sem, ↓reduceIte, reduceIte, Nat.reduceAdd, Nat.reduceLT, Nat.reduceEqDiff, Nat.reduceLeDiff, Nat.reduceMul]
    refine call_v1 (by rfl) cf (by rfl) ?_
    simp (maxSteps := 2000000) (disch := omega) only [go_sem, ↓reduceIte, reduceIte, Nat.reduceAdd, Nat.reduceLT, Nat.reduceEqDiff, Nat.reduceLeDiff, Nat.reduceMul]
    refine call_v1 (by rfl) ct (by rfl) ?_
    rw [show ext ltP c = lo c from rfl, show ext gtP c = hi c from rfl]
    (repeat' (first | simp (maxSteps := 2000000) (disch := omega) only [go_sem, ↓reduceIte, reduceIte, Nat.reduceAdd, Nat.reduceLT, Nat.reduceEqDiff, Nat.reduceLeDiff, Nat.reduceMul] | refine idxO_map (lo c) rfl s1 ?_ | refine idxO_map (hi c) rfl s2 ?_ | refine at_map s1 ?_ | refine at_map s2 ?_))
    rw [show min (0 - c[lo c]) c[hi c] = amt c by rw [ham]; congr 1; omega]
    refine cA_d (fun h4 => ?_) (fun h4 => ?_)
    · have hz := (amt_zero hc0 q2).1 h4
      rw [hz, show duesG 0 c = [] from rfl, List.append_nil] at q5
      simp (maxSteps := 2000000) (disch := omega) only [go_sem, ↓reduceIte, reduceIte, Nat.reduceAdd, Nat.reduceLT, Nat.reduceEqDiff, Nat.reduceLeDiff, Nat.reduceMul]
      rw [q5]
      exact ⟨rfl, trivial⟩
    · have pd := paid_ok hc0 q2 h4
      have s2' : hi c < (c.set (lo c) (c[lo c] + amt c)).length := by simpa using s2
      have e3 : (c.set (lo c) (c[lo c] + amt c))[hi c] = c[hi c] := by simp [List.getElem_set, pd.ne]
      have hp := pd.le
      have hp1 := pd.pos
      have hd := pd.dec
      obtain ⟨k, hk⟩ : ∃ k, cnt c = k + 1 := ⟨cnt c - 1, by omega⟩
      have hq : duesG (cnt c) c = ⟨lo c, hi c, amt c⟩ :: duesG (cnt (pay c)) (pay c) := by
        rw [hk, duesG, if_neg (by simp [hc0, h4]), duesG_more k _ pd.sum (by omega)]
      rw [hq] at q5
      have he := pd.eq
      rw [g1, g2] at he
      (repeat' (first | simp (maxSteps := 2000000) (disch := omega) only [go_sem, ↓reduceIte, reduceIte, Nat.reduceAdd, Nat.reduceLT, Nat.reduceEqDiff, Nat.reduceLeDiff, Nat.reduceMul] | refine idxO_map (lo c) rfl s1 ?_ | refine idxO_map (hi c) rfl s2' ?_ | refine at_map s1 ?_ | refine at_map s2' ?_ | refine stO_int s1 ?_ | refine stO_int s2' ?_))
      refine bsK_intro (xs := [Due.av ⟨lo c, hi c, amt c⟩]) rfl (by decide) (by decide) (by rfl) ?_
      simp (maxSteps := 2000000) (disch := omega) only [go_sem, ↓reduceIte, reduceIte, Nat.reduceAdd, Nat.reduceLT, Nat.reduceEqDiff, Nat.reduceLeDiff, Nat.reduceMul]
      refine appendA_of (ty := 50) (k := 3) (bytes := 24) (z := [.int .i64 0, .int .i64 0, .int .i64 0]) (by kernel_rfl) (by kernel_rfl) (by kernel_rfl) rfl ?_
      simp (maxSteps := 2000000) (disch := omega) only [go_sem, ↓reduceIte, reduceIte, Nat.reduceAdd, Nat.reduceLT, Nat.reduceEqDiff, Nat.reduceLeDiff, Nat.reduceMul]
      refine appO_few (by decide) (by decide) (by simp) (by simp [AV.cells, Due.av]) (by simp; omega) ?_
      simp (maxSteps := 2000000) (disch := omega) only [go_sem, ↓reduceIte, reduceIte, Nat.reduceAdd, Nat.reduceLT, Nat.reduceEqDiff, Nat.reduceLeDiff, Nat.reduceMul]
      refine hR (acc ++ [⟨lo c, hi c, amt c⟩], pay c) _ ⟨by simp only []; rw [pd.len, q1], pd.sum, pd.bd _ q3, by simp; omega, by simp [q5]⟩ (by simp only []; omega) ?_
      rw [he, ← e3, List.map_append]
      exact (le_intro (by simp only [allLook, allLookM, go_sem, ↓reduceIte, reduceIte, Nat.reduceAdd, Nat.reduceLT, Nat.reduceEqDiff, Nat.reduceLeDiff, Nat.reduceMul]; try simp) (by simp only [allLook, allLookM, go_sem, ↓reduceIte, reduceIte, Nat.reduceAdd, Nat.reduceLT, Nat.reduceEqDiff, Nat.reduceLeDiff, Nat.reduceMul]; try simp))
  · have : cnt c = 0 := by
      have : c = [] := by cases c with | nil => rfl | cons a b => (exfalso; simp at h3; try omega)
      rw [this]; rfl
    rw [this, show duesG 0 c = [] from rfl, List.append_nil] at q5
    simp (maxSteps := 2000000) (disch := omega) only [go_sem, ↓reduceIte, reduceIte, Nat.reduceAdd, Nat.reduceLT, Nat.reduceEqDiff, Nat.reduceLeDiff, Nat.reduceMul]
    rw [q5]
    exact ⟨rfl, trivial⟩
end Go.Proofs.Ytojenglklffkoaa

namespace Go.Proofs.Ytojenglklffkoaa
open Go Go.AI Go.Proofs
set_option linter.unusedSimpArgs false
set_option linter.unusedVariables false
set_option maxRecDepth 4000
set_option maxHeartbeats 4000000 in
theorem dues16_ok (l : List Int) (hl : ∀ x ∈ l, In64 x) (hn : l.length ≤ 1048576) :
    CallsTo Try.prog 16 [.sl (l.map (AV.int .i64))] [.fresh 50 3 ((duesS l).1.map Due.av), .p (.int .i64 (duesS l).2)] := by
  refine f16_calls (Nat.le_of_ble_eq_true rfl) ?_
  simp (maxSteps := 2000000) (disch := omega) only [go_sem, ↓reduceIte, reduceIte, Nat.reduceAdd, Nat.reduceLT, Nat.reduceEqDiff, Nat.reduceLeDiff, Nat.reduceMul]
  refine call_1 (pos35_ok l hl hn) (by rfl) (by rfl) ?_
  simp (maxSteps := 2000000) (disch := omega) only [go_sem, ↓reduceIte, reduceIte, Nat.reduceAdd, Nat.reduceLT, Nat.reduceEqDiff, Nat.reduceLeDiff, Nat.reduceMul]
  refine cA_d (fun e1 => ?_) (fun e1 => ?_)
  · rw [show duesS l = ([], posS l) by
      unfold duesS posS
      unfold posS at e1
      by_cases h : 33 < l.length
      · rw [if_pos h, if_pos h]
      · rw [if_neg h, if_neg h]
        rw [if_neg h] at e1
        rw [if_pos e1]
        have := posG_any l
        rw [this] at e1 ⊢
        split at e1
        · rw [if_pos (by assumption)]
        · exact absurd rfl e1]
    simp (maxSteps := 2000000) (disch := omega) only [go_sem, ↓reduceIte, reduceIte, Nat.reduceAdd, Nat.reduceLT, Nat.reduceEqDiff, Nat.reduceLeDiff, Nat.reduceMul, List.map_nil]
    exact trivial
  have e1' : posS l = 0 := Decidable.not_not.1 e1
  unfold posS at e1'
  have hl33 : ¬ 33 < l.length := by
    intro h
    rw [if_pos h] at e1'
    cases e1'
  rw [if_neg hl33] at e1'
  have hb := posG_zero l e1'
  simp (maxSteps := 2000000) (disch := omega) only [go_sem, ↓reduceIte, reduceIte, Nat.reduceAdd, Nat.reduceLT, Nat.reduceEqDiff, Nat.reduceLeDiff, Nat.reduceMul]
  refine loop_of f16L10_is (fun i : Nat => ⟨[(6, .int .i64 i), (0, .sl (l.map (AV.int .i64))), (5, .int .i64 (sumI (l.take i)))], []⟩) (fun i => i ≤ l.length) (fun i => l.length - i) 0 (Nat.zero_le _) (le_intro (by simp only [allLook, allLookM, go_sem, ↓reduceIte, reduceIte, Nat.reduceAdd, Nat.reduceLT, Nat.reduceEqDiff, Nat.reduceLeDiff, Nat.reduceMul, List.take_zero, show sumI [] = 0 from rfl]; try simp) (by simp only [allLook, allLookM, go_sem, ↓reduceIte, reduceIte, Nat.reduceAdd, Nat.reduceLT, Nat.reduceEqDiff, Nat.reduceLeDiff, Nat.reduceMul, List.take_zero, show sumI [] = 0 from rfl]; try simp)) ?_
  rintro i R hii hR
  have hsb := sumI_bd (B := 1125899906842624) (by omega) (l.take i) (fun y hy => hb y (List.mem_of_mem_take hy))
  have htl : (l.take i).length ≤ 33 := by simp; omega
  simp (maxSteps := 2000000) (disch := omega) only [go_sem, ↓reduceIte, reduceIte, Nat.reduceAdd, Nat.reduceLT, Nat.reduceEqDiff, Nat.reduceLeDiff, Nat.reduceMul]
  refine cA_d (fun h2 => ?_) (fun h2 => ?_)
  · have hlt : i < l.length := by omega
    have hst := sumI_take l i hlt
    have hx := hb l[i] (List.getElem_mem _)
    simp (maxSteps := 2000000) (disch := omega) only [go_sem, ↓reduceIte, reduceIte, Nat.reduceAdd, Nat.reduceLT, Nat.reduceEqDiff, Nat.reduceLeDiff, Nat.reduceMul]
    refine idxS_map i rfl hlt (fun _ => rfl) ?_
    simp (maxSteps := 2000000) (disch := omega) only [go_sem, ↓reduceIte, reduceIte, Nat.reduceAdd, Nat.reduceLT, Nat.reduceEqDiff, Nat.reduceLeDiff, Nat.reduceMul]
    refine hR (i + 1) _ hlt (by omega) ?_
    rw [hst]
    exact (le_intro (by simp only [allLook, allLookM, go_sem, ↓reduceIte, reduceIte, Nat.reduceAdd, Nat.reduceLT, Nat.reduceEqDiff, Nat.reduceLeDiff, Nat.reduceMul]; try simp) (by simp only [allLook, allLookM, go_sem, ↓reduceIte, reduceIte, Nat.reduceAdd, Nat.reduceLT, Nat.reduceEqDiff, Nat.reduceLeDiff, Nat.reduceMul]; try simp))
  have hil : l.length = i := by omega
  subst hil
  rw [List.take_length] at hsb ⊢
  clear hR hii
  simp (maxSteps := 2000000) (disch := omega) only [go_sem, ↓reduceIte, reduceIte, Nat.reduceAdd, Nat.reduceLT, Nat.reduceEqDiff, Nat.reduceLeDiff, Nat.reduceMul]
  refine cA_d (fun e3 => ?_) (fun e3 => ?_)
  · rw [show duesS l = ([], 16) by unfold duesS; rw [if_neg hl33, if_neg (by rw [e1']; simp), if_pos e3]]
    simp (maxSteps := 2000000) (disch := omega) only [go_sem, ↓reduceIte, reduceIte, Nat.reduceAdd, Nat.reduceLT, Nat.reduceEqDiff, Nat.reduceLeDiff, Nat.reduceMul, List.map_nil]
    exact trivial
  rw [show duesS l = (duesG l.length l, 0) by unfold duesS; rw [if_neg hl33, if_neg (by rw [e1']; simp), if_neg e3]]
  simp (maxSteps := 2000000) (disch := omega) only [go_sem, ↓reduceIte, reduceIte, Nat.reduceAdd, Nat.reduceLT, Nat.reduceEqDiff, Nat.reduceLeDiff, Nat.reduceMul]
  have hs0 : sumI l = 0 := Decidable.not_not.1 e3
  refine appendA_of (ty := 3) (k := 1) (bytes := 8) (z := [.int .i64 0]) (by kernel_rfl) (by kernel_rfl) (by kernel_rfl) rfl ?_
  simp (maxSteps := 2000000) (disch := omega) only [go_sem, ↓reduceIte, reduceIte, Nat.reduceAdd, Nat.reduceLT, Nat.reduceEqDiff, Nat.reduceLeDiff, Nat.reduceMul]
  refine appO_few (by decide) (by decide) (by simp) int_cells (by simp; omega) ?_
  simp (maxSteps := 2000000) (disch := omega) only [go_sem, ↓reduceIte, reduceIte, Nat.reduceAdd, Nat.reduceLT, Nat.reduceEqDiff, Nat.reduceLeDiff, Nat.reduceMul]
  refine loop_of f16L28_is (fun s : List Due × List Int × Nat => ⟨[(9, .int .i64 s.2.2), (8, .own 8), (7, .own 7), (0, .sl (l.map (AV.int .i64)))], [(8, .arr 50 3 (s.1.map Due.av)), (7, .arr 3 1 (s.2.1.map (AV.int .i64)))]⟩)
    (fun s => s.2.1.length = l.length ∧ sumI s.2.1 = 0 ∧ bdL 1125899906842624 s.2.1 ∧ s.1.length + cnt s.2.1 ≤ l.length ∧ duesG l.length l = s.1 ++ duesG (cnt s.2.1) s.2.1 ∧ s.2.2 = s.1.length) (fun s => l.length - s.2.2) ([], l, 0) ⟨rfl, hs0, hb, by simpa using cnt_le l, duesG_more _ _ hs0 (cnt_le l), rfl⟩ (le_intro (by simp only [allLook, allLookM, go_sem, ↓reduceIte, reduceIte, Nat.reduceAdd, Nat.reduceLT, Nat.reduceEqDiff, Nat.reduceLeDiff, Nat.reduceMul, List.map_nil]; try simp) (by simp only [allLook, allLookM, go_sem, ↓reduceIte, reduceIte, Nat.reduceAdd, Nat.reduceLT, Nat.reduceEqDiff, Nat.reduceLeDiff, Nat.reduceMul, List.map_nil]; try simp)) ?_
  rintro ⟨acc, c, st⟩ R ⟨q1, q2, q3, q4, q5, q6⟩ hR
  simp only at q1 q2 q3 q4 q5 q6
  simp (maxSteps := 2000000) (disch := omega) only [go_sem, ↓reduceIte, reduceIte, Nat.reduceAdd, Nat.reduceLT, Nat.reduceEqDiff, Nat.reduceLeDiff, Nat.reduceMul]
  refine cA_d (fun h3 => ?_) (fun h3 => ?_)
  · have hc0 : c ≠ [] := by intro e; rw [e] at q1; simp at q1; omega
    simp (maxSteps := 2000000) (disch := omega) only [go_sem, ↓reduceIte, reduceIte, Nat.reduceAdd, Nat.reduceLT, Nat.reduceEqDiff, Nat.reduceLeDiff, Nat.reduceMul]
    refine loop_of f16L39_is (fun s : Nat × Nat × Nat => ⟨[(12, .int .i64 s.1), (11, .int .i64 s.2.2), (10, .int .i64 s.2.1), (9, .int .i64 st), (8, .own 8), (7, .own 7), (0, .sl (l.map (AV.int .i64)))], [(8, .arr 50 3 (acc.map Due.av)), (7, .arr 3 1 (c.map (AV.int .i64)))]⟩)
      (fun s => s.1 ≤ c.length ∧ s.2.1 < c.length ∧ s.2.2 < c.length ∧ lo c = extI ltP c (c.drop s.1) s.1 s.2.1 ∧ hi c = extI gtP c (c.drop s.1) s.1 s.2.2) (fun s => c.length - s.1) (0, 0, 0) ⟨Nat.zero_le _, by simp only []; omega, by simp only []; omega, by simp [lo, ext], by simp [hi, ext]⟩ (le_intro (by simp only [allLook, allLookM, go_sem, ↓reduceIte, reduceIte, Nat.reduceAdd, Nat.reduceLT, Nat.reduceEqDiff, Nat.reduceLeDiff, Nat.reduceMul]; try simp) (by simp only [allLook, allLookM, go_sem, ↓reduceIte, reduceIte, Nat.reduceAdd, Nat.reduceLT, Nat.reduceEqDiff, Nat.reduceLeDiff, Nat.reduceMul]; try simp)) ?_
    rintro ⟨i, f, t⟩ R2 ⟨p1, p2, p3, p4, p5⟩ hR2
    simp only at p1 p2 p3 p4 p5
    simp (maxSteps := 2000000) (disch := omega) only [go_sem, ↓reduceIte, reduceIte, Nat.reduceAdd, Nat.reduceLT, Nat.reduceEqDiff, Nat.reduceLeDiff, Nat.reduceMul]
    refine cA_d (fun h5 => ?_) (fun h5 => ?_)
    · have hlt : i < c.length := by omega
      rw [List.drop_eq_getElem_cons hlt, extI, show c.getD f 0 = c[f] by simp [List.getD, p2]] at p4
      rw [List.drop_eq_getElem_cons hlt, extI, show c.getD t 0 = c[t] by simp [List.getD, p3]] at p5
      (repeat' (first | simp (maxSteps := 2000000) (disch := omega) only [go_sem, ↓reduceIte, reduceIte, Nat.reduceAdd, Nat.reduceLT, Nat.reduceEqDiff, Nat.reduceLeDiff, Nat.reduceMul] | refine idxO_map i rfl hlt ?_ | refine idxO_map f rfl p2 ?_ | refine idxO_map t rfl p3 ?_ | refine at_map hlt ?_ | refine at_map p2 ?_ | refine at_map p3 ?_ | refine cA_d (fun h => ?_) (fun h => ?_)))
      all_goals first
        | (rw [if_pos (by simp only [ltP, decide_eq_true_eq]; assumption)] at p4; rw [if_pos (by simp only [gtP, decide_eq_true_eq]; assumption)] at p5; refine hR2 (i + 1, i, i) _ ⟨hlt, hlt, hlt, p4, p5⟩ (by simp only []; omega) ?_; exact (le_intro (by simp only [allLook, allLookM, go_sem, ↓reduceIte, reduceIte, Nat.reduceAdd, Nat.reduceLT, Nat.reduceEqDiff, Nat.reduceLeDiff, Nat.reduceMul]; try simp) (by simp only [allLook, allLookM, go_sem, ↓reduceIte, reduceIte, Nat.reduceAdd, Nat.reduceLT, Nat.reduceEqDiff, Nat.reduceLeDiff, Nat.reduceMul]; try simp)))
        | (rw [if_pos (by simp only [ltP, decide_eq_true_eq]; assumption)] at p4; rw [if_neg (by simp only [gtP, decide_eq_true_eq]; assumption)] at p5; refine hR2 (i + 1, i, t) _ ⟨hlt, hlt, p3, p4, p5⟩ (by simp only []; omega) ?_; exact (le_intro (by simp only [allLook, allLookM, go_sem, ↓reduceIte, reduceIte, Nat.reduceAdd, Nat.reduceLT, Nat.reduceEqDiff, Nat.reduceLeDiff, Nat.reduceMul]; try simp) (by simp only [allLook, allLookM, go_sem, ↓reduceIte, reduceIte, Nat.reduceAdd, Nat.reduceLT, Nat.reduceEqDiff, Nat.reduceLeDiff, Nat.reduceMul]; try simp)))
        | (rw [if_neg (by simp only [ltP, decide_eq_true_eq]; assumption)] at p4; rw [if_pos (by simp only [gtP, decide_eq_true_eq]; assumption)] at p5; refine hR2 (i + 1, f, i) _ ⟨hlt, p2, hlt, p4, p5⟩ (by simp only []; omega) ?_; exact (le_intro (by simp only [allLook, allLookM, go_sem, ↓reduceIte, reduceIte, Nat.reduceAdd, Nat.reduceLT, Nat.reduceEqDiff, Nat.reduceLeDiff, Nat.reduceMul]; try simp) (by simp only [allLook, allLookM, go_sem, ↓reduceIte, reduceIte, Nat.reduceAdd, Nat.reduceLT, Nat.reduceEqDiff, Nat.reduceLeDiff, Nat.reduceMul]; try simp)))
        | (rw [if_neg (by simp only [ltP, decide_eq_true_eq]; assumption)] at p4; rw [if_neg (by simp only [gtP, decide_eq_true_eq]; assumption)] at p5; refine hR2 (i + 1, f, t) _ ⟨hlt, p2, p3, p4, p5⟩ (by simp only []; omega) ?_; exact (le_intro (by simp only [allLook, allLookM, go_sem, ↓reduceIte, reduceIte, Nat.reduceAdd, Nat.reduceLT, Nat.reduceEqDiff, Nat.reduceLeDiff, Nat.reduceMul]; try simp) (by simp only [allLook, allLookM, go_sem, ↓reduceIte, reduceIte, Nat.reduceAdd, Nat.reduceLT, Nat.reduceEqDiff, Nat.reduceLeDiff, Nat.reduceMul]; try simp)))
    · have hic : c.length = i := by omega
      rw [← hic, List.drop_length, extI] at p4 p5
      subst p4
      subst p5
      have b1 := q3 _ (List.getElem_mem p2)
      have b2 := q3 _ (List.getElem_mem p3)
      clear hR2
      (repeat' (first | simp (maxSteps := 2000000) (disch := omega) only [go_sem, ↓reduceIte, reduceIte, Nat.reduceAdd, Nat.reduceLT, Nat.reduceEqDiff, Nat.reduceLeDiff, Nat.reduceMul] | refine idxO_map (lo c) rfl p2 ?_ | refine idxO_map (hi c) rfl p3 ?_ | refine at_map p2 ?_ | refine at_map p3 ?_))
      obtain ⟨s1, s2, s3, s4, s5⟩ := step_ok hc0 q2
      have g1 : c.getD (lo c) 0 = c[lo c] := by simp [List.getD, s1]
      have g2 : c.getD (hi c) 0 = c[hi c] := by simp [List.getD, s2]
      have ham : amt c = min (-(c[lo c])) c[hi c] := by unfold amt; rw [g1, g2]
      refine cA_d (fun h6 => ?_) (fun h6 => ?_)
      · (repeat' (first | simp (maxSteps := 2000000) (disch := omega) only [go_sem, ↓reduceIte, reduceIte, Nat.reduceAdd, Nat.reduceLT, Nat.reduceEqDiff, Nat.reduceLeDiff, Nat.reduceMul] | refine idxO_map (lo c) rfl p2 ?_ | refine idxO_map (hi c) rfl p3 ?_ | refine at_map p2 ?_ | refine at_map p3 ?_))
        rw [show 0 - c[lo c] = amt c by rw [ham]; omega]
        refine cA_d (fun h4 => ?_) (fun h4 => ?_)
        · have hz := (amt_zero hc0 q2).1 h4
          rw [hz, show duesG 0 c = [] from rfl, List.append_nil] at q5
          simp (maxSteps := 2000000) (disch := omega) only [go_sem, ↓reduceIte, reduceIte, Nat.reduceAdd, Nat.reduceLT, Nat.reduceEqDiff, Nat.reduceLeDiff, Nat.reduceMul]
          rw [q5]
          exact ⟨rfl, trivial⟩
        · have pd := paid_ok hc0 q2 h4
          have s2' : hi c < (c.set (lo c) (c[lo c] + amt c)).length := by simpa using s2
          have e3 : (c.set (lo c) (c[lo c] + amt c))[hi c] = c[hi c] := by simp [List.getElem_set, pd.ne]
          have hp := pd.le
          have hp1 := pd.pos
          have hd := pd.dec
          obtain ⟨k, hk⟩ : ∃ k, cnt c = k + 1 := ⟨cnt c - 1, by omega⟩
          have hq : duesG (cnt c) c = ⟨lo c, hi c, amt c⟩ :: duesG (cnt (pay c)) (pay c) := by
            rw [hk, duesG, if_neg (by simp [hc0, h4]), duesG_more k _ pd.sum (by omega)]
          rw [hq] at q5
          have he := pd.eq
          rw [g1, g2] at he
          (repeat' (first | simp (maxSteps := 2000000) (disch := omega) only [go_sem, ↓reduceIte, reduceIte, Nat.reduceAdd, Nat.reduceLT, Nat.reduceEqDiff, Nat.reduceLeDiff, Nat.reduceMul] | refine idxO_map (lo c) rfl s1 ?_ | refine idxO_map (hi c) rfl s2' ?_ | refine at_map s1 ?_ | refine at_map s2' ?_ | refine stO_int s1 ?_ | refine stO_int s2' ?_))
          refine bsK_intro (xs := [Due.av ⟨lo c, hi c, amt c⟩]) rfl (by decide) (by decide) (by rfl) ?_
          simp (maxSteps := 2000000) (disch := omega) only [go_sem, ↓reduceIte, reduceIte, Nat.reduceAdd, Nat.reduceLT, Nat.reduceEqDiff, Nat.reduceLeDiff, Nat.reduceMul]
          refine appendA_of (ty := 50) (k := 3) (bytes := 24) (z := [.int .i64 0, .int .i64 0, .int .i64 0]) (by kernel_rfl) (by kernel_rfl) (by kernel_rfl) rfl ?_
          simp (maxSteps := 2000000) (disch := omega) only [go_sem, ↓reduceIte, reduceIte, Nat.reduceAdd, Nat.reduceLT, Nat.reduceEqDiff, Nat.reduceLeDiff, Nat.reduceMul]
          refine appO_few (by decide) (by decide) (by simp) (by simp [AV.cells, Due.av]) (by simp; omega) ?_
          simp (maxSteps := 2000000) (disch := omega) only [go_sem, ↓reduceIte, reduceIte, Nat.reduceAdd, Nat.reduceLT, Nat.reduceEqDiff, Nat.reduceLeDiff, Nat.reduceMul]
          refine hR (acc ++ [⟨lo c, hi c, amt c⟩], pay c, st + 1) _ ⟨by simp only []; rw [pd.len, q1], pd.sum, pd.bd _ q3, by simp; omega, by simp [q5], by simp [q6]⟩ (by simp only []; omega) ?_
          rw [he, ← e3, List.map_append]
          exact (le_intro (by simp only [allLook, allLookM, go_sem, ↓reduceIte, reduceIte, Nat.reduceAdd, Nat.reduceLT, Nat.reduceEqDiff, Nat.reduceLeDiff, Nat.reduceMul]; try simp) (by simp only [allLook, allLookM, go_sem, ↓reduceIte, reduceIte, Nat.reduceAdd, Nat.reduceLT, Nat.reduceEqDiff, Nat.reduceLeDiff, Nat.reduceMul]; try simp))
      · simp (maxSteps := 2000000) (disch := omega) only [go_sem, ↓reduceIte, reduceIte, Nat.reduceAdd, Nat.reduceLT, Nat.reduceEqDiff, Nat.reduceLeDiff, Nat.reduceMul]
        rw [show c[hi c] = amt c by rw [ham]; omega]
        refine cA_d (fun h4 => ?_) (fun h4 => ?_)
        · have hz := (amt_zero hc0 q2).1 h4
          rw [hz, show duesG 0 c = [] from rfl, List.append_nil] at q5
          simp (maxSteps := 2000000) (disch := omega) only [go_sem, ↓reduceIte, reduceIte, Nat.reduceAdd, Nat.reduceLT, Nat.reduceEqDiff, Nat.reduceLeDiff, Nat.reduceMul]
          rw [q5]
          exact ⟨rfl, trivial⟩
        · have pd := paid_ok hc0 q2 h4
          have s2' : hi c < (c.set (lo c) (c[lo c] + amt c)).length := by simpa using s2
          have e3 : (c.set (lo c) (c[lo c] + amt c))[hi c] = c[hi c] := by simp [List.getElem_set, pd.ne]
          have hp := pd.le
          have hp1 := pd.pos
          have hd := pd.dec
          obtain ⟨k, hk⟩ : ∃ k, cnt c = k + 1 := ⟨cnt c - 1, by omega⟩
          have hq : duesG (cnt c) c = ⟨lo c, hi c, amt c⟩ :: duesG (cnt (pay c)) (pay c) := by
            rw [hk, duesG, if_neg (by simp [hc0, h4]), duesG_more k _ pd.sum (by omega)]
          rw [hq] at q5
          have he := pd.eq
          rw [g1, g2] at he
          (repeat' (first | simp (maxSteps := 2000000) (disch := omega) only [go_sem, ↓reduceIte, reduceIte, Nat.reduceAdd, Nat.reduceLT, Nat.reduceEqDiff, Nat.reduceLeDiff, Nat.reduceMul] | refine idxO_map (lo c) rfl s1 ?_ | refine idxO_map (hi c) rfl s2' ?_ | refine at_map s1 ?_ | refine at_map s2' ?_ | refine stO_int s1 ?_ | refine stO_int s2' ?_))
          refine bsK_intro (xs := [Due.av ⟨lo c, hi c, amt c⟩]) rfl (by decide) (by decide) (by rfl) ?_
          simp (maxSteps := 2000000) (disch := omega) only [go_sem, ↓reduceIte, reduceIte, Nat.reduceAdd, Nat.reduceLT, Nat.reduceEqDiff, Nat.reduceLeDiff, Nat.reduceMul]
          refine appendA_of (ty := 50) (k := 3) (bytes := 24) (z := [.int .i64 0, .int .i64 0, .int .i64 0]) (by kernel_rfl) (by kernel_rfl) (by kernel_rfl) rfl ?_
          simp (maxSteps := 2000000) (disch := omega) only [go_sem, ↓reduceIte, reduceIte, Nat.reduceAdd, Nat.reduceLT, Nat.reduceEqDiff, Nat.reduceLeDiff, Nat.reduceMul]
          refine appO_few (by decide) (by decide) (by simp) (by simp [AV.cells, Due.av]) (by simp; omega) ?_
          simp (maxSteps := 2000000) (disch := omega) only [go_sem, ↓reduceIte, reduceIte, Nat.reduceAdd, Nat.reduceLT, Nat.reduceEqDiff, Nat.reduceLeDiff, Nat.reduceMul]
          refine hR (acc ++ [⟨lo c, hi c, amt c⟩], pay c, st + 1) _ ⟨by simp only []; rw [pd.len, q1], pd.sum, pd.bd _ q3, by simp; omega, by simp [q5], by simp [q6]⟩ (by simp only []; omega) ?_
          rw [he, ← e3, List.map_append]
          exact (le_intro (by simp only [allLook, allLookM, go_sem, ↓reduceIte, reduceIte, Nat.reduceAdd, Nat.reduceLT, Nat.reduceEqDiff, Nat.reduceLeDiff, Nat.reduceMul]; try simp) (by simp only [allLook, allLookM, go_sem, ↓reduceIte, reduceIte, Nat.reduceAdd, Nat.reduceLT, Nat.reduceEqDiff, Nat.reduceLeDiff, Nat.reduceMul]; try simp))
  · have : cnt c = 0 := by omega
    rw [this, show duesG 0 c = [] from rfl, List.append_nil] at q5
    simp (maxSteps := 2000000) (disch := omega) only [go_sem, ↓reduceIte, reduceIte, Nat.reduceAdd, Nat.reduceLT, Nat.reduceEqDiff, Nat.reduceLeDiff, Nat.reduceMul]
    rw [q5]
    exact ⟨rfl, trivial⟩
end Go.Proofs.Ytojenglklffkoaa
