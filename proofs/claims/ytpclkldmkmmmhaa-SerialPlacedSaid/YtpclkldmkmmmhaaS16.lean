import Derived.Test.YtpclkldmkmmmhaaS15
namespace Go.Proofs.Ytpclkldmkmmmhaa
open Go Go.AI Go.Proofs
set_option linter.unusedSimpArgs false
set_option linter.unusedVariables false
set_option maxRecDepth 4000
theorem rowG_succ (ps : List Product) (l : List Sale) (w : Win) (P n : Nat) : rowG ps l w P (n + 1) = rowG ps l w P n ++ (if 0 < totG ps w P n l then [⟨P, n, totG ps w P n l⟩] else []) := by
  unfold rowG
  rw [List.range_succ, List.filterMap_append]
  congr 1
  simp only [List.filterMap_cons, List.filterMap_nil, cellG]
  split <;> rename_i h <;> split at h <;> simp_all
theorem allG_succ (ps : List Product) (l : List Sale) (w : Win) (n : Nat) : allG ps l w (n + 1) = allG ps l w n ++ rowG ps l w n 16 := by
  unfold allG
  rw [List.range_succ, List.flatMap_append]
  simp
theorem rowG_len (ps : List Product) (l : List Sale) (w : Win) (P n : Nat) : (rowG ps l w P n).length ≤ n := by
  unfold rowG
  exact Nat.le_trans (List.length_filterMap_le _ _) (by simp)
theorem allG_len (ps : List Product) (l : List Sale) (w : Win) : ∀ n, (allG ps l w n).length ≤ n * 16
  | 0 => by simp [allG]
  | n + 1 => by rw [allG_succ, List.length_append]; have := allG_len ps l w n; have := rowG_len ps l w n 16; omega
theorem totG_take (ps : List Product) (w : Win) (P M : Int) (l : List Sale) (i : Nat) (h : i < l.length) : totG ps w P M (l.take (i + 1)) = totG ps w P M (l.take i) + (if inW w l[i] ∧ (prodOf ps l[i]).pr = P ∧ (prodOf ps l[i]).mat = M then l[i].c * (prodOf ps l[i]).g else 0) := by
  rw [← List.take_append_getElem h, totG_append]
set_option maxHeartbeats 4000000 in
theorem placed21_ok (ps : List Product) (l : List Sale) (w : Win) (hp : ∀ x ∈ ps, x.ok) (hl : ∀ x ∈ l, x.ok) (hw : w.ok) (hn : l.length ≤ 1048576) (hm : ps.length ≤ 1048576) :
    CallsTo Try.prog 21 [.sl (ps.map Product.av), .sl (l.map Sale.av), w.av] [.fresh 52 3 ((placedS ps l w).1.map Placing.av), .p (.int .i64 (placedS ps l w).2)] := by
  obtain ⟨wa, wb⟩ := w
  unfold Win.ok In64 at hw
  simp only at hw
  refine f21_calls (Nat.le_of_ble_eq_true rfl) ?_
  unfold Win.av
  by_cases h1 : wa < 0 ∨ wb < wa ∨ 3155760000 < wb
  · have hs : placedS ps l ⟨wa, wb⟩ = ([], 1) := by unfold placedS; rw [if_pos h1]
    rw [hs]
    (repeat' (first | refine gA_dt (fun h => ?_) (fun h => ?_) | refine gA_df (fun h => ?_) (fun h => ?_) | refine cA_d (fun h => ?_) (fun h => ?_) | simp (maxSteps := 2000000) (disch := omega) only [go_sem, ↓reduceIte, reduceIte, Nat.reduceAdd, Nat.reduceLT, Nat.reduceEqDiff, Nat.reduceLeDiff, Nat.reduceMul]))
    all_goals first | (exfalso; omega) | exact ⟨rfl, trivial⟩
  by_cases h2 : 512 < l.length
  · have hs : placedS ps l ⟨wa, wb⟩ = ([], 8) := by unfold placedS; rw [if_neg h1, if_pos h2]
    rw [hs]
    (repeat' (first | refine gA_dt (fun h => ?_) (fun h => ?_) | refine gA_df (fun h => ?_) (fun h => ?_) | refine cA_d (fun h => ?_) (fun h => ?_) | (exfalso; omega) | simp (maxSteps := 2000000) (disch := omega) only [go_sem, ↓reduceIte, reduceIte, Nat.reduceAdd, Nat.reduceLT, Nat.reduceEqDiff, Nat.reduceLeDiff, Nat.reduceMul]))
    all_goals first | (exfalso; omega) | exact ⟨rfl, trivial⟩
  have hs : placedS ps l ⟨wa, wb⟩ = if badG ps l ≠ 0 then ([], badG ps l) else (allG ps l ⟨wa, wb⟩ 32, 0) := by unfold placedS; rw [if_neg h1, if_neg h2]
  rw [hs]
  (repeat' (first | refine gA_dt (fun h => ?_) (fun h => ?_) | refine gA_df (fun h => ?_) (fun h => ?_) | refine cA_d (fun h => ?_) (fun h => ?_) | (exfalso; omega) | simp (maxSteps := 2000000) (disch := omega) only [go_sem, ↓reduceIte, reduceIte, Nat.reduceAdd, Nat.reduceLT, Nat.reduceEqDiff, Nat.reduceLeDiff, Nat.reduceMul]))
  clear hs
  refine loop_of f21L12_is (fun i : Nat => ⟨[(8, .int .i64 i), (1, .sl (l.map Sale.av)), (5, .ad 5 0 0), (0, .sl (ps.map Product.av))], [(5, .box [.int .i64 wa, .int .i64 wb])]⟩)
    (fun i => i ≤ l.length ∧ badG ps l = badG ps (l.drop i)) (fun i => l.length - i) 0 ⟨Nat.zero_le _, rfl⟩ (le_intro (by simp only [allLook, allLookM, go_sem, ↓reduceIte, reduceIte, Nat.reduceAdd, Nat.reduceLT, Nat.reduceEqDiff, Nat.reduceLeDiff, Nat.reduceMul]; try simp) (by simp only [allLook, allLookM, go_sem, ↓reduceIte, reduceIte, Nat.reduceAdd, Nat.reduceLT, Nat.reduceEqDiff, Nat.reduceLeDiff, Nat.reduceMul]; try simp)) ?_
  rintro i R ⟨hi, hf⟩ hR
  simp (maxSteps := 2000000) (disch := omega) only [go_sem, ↓reduceIte, reduceIte, Nat.reduceAdd, Nat.reduceLT, Nat.reduceEqDiff, Nat.reduceLeDiff, Nat.reduceMul]
  refine cA_d (fun h3 => ?_) (fun h3 => ?_)
  · have hlt : i < l.length := by omega
    rw [List.drop_eq_getElem_cons hlt, badG] at hf
    have hx := hl l[i] (List.getElem_mem _)
    unfold Sale.ok In64 at hx
    by_cases hb1 : l[i].p < 0 ∨ ps.length ≤ l[i].p
    · rw [if_pos hb1] at hf
      rw [if_pos (by rw [hf]; decide), hf]
      (repeat' (first | refine gA_dt (fun h => ?_) (fun h => ?_) | refine gA_df (fun h => ?_) (fun h => ?_) | refine cA_d (fun h => ?_) (fun h => ?_) | (exfalso; omega) | refine idxS_map i rfl hlt (fun _ => rfl) ?_ | simp (maxSteps := 2000000) (disch := omega) only [go_sem, ↓reduceIte, reduceIte, Nat.reduceAdd, Nat.reduceLT, Nat.reduceEqDiff, Nat.reduceLeDiff, Nat.reduceMul, Sale.av]))
      all_goals first | (exfalso; omega) | exact ⟨rfl, trivial⟩
    rw [if_neg hb1] at hf
    have hge := prodOf_get (ps := ps) (x := l[i]) (by omega) (by omega)
    have hy := hp _ (List.getElem_mem (show l[i].p.toNat < ps.length by omega))
    rw [← hge] at hy
    unfold Product.ok In64 at hy
    by_cases hb2 : l[i].c < 1 ∨ 1000 < l[i].c ∨ ¬ (prodOf ps l[i]).use
    · rw [if_pos hb2] at hf
      rw [if_pos (by rw [hf]; decide), hf]
      unfold Product.use at hb2
      (repeat' (first | refine gA_dt (fun h => ?_) (fun h => ?_) | refine gA_df (fun h => ?_) (fun h => ?_) | refine cA_d (fun h => ?_) (fun h => ?_) | (exfalso; omega) | refine idxS_map i rfl hlt (fun _ => rfl) ?_ | refine idxS_map l[i].p.toNat (by omega) (by omega) (fun _ => rfl) ?_ | simp (maxSteps := 2000000) (disch := omega) only [go_sem, ↓reduceIte, reduceIte, Nat.reduceAdd, Nat.reduceLT, Nat.reduceEqDiff, Nat.reduceLeDiff, Nat.reduceMul, ← hge, Product.av, Sale.av]))
      all_goals first | (exfalso; omega) | exact ⟨rfl, trivial⟩
    rw [if_neg hb2] at hf
    have huse := Decidable.not_not.1 (fun hh => hb2 (.inr (.inr hh)))
    unfold Product.use at huse
    (repeat' (first | refine gA_dt (fun h => ?_) (fun h => ?_) | refine gA_df (fun h => ?_) (fun h => ?_) | refine cA_d (fun h => ?_) (fun h => ?_) | (exfalso; omega) | refine idxS_map i rfl hlt (fun _ => rfl) ?_ | refine idxS_map l[i].p.toNat (by omega) (by omega) (fun _ => rfl) ?_ | simp (maxSteps := 2000000) (disch := omega) only [go_sem, ↓reduceIte, reduceIte, Nat.reduceAdd, Nat.reduceLT, Nat.reduceEqDiff, Nat.reduceLeDiff, Nat.reduceMul, ← hge, Product.av, Sale.av]))
    exact hR (i + 1) _ ⟨hlt, hf⟩ (by omega) (le_intro (by simp only [allLook, allLookM, go_sem, ↓reduceIte, reduceIte, Nat.reduceAdd, Nat.reduceLT, Nat.reduceEqDiff, Nat.reduceLeDiff, Nat.reduceMul]; try simp) (by simp only [allLook, allLookM, go_sem, ↓reduceIte, reduceIte, Nat.reduceAdd, Nat.reduceLT, Nat.reduceEqDiff, Nat.reduceLeDiff, Nat.reduceMul]; try simp))
  have hil : i = l.length := by omega
  subst hil
  have hbz : badG ps l = 0 := by rw [hf]; simp [badG]
  have hgd := badG_zero hbz
  have hgood : ∀ x ∈ l, goodX ps x := fun x hx => (hgd x hx).1
  rw [if_neg (by rw [hbz]; simp)]
  clear hf hR h3
  simp (maxSteps := 2000000) (disch := omega) only [go_sem, ↓reduceIte, reduceIte, Nat.reduceAdd, Nat.reduceLT, Nat.reduceEqDiff, Nat.reduceLeDiff, Nat.reduceMul]
  refine loop_of f21L31_is (fun P : Nat => ⟨[(11, .int .i64 P), (10, .own 10), (1, .sl (l.map Sale.av)), (5, .ad 5 0 0), (0, .sl (ps.map Product.av))], [(10, .arr 52 3 ((allG ps l ⟨wa, wb⟩ P).map Placing.av)), (5, .box [.int .i64 wa, .int .i64 wb])]⟩)
    (fun P => P ≤ 32) (fun P => 32 - P) 0 (by decide) (le_intro (by simp only [allLook, allLookM, go_sem, ↓reduceIte, reduceIte, Nat.reduceAdd, Nat.reduceLT, Nat.reduceEqDiff, Nat.reduceLeDiff, Nat.reduceMul, show allG ps l ⟨wa, wb⟩ 0 = [] from rfl, List.map_nil]; try simp) (by simp only [allLook, allLookM, go_sem, ↓reduceIte, reduceIte, Nat.reduceAdd, Nat.reduceLT, Nat.reduceEqDiff, Nat.reduceLeDiff, Nat.reduceMul, show allG ps l ⟨wa, wb⟩ 0 = [] from rfl, List.map_nil]; try simp)) ?_
  rintro P R hP hR
  have hal := allG_len ps l ⟨wa, wb⟩ P
  simp (maxSteps := 2000000) (disch := omega) only [go_sem, ↓reduceIte, reduceIte, Nat.reduceAdd, Nat.reduceLT, Nat.reduceEqDiff, Nat.reduceLeDiff, Nat.reduceMul]
  refine cA_d (fun h3 => ?_) (fun h3 => ?_)
  case refine_2 =>
    have : P = 32 := by omega
    subst this
    simp (maxSteps := 2000000) (disch := omega) only [go_sem, ↓reduceIte, reduceIte, Nat.reduceAdd, Nat.reduceLT, Nat.reduceEqDiff, Nat.reduceLeDiff, Nat.reduceMul]
    trivial
  simp (maxSteps := 2000000) (disch := omega) only [go_sem, ↓reduceIte, reduceIte, Nat.reduceAdd, Nat.reduceLT, Nat.reduceEqDiff, Nat.reduceLeDiff, Nat.reduceMul]
  refine loop_of f21L39_is (fun M : Nat => ⟨[(12, .int .i64 M), (11, .int .i64 P), (10, .own 10), (1, .sl (l.map Sale.av)), (5, .ad 5 0 0), (0, .sl (ps.map Product.av))], [(10, .arr 52 3 ((allG ps l ⟨wa, wb⟩ P ++ rowG ps l ⟨wa, wb⟩ P M).map Placing.av)), (5, .box [.int .i64 wa, .int .i64 wb])]⟩)
    (fun M => M ≤ 16) (fun M => 16 - M) 0 (by decide) (le_intro (by simp only [allLook, allLookM, go_sem, ↓reduceIte, reduceIte, Nat.reduceAdd, Nat.reduceLT, Nat.reduceEqDiff, Nat.reduceLeDiff, Nat.reduceMul, show rowG ps l ⟨wa, wb⟩ P 0 = [] from rfl, List.append_nil]; try simp) (by simp only [allLook, allLookM, go_sem, ↓reduceIte, reduceIte, Nat.reduceAdd, Nat.reduceLT, Nat.reduceEqDiff, Nat.reduceLeDiff, Nat.reduceMul, show rowG ps l ⟨wa, wb⟩ P 0 = [] from rfl, List.append_nil]; try simp)) ?_
  rintro M R' hM hR'
  have hrl := rowG_len ps l ⟨wa, wb⟩ P M
  simp (maxSteps := 2000000) (disch := omega) only [go_sem, ↓reduceIte, reduceIte, Nat.reduceAdd, Nat.reduceLT, Nat.reduceEqDiff, Nat.reduceLeDiff, Nat.reduceMul]
  refine cA_d (fun h4 => ?_) (fun h4 => ?_)
  case refine_2 =>
    have : M = 16 := by omega
    subst this
    simp (maxSteps := 2000000) (disch := omega) only [go_sem, ↓reduceIte, reduceIte, Nat.reduceAdd, Nat.reduceLT, Nat.reduceEqDiff, Nat.reduceLeDiff, Nat.reduceMul]
    refine hR (P + 1) _ (by omega) (by omega) ?_
    rw [allG_succ]
    exact (le_intro (by simp only [allLook, allLookM, go_sem, ↓reduceIte, reduceIte, Nat.reduceAdd, Nat.reduceLT, Nat.reduceEqDiff, Nat.reduceLeDiff, Nat.reduceMul]; try simp) (by simp only [allLook, allLookM, go_sem, ↓reduceIte, reduceIte, Nat.reduceAdd, Nat.reduceLT, Nat.reduceEqDiff, Nat.reduceLeDiff, Nat.reduceMul]; try simp))
  simp (maxSteps := 2000000) (disch := omega) only [go_sem, ↓reduceIte, reduceIte, Nat.reduceAdd, Nat.reduceLT, Nat.reduceEqDiff, Nat.reduceLeDiff, Nat.reduceMul]
  refine loop_of f21L49_is (fun i : Nat => ⟨[(14, .int .i64 i), (13, .int .i64 (totG ps ⟨wa, wb⟩ P M (l.take i))), (12, .int .i64 M), (11, .int .i64 P), (10, .own 10), (1, .sl (l.map Sale.av)), (5, .ad 5 0 0), (0, .sl (ps.map Product.av))], [(10, .arr 52 3 ((allG ps l ⟨wa, wb⟩ P ++ rowG ps l ⟨wa, wb⟩ P M).map Placing.av)), (5, .box [.int .i64 wa, .int .i64 wb])]⟩)
    (fun i => i ≤ l.length) (fun i => l.length - i) 0 (Nat.zero_le _) (le_intro (by simp only [allLook, allLookM, go_sem, ↓reduceIte, reduceIte, Nat.reduceAdd, Nat.reduceLT, Nat.reduceEqDiff, Nat.reduceLeDiff, Nat.reduceMul, List.take_zero, show totG ps ⟨wa, wb⟩ P M [] = 0 from rfl]; try simp) (by simp only [allLook, allLookM, go_sem, ↓reduceIte, reduceIte, Nat.reduceAdd, Nat.reduceLT, Nat.reduceEqDiff, Nat.reduceLeDiff, Nat.reduceMul, List.take_zero, show totG ps ⟨wa, wb⟩ P M [] = 0 from rfl]; try simp)) ?_
  rintro i Q hi hQ
  have htb := totG_bd (w := ⟨wa, wb⟩) (P := P) (M := M) (l.take i) (fun x hx => hgood x (List.mem_of_mem_take hx))
  have htl : (l.take i).length ≤ 512 := by simp; omega
  simp (maxSteps := 2000000) (disch := omega) only [go_sem, ↓reduceIte, reduceIte, Nat.reduceAdd, Nat.reduceLT, Nat.reduceEqDiff, Nat.reduceLeDiff, Nat.reduceMul]
  refine cA_d (fun h5 => ?_) (fun h5 => ?_)
  · have hlt : i < l.length := by omega
    have hxm := List.getElem_mem hlt
    have hx := hl l[i] hxm
    unfold Sale.ok In64 at hx
    have hgx := hgd l[i] hxm
    have hge := prodOf_get (ps := ps) (x := l[i]) (by omega) (by omega)
    have hcb := cell_bd hgx.1
    have htt := totG_take ps ⟨wa, wb⟩ P M l i hlt
    unfold inW at htt
    simp only at htt
    (repeat' (first | refine gA_dt (fun h => ?_) (fun h => ?_) | refine gA_df (fun h => ?_) (fun h => ?_) | refine cA_d (fun h => ?_) (fun h => ?_) | (exfalso; omega) | refine idxS_map i rfl hlt (fun _ => rfl) ?_ | refine idxS_map l[i].p.toNat (by omega) (by omega) (fun _ => rfl) ?_ | simp (maxSteps := 2000000) (disch := omega) only [go_sem, ↓reduceIte, reduceIte, Nat.reduceAdd, Nat.reduceLT, Nat.reduceEqDiff, Nat.reduceLeDiff, Nat.reduceMul, ← hge, Product.av, Sale.av]))
    all_goals first
      | (rw [if_pos (by omega)] at htt; refine hQ (i + 1) _ hlt (by omega) ?_; rw [htt]; exact (le_intro (by simp only [allLook, allLookM, go_sem, ↓reduceIte, reduceIte, Nat.reduceAdd, Nat.reduceLT, Nat.reduceEqDiff, Nat.reduceLeDiff, Nat.reduceMul]; try simp) (by simp only [allLook, allLookM, go_sem, ↓reduceIte, reduceIte, Nat.reduceAdd, Nat.reduceLT, Nat.reduceEqDiff, Nat.reduceLeDiff, Nat.reduceMul]; try simp)))
      | (rw [if_neg (by omega), Int.add_zero] at htt; refine hQ (i + 1) _ hlt (by omega) ?_; rw [htt]; exact (le_intro (by simp only [allLook, allLookM, go_sem, ↓reduceIte, reduceIte, Nat.reduceAdd, Nat.reduceLT, Nat.reduceEqDiff, Nat.reduceLeDiff, Nat.reduceMul]; try simp) (by simp only [allLook, allLookM, go_sem, ↓reduceIte, reduceIte, Nat.reduceAdd, Nat.reduceLT, Nat.reduceEqDiff, Nat.reduceLeDiff, Nat.reduceMul]; try simp)))
  · have hil : i = l.length := by omega
    subst hil
    rw [List.take_length] at htb ⊢
    have hrs := rowG_succ ps l ⟨wa, wb⟩ P M
    simp (maxSteps := 2000000) (disch := omega) only [go_sem, ↓reduceIte, reduceIte, Nat.reduceAdd, Nat.reduceLT, Nat.reduceEqDiff, Nat.reduceLeDiff, Nat.reduceMul]
    refine cA_d (fun h6 => ?_) (fun h6 => ?_)
    · rw [if_pos h6] at hrs
      simp (maxSteps := 2000000) (disch := omega) only [go_sem, ↓reduceIte, reduceIte, Nat.reduceAdd, Nat.reduceLT, Nat.reduceEqDiff, Nat.reduceLeDiff, Nat.reduceMul]
      refine bsK_intro (xs := [.agg [.int .i64 P, .int .i64 M, .int .i64 (totG ps ⟨wa, wb⟩ P M l)]]) rfl (by decide) (by decide) (by rfl) ?_
      simp (maxSteps := 2000000) (disch := omega) only [go_sem, ↓reduceIte, reduceIte, Nat.reduceAdd, Nat.reduceLT, Nat.reduceEqDiff, Nat.reduceLeDiff, Nat.reduceMul]
      refine appendA_of (ty := 52) (k := 3) (bytes := 24) (z := [.int .i64 0, .int .i64 0, .int .i64 0]) (by kernel_rfl) (by kernel_rfl) (by kernel_rfl) rfl ?_
      simp (maxSteps := 2000000) (disch := omega) only [go_sem, ↓reduceIte, reduceIte, Nat.reduceAdd, Nat.reduceLT, Nat.reduceEqDiff, Nat.reduceLeDiff, Nat.reduceMul]
      refine appO_few (by decide) (by decide) (by simp) (by simp [AV.cells]) (by simp; omega) ?_
      simp (maxSteps := 2000000) (disch := omega) only [go_sem, ↓reduceIte, reduceIte, Nat.reduceAdd, Nat.reduceLT, Nat.reduceEqDiff, Nat.reduceLeDiff, Nat.reduceMul]
      refine hR' (M + 1) _ (by omega) (by omega) ?_
      rw [hrs, ← List.append_assoc, List.map_append (l₁ := allG ps l ⟨wa, wb⟩ P ++ rowG ps l ⟨wa, wb⟩ P M)]
      exact (le_intro (by simp only [allLook, allLookM, go_sem, ↓reduceIte, reduceIte, Nat.reduceAdd, Nat.reduceLT, Nat.reduceEqDiff, Nat.reduceLeDiff, Nat.reduceMul, Placing.av, List.map_cons, List.map_nil]; try simp) (by simp only [allLook, allLookM, go_sem, ↓reduceIte, reduceIte, Nat.reduceAdd, Nat.reduceLT, Nat.reduceEqDiff, Nat.reduceLeDiff, Nat.reduceMul, Placing.av, List.map_cons, List.map_nil]; try simp))
    · rw [if_neg h6, List.append_nil] at hrs
      simp (maxSteps := 2000000) (disch := omega) only [go_sem, ↓reduceIte, reduceIte, Nat.reduceAdd, Nat.reduceLT, Nat.reduceEqDiff, Nat.reduceLeDiff, Nat.reduceMul]
      refine hR' (M + 1) _ (by omega) (by omega) ?_
      rw [hrs]
      exact (le_intro (by simp only [allLook, allLookM, go_sem, ↓reduceIte, reduceIte, Nat.reduceAdd, Nat.reduceLT, Nat.reduceEqDiff, Nat.reduceLeDiff, Nat.reduceMul]; try simp) (by simp only [allLook, allLookM, go_sem, ↓reduceIte, reduceIte, Nat.reduceAdd, Nat.reduceLT, Nat.reduceEqDiff, Nat.reduceLeDiff, Nat.reduceMul]; try simp))
end Go.Proofs.Ytpclkldmkmmmhaa
