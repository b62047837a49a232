import Derived.Test.YtpclkldmkmmmhaaS21
namespace Go.Proofs.Ytpclkldmkmmmhaa
open Go Go.AI Go.Proofs
set_option linter.unusedSimpArgs false
set_option linter.unusedVariables false
set_option maxRecDepth 4000
theorem sumP_drop (a : List Placing) (i : Nat) (h : i < a.length) : sumP (a.drop i) = a[i].g + sumP (a.drop (i + 1)) := by
  rw [List.drop_eq_getElem_cons h]; rfl
set_option maxHeartbeats 8000000 in
theorem law8_ok (ps : List Product) (l : List Sale) (w : Win) (mid : Int) (hp : ∀ x ∈ ps, x.ok) (hl : ∀ x ∈ l, x.ok) (hw : w.ok) (hmid : In64 mid) : CallsTo Try.prog 8 [.sl (ps.map Product.av), .sl (l.map Sale.av), w.av, .int .i64 mid] [.p (.bool true)] := by
  obtain ⟨wa, wb⟩ := w
  have hw' := hw
  unfold Win.ok In64 at hw'
  simp only at hw'
  unfold In64 at hmid
  refine f8_calls (Nat.le_of_ble_eq_true rfl) ?_
  simp (maxSteps := 2000000) (disch := omega) only [go_sem, ↓reduceIte, reduceIte, Nat.reduceAdd, Nat.reduceLT, Nat.reduceEqDiff, Nat.reduceLeDiff, Nat.reduceMul, Win.av]
  refine call_1 (few_ok ps l) (by rfl) (by rfl) ?_
  simp (maxSteps := 2000000) (disch := omega) only [go_sem, ↓reduceIte, reduceIte, Nat.reduceAdd, Nat.reduceLT, Nat.reduceEqDiff, Nat.reduceLeDiff, Nat.reduceMul]
  refine cA_d (fun h => ?_) (fun h => ?_)
  · simp (maxSteps := 2000000) (disch := omega) only [go_sem, ↓reduceIte, reduceIte, Nat.reduceAdd, Nat.reduceLT, Nat.reduceEqDiff, Nat.reduceLeDiff, Nat.reduceMul]
    refine call_1 awake13_ok (by rfl) (by rfl) ?_
    simp (maxSteps := 2000000) (disch := omega) only [go_sem, ↓reduceIte, reduceIte, Nat.reduceAdd, Nat.reduceLT, Nat.reduceEqDiff, Nat.reduceLeDiff, Nat.reduceMul]
  have h' : ps.length ≤ 200 ∧ l.length ≤ 600 := Decidable.not_not.1 h
  have hc := placed20_ok ps l ⟨wa, wb⟩ hp hl hw (by omega) (by omega)
  by_cases he : (placedS ps l ⟨wa, wb⟩).2 = 0
  case neg =>
    have h0 : (placedS ps l ⟨wa, wb⟩).1 = [] := by
      unfold placedS at he ⊢
      split
      · rfl
      · rename_i h1
        rw [if_neg h1] at he
        split
        · rfl
        · rename_i h2
          rw [if_neg h2] at he
          split
          · rfl
          · rename_i h3
            rw [if_neg h3] at he
            exact absurd rfl he
    rw [h0] at hc
    simp (maxSteps := 2000000) (disch := omega) only [go_sem, ↓reduceIte, reduceIte, Nat.reduceAdd, Nat.reduceLT, Nat.reduceEqDiff, Nat.reduceLeDiff, Nat.reduceMul]
    refine call_f2 hc (by rfl) (by rfl) ?_
    simp (maxSteps := 2000000) (disch := omega) only [go_sem, ↓reduceIte, reduceIte, Nat.reduceAdd, Nat.reduceLT, Nat.reduceEqDiff, Nat.reduceLeDiff, Nat.reduceMul]
    refine cA_d (fun h1 => ?_) (fun h1 => absurd he h1)
    simp (maxSteps := 2000000) (disch := omega) only [go_sem, ↓reduceIte, reduceIte, Nat.reduceAdd, Nat.reduceLT, Nat.reduceEqDiff, Nat.reduceLeDiff, Nat.reduceMul, List.map_nil, Int.reduceEq, Int.natCast_zero, Int.ofNat_zero]
    refine call_1 awake13_ok (by rfl) (by rfl) ?_
    simp (maxSteps := 2000000) (disch := omega) only [go_sem, ↓reduceIte, reduceIte, Nat.reduceAdd, Nat.reduceLT, Nat.reduceEqDiff, Nat.reduceLeDiff, Nat.reduceMul]
  have hcond : ¬ (wa < 0 ∨ wb < wa ∨ 3155760000 < wb) ∧ ¬ 512 < l.length ∧ badG ps l = 0 := by
    unfold placedS at he
    split at he
    · simp at he
    · rename_i h1
      split at he
      · simp at he
      · rename_i h2
        split at he
        · rename_i h3; exact absurd he h3
        · rename_i h3; exact ⟨h1, h2, Decidable.not_not.1 h3⟩
  obtain ⟨hc1, hc2, hc3⟩ := hcond
  have hpl : ∀ a b : Int, 0 ≤ a → a ≤ b → b ≤ 3155760000 → placedS ps l ⟨a, b⟩ = (allG ps l ⟨a, b⟩ 32, 0) := by
    intro a b h1 h2 h3
    unfold placedS
    rw [if_neg (by simp only; omega), if_neg hc2, if_neg (by rw [hc3]; simp)]
  rw [hpl wa wb (by omega) (by omega) (by omega)] at hc
  simp only at hc
  have hgd := badG_zero hc3
  have hgood : ∀ x ∈ l, goodX ps x := fun x hx => (hgd x hx).1
  have hsum := sumP_want (w := ⟨wa, wb⟩) hgood
  have hsrt := List.pairwise_iff_getElem.1 (allG_sorted ps l ⟨wa, wb⟩ 32)
  have hlen := allG_len ps l ⟨wa, wb⟩ 32
  have hmem : ∀ y ∈ allG ps l ⟨wa, wb⟩ 32, 0 ≤ y.pr ∧ y.pr < 32 ∧ 0 ≤ y.mat ∧ y.mat < 16 ∧ 1 ≤ y.g ∧ y.g = totG ps ⟨wa, wb⟩ y.pr y.mat l := by
    intro y hy
    obtain ⟨P, M, q1, q2, q3, rfl⟩ := mem_allG.1 hy
    exact ⟨by simp, by simp; omega, by simp, by simp; omega, q3, rfl⟩
  have hwb := wantG_bd (w := ⟨wa, wb⟩) l hgood
  simp (maxSteps := 2000000) (disch := omega) only [go_sem, ↓reduceIte, reduceIte, Nat.reduceAdd, Nat.reduceLT, Nat.reduceEqDiff, Nat.reduceLeDiff, Nat.reduceMul]
  refine call_f2 hc (by rfl) (by rfl) ?_
  simp (maxSteps := 2000000) (disch := omega) only [go_sem, ↓reduceIte, reduceIte, Nat.reduceAdd, Nat.reduceLT, Nat.reduceEqDiff, Nat.reduceLeDiff, Nat.reduceMul, Int.reduceEq, Int.reduceNe, not_true_eq_false, ne_eq]
  refine cA_d (fun h1 => absurd h1 (by omega)) (fun h1 => ?_)
  simp (maxSteps := 2000000) (disch := omega) only [go_sem, ↓reduceIte, reduceIte, Nat.reduceAdd, Nat.reduceLT, Nat.reduceEqDiff, Nat.reduceLeDiff, Nat.reduceMul]
  refine loop_of f8L18_is (fun i : Nat => ⟨[(12, .int .i64 i), (11, .int .i64 (wantG ps ⟨wa, wb⟩ (l.take i))), (9, .own 29), (6, .ad 6 0 0), (0, .sl (ps.map Product.av)), (1, .sl (l.map Sale.av)), (3, .int .i64 mid)], [(29, .arr 52 3 ((allG ps l ⟨wa, wb⟩ 32).map Placing.av)), (6, .box [.int .i64 wa, .int .i64 wb])]⟩)
    (fun i => i ≤ l.length) (fun i => l.length - i) 0 (Nat.zero_le _) (le_intro (by simp only [allLook, allLookM, go_sem, ↓reduceIte, reduceIte, Nat.reduceAdd, Nat.reduceLT, Nat.reduceEqDiff, Nat.reduceLeDiff, Nat.reduceMul, List.take_zero, show wantG ps ⟨wa, wb⟩ [] = 0 from rfl]; try simp) (by simp only [allLook, allLookM, go_sem, ↓reduceIte, reduceIte, Nat.reduceAdd, Nat.reduceLT, Nat.reduceEqDiff, Nat.reduceLeDiff, Nat.reduceMul, List.take_zero, show wantG ps ⟨wa, wb⟩ [] = 0 from rfl]; try simp)) ?_
  rintro i R hi hR
  have htb := wantG_bd (w := ⟨wa, wb⟩) (l.take i) (fun x hx => hgood x (List.mem_of_mem_take hx))
  have htl : (l.take i).length ≤ 512 := by simp; omega
  simp (maxSteps := 2000000) (disch := omega) only [go_sem, ↓reduceIte, reduceIte, Nat.reduceAdd, Nat.reduceLT, Nat.reduceEqDiff, Nat.reduceLeDiff, Nat.reduceMul]
  refine cA_d (fun h2 => ?_) (fun h2 => ?_)
  · have hlt : i < l.length := by omega
    have hxm := List.getElem_mem hlt
    have hx := hl l[i] hxm
    unfold Sale.ok In64 at hx
    have hgx := hgd l[i] hxm
    have hge := prodOf_get (ps := ps) (x := l[i]) (by omega) (by omega)
    have hcb := cell_bd hgx.1
    have hgu := hgx.1
    unfold goodX Product.use at hgu
    have htt := wantG_append ps ⟨wa, wb⟩ (l.take i) l[i]
    rw [List.take_append_getElem hlt] at htt
    have hiw : inW ⟨wa, wb⟩ l[i] ↔ wa ≤ l[i].t ∧ l[i].t < wb := Iff.rfl
    (repeat' (first | refine gA_dt (fun h => ?_) (fun h => ?_) | refine gA_df (fun h => ?_) (fun h => ?_) | refine cA_d (fun h => ?_) (fun h => ?_) | (exfalso; omega) | refine idxS_map i rfl hlt (fun _ => rfl) ?_ | refine idxS_map l[i].p.toNat (by omega) (by omega) (fun _ => rfl) ?_ | simp (maxSteps := 2000000) (disch := omega) only [go_sem, ↓reduceIte, reduceIte, Nat.reduceAdd, Nat.reduceLT, Nat.reduceEqDiff, Nat.reduceLeDiff, Nat.reduceMul, ← hge, Product.av, Sale.av]))
    all_goals first
      | (rw [if_pos (hiw.2 (by omega))] at htt; refine hR (i + 1) _ hlt (by omega) ?_; rw [htt]; exact (le_intro (by simp only [allLook, allLookM, go_sem, ↓reduceIte, reduceIte, Nat.reduceAdd, Nat.reduceLT, Nat.reduceEqDiff, Nat.reduceLeDiff, Nat.reduceMul]; try simp) (by simp only [allLook, allLookM, go_sem, ↓reduceIte, reduceIte, Nat.reduceAdd, Nat.reduceLT, Nat.reduceEqDiff, Nat.reduceLeDiff, Nat.reduceMul]; try simp)))
      | (rw [if_neg (fun hh => absurd (hiw.1 hh) (by omega)), Int.add_zero] at htt; refine hR (i + 1) _ hlt (by omega) ?_; rw [htt]; exact (le_intro (by simp only [allLook, allLookM, go_sem, ↓reduceIte, reduceIte, Nat.reduceAdd, Nat.reduceLT, Nat.reduceEqDiff, Nat.reduceLeDiff, Nat.reduceMul]; try simp) (by simp only [allLook, allLookM, go_sem, ↓reduceIte, reduceIte, Nat.reduceAdd, Nat.reduceLT, Nat.reduceEqDiff, Nat.reduceLeDiff, Nat.reduceMul]; try simp)))
  have hil : i = l.length := by omega
  subst hil
  rw [List.take_length] at htb ⊢
  clear hR
  rw [← hsum] at htb hwb ⊢
  simp (maxSteps := 2000000) (disch := omega) only [go_sem, ↓reduceIte, reduceIte, Nat.reduceAdd, Nat.reduceLT, Nat.reduceEqDiff, Nat.reduceLeDiff, Nat.reduceMul]
  have hgr : ∀ y ∈ allG ps l ⟨wa, wb⟩ 32, ∀ b c : Int, wa ≤ mid → mid ≤ wb → gramsG y (allG ps l ⟨wa, mid⟩ 32) + gramsG y (allG ps l ⟨mid, wb⟩ 32) = y.g ∧ 0 ≤ gramsG y (allG ps l ⟨wa, mid⟩ 32) ∧ 0 ≤ gramsG y (allG ps l ⟨mid, wb⟩ 32) := by
    intro y hy b c h1 h2
    obtain ⟨q1, q2, q3, q4, q5, q6⟩ := hmem y hy
    rw [grams_all hgood ⟨q1, q2⟩ ⟨q3, q4⟩, grams_all hgood ⟨q1, q2⟩ ⟨q3, q4⟩]
    have := totG_split (ps := ps) h1 h2 y.pr y.mat l
    exact ⟨by omega, (totG_bd l hgood).1, (totG_bd l hgood).1⟩
  have hgle : ∀ y ∈ allG ps l ⟨wa, wb⟩ 32, y.g ≤ 5120000000 := by
    intro y hy
    have := (hmem y hy).2.2.2.2.2
    have := (totG_bd (w := ⟨wa, wb⟩) (P := y.pr) (M := y.mat) l hgood).2
    omega
  have hnn : ∀ y ∈ allG ps l ⟨wa, wb⟩ 32, 0 ≤ y.g := fun y hy => by have := hmem y hy; omega
  generalize ha : allG ps l ⟨wa, wb⟩ 32 = a at *
  refine loop_of f8L36_is (fun i : Nat => ⟨[(14, .int .i64 i), (11, .int .i64 (sumP (a.drop i))), (9, .own 29), (6, .ad 6 0 0), (0, .sl (ps.map Product.av)), (1, .sl (l.map Sale.av)), (3, .int .i64 mid)], [(29, .arr 52 3 (a.map Placing.av)), (6, .box [.int .i64 wa, .int .i64 wb])]⟩)
    (fun i => i ≤ a.length ∧ 0 ≤ sumP (a.drop i) ∧ sumP (a.drop i) ≤ 5120000000) (fun i => a.length - i) 0 ⟨Nat.zero_le _, by simpa using htb.1, by simp; omega⟩ (le_intro (by simp only [allLook, allLookM, go_sem, ↓reduceIte, reduceIte, Nat.reduceAdd, Nat.reduceLT, Nat.reduceEqDiff, Nat.reduceLeDiff, Nat.reduceMul, List.drop_zero]; try simp) (by simp only [allLook, allLookM, go_sem, ↓reduceIte, reduceIte, Nat.reduceAdd, Nat.reduceLT, Nat.reduceEqDiff, Nat.reduceLeDiff, Nat.reduceMul, List.drop_zero]; try simp)) ?_
  rintro i R ⟨hi, hs1, hs2⟩ hR
  simp (maxSteps := 2000000) (disch := omega) only [go_sem, ↓reduceIte, reduceIte, Nat.reduceAdd, Nat.reduceLT, Nat.reduceEqDiff, Nat.reduceLeDiff, Nat.reduceMul]
  refine cA_d (fun h3 => ?_) (fun h3 => ?_)
  · have hlt : i < a.length := by omega
    have hsd := sumP_drop a i hlt
    have hy := hmem a[i] (List.getElem_mem hlt)
    have hnr := sumP_nonneg (a.drop (i + 1)) (fun y hy => hnn y (List.mem_of_mem_drop hy))
    have hpl1 : 0 < i → plt (a[i - 1]'(by omega)) a[i] := fun h0 => hsrt (i - 1) i (by omega) hlt (by omega)
    unfold plt at hpl1
    (repeat' (first | simp (maxSteps := 2000000) (disch := omega) only [go_sem, ↓reduceIte, reduceIte, Nat.reduceAdd, Nat.reduceLT, Nat.reduceEqDiff, Nat.reduceLeDiff, Nat.reduceMul, Placing.av] | refine gA_dt (fun h => ?_) (fun h => ?_) | refine gA_df (fun h => ?_) (fun h => ?_) | refine cA_d (fun h => ?_) (fun h => ?_) | (exfalso; omega) | refine idxO_map i rfl hlt ?_ | refine idxO_map (i - 1) (by omega) (by omega) ?_ | refine at_map hlt ?_ | refine at_map (show i - 1 < a.length by omega) ?_))
    all_goals
      refine hR (i + 1) _ ⟨hlt, hnr, by omega⟩ (by omega) ?_
      rw [show sumP (a.drop (i + 1)) = sumP (a.drop i) - a[i].g by omega]
      exact (le_intro (by simp only [allLook, allLookM, go_sem, ↓reduceIte, reduceIte, Nat.reduceAdd, Nat.reduceLT, Nat.reduceEqDiff, Nat.reduceLeDiff, Nat.reduceMul]; try simp) (by simp only [allLook, allLookM, go_sem, ↓reduceIte, reduceIte, Nat.reduceAdd, Nat.reduceLT, Nat.reduceEqDiff, Nat.reduceLeDiff, Nat.reduceMul]; try simp))
  have hil : i = a.length := by omega
  subst hil
  have hd0 : sumP (a.drop a.length) = 0 := by simp [sumP]
  rw [hd0]
  clear hR
  simp (maxSteps := 2000000) (disch := omega) only [go_sem, ↓reduceIte, reduceIte, Nat.reduceAdd, Nat.reduceLT, Nat.reduceEqDiff, Nat.reduceLeDiff, Nat.reduceMul, Int.reduceEq, Int.reduceNe, not_true_eq_false, ne_eq]
  (repeat' (first | (exfalso; omega) | refine gA_dt (fun h => ?_) (fun h => ?_) | refine gA_df (fun h => ?_) (fun h => ?_) | refine cA_d (fun h => ?_) (fun h => ?_) | simp (maxSteps := 2000000) (disch := omega) only [go_sem, ↓reduceIte, reduceIte, Nat.reduceAdd, Nat.reduceLT, Nat.reduceEqDiff, Nat.reduceLeDiff, Nat.reduceMul] | refine call_1 awake13_ok (by rfl) (by rfl) ?_))
  have hm1 : wa ≤ mid ∧ mid ≤ wb := by omega
  have hb := placed20_ok ps l ⟨wa, mid⟩ hp hl (by unfold Win.ok In64; simp only; omega) (by omega) (by omega)
  have hd := placed20_ok ps l ⟨mid, wb⟩ hp hl (by unfold Win.ok In64; simp only; omega) (by omega) (by omega)
  rw [hpl wa mid (by omega) (by omega) (by omega)] at hb
  rw [hpl mid wb (by omega) (by omega) (by omega)] at hd
  simp only at hb hd
  have hlb := allG_len ps l ⟨wa, mid⟩ 32
  have hld := allG_len ps l ⟨mid, wb⟩ 32
  refine call_f2 hb (by rfl) (by rfl) ?_
  simp (maxSteps := 2000000) (disch := omega) only [go_sem, ↓reduceIte, reduceIte, Nat.reduceAdd, Nat.reduceLT, Nat.reduceEqDiff, Nat.reduceLeDiff, Nat.reduceMul]
  refine call_f2 hd (by rfl) (by rfl) ?_
  simp (maxSteps := 2000000) (disch := omega) only [go_sem, ↓reduceIte, reduceIte, Nat.reduceAdd, Nat.reduceLT, Nat.reduceEqDiff, Nat.reduceLeDiff, Nat.reduceMul, Int.reduceEq, Int.reduceNe, not_true_eq_false, ne_eq]
  refine loop_of f8L69_is (fun i : Nat => ⟨[(19, .int .i64 i), (17, .own 227), (15, .own 217), (9, .own 29), (6, .ad 6 0 0), (0, .sl (ps.map Product.av)), (1, .sl (l.map Sale.av)), (3, .int .i64 mid)], [(227, .arr 52 3 ((allG ps l ⟨mid, wb⟩ 32).map Placing.av)), (217, .arr 52 3 ((allG ps l ⟨wa, mid⟩ 32).map Placing.av)), (29, .arr 52 3 (a.map Placing.av)), (6, .box [.int .i64 wa, .int .i64 wb])]⟩)
    (fun i => i ≤ a.length) (fun i => a.length - i) 0 (Nat.zero_le _) (le_intro (by simp only [allLook, allLookM, go_sem, ↓reduceIte, reduceIte, Nat.reduceAdd, Nat.reduceLT, Nat.reduceEqDiff, Nat.reduceLeDiff, Nat.reduceMul]; try simp) (by simp only [allLook, allLookM, go_sem, ↓reduceIte, reduceIte, Nat.reduceAdd, Nat.reduceLT, Nat.reduceEqDiff, Nat.reduceLeDiff, Nat.reduceMul]; try simp)) ?_
  rintro i R hi2 hR
  simp (maxSteps := 2000000) (disch := omega) only [go_sem, ↓reduceIte, reduceIte, Nat.reduceAdd, Nat.reduceLT, Nat.reduceEqDiff, Nat.reduceLeDiff, Nat.reduceMul]
  refine cA_d (fun h7 => ?_) (fun h7 => ?_)
  · have hlt : i < a.length := by omega
    have hy := List.getElem_mem hlt
    have hg3 := hgr a[i] hy 0 0 hm1.1 hm1.2
    have hg4 := hgle a[i] hy
    have hcb := grams26_ok (allG ps l ⟨wa, mid⟩ 32) a[i] (by omega)
    have hcd := grams26_ok (allG ps l ⟨mid, wb⟩ 32) a[i] (by omega)
    (repeat' (first | simp (maxSteps := 2000000) (disch := omega) only [go_sem, ↓reduceIte, reduceIte, Nat.reduceAdd, Nat.reduceLT, Nat.reduceEqDiff, Nat.reduceLeDiff, Nat.reduceMul, Placing.av] | refine idxO_map i rfl hlt ?_ | refine at_map hlt ?_ | refine callq_1 (by rfl) hcb (by rfl) ?_ | refine callq_1 (by rfl) hcd (by rfl) ?_ | refine gA_dt (fun h => ?_) (fun h => ?_) | refine gA_df (fun h => ?_) (fun h => ?_) | refine cA_d (fun h => ?_) (fun h => ?_) | (exfalso; omega)))
    all_goals
      refine hR (i + 1) _ hlt (by omega) ?_
      exact (le_intro (by simp only [allLook, allLookM, go_sem, ↓reduceIte, reduceIte, Nat.reduceAdd, Nat.reduceLT, Nat.reduceEqDiff, Nat.reduceLeDiff, Nat.reduceMul]; try simp) (by simp only [allLook, allLookM, go_sem, ↓reduceIte, reduceIte, Nat.reduceAdd, Nat.reduceLT, Nat.reduceEqDiff, Nat.reduceLeDiff, Nat.reduceMul]; try simp))
  simp (maxSteps := 2000000) (disch := omega) only [go_sem, ↓reduceIte, reduceIte, Nat.reduceAdd, Nat.reduceLT, Nat.reduceEqDiff, Nat.reduceLeDiff, Nat.reduceMul]
  refine call_1 awake13_ok (by rfl) (by rfl) ?_
  simp (maxSteps := 2000000) (disch := omega) only [go_sem, ↓reduceIte, reduceIte, Nat.reduceAdd, Nat.reduceLT, Nat.reduceEqDiff, Nat.reduceLeDiff, Nat.reduceMul]
end Go.Proofs.Ytpclkldmkmmmhaa
