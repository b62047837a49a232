import Derived.Test.YtoimcbimkfbkpaaDoorWB
import Derived.Test.YtoimcbimkfbkpaaDoorLN
import Derived.Test.YtoimcbimkfbkpaaDoorBR3
namespace Go.Proofs.YtoimcbimkfbkpaaDoor
open Go Go.AI Go.Proofs Go.Sort Go.RowKit
set_option linter.unusedSimpArgs false
set_option linter.unusedVariables false
set_option maxRecDepth 4000
theorem below_grow (w : World) (k : Nat) (os : Array Obj) : Go.AI.Below w.heap.size w (grow (w.drewN k) os) := by
  refine ⟨rfl, rfl, rfl, ?_, Nat.le_refl 0, fun i hi => ?_⟩
  · simp [grow, World.drewN]
  · simp [grow, World.drewN, Array.getElem?_append_left hi]
theorem tab0_is : lkG (globL Tryd.prog) 0 = some (Lib.pow10Tab.map (AV.int .u64)) := by kernel_rfl
theorem pow10_is {S : Nat → Prop} {w : World} (hG : GlobOk Tryd.prog S w) : Lib.TabIs Tryd.prog w "internal/strconv.uint64pow10" .u64 Lib.pow10Tab :=
  tabIs_of_glob hG tab0_is (by kernel_rfl)
theorem dec_len : ∀ (k u : Nat), u < 10 ^ (k + 1) → (Lib.decDigits u).length ≤ k + 1
  | 0, u, h => by
    rw [Lib.decDigits, dif_pos (by omega)]
    simp
  | k + 1, u, h => by
    rw [Lib.decDigits]
    split
    · simp
    · have := dec_len k (u / 10) (by rw [Nat.pow_succ] at h; omega)
      rw [List.length_append, List.length_singleton]
      omega
theorem dig_nat {i : Nat} (h : i < 10) : (UInt8.ofNat (48 + i)).toNat = 48 + i := by
  rw [UInt8.toNat_ofNat']
  omega
theorem dec_facts : ∀ u : Nat, (Lib.decDigits u).all isD = true ∧ val (Lib.decDigits u) 0 = u ∧ Lib.decDigits u ≠ [] ∧ (0 < u → (Lib.decDigits u).head? ≠ some 48) := by
  intro u
  induction u using Nat.strongRecOn with
  | ind u ih =>
    rw [Lib.decDigits]
    split
    · rename_i h
      have hd := dig_nat h
      refine ⟨?_, ?_, by simp, fun h0 => ?_⟩
      · simp only [List.all_cons, List.all_nil, Bool.and_true, isD, decide_eq_true_eq]
        omega
      · simp only [val]
        omega
      · simp only [List.head?_cons, ne_eq, Option.some.injEq]
        intro q
        rw [q] at hd
        have : (48 : UInt8).toNat = 48 := rfl
        omega
    · rename_i h
      obtain ⟨h1, h2, h3, h4⟩ := ih (u / 10) (by omega)
      have hd := dig_nat (i := u % 10) (by omega)
      refine ⟨?_, ?_, by simp, fun h0 => ?_⟩
      · rw [List.all_append, h1, Bool.true_and]
        simp only [List.all_cons, List.all_nil, Bool.and_true, isD, decide_eq_true_eq]
        omega
      · rw [val_app, h2]
        simp only [val]
        omega
      · obtain ⟨y, ys, hy⟩ := List.exists_cons_of_ne_nil h3
        have := h4 (by omega)
        rw [hy] at this ⊢
        simpa using this
theorem itoa_parts (n : Int) : (begMi (Lib.itoa n) = decide (n < 0)) ∧ digs (Lib.itoa n) = Lib.decDigits n.natAbs := by
  unfold Lib.itoa
  by_cases h : n < 0
  · rw [if_pos h, decide_eq_true h]
    have hb : begMi (45 :: Lib.decDigits n.natAbs) = true := rfl
    exact ⟨hb, by unfold digs; rw [if_pos hb]; rfl⟩
  · rw [if_neg h, decide_eq_false h]
    have hn : n.toNat = n.natAbs := by omega
    rw [hn]
    have hb : begMi (Lib.decDigits n.natAbs) = false := by
      obtain ⟨h1, h2, h3, h4⟩ := dec_facts n.natAbs
      obtain ⟨y, ys, hy⟩ := List.exists_cons_of_ne_nil h3
      rw [hy] at h1 ⊢
      simp only [List.all_cons, Bool.and_eq_true, isD, decide_eq_true_eq] at h1
      unfold begMi
      simp only [List.head?_cons, Option.some.injEq, decide_eq_false_iff_not]
      intro q
      rw [q] at h1
      have : (45 : UInt8).toNat = 45 := rfl
      omega
    exact ⟨hb, digs_pos _ (by rw [hb]; simp)⟩
theorem num_itoa (n : Int) : numR (Lib.itoa n) = if n < -1000000000000 ∨ 1000000000000 < n then (0, 1) else (n, 0) := by
  obtain ⟨hb, hd⟩ := itoa_parts n
  obtain ⟨h1, h2, h3, h4⟩ := dec_facts n.natAbs
  unfold numR
  rw [if_neg, hd, if_pos h1, h2, hb]
  · by_cases h : n < -1000000000000 ∨ 1000000000000 < n
    · rw [if_pos h, if_pos (by omega)]
    · rw [if_neg h, if_neg (by omega)]
      by_cases h0 : n < 0
      · rw [if_pos (decide_eq_true h0)]; congr 1; omega
      · rw [if_neg (by simpa using h0)]; congr 1; omega
  · unfold badN
    rw [hd, hb]
    rintro (q | ⟨q1, q2⟩)
    · exact h3 q
    · have h0 : n.natAbs = 0 := by
        rcases Nat.eq_zero_or_pos n.natAbs with h | h
        · exact h
        · exact absurd q1 (h4 h)
      rcases q2 with q2 | q2
      · have := of_decide_eq_true q2; omega
      · rw [h0, Lib.decDigits, dif_pos (by omega)] at q2
        simp at q2
theorem num_zero (n : Int) : (numR (48 :: Lib.itoa n)).2 = 3 := by
  have hb : begMi (48 :: Lib.itoa n) = false := rfl
  have hd : digs (48 :: Lib.itoa n) = 48 :: Lib.itoa n := digs_pos _ (by rw [hb]; simp)
  have hne : 0 < (Lib.itoa n).length := by
    unfold Lib.itoa
    split
    · simp
    · exact List.length_pos_iff.2 (dec_facts _).2.2.1
  unfold numR
  rw [if_pos]
  unfold badN
  right
  rw [hd]
  exact ⟨rfl, .inr (by rw [List.length_cons]; omega)⟩
theorem itoa_len (n : Int) (h0 : -9223372036854775808 ≤ n) (h1 : n ≤ 9223372036854775807) : (Lib.itoa n).length ≤ 21 := by
  unfold Lib.itoa
  split
  · have := dec_len 19 n.natAbs (by omega)
    rw [List.length_cons]; omega
  · have := dec_len 19 n.toNat (by omega)
    omega
theorem itoa23_ok (n : Int) (h0 : -9223372036854775808 ≤ n) (h1 : n ≤ 9223372036854775807) : CallsTo Tryd.prog 23 [.int .i64 n] [.p (.str (Lib.itoa n))] := by
  refine ⟨enters_of Tryd.func23 (by kernel_rfl) rfl, fun S w args hS hG hr => ?_⟩
  match args, hr with
  | [v], .cons hv .nil =>
  cases hv
  refine (Any.strconv_Itoa itoaLay n h0 h1 w (pow10_is hG)).mono ?_
  rintro e w' ⟨rfl, k, os, rfl⟩
  have hl := itoa_len n h0 h1
  exact ⟨[_], rfl, below_grow w k os, S, fun _ h => h, fun _ h => .inl h, fun b hb => Nat.lt_of_lt_of_le (hS b hb) (below_grow w k os).size, .str _ (by unfold maxLen; omega), trivial⟩
set_option maxHeartbeats 4000000 in
theorem law10_ok (n : Int) (h0 : -9223372036854775808 ≤ n) (h1 : n ≤ 9223372036854775807) : CallsTo Tryd.prog 10 [.int .i64 n] [.p (.bool true)] := by
  refine f10_calls (Nat.le_of_ble_eq_true rfl) ?_
  have hl := itoa_len n h0 h1
  have hs := itoa23_ok n h0 h1
  have ha := number21_ok (Lib.itoa n) (by omega)
  have hz := number21_ok ([48] ++ Lib.itoa n) (by simp; omega)
  rw [show [48] ++ Lib.itoa n = 48 :: Lib.itoa n from rfl, num_zero] at hz
  rw [num_itoa] at ha
  obtain ⟨p, hp⟩ : ∃ p, p = if n < -1000000000000 ∨ 1000000000000 < n then ((0 : Int), (1 : Int)) else (n, 0) := ⟨_, rfl⟩
  rw [← hp] at ha
  generalize (numR (48 :: Lib.itoa n)).1 = zz at *
  generalize Lib.itoa n = s at *
  simp (maxSteps := 2000000) (disch := omega) only [go_sem, ↓reduceIte, reduceIte, Nat.reduceAdd, Nat.reduceLT, Nat.reduceEqDiff, Nat.reduceLeDiff, Nat.reduceMul]
  refine call_1 hs (by rfl) (by rfl) ?_
  simp (maxSteps := 2000000) (disch := omega) only [go_sem, ↓reduceIte, reduceIte, Nat.reduceAdd, Nat.reduceLT, Nat.reduceEqDiff, Nat.reduceLeDiff, Nat.reduceMul]
  refine call_2 ha (by rfl) (by rfl) ?_
  simp (maxSteps := 2000000) (disch := omega) only [go_sem, ↓reduceIte, reduceIte, Nat.reduceAdd, Nat.reduceLT, Nat.reduceEqDiff, Nat.reduceLeDiff, Nat.reduceMul]
  refine run_len (by unfold maxLen; simp; omega) ?_
  simp (maxSteps := 2000000) (disch := omega) only [go_sem, ↓reduceIte, reduceIte, Nat.reduceAdd, Nat.reduceLT, Nat.reduceEqDiff, Nat.reduceLeDiff, Nat.reduceMul]
  refine call_2 hz (by rfl) (by rfl) ?_
  simp (maxSteps := 2000000) (disch := omega) only [go_sem, ↓reduceIte, reduceIte, Nat.reduceAdd, Nat.reduceLT, Nat.reduceEqDiff, Nat.reduceLeDiff, Nat.reduceMul]
  refine cA_d (fun h => absurd trivial h) (fun _ => ?_)
  simp (maxSteps := 2000000) (disch := omega) only [go_sem, ↓reduceIte, reduceIte, Nat.reduceAdd, Nat.reduceLT, Nat.reduceEqDiff, Nat.reduceLeDiff, Nat.reduceMul]
  by_cases h5 : n < -1000000000000
  · rw [if_pos (.inl h5)] at hp
    subst hp
    (repeat' (first | simp (maxSteps := 2000000) (disch := omega) only [go_sem, ↓reduceIte, reduceIte, Nat.reduceAdd, Nat.reduceLT, Nat.reduceEqDiff, Nat.reduceLeDiff, Nat.reduceMul] | refine call_1 awake11_ok (by rfl) (by rfl) ?_ | refine gA_df (fun h => absurd h5 h) (fun _ => ?_) | refine gA_dt (fun _ => ?_) (fun h => absurd rfl h)))
  · refine gA_df (fun _ => ?_) (fun h => absurd h h5)
    by_cases h6 : 1000000000000 < n
    · rw [if_pos (.inr h6)] at hp
      subst hp
      simp (maxSteps := 2000000) (disch := omega) only [go_sem, ↓reduceIte, reduceIte, Nat.reduceAdd, Nat.reduceLT, Nat.reduceEqDiff, Nat.reduceLeDiff, Nat.reduceMul]
      refine cA_d (fun _ => ?_) (fun h => absurd h6 h)
      (repeat' (first | simp (maxSteps := 2000000) (disch := omega) only [go_sem, ↓reduceIte, reduceIte, Nat.reduceAdd, Nat.reduceLT, Nat.reduceEqDiff, Nat.reduceLeDiff, Nat.reduceMul] | refine call_1 awake11_ok (by rfl) (by rfl) ?_ | refine gA_dt (fun _ => ?_) (fun h => absurd rfl h)))
    · rw [if_neg (fun h => h.elim h5 h6)] at hp
      subst hp
      simp (maxSteps := 2000000) (disch := omega) only [go_sem, ↓reduceIte, reduceIte, Nat.reduceAdd, Nat.reduceLT, Nat.reduceEqDiff, Nat.reduceLeDiff, Nat.reduceMul]
      refine cA_d (fun h => absurd h h6) (fun _ => ?_)
      (repeat' (first | simp (maxSteps := 2000000) (disch := omega) only [go_sem, ↓reduceIte, reduceIte, Nat.reduceAdd, Nat.reduceLT, Nat.reduceEqDiff, Nat.reduceLeDiff, Nat.reduceMul] | refine call_1 awake11_ok (by rfl) (by rfl) ?_ | refine gA_dt (fun _ => ?_) (fun h => absurd rfl h)))
end Go.Proofs.YtoimcbimkfbkpaaDoor
