import Derived.Test.YtaogafgadgppnaaDoorV16
namespace Go.Proofs.YtaogafgadgppnaaDoor
open Go Go.AI Go.Proofs
set_option linter.unusedSimpArgs false
set_option linter.unusedVariables false
set_option maxRecDepth 4000
def fmtR (t : Int) : List UInt8 := if inM t then fmtS t else []
def fmtE (t : Int) : Int := if inM t then 0 else 1
theorem fmt13_ok (t : Int) : CallsTo Tryd.prog 13 [.int .i64 t] [.p (.str (fmtR t)), .p (.int .i64 (fmtE t))] := by
  unfold fmtR fmtE
  by_cases h : inM t
  · rw [if_pos h, if_pos h]; exact format13_ok t h
  · rw [if_neg h, if_neg h]; exact format13_bad t h
theorem dec34_ok (n : Int) (h0 : 0 ≤ n) (h : n < 100000) : CallsTo Tryd.prog 34 [.int .i64 n, .int .i64 1] [.p (.str (dec n.toNat))] := by
  have := decimal34_ok n.toNat 1 (by omega) (by omega)
  rw [decL_one (by omega), show ((n.toNat : Nat) : Int) = n by omega] at this
  exact this
theorem two34_ok (n : Int) (h0 : 0 ≤ n) (h : n < 100) : CallsTo Tryd.prog 34 [.int .i64 n, .int .i64 2] [.p (.str (two n))] := by
  have := decimal34_ok n.toNat 2 (by omega) (by omega)
  rw [decL_two (by omega), show ((n.toNat : Nat) : Int) = n by omega] at this
  exact this
set_option maxHeartbeats 4000000 in
theorem fmt14_ok (t : Int) : CallsTo Tryd.prog 14 [.int .i64 t] [.p (.str (fmtR t)), .p (.int .i64 (fmtE t))] := by
  refine f14_calls (Nat.le_of_ble_eq_true rfl) ?_
  unfold fmtR fmtE
  by_cases h : inM t
  · rw [if_pos h, if_pos h]
    have h' := h
    unfold inM at h'
    have hd := dec_len (t / 86400).toNat (by omega)
    simp (maxSteps := 2000000) (disch := omega) only [go_sem, ↓reduceIte, reduceIte, Nat.reduceAdd, Nat.reduceLT, Nat.reduceEqDiff, Nat.reduceLeDiff, Nat.reduceMul]
    refine call_3 (date18_ok t h) (by rfl) (by rfl) ?_
    simp (maxSteps := 2000000) (disch := omega) only [go_sem, ↓reduceIte, reduceIte, Nat.reduceAdd, Nat.reduceLT, Nat.reduceEqDiff, Nat.reduceLeDiff, Nat.reduceMul]
    refine cA_d (fun h => absurd h (by simp)) (fun _ => ?_)
    simp (maxSteps := 2000000) (disch := omega) only [go_sem, ↓reduceIte, reduceIte, Nat.reduceAdd, Nat.reduceLT, Nat.reduceEqDiff, Nat.reduceLeDiff, Nat.reduceMul]
    refine call_1 (dec34_ok (t / 86400) (by omega) (by omega)) (by rfl) (by rfl) ?_
    (repeat' (first | simp (maxSteps := 2000000) (disch := omega) only [go_sem, ↓reduceIte, reduceIte, Nat.reduceAdd, Nat.reduceLT, Nat.reduceEqDiff, Nat.reduceLeDiff, Nat.reduceMul] | refine run_and (by (try simp only [List.length_append, List.length_cons, List.length_nil, two_len]); unfold maxLen; omega) ?_ | refine call_1 (two34_ok (t % 86400 / 3600) (by omega) (by omega)) (by rfl) (by rfl) ?_ | refine call_1 (two34_ok (t % 86400 / 60 % 60) (by omega) (by omega)) (by rfl) (by rfl) ?_ | refine call_1 (two34_ok (t % 86400 % 60) (by omega) (by omega)) (by rfl) (by rfl) ?_))
    all_goals (try first | exact ⟨rfl, rfl⟩ | exact rfl)
  · rw [if_neg h, if_neg h]
    simp (maxSteps := 2000000) (disch := omega) only [go_sem, ↓reduceIte, reduceIte, Nat.reduceAdd, Nat.reduceLT, Nat.reduceEqDiff, Nat.reduceLeDiff, Nat.reduceMul]
    refine call_3 (date18_bad t h) (by rfl) (by rfl) ?_
    simp (maxSteps := 2000000) (disch := omega) only [go_sem, ↓reduceIte, reduceIte, Nat.reduceAdd, Nat.reduceLT, Nat.reduceEqDiff, Nat.reduceLeDiff, Nat.reduceMul]
    refine cA_d (fun _ => ?_) (fun h => absurd (show ¬ (1 : Int) = 0 by decide) h)
    simp (maxSteps := 2000000) (disch := omega) only [go_sem, ↓reduceIte, reduceIte, Nat.reduceAdd, Nat.reduceLT, Nat.reduceEqDiff, Nat.reduceLeDiff, Nat.reduceMul]
    all_goals (try first | exact ⟨rfl, rfl⟩ | exact rfl)
def numF : List UInt8 → Int → Int
  | [], n => n
  | c :: r, n => if c.toNat < 48 ∨ 57 < c.toNat then -1 else numF r (10 * n + ((c.toNat : Int) - 48))
theorem numF_bd : ∀ (s : List UInt8) (n : Int), 0 ≤ n → -1 ≤ numF s n ∧ numF s n < (n + 1) * 10 ^ s.length
  | [], n, h => by simp [numF]; omega
  | c :: r, n, h => by
    rw [numF]
    have hp : (0 : Int) < 10 ^ r.length := Int.pow_pos (by omega)
    have e : (n + 1) * 10 ^ (c :: r).length = 10 * (n + 1) * 10 ^ r.length := by rw [List.length_cons, Int.pow_succ, ← Int.mul_assoc, Int.mul_comm _ 10, ← Int.mul_assoc]
    split
    · have := Int.mul_nonneg (show 0 ≤ n + 1 by omega) (show (0 : Int) ≤ 10 ^ (c :: r).length from Int.le_of_lt (Int.pow_pos (by omega)))
      omega
    · rename_i hc
      have ih := numF_bd r (10 * n + ((c.toNat : Int) - 48)) (by omega)
      have := Int.mul_le_mul_of_nonneg_right (show 10 * n + ((c.toNat : Int) - 48) + 1 ≤ 10 * (n + 1) by omega) (Int.le_of_lt hp)
      rw [e]
      exact ⟨ih.1, Int.lt_of_lt_of_le ih.2 this⟩
set_option maxHeartbeats 4000000 in
theorem number35_ok (s : List UInt8) (hs : s.length ≤ 5) : CallsTo Tryd.prog 35 [.str s] [.p (.int .i64 (numF s 0))] := by
  refine f35_calls (Nat.le_of_ble_eq_true rfl) ?_
  simp (maxSteps := 2000000) (disch := omega) only [go_sem, ↓reduceIte, reduceIte, Nat.reduceAdd, Nat.reduceLT, Nat.reduceEqDiff, Nat.reduceLeDiff, Nat.reduceMul]
  obtain ⟨N, hN⟩ : ∃ N, N = numF s 0 := ⟨_, rfl⟩
  rw [← hN]
  refine loop_of f35L5_is (fun p : Int × List UInt8 × List UInt8 => ⟨[(4, .int .i64 p.2.1.length), (3, .int .i64 p.1), (0, .str s)], []⟩)
    (fun p => s = p.2.1 ++ p.2.2 ∧ N = numF p.2.2 p.1 ∧ 0 ≤ p.1 ∧ p.1 < 10 ^ p.2.1.length) (fun p => p.2.2.length) (0, [], s) ⟨rfl, hN, by simp, by simp⟩ (le_intro (by simp only [allLook, allLookM, go_sem, ↓reduceIte, reduceIte, Nat.reduceAdd, Nat.reduceLT, Nat.reduceEqDiff, Nat.reduceLeDiff, Nat.reduceMul]; try simp) (by simp only [allLook, allLookM, go_sem, ↓reduceIte, reduceIte, Nat.reduceAdd, Nat.reduceLT, Nat.reduceEqDiff, Nat.reduceLeDiff, Nat.reduceMul]; try simp)) ?_
  rintro ⟨n, d, r⟩ R ⟨hdr, he, h0, hn⟩ hR
  simp only at hdr he h0 hn
  have hlen : s.length = d.length + r.length := by rw [hdr, List.length_append]
  have hn2 : n ≤ 100000 := by
    have : (10 : Int) ^ d.length ≤ 10 ^ 5 := by exact_mod_cast Nat.pow_le_pow_right (n := 10) (by decide) (show d.length ≤ 5 by omega)
    omega
  simp (maxSteps := 2000000) (disch := omega) only [go_sem, ↓reduceIte, reduceIte, Nat.reduceAdd, Nat.reduceLT, Nat.reduceEqDiff, Nat.reduceLeDiff, Nat.reduceMul]
  cases r with
  | nil =>
    rw [List.length_nil] at hlen
    refine cA_d (fun h => absurd h (by omega)) (fun _ => ?_)
    rw [he]
    simp (maxSteps := 2000000) (disch := omega) only [go_sem, ↓reduceIte, reduceIte, Nat.reduceAdd, Nat.reduceLT, Nat.reduceEqDiff, Nat.reduceLeDiff, Nat.reduceMul]
    rfl
  | cons c r =>
    rw [List.length_cons] at hlen
    refine cA_d (fun _ => ?_) (fun h => absurd (show ((d.length : Nat) : Int) < s.length by omega) h)
    have hx : s[d.length]? = some c := by rw [hdr]; exact get_mid d r c _ rfl
    have hcn := c.toNat_lt
    rw [numF] at he
    by_cases hc : c.toNat < 48 ∨ 57 < c.toNat
    · rw [if_pos hc] at he
      rw [he]
      (repeat' (first | simp (maxSteps := 2000000) (disch := omega) only [go_sem, ↓reduceIte, reduceIte, Nat.reduceAdd, Nat.reduceLT, Nat.reduceEqDiff, Nat.reduceLeDiff, Nat.reduceMul] | refine ixS_at d.length rfl hx ?_ | refine gA_df (fun _ => ?_) (fun _ => ?_) | refine cA_d (fun _ => ?_) (fun h => absurd h (by omega))))
    · rw [if_neg hc] at he
      (repeat' (first | simp (maxSteps := 2000000) (disch := omega) only [go_sem, ↓reduceIte, reduceIte, Nat.reduceAdd, Nat.reduceLT, Nat.reduceEqDiff, Nat.reduceLeDiff, Nat.reduceMul] | refine ixS_at d.length rfl hx ?_ | refine gA_df (fun _ => ?_) (fun h => absurd h (by omega)) | refine cA_d (fun h => absurd h (by omega)) (fun _ => ?_)))
      have hq : (10 : Int) ^ (d.length + 1) = 10 ^ d.length * 10 := Int.pow_succ ..
      refine hR (10 * n + ((c.toNat : Int) - 48), d ++ [c], r) _ ⟨by rw [hdr]; simp, he, by simp only; omega, by simp only [List.length_append, List.length_cons, List.length_nil, Nat.zero_add]; omega⟩ (by simp) ?_
      exact (le_intro (by simp only [allLook, allLookM, go_sem, ↓reduceIte, reduceIte, Nat.reduceAdd, Nat.reduceLT, Nat.reduceEqDiff, Nat.reduceLeDiff, Nat.reduceMul, List.length_append, List.length_cons, List.length_nil, show ((d.length : Nat) : Int) + 1 = (d.length + (0 + 1) : Nat) by omega]; try simp) (by simp only [allLook, allLookM, go_sem, ↓reduceIte, reduceIte, Nat.reduceAdd, Nat.reduceLT, Nat.reduceEqDiff, Nat.reduceLeDiff, Nat.reduceMul, List.length_append, List.length_cons, List.length_nil, show ((d.length : Nat) : Int) + 1 = (d.length + (0 + 1) : Nat) by omega]; try simp))
def refN (s : List UInt8) : List Int := [numF (s.take (s.length - 9)) 0, numF ((s.take (s.length - 6)).drop (s.length - 8)) 0, numF ((s.take (s.length - 3)).drop (s.length - 5)) 0, numF (s.drop (s.length - 2)) 0]
def refG (s : List UInt8) : Prop := 10 ≤ s.length ∧ s.length ≤ 14 ∧ 0 ≤ numF (s.take (s.length - 9)) 0 ∧ 0 ≤ numF ((s.take (s.length - 6)).drop (s.length - 8)) 0 ∧ 0 ≤ numF ((s.take (s.length - 3)).drop (s.length - 5)) 0 ∧ 0 ≤ numF (s.drop (s.length - 2)) 0
instance (s : List UInt8) : Decidable (refG s) := by unfold refG; infer_instance
def refT (s : List UInt8) : Int := numF (s.take (s.length - 9)) 0 * 86400 + numF ((s.take (s.length - 6)).drop (s.length - 8)) 0 * 3600 + numF ((s.take (s.length - 3)).drop (s.length - 5)) 0 * 60 + numF (s.drop (s.length - 2)) 0
def refC (s : List UInt8) : Prop := refG s ∧ fmtE (refT s) = 0 ∧ fmtR (refT s) = s
instance (s : List UInt8) : Decidable (refC s) := by unfold refC; infer_instance
theorem numF_bd5 {s : List UInt8} (h : s.length ≤ 5) : -1 ≤ numF s 0 ∧ numF s 0 < 100000 := by
  have := numF_bd s 0 (by omega)
  have h2 : (10 : Int) ^ s.length ≤ 10 ^ 5 := by exact_mod_cast Nat.pow_le_pow_right (n := 10) (by decide) h
  omega
set_option maxHeartbeats 8000000 in
theorem parse16_ok (s : List UInt8) (hs : s.length ≤ 1048576) : CallsTo Tryd.prog 16 [.str s] [.p (.int .i64 (if refC s then refT s else 0)), .p (.int .i64 (if refC s then 0 else 3))] := by
  refine f16_calls (Nat.le_of_ble_eq_true rfl) ?_
  by_cases hl : 10 ≤ s.length ∧ s.length ≤ 14
  case neg =>
    have hn : ¬ refC s := fun h => hl ⟨h.1.1, h.1.2.1⟩
    rw [if_neg hn, if_neg hn]
    (repeat' (first | simp (maxSteps := 2000000) (disch := omega) only [go_sem, ↓reduceIte, reduceIte, Nat.reduceAdd, Nat.reduceLT, Nat.reduceEqDiff, Nat.reduceLeDiff, Nat.reduceMul] | refine gA_df (fun _ => ?_) (fun _ => ?_) | refine cA_d (fun _ => ?_) (fun h => absurd h (by omega))))
    all_goals (try first | exact ⟨rfl, rfl⟩ | exact rfl)
  obtain ⟨hl1, hl2⟩ := hl
  have b1 := numF_bd5 (s := s.take (s.length - 9)) (by simp; omega)
  have b2 := numF_bd5 (s := (s.take (s.length - 6)).drop (s.length - 8)) (by simp; omega)
  have b3 := numF_bd5 (s := (s.take (s.length - 3)).drop (s.length - 5)) (by simp; omega)
  have b4 := numF_bd5 (s := s.drop (s.length - 2)) (by simp; omega)
  have c1 := number35_ok (s.take (s.length - 9)) (by simp; omega)
  have c2 := number35_ok ((s.take (s.length - 6)).drop (s.length - 8)) (by simp; omega)
  have c3 := number35_ok ((s.take (s.length - 3)).drop (s.length - 5)) (by simp; omega)
  have c4 := number35_ok (s.drop (s.length - 2)) (by simp; omega)
  have hT := fmt14_ok (refT s)
  have hC : refC s = (refG s ∧ fmtE (refT s) = 0 ∧ fmtR (refT s) = s) := rfl
  have hG : refG s = (10 ≤ s.length ∧ s.length ≤ 14 ∧ 0 ≤ numF (s.take (s.length - 9)) 0 ∧ 0 ≤ numF ((s.take (s.length - 6)).drop (s.length - 8)) 0 ∧ 0 ≤ numF ((s.take (s.length - 3)).drop (s.length - 5)) 0 ∧ 0 ≤ numF (s.drop (s.length - 2)) 0) := rfl
  have hE : fmtE (refT s) = 0 ∨ fmtE (refT s) = 1 := by unfold fmtE; split <;> simp
  have hD : refT s = numF (s.take (s.length - 9)) 0 * 86400 + numF ((s.take (s.length - 6)).drop (s.length - 8)) 0 * 3600 + numF ((s.take (s.length - 3)).drop (s.length - 5)) 0 * 60 + numF (s.drop (s.length - 2)) 0 := rfl
  (repeat' (first | simp (maxSteps := 2000000) (disch := omega) only [go_sem, ↓reduceIte, reduceIte, Nat.reduceAdd, Nat.reduceLT, Nat.reduceEqDiff, Nat.reduceLeDiff, Nat.reduceMul] | refine gA_df (fun _ => ?_) (fun h => absurd h (by omega)) | refine cA_d (fun h => absurd h (by omega)) (fun _ => ?_)))
  refine slK_at_str 0 (s.length - 9) (by simp only [bdv]; omega) rfl (by omega) (by omega) ?_
  rw [List.drop_zero]
  simp (maxSteps := 2000000) (disch := omega) only [go_sem, ↓reduceIte, reduceIte, Nat.reduceAdd, Nat.reduceLT, Nat.reduceEqDiff, Nat.reduceLeDiff, Nat.reduceMul]
  refine callq_1 (by rfl) c1 (by rfl) ?_
  simp (maxSteps := 2000000) (disch := omega) only [go_sem, ↓reduceIte, reduceIte, Nat.reduceAdd, Nat.reduceLT, Nat.reduceEqDiff, Nat.reduceLeDiff, Nat.reduceMul]
  refine slK_at_str (s.length - 8) (s.length - 6) (by simp only [bdv]; omega) (by simp only [bdv]; omega) (by omega) (by omega) ?_
  simp (maxSteps := 2000000) (disch := omega) only [go_sem, ↓reduceIte, reduceIte, Nat.reduceAdd, Nat.reduceLT, Nat.reduceEqDiff, Nat.reduceLeDiff, Nat.reduceMul]
  refine callq_1 (by rfl) c2 (by rfl) ?_
  simp (maxSteps := 2000000) (disch := omega) only [go_sem, ↓reduceIte, reduceIte, Nat.reduceAdd, Nat.reduceLT, Nat.reduceEqDiff, Nat.reduceLeDiff, Nat.reduceMul]
  refine slK_at_str (s.length - 5) (s.length - 3) (by simp only [bdv]; omega) (by simp only [bdv]; omega) (by omega) (by omega) ?_
  simp (maxSteps := 2000000) (disch := omega) only [go_sem, ↓reduceIte, reduceIte, Nat.reduceAdd, Nat.reduceLT, Nat.reduceEqDiff, Nat.reduceLeDiff, Nat.reduceMul]
  refine callq_1 (by rfl) c3 (by rfl) ?_
  simp (maxSteps := 2000000) (disch := omega) only [go_sem, ↓reduceIte, reduceIte, Nat.reduceAdd, Nat.reduceLT, Nat.reduceEqDiff, Nat.reduceLeDiff, Nat.reduceMul]
  refine slK_at_str (s.length - 2) s.length rfl (by simp only [bdv]; omega) (by omega) (by omega) ?_
  rw [List.take_of_length_le (Nat.le_refl _)]
  simp (maxSteps := 2000000) (disch := omega) only [go_sem, ↓reduceIte, reduceIte, Nat.reduceAdd, Nat.reduceLT, Nat.reduceEqDiff, Nat.reduceLeDiff, Nat.reduceMul]
  refine callq_1 (by rfl) c4 (by rfl) ?_
  clear c1 c2 c3 c4
  generalize numF (s.take (s.length - 9)) 0 = n1 at *
  generalize numF ((s.take (s.length - 6)).drop (s.length - 8)) 0 = n2 at *
  generalize numF ((s.take (s.length - 3)).drop (s.length - 5)) 0 = n3 at *
  generalize numF (s.drop (s.length - 2)) 0 = n4 at *
  by_cases hg : 0 ≤ n1 ∧ 0 ≤ n2 ∧ 0 ≤ n3 ∧ 0 ≤ n4
  case neg =>
    have hn : ¬ refC s := fun h => by rw [hC, hG] at h; omega
    rw [if_neg hn, if_neg hn]
    (repeat' (first | simp (maxSteps := 2000000) (disch := omega) only [go_sem, ↓reduceIte, reduceIte, Nat.reduceAdd, Nat.reduceLT, Nat.reduceEqDiff, Nat.reduceLeDiff, Nat.reduceMul] | refine gA_df (fun _ => ?_) (fun _ => ?_) | refine cA_d (fun _ => ?_) (fun h => absurd h (by omega))))
    all_goals (try first | exact ⟨rfl, rfl⟩ | exact rfl)
  have hg2 : refG s := by rw [hG]; omega
  (repeat' (first | simp (maxSteps := 2000000) (disch := omega) only [go_sem, ↓reduceIte, reduceIte, Nat.reduceAdd, Nat.reduceLT, Nat.reduceEqDiff, Nat.reduceLeDiff, Nat.reduceMul] | refine gA_df (fun _ => ?_) (fun h => absurd h (by omega)) | refine cA_d (fun h => absurd h (by omega)) (fun _ => ?_)))
  rw [← hD]
  refine call_2 hT (by rfl) (by rfl) ?_
  simp (maxSteps := 2000000) (disch := omega) only [go_sem, ↓reduceIte, reduceIte, Nat.reduceAdd, Nat.reduceLT, Nat.reduceEqDiff, Nat.reduceLeDiff, Nat.reduceMul]
  rcases hE with hE | hE
  · rw [hE]
    by_cases hs : fmtR (refT s) = s
    · have hc : refC s := by rw [hC]; exact ⟨hg2, hE, hs⟩
      rw [if_pos hc, if_pos hc, hs]
      (repeat' (first | simp (maxSteps := 2000000) (disch := omega) only [go_sem, ↓reduceIte, reduceIte, Nat.reduceAdd, Nat.reduceLT, Nat.reduceEqDiff, Nat.reduceLeDiff, Nat.reduceMul] | refine gA_df (fun _ => ?_) (fun h => absurd h (by simp)) | refine cA_d (fun h => absurd h (by simp)) (fun _ => ?_)))
      all_goals (try first | exact ⟨rfl, rfl⟩ | exact rfl)
      all_goals trace_state
    · have hc : ¬ refC s := by rw [hC]; exact fun h => hs h.2.2
      rw [if_neg hc, if_neg hc]
      (repeat' (first | simp (maxSteps := 2000000) (disch := omega) only [go_sem, ↓reduceIte, reduceIte, Nat.reduceAdd, Nat.reduceLT, Nat.reduceEqDiff, Nat.reduceLeDiff, Nat.reduceMul] | refine gA_df (fun _ => ?_) (fun h => absurd h (by simp)) | refine cA_d (fun _ => ?_) (fun h => absurd hs h)))
      all_goals (try first | exact ⟨rfl, rfl⟩ | exact rfl)
      all_goals trace_state
  · have hc : ¬ refC s := by rw [hC]; exact fun h => by rw [hE] at h; exact absurd h.2.1 (by decide)
    rw [if_neg hc, if_neg hc, hE]
    (repeat' (first | simp (maxSteps := 2000000) (disch := omega) only [go_sem, ↓reduceIte, reduceIte, Nat.reduceAdd, Nat.reduceLT, Nat.reduceEqDiff, Nat.reduceLeDiff, Nat.reduceMul] | refine gA_df (fun h => absurd (show ¬ (1 : Int) = 0 by decide) h) (fun _ => ?_) | refine cA_d (fun _ => ?_) (fun h => absurd (show ¬ (1 : Int) = 0 by decide) h)))
    all_goals (try first | exact ⟨rfl, rfl⟩ | exact rfl)
    all_goals trace_state
end Go.Proofs.YtaogafgadgppnaaDoor
