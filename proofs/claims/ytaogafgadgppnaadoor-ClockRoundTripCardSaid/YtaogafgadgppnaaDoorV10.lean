import Derived.Test.YtaogafgadgppnaaDoorV9
namespace Go.Proofs.YtaogafgadgppnaaDoor
open Go Go.AI Go.Proofs
set_option linter.unusedSimpArgs false
set_option linter.unusedVariables false
set_option maxRecDepth 4000
theorem wrap_u8 {n : Int} (h : 0 ≤ n ∧ n ≤ 255) : IntKind.u8.wrap n = n := by
  simp [IntKind.wrap, IntKind.signed, IntKind.bits]
  omega
theorem wrapK_u8 {n : Int} {k : Int → Prop} (h : 0 ≤ n ∧ n ≤ 255) : Run (wrapK .u8 n k) = Run (k n) := by
  unfold wrapK; rw [wrap_u8 h]
attribute [go_sem] wrapK_u8
theorem run_and {a c : Prop} (h1 : a) (h : Run c) : Run (a ∧ c) := ⟨h1, h⟩
def dI (k : Int) : UInt8 := UInt8.ofNat (48 + k.toNat)
theorem dI_nat {k : Int} (h : 0 ≤ k ∧ k ≤ 9) : ((dI k).toNat : Int) = 48 + k := by
  unfold dI
  rw [UInt8.toNat_ofNat']
  omega
def two (n : Int) : List UInt8 := [dI (n / 10), dI (n % 10)]
def dec (n : Nat) : List UInt8 := if n < 10 then [dI n] else dec (n / 10) ++ [dI (n % 10 : Nat)]
termination_by n
decreasing_by omega
theorem dec_small {n : Nat} (h : n < 10) : dec n = [dI n] := by rw [dec, if_pos h]
theorem dec_two {n : Nat} (h : 10 ≤ n) (h2 : n < 100) : dec n = two n := by
  rw [dec, if_neg (by omega), dec_small (by omega)]
  rfl
theorem two33_ok (n : Int) (h : 0 ≤ n ∧ n ≤ 99) : CallsTo Tryd.prog 33 [.int .i64 n] [.p (.str (two n))] := by
  refine f33_calls (Nat.le_of_ble_eq_true rfl) ?_
  have e1 := dI_nat (k := n / 10) (by omega)
  have e2 := dI_nat (k := n % 10) (by omega)
  simp (maxSteps := 2000000) (disch := omega) only [go_sem, ↓reduceIte, reduceIte, Nat.reduceAdd, Nat.reduceLT, Nat.reduceEqDiff, Nat.reduceLeDiff, Nat.reduceMul]
  refine bsK_intro (xs := bytesA (two n)) rfl (by decide) (by decide) (by simp only [two, bytesA, List.map_cons, List.map_nil, e1, e2]; rfl) ?_
  simp (maxSteps := 2000000) (disch := omega) only [go_sem, ↓reduceIte, reduceIte, Nat.reduceAdd, Nat.reduceLT, Nat.reduceEqDiff, Nat.reduceLeDiff, Nat.reduceMul]
  refine cbK_own (l := two n) (by rfl) ?_
  simp (maxSteps := 2000000) (disch := omega) only [go_sem, ↓reduceIte, reduceIte, Nat.reduceAdd, Nat.reduceLT, Nat.reduceEqDiff, Nat.reduceLeDiff, Nat.reduceMul]
theorem txt1_at : ∀ n : Fin 10, (txt1.take (n.1 + 1)).drop n.1 = [dI n.1] := by decide +kernel
theorem txt2_at : ∀ n : Fin 100, (txt2.take (n.1 * 2 + 2)).drop (n.1 * 2) = two n.1 := by decide +kernel
theorem txt1_len : txt1.length = 36 := by decide +kernel
theorem txt2_len : txt2.length = 200 := by decide +kernel
theorem small60_ok (n : Nat) (h : n < 100) : CallsTo Tryd.prog 60 [.int .i64 n] [.p (.str (dec n))] := by
  refine f60_calls (Nat.le_of_ble_eq_true rfl) ?_
  simp (maxSteps := 2000000) (disch := omega) only [go_sem, ↓reduceIte, reduceIte, Nat.reduceAdd, Nat.reduceLT, Nat.reduceEqDiff, Nat.reduceLeDiff, Nat.reduceMul]
  refine cA_d (fun h1 => ?_) (fun h1 => ?_)
  · simp (maxSteps := 2000000) (disch := omega) only [go_sem, ↓reduceIte, reduceIte, Nat.reduceAdd, Nat.reduceLT, Nat.reduceEqDiff, Nat.reduceLeDiff, Nat.reduceMul]
    refine slK_at_str n (n + 1) (by simp [bdv]) (by simp [bdv]) (by omega) (by rw [txt1_len]; omega) ?_
    rw [txt1_at ⟨n, by omega⟩, dec_small (by omega)]
    simp (maxSteps := 2000000) (disch := omega) only [go_sem, ↓reduceIte, reduceIte, Nat.reduceAdd, Nat.reduceLT, Nat.reduceEqDiff, Nat.reduceLeDiff, Nat.reduceMul]
  · simp (maxSteps := 2000000) (disch := omega) only [go_sem, ↓reduceIte, reduceIte, Nat.reduceAdd, Nat.reduceLT, Nat.reduceEqDiff, Nat.reduceLeDiff, Nat.reduceMul]
    refine slK_at_str (n * 2) (n * 2 + 2) (by simp [bdv]) (by simp [bdv]) (by omega) (by rw [txt2_len]; omega) ?_
    rw [txt2_at ⟨n, h⟩, dec_two (by omega) h]
    simp (maxSteps := 2000000) (disch := omega) only [go_sem, ↓reduceIte, reduceIte, Nat.reduceAdd, Nat.reduceLT, Nat.reduceEqDiff, Nat.reduceLeDiff, Nat.reduceMul]
theorem itoa_small (n : Nat) (h : n < 100) : CallsTo Tryd.prog 32 [.int .i64 n] [.p (.str (dec n))] := by
  have h49 : CallsTo Tryd.prog 49 [.int .i64 n, .int .i64 10] [.p (.str (dec n))] := by
    refine f49_calls (Nat.le_of_ble_eq_true rfl) ?_
    (repeat' (first | simp (maxSteps := 2000000) (disch := omega) only [go_sem, ↓reduceIte, reduceIte, Nat.reduceAdd, Nat.reduceLT, Nat.reduceEqDiff, Nat.reduceLeDiff, Nat.reduceMul] | refine gA_dt (fun _ => ?_) (fun h => absurd h (by omega)) | refine cA_d (fun _ => ?_) (fun h => absurd h (by omega)) | refine call_1 (small60_ok n h) (by rfl) (by rfl) ?_))
  have h45 : CallsTo Tryd.prog 45 [.int .i64 n] [.p (.str (dec n))] := by
    refine f45_calls (Nat.le_of_ble_eq_true rfl) ?_
    (repeat' (first | simp (maxSteps := 2000000) (disch := omega) only [go_sem, ↓reduceIte, reduceIte, Nat.reduceAdd, Nat.reduceLT, Nat.reduceEqDiff, Nat.reduceLeDiff, Nat.reduceMul] | refine call_1 h49 (by rfl) (by rfl) ?_))
  refine f32_calls (Nat.le_of_ble_eq_true rfl) ?_
  (repeat' (first | simp (maxSteps := 2000000) (disch := omega) only [go_sem, ↓reduceIte, reduceIte, Nat.reduceAdd, Nat.reduceLT, Nat.reduceEqDiff, Nat.reduceLeDiff, Nat.reduceMul] | refine call_1 h45 (by rfl) (by rfl) ?_))
def fmtS (t : Int) : List UInt8 := (((((dec (t / 86400).toNat ++ [32]) ++ two (t % 86400 / 3600)) ++ [58]) ++ two (t % 86400 / 60 % 60)) ++ [58]) ++ two (t % 86400 % 60)
theorem dec_len : ∀ n : Nat, n < 100000 → (dec n).length ≤ 5 := by
  have key : ∀ (k n : Nat), n < 10 ^ (k + 1) → (dec n).length ≤ k + 1 := by
    intro k
    induction k with
    | zero => intro n h; rw [dec_small (by omega)]; simp
    | succ k ih =>
      intro n h
      rw [dec]
      split
      · simp
      · have := ih (n / 10) (by rw [Nat.pow_succ] at h; omega)
        simp only [List.length_append, List.length_cons, List.length_nil]; omega
  exact fun n h => key 4 n h
theorem two_len (n : Int) : (two n).length = 2 := rfl
theorem format13_of (t : Int) (h : inM t) (hI : CallsTo Tryd.prog 32 [.int .i64 (t / 86400)] [.p (.str (dec (t / 86400).toNat))]) : CallsTo Tryd.prog 13 [.int .i64 t] [.p (.str (fmtS t)), .p (.int .i64 0)] := by
  have hd := dec_len (t / 86400).toNat (by unfold inM at h; omega)
  have h' := h
  unfold inM at h'
  refine f13_calls (Nat.le_of_ble_eq_true rfl) ?_
  simp (maxSteps := 2000000) (disch := omega) only [go_sem, ↓reduceIte, reduceIte, Nat.reduceAdd, Nat.reduceLT, Nat.reduceEqDiff, Nat.reduceLeDiff, Nat.reduceMul]
  refine call_3 (date17_ok t h) (by rfl) (by rfl) ?_
  simp (maxSteps := 2000000) (disch := omega) only [go_sem, ↓reduceIte, reduceIte, Nat.reduceAdd, Nat.reduceLT, Nat.reduceEqDiff, Nat.reduceLeDiff, Nat.reduceMul]
  refine cA_d (fun h => absurd h (by simp)) (fun _ => ?_)
  simp (maxSteps := 2000000) (disch := omega) only [go_sem, ↓reduceIte, reduceIte, Nat.reduceAdd, Nat.reduceLT, Nat.reduceEqDiff, Nat.reduceLeDiff, Nat.reduceMul]
  refine call_1 hI (by rfl) (by rfl) ?_
  (repeat' (first | simp (maxSteps := 2000000) (disch := omega) only [go_sem, ↓reduceIte, reduceIte, Nat.reduceAdd, Nat.reduceLT, Nat.reduceEqDiff, Nat.reduceLeDiff, Nat.reduceMul] | refine run_and (by (try simp only [List.length_append, List.length_cons, List.length_nil, two_len]); unfold maxLen; omega) ?_ | refine call_1 (two33_ok (t % 86400 / 3600) (by omega)) (by rfl) (by rfl) ?_ | refine call_1 (two33_ok (t % 86400 / 60 % 60) (by omega)) (by rfl) (by rfl) ?_ | refine call_1 (two33_ok (t % 86400 % 60) (by omega)) (by rfl) (by rfl) ?_))
  all_goals (try first | exact ⟨rfl, rfl⟩ | exact rfl)
theorem format13_bad (t : Int) (h : ¬ inM t) : CallsTo Tryd.prog 13 [.int .i64 t] [.p (.str []), .p (.int .i64 1)] := by
  refine f13_calls (Nat.le_of_ble_eq_true rfl) ?_
  simp (maxSteps := 2000000) (disch := omega) only [go_sem, ↓reduceIte, reduceIte, Nat.reduceAdd, Nat.reduceLT, Nat.reduceEqDiff, Nat.reduceLeDiff, Nat.reduceMul]
  refine call_3 (date17_bad t h) (by rfl) (by rfl) ?_
  simp (maxSteps := 2000000) (disch := omega) only [go_sem, ↓reduceIte, reduceIte, Nat.reduceAdd, Nat.reduceLT, Nat.reduceEqDiff, Nat.reduceLeDiff, Nat.reduceMul]
  refine cA_d (fun _ => ?_) (fun h => absurd (show ¬ (1 : Int) = 0 by decide) h)
  simp (maxSteps := 2000000) (disch := omega) only [go_sem, ↓reduceIte, reduceIte, Nat.reduceAdd, Nat.reduceLT, Nat.reduceEqDiff, Nat.reduceLeDiff, Nat.reduceMul]
  all_goals (try first | exact ⟨rfl, rfl⟩ | exact rfl)
end Go.Proofs.YtaogafgadgppnaaDoor
