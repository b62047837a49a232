import Derived.Test.YtaogafgadgppnaaDoorV15
import Derived.Test.YtaogafgadgppnaaDoorLI
import Derived.Test.YtaogafgadgppnaaDoorBR3
namespace Go.Proofs.YtaogafgadgppnaaDoor
open Go Go.AI Go.Proofs Go.Sort Go.RowKit
set_option linter.unusedSimpArgs false
set_option linter.unusedVariables false
set_option maxRecDepth 4000
theorem below_grow (w : World) (k : Nat) (os : Array Obj) : Go.AI.Below w.heap.size w (grow (w.drewN k) os) := by
  refine ⟨rfl, rfl, rfl, ?_, ?_, fun i hi => ?_⟩
  · simp [grow, World.drewN]
  · simp [grow, World.drewN]
  · simp [grow, World.drewN, Array.getElem?_append_left hi]
theorem tab0_is : lkG (globL Tryd.prog) 0 = some (Lib.pow10Tab.map (AV.int .u64)) := by kernel_rfl
theorem pow10_is {S : Nat → Prop} {w : World} (hG : GlobOk Tryd.prog S w) : Lib.TabIs Tryd.prog w "internal/strconv.uint64pow10" .u64 Lib.pow10Tab :=
  tabIs_of_glob hG tab0_is (by kernel_rfl)
theorem dec_lib : ∀ n : Nat, dec n = Lib.decDigits n := by
  intro n
  induction n using Nat.strongRecOn with
  | ind n ih =>
    rw [dec, Lib.decDigits]
    split
    · rfl
    · rw [ih (n / 10) (by omega)]
      rfl
theorem itoa_ok (n : Nat) (h : n < 100000) : CallsTo Tryd.prog 32 [.int .i64 n] [.p (.str (dec n))] := by
  refine ⟨enters_of Tryd.func32 (by kernel_rfl) rfl, fun S w args hS hG hr => ?_⟩
  match args, hr with
  | [v], .cons hv .nil =>
  cases hv
  refine (Any.strconv_Itoa itoaLay n (by omega) (by omega) w (pow10_is hG)).mono ?_
  rintro e w' ⟨rfl, k, os, rfl⟩
  have e1 : Lib.itoa n = dec n := by
    unfold Lib.itoa
    rw [if_neg (by omega), dec_lib]
    rfl
  have hl := dec_len n h
  rw [e1]
  exact ⟨[_], rfl, below_grow w k os, S, fun _ h => h, fun _ h => .inl h, fun b hb => Nat.lt_of_lt_of_le (hS b hb) (below_grow w k os).size, .str _ (by unfold maxLen; omega), trivial⟩
theorem format13_ok (t : Int) (h : inM t) : CallsTo Tryd.prog 13 [.int .i64 t] [.p (.str (fmtS t)), .p (.int .i64 0)] := by
  have := itoa_ok (t / 86400).toNat (by unfold inM at h; omega)
  rw [show (((t / 86400).toNat : Nat) : Int) = t / 86400 by unfold inM at h; omega] at this
  exact format13_of t h this
/-- The reference's numeral: digits set ahead of what is there. -/
def decL (n w : Nat) (s : List UInt8) : Nat → List UInt8
  | 0 => s
  | k + 1 => if 0 < n ∨ s.length < w then decL (n / 10) w (dI (n % 10 : Nat) :: s) k else s
theorem decL_end (w : Nat) : ∀ (k : Nat) (s : List UInt8), w ≤ s.length → decL 0 w s k = s
  | 0, _, _ => rfl
  | k + 1, s, h => by rw [decL, if_neg (by omega)]
theorem decL_dec (w : Nat) : ∀ (k n : Nat) (s : List UInt8), n < 10 ^ k → 0 < n → w ≤ s.length + 1 → decL n w s k = dec n ++ s
  | 0, n, s, h, h0, _ => by simp at h; omega
  | k + 1, n, s, h, h0, hw => by
    rw [decL, if_pos (.inl h0), dec]
    by_cases hn : n < 10
    · rw [if_pos hn, show n / 10 = 0 by omega, decL_end w k _ (by simp; omega), show n % 10 = n by omega]
      rfl
    · rw [if_neg hn, decL_dec w k (n / 10) _ (by rw [Nat.pow_succ] at h; omega) (by omega) (by simp; omega)]
      simp
theorem decL_one {n : Nat} (h : n < 100000) : decL n 1 [] 20 = dec n := by
  by_cases h0 : n = 0
  · subst h0
    rw [decL, if_pos (.inr (by simp)), decL_end 1 _ _ (by simp), dec_small (by omega)]
  · rw [decL_dec 1 20 n [] (by omega) (by omega) (by simp), List.append_nil]
theorem decL_two {n : Nat} (h : n < 100) : decL n 2 [] 20 = two n := by
  rw [decL, if_pos (.inr (by simp))]
  by_cases h0 : n < 10
  · rw [show n / 10 = 0 by omega, decL, if_pos (.inr (by simp)), decL_end 2 _ _ (by simp)]
    unfold two
    rw [show ((n : Nat) : Int) / 10 = 0 by omega]
    rfl
  · rw [decL, if_pos (.inl (by omega)), show n / 10 / 10 = 0 by omega, decL_end 2 _ _ (by simp), show n / 10 % 10 = n / 10 by omega]
    rfl
set_option maxHeartbeats 4000000 in
theorem decimal34_ok (n w : Nat) (hn : n < 100000) (hw : w ≤ 2) : CallsTo Tryd.prog 34 [.int .i64 n, .int .i64 w] [.p (.str (decL n w [] 20))] := by
  refine f34_calls (Nat.le_of_ble_eq_true rfl) ?_
  simp (maxSteps := 2000000) (disch := omega) only [go_sem, ↓reduceIte, reduceIte, Nat.reduceAdd, Nat.reduceLT, Nat.reduceEqDiff, Nat.reduceLeDiff, Nat.reduceMul]
  obtain ⟨N, hN⟩ : ∃ N, N = decL n w [] 20 := ⟨_, rfl⟩
  rw [← hN]
  refine loop_of f34L4_is (fun p : Nat × List UInt8 × Nat => ⟨[(0, .int .i64 p.1), (5, .str p.2.1), (1, .int .i64 w)], []⟩)
    (fun p => N = decL p.1 w p.2.1 p.2.2 ∧ p.1 < 100000 ∧ p.1 < 10 ^ p.2.2 ∧ p.2.1.length + p.2.2 = 20 ∧ w ≤ 2) (fun p => p.2.2) (n, [], 20) ⟨hN, hn, by simp only; omega, rfl, hw⟩ (le_intro (by simp only [allLook, allLookM, go_sem, ↓reduceIte, reduceIte, Nat.reduceAdd, Nat.reduceLT, Nat.reduceEqDiff, Nat.reduceLeDiff, Nat.reduceMul]; try simp) (by simp only [allLook, allLookM, go_sem, ↓reduceIte, reduceIte, Nat.reduceAdd, Nat.reduceLT, Nat.reduceEqDiff, Nat.reduceLeDiff, Nat.reduceMul]; try simp)) ?_
  rintro ⟨q, s, k⟩ R ⟨he, hq, hq2, hs, _⟩ hR
  simp only at he hq hq2 hs
  have hdone : q = 0 → w ≤ s.length → decL q w s k = s := fun h1 h2 => by rw [h1]; exact decL_end w k s h2
  by_cases hc : 0 < q ∨ s.length < w
  · cases k with
    | zero => exact absurd hq2 (by omega)
    | succ k =>
    rw [decL, if_pos hc] at he
    have e1 := dI_nat (k := (q : Int) % 10) (by omega)
    have e2 : dI ((q : Int) % 10) = dI (q % 10 : Nat) := by rw [show ((q : Int) % 10) = ((q % 10 : Nat) : Int) by omega]
    (repeat' (first | simp (maxSteps := 2000000) (disch := omega) only [go_sem, ↓reduceIte, reduceIte, Nat.reduceAdd, Nat.reduceLT, Nat.reduceEqDiff, Nat.reduceLeDiff, Nat.reduceMul] | refine gA_df (fun _ => ?_) (fun _ => ?_) | refine cA_d (fun _ => ?_) (fun h => absurd h (by omega))))
    all_goals
      refine bsK_intro (xs := bytesA [dI ((q : Int) % 10)]) rfl (by decide) (by decide) (by simp only [bytesA, List.map_cons, List.map_nil, e1]; rfl) ?_
      simp (maxSteps := 2000000) (disch := omega) only [go_sem, ↓reduceIte, reduceIte, Nat.reduceAdd, Nat.reduceLT, Nat.reduceEqDiff, Nat.reduceLeDiff, Nat.reduceMul]
      refine cbK_own (l := [dI ((q : Int) % 10)]) (by rfl) ?_
      simp (maxSteps := 2000000) (disch := omega) only [go_sem, ↓reduceIte, reduceIte, Nat.reduceAdd, Nat.reduceLT, Nat.reduceEqDiff, Nat.reduceLeDiff, Nat.reduceMul]
      refine run_and (by (try simp only [List.length_append, List.length_cons, List.length_nil]); unfold maxLen; omega) ?_
      simp (maxSteps := 2000000) (disch := omega) only [go_sem, ↓reduceIte, reduceIte, Nat.reduceAdd, Nat.reduceLT, Nat.reduceEqDiff, Nat.reduceLeDiff, Nat.reduceMul]
      refine hR (q / 10, dI (q % 10 : Nat) :: s, k) _ ⟨he, by simp only; omega, by simp only; rw [Nat.pow_succ] at hq2; omega, by simp only [List.length_cons]; omega, hw⟩ (by simp) ?_
      rw [e2]
      exact (le_intro (by simp only [allLook, allLookM, go_sem, ↓reduceIte, reduceIte, Nat.reduceAdd, Nat.reduceLT, Nat.reduceEqDiff, Nat.reduceLeDiff, Nat.reduceMul, List.cons_append, List.nil_append, show ((q : Nat) : Int) / 10 = (q / 10 : Nat) by omega]; try simp) (by simp only [allLook, allLookM, go_sem, ↓reduceIte, reduceIte, Nat.reduceAdd, Nat.reduceLT, Nat.reduceEqDiff, Nat.reduceLeDiff, Nat.reduceMul, List.cons_append, List.nil_append, show ((q : Nat) : Int) / 10 = (q / 10 : Nat) by omega]; try simp))
  · rw [hdone (by omega) (by omega)] at he
    (repeat' (first | simp (maxSteps := 2000000) (disch := omega) only [go_sem, ↓reduceIte, reduceIte, Nat.reduceAdd, Nat.reduceLT, Nat.reduceEqDiff, Nat.reduceLeDiff, Nat.reduceMul] | refine gA_df (fun _ => ?_) (fun h => absurd h (by omega)) | refine cA_d (fun h => absurd h (by omega)) (fun _ => ?_)))
    all_goals (try rw [he])
end Go.Proofs.YtaogafgadgppnaaDoor
