import Derived.Test.YtpclkldmkmmmhaaG3
import Derived.Test.YtpclkldmkmmmhaaA16
namespace Go.Proofs.Ytpclkldmkmmmhaa
open Go Go.AI Go.Proofs
set_option linter.unusedSimpArgs false
set_option linter.unusedVariables false
def In64 (n : Int) : Prop := -9223372036854775808 ≤ n ∧ n ≤ 9223372036854775807
theorem wrapK_uo {n : Int} {k : Int → Prop} : Run (wrapK .u64 n k) = Run (k (n % 18446744073709551616)) := wrapK_out
structure Sale where
  p : Int
  f : Int
  c : Int
  r : Int
  t : Int
def Sale.av (x : Sale) : AV := .agg [.int .i64 x.p, .int .i64 x.f, .int .i64 x.c, .int .i64 x.r, .int .i64 x.t]
def Sale.ok (x : Sale) : Prop := In64 x.p ∧ In64 x.f ∧ In64 x.c ∧ In64 x.r ∧ In64 x.t
def Sale.has (x : Sale) (s : Int) : Bool := decide (x.f ≤ s ∧ s - x.f < x.c)
def findG (l : List Sale) (s : Int) (i : Nat) : Int × Bool :=
  match l with
  | [] => (0, false)
  | x :: r => if x.has s then (i, true) else findG r s (i + 1)
theorem contains_ok (x : Sale) (s : Int) (hx : x.ok) (hs : In64 s) : CallsTo Try.prog 32 [x.av, .int .i64 s] [.p (.bool (x.has s))] := by
  obtain ⟨p, f, c, r, t⟩ := x
  obtain ⟨-, hf, hc, -, -⟩ := hx
  unfold In64 at hf hc hs
  simp only [] at hf hc
  refine f32_calls (Nat.le_of_ble_eq_true rfl) ?_
  unfold Sale.av Sale.has
  simp (maxSteps := 2000000) (disch := omega) only [go_sem, ↓reduceIte, reduceIte, Nat.reduceAdd, Nat.reduceLT, Nat.reduceEqDiff, Nat.reduceLeDiff, Nat.reduceMul]
  refine gA_dt (fun h1 => ?_) (fun h1 => ?_)
  · simp (maxSteps := 2000000) (disch := omega) only [go_sem, ↓reduceIte, reduceIte, Nat.reduceAdd, Nat.reduceLT, Nat.reduceEqDiff, Nat.reduceLeDiff, Nat.reduceMul]
    refine gA_dt (fun h2 => ?_) (fun h2 => ?_)
    · simp (maxSteps := 2000000) (disch := omega) only [go_sem, ↓reduceIte, reduceIte, Nat.reduceAdd, Nat.reduceLT, Nat.reduceEqDiff, Nat.reduceLeDiff, Nat.reduceMul, ↓wrapK_uo]
      refine congrArg AV.bool (decide_eq_decide.2 ?_)
      omega
    · simp (maxSteps := 2000000) (disch := omega) only [go_sem, ↓reduceIte, reduceIte, Nat.reduceAdd, Nat.reduceLT, Nat.reduceEqDiff, Nat.reduceLeDiff, Nat.reduceMul]
      refine congrArg AV.bool (decide_eq_false ?_).symm
      omega
  · simp (maxSteps := 2000000) (disch := omega) only [go_sem, ↓reduceIte, reduceIte, Nat.reduceAdd, Nat.reduceLT, Nat.reduceEqDiff, Nat.reduceLeDiff, Nat.reduceMul]
    refine congrArg AV.bool (decide_eq_false ?_).symm
    omega

theorem find_ok (l : List Sale) (s : Int) (hl : ∀ x ∈ l, x.ok) (hs : In64 s) (hn : l.length ≤ 1048576) : CallsTo Try.prog 14 [.sl (l.map Sale.av), .int .i64 s] [.p (.int .i64 (findG l s 0).1), .p (.bool (findG l s 0).2)] := by
  refine f14_calls (Nat.le_of_ble_eq_true rfl) ?_
  simp (maxSteps := 2000000) (disch := omega) only [go_sem, ↓reduceIte, reduceIte, Nat.reduceAdd, Nat.reduceLT, Nat.reduceEqDiff, Nat.reduceLeDiff, Nat.reduceMul]
  refine loop_of f14L4_is (fun i : Nat => ⟨[(10, .int .i64 i), (9, .int .i64 l.length), (8, .sl (l.map Sale.av)), (1, .int .i64 s)], []⟩) (fun i => i ≤ l.length ∧ findG l s 0 = findG (l.drop i) s i) (fun i => l.length - i) 0 ⟨Nat.zero_le _, rfl⟩ ?_ ?_
  · exact (le_intro (by simp only [allLook, allLookM, go_sem, ↓reduceIte, reduceIte, Nat.reduceAdd, Nat.reduceLT, Nat.reduceEqDiff, Nat.reduceLeDiff, Nat.reduceMul]; try simp) (by simp only [allLook, allLookM, go_sem, ↓reduceIte, reduceIte, Nat.reduceAdd, Nat.reduceLT, Nat.reduceEqDiff, Nat.reduceLeDiff, Nat.reduceMul]; try simp))
  · rintro i R ⟨hi, hf⟩ hR
    simp (maxSteps := 2000000) (disch := omega) only [go_sem, ↓reduceIte, reduceIte, Nat.reduceAdd, Nat.reduceLT, Nat.reduceEqDiff, Nat.reduceLeDiff, Nat.reduceMul]
    refine cA_d (fun h1 => ?_) (fun h1 => ?_)
    · have hlt : i < l.length := by omega
      rw [List.drop_eq_getElem_cons hlt, findG] at hf
      simp (maxSteps := 2000000) (disch := omega) only [go_sem, ↓reduceIte, reduceIte, Nat.reduceAdd, Nat.reduceLT, Nat.reduceEqDiff, Nat.reduceLeDiff, Nat.reduceMul]
      refine idxS_map i rfl hlt (fun _ => rfl) ?_
      simp (maxSteps := 2000000) (disch := omega) only [go_sem, ↓reduceIte, reduceIte, Nat.reduceAdd, Nat.reduceLT, Nat.reduceEqDiff, Nat.reduceLeDiff, Nat.reduceMul, Sale.av]
      refine call_1 (contains_ok l[i] s (hl _ (List.getElem_mem _)) hs) (by rfl) (by rfl) ?_
      simp (maxSteps := 2000000) (disch := omega) only [go_sem, ↓reduceIte, reduceIte, Nat.reduceAdd, Nat.reduceLT, Nat.reduceEqDiff, Nat.reduceLeDiff, Nat.reduceMul]
      refine cA_b (fun h2 => ?_) (fun h2 => ?_)
      · simp (maxSteps := 2000000) (disch := omega) only [go_sem, ↓reduceIte, reduceIte, Nat.reduceAdd, Nat.reduceLT, Nat.reduceEqDiff, Nat.reduceLeDiff, Nat.reduceMul]
        simp [hf, h2]
      · simp (maxSteps := 2000000) (disch := omega) only [go_sem, ↓reduceIte, reduceIte, Nat.reduceAdd, Nat.reduceLT, Nat.reduceEqDiff, Nat.reduceLeDiff, Nat.reduceMul]
        simp only [h2] at hf
        refine hR (i + 1) _ ⟨hlt, hf⟩ (by omega) (le_intro (by simp only [allLook, allLookM, go_sem, ↓reduceIte, reduceIte, Nat.reduceAdd, Nat.reduceLT, Nat.reduceEqDiff, Nat.reduceLeDiff, Nat.reduceMul]; try simp) (by simp only [allLook, allLookM, go_sem, ↓reduceIte, reduceIte, Nat.reduceAdd, Nat.reduceLT, Nat.reduceEqDiff, Nat.reduceLeDiff, Nat.reduceMul]; try simp))
    · simp (maxSteps := 2000000) (disch := omega) only [go_sem, ↓reduceIte, reduceIte, Nat.reduceAdd, Nat.reduceLT, Nat.reduceEqDiff, Nat.reduceLeDiff, Nat.reduceMul]
      have : l.length = i := by omega
      subst this
      simp [hf, findG]
end Go.Proofs.Ytpclkldmkmmmhaa
