import Derived.Test.YtojenglklffkoaaG3
import Derived.Test.YtojenglklffkoaaA16
import Derived.Test.YtojenglklffkoaaSB
import Derived.Test.YtojenglklffkoaaLS
namespace Go.Proofs.Ytojenglklffkoaa
open Go Go.AI Go.Proofs
set_option linter.unusedSimpArgs false
set_option linter.unusedVariables false
def In64 (n : Int) : Prop := -9223372036854775808 ≤ n ∧ n ≤ 9223372036854775807
theorem wrapK_uo {n : Int} {k : Int → Prop} : Run (wrapK .u64 n k) = Run (k (n % 18446744073709551616)) := wrapK_out
structure Sale where
  p : Int
  f : Int
  c : Int
  r : Int
  t : Int
def Sale.av (x : Sale) : AV := .agg [.int .i64 x.p, .int .i64 x.f, .int .i64 x.c, .int .i64 x.r, .int .i64 x.t]
def Sale.ok (x : Sale) : Prop := In64 x.p ∧ In64 x.f ∧ In64 x.c ∧ In64 x.r ∧ In64 x.t
def Sale.has (x : Sale) (s : Int) : Bool := decide (x.f ≤ s ∧ s - x.f < x.c)
theorem contains_ok (x : Sale) (s : Int) (hx : x.ok) (hs : In64 s) : CallsTo Try.prog 42 [x.av, .int .i64 s] [.p (.bool (x.has s))] := by
  obtain ⟨p, f, c, r, t⟩ := x
  obtain ⟨-, hf, hc, -, -⟩ := hx
  unfold In64 at hf hc hs
  simp only [] at hf hc
  refine f42_calls (Nat.le_of_ble_eq_true rfl) ?_
  unfold Sale.av Sale.has
  simp (maxSteps := 2000000) (disch := omega) only [go_sem, ↓reduceIte, reduceIte, Nat.reduceAdd, Nat.reduceLT, Nat.reduceEqDiff, Nat.reduceLeDiff, Nat.reduceMul]
  refine gA_dt (fun h1 => ?_) (fun h1 => ?_)
  · simp (maxSteps := 2000000) (disch := omega) only [go_sem, ↓reduceIte, reduceIte, Nat.reduceAdd, Nat.reduceLT, Nat.reduceEqDiff, Nat.reduceLeDiff, Nat.reduceMul]
    refine gA_dt (fun h2 => ?_) (fun h2 => ?_)
    · simp (maxSteps := 2000000) (disch := omega) only [go_sem, ↓reduceIte, reduceIte, Nat.reduceAdd, Nat.reduceLT, Nat.reduceEqDiff, Nat.reduceLeDiff, Nat.reduceMul, ↓wrapK_uo]
      refine congrArg AV.bool (decide_eq_decide.2 ?_)
      omega
    · simp (maxSteps := 2000000) (disch := omega) only [go_sem, ↓reduceIte, reduceIte, Nat.reduceAdd, Nat.reduceLT, Nat.reduceEqDiff, Nat.reduceLeDiff, Nat.reduceMul]
      refine congrArg AV.bool (decide_eq_false ?_).symm
      omega
  · simp (maxSteps := 2000000) (disch := omega) only [go_sem, ↓reduceIte, reduceIte, Nat.reduceAdd, Nat.reduceLT, Nat.reduceEqDiff, Nat.reduceLeDiff, Nat.reduceMul]
    refine congrArg AV.bool (decide_eq_false ?_).symm
    omega

end Go.Proofs.Ytojenglklffkoaa

namespace Go.Proofs.Ytojenglklffkoaa
open Go Go.AI Go.Proofs
set_option linter.unusedSimpArgs false
set_option linter.unusedVariables false
set_option maxRecDepth 4000
structure Product where
  code : List UInt8
  pr : Int
  dep : Int
  mat : Int
  g : Int
def Product.av (x : Product) : AV := .agg [.str x.code, .int .i64 x.pr, .int .i64 x.dep, .int .i64 x.mat, .int .i64 x.g]
def Product.ok (x : Product) : Prop := x.code.length ≤ maxLen ∧ In64 x.pr ∧ In64 x.dep ∧ In64 x.mat ∧ In64 x.g
def depBad (c d : Int) : Bool := decide (c < 1) || decide (1000 < c) || decide (d < 1) || decide (1000 < d)
def depG (ps : List Product) : List Sale → Int → Int × Int
  | [], n => (n, 0)
  | x :: r, n => if h : 0 ≤ x.p ∧ x.p < ps.length then (if depBad x.c (ps[x.p.toNat]'(by omega)).dep then (0, 1) else depG ps r (n + x.c * (ps[x.p.toNat]'(by omega)).dep)) else (0, 7)
def depS (ps : List Product) (l : List Sale) : Int × Int := if 512 < l.length then (0, 8) else depG ps l 0
theorem mul_bd {a b A B : Int} (h1 : 0 ≤ a) (h2 : a ≤ A) (h3 : 0 ≤ b) (h4 : b ≤ B) : 0 ≤ a * b ∧ a * b ≤ A * B :=
  ⟨Int.mul_nonneg h1 h3, Int.mul_le_mul h2 h4 h3 (Int.le_trans h1 h2)⟩
theorem dep18_ok (ps : List Product) (l : List Sale) (hp : ∀ x ∈ ps, x.ok) (hl : ∀ x ∈ l, x.ok) (hn : l.length ≤ 1048576) (hm : ps.length ≤ 1048576) :
    CallsTo Try.prog 24 [.sl (ps.map Product.av), .sl (l.map Sale.av)] [.p (.int .i64 (depS ps l).1), .p (.int .i64 (depS ps l).2)] := by
  refine f24_calls (Nat.le_of_ble_eq_true rfl) ?_
  simp (maxSteps := 2000000) (disch := omega) only [go_sem, ↓reduceIte, reduceIte, Nat.reduceAdd, Nat.reduceLT, Nat.reduceEqDiff, Nat.reduceLeDiff, Nat.reduceMul]
  refine cA_d (fun h1 => ?_) (fun h1 => ?_)
  · have hd : depS ps l = (0, 8) := by unfold depS; rw [if_pos (by omega)]
    rw [hd]
    simp (maxSteps := 2000000) (disch := omega) only [go_sem, ↓reduceIte, reduceIte, Nat.reduceAdd, Nat.reduceLT, Nat.reduceEqDiff, Nat.reduceLeDiff, Nat.reduceMul]
  · have hd : depS ps l = depG ps l 0 := by unfold depS; rw [if_neg (by omega)]
    rw [hd]
    simp (maxSteps := 2000000) (disch := omega) only [go_sem, ↓reduceIte, reduceIte, Nat.reduceAdd, Nat.reduceLT, Nat.reduceEqDiff, Nat.reduceLeDiff, Nat.reduceMul]
    refine loop_of f24L9_is (fun i : Nat × Int => ⟨[(15, .int .i64 i.1), (14, .int .i64 l.length), (13, .sl (l.map Sale.av)), (0, .sl (ps.map Product.av)), (6, .int .i64 i.2)], []⟩) (fun i => i.1 ≤ l.length ∧ 0 ≤ i.2 ∧ i.2 ≤ i.1 * 1000000 ∧ depG ps l 0 = depG ps (l.drop i.1) i.2) (fun i => l.length - i.1) (0, 0) ⟨Nat.zero_le _, by simp, by simp, rfl⟩ (le_intro (by simp only [allLook, allLookM, go_sem, ↓reduceIte, reduceIte, Nat.reduceAdd, Nat.reduceLT, Nat.reduceEqDiff, Nat.reduceLeDiff, Nat.reduceMul]; try simp) (by simp only [allLook, allLookM, go_sem, ↓reduceIte, reduceIte, Nat.reduceAdd, Nat.reduceLT, Nat.reduceEqDiff, Nat.reduceLeDiff, Nat.reduceMul]; try simp)) ?_
    rintro ⟨i, n⟩ R ⟨hi, hn0, hn1, hf⟩ hR
    simp only at hi hn0 hn1 hf
    simp (maxSteps := 2000000) (disch := omega) only [go_sem, ↓reduceIte, reduceIte, Nat.reduceAdd, Nat.reduceLT, Nat.reduceEqDiff, Nat.reduceLeDiff, Nat.reduceMul]
    refine cA_d (fun h2 => ?_) (fun h2 => ?_)
    · have hlt : i < l.length := by omega
      rw [List.drop_eq_getElem_cons hlt, depG] at hf
      have hx := hl l[i] (List.getElem_mem _)
      unfold Sale.ok In64 at hx
      simp (maxSteps := 2000000) (disch := omega) only [go_sem, ↓reduceIte, reduceIte, Nat.reduceAdd, Nat.reduceLT, Nat.reduceEqDiff, Nat.reduceLeDiff, Nat.reduceMul]
      refine idxS_map i rfl hlt (fun _ => rfl) ?_
      simp (maxSteps := 2000000) (disch := omega) only [go_sem, ↓reduceIte, reduceIte, Nat.reduceAdd, Nat.reduceLT, Nat.reduceEqDiff, Nat.reduceLeDiff, Nat.reduceMul, Sale.av]
      (repeat' (first | refine gA_dt (fun h => ?_) (fun h => ?_) | refine gA_df (fun h => ?_) (fun h => ?_) | refine cA_d (fun h => ?_) (fun h => ?_) | simp (maxSteps := 2000000) (disch := omega) only [go_sem, ↓reduceIte, reduceIte, Nat.reduceAdd, Nat.reduceLT, Nat.reduceEqDiff, Nat.reduceLeDiff, Nat.reduceMul]))
      all_goals try (rw [dif_neg (by omega)] at hf; simp [hf]; done)
      · have hp' : 0 ≤ l[i].p ∧ l[i].p < ps.length := by omega
        rw [dif_pos hp'] at hf
        refine idxS_map l[i].p.toNat (by omega) (by omega) (fun _ => rfl) ?_
        have hy := hp ps[l[i].p.toNat] (List.getElem_mem (by omega))
        unfold Product.ok In64 at hy
        simp (maxSteps := 2000000) (disch := omega) only [go_sem, ↓reduceIte, reduceIte, Nat.reduceAdd, Nat.reduceLT, Nat.reduceEqDiff, Nat.reduceLeDiff, Nat.reduceMul, Product.av]
        (repeat' (first | refine gA_dt (fun h => ?_) (fun h => ?_) | refine gA_df (fun h => ?_) (fun h => ?_) | refine cA_d (fun h => ?_) (fun h => ?_) | simp (maxSteps := 2000000) (disch := omega) only [go_sem, ↓reduceIte, reduceIte, Nat.reduceAdd, Nat.reduceLT, Nat.reduceEqDiff, Nat.reduceLeDiff, Nat.reduceMul]))
        all_goals try (rw [if_pos (by simp [depBad]; omega)] at hf; simp [hf]; done)
        have hc' := mul_bd (a := l[i].c) (b := ps[l[i].p.toNat].dep) (A := 1000) (B := 1000) (by omega) (by omega) (by omega) (by omega)
        rw [if_neg (by simp [depBad]; omega)] at hf
        simp (maxSteps := 2000000) (disch := omega) only [go_sem, ↓reduceIte, reduceIte, Nat.reduceAdd, Nat.reduceLT, Nat.reduceEqDiff, Nat.reduceLeDiff, Nat.reduceMul]
        refine hR (i + 1, n + l[i].c * ps[l[i].p.toNat].dep) _ ⟨hlt, by simp only []; omega, by simp only []; omega, hf⟩ (by simp only []; omega) (le_intro (by simp only [allLook, allLookM, go_sem, ↓reduceIte, reduceIte, Nat.reduceAdd, Nat.reduceLT, Nat.reduceEqDiff, Nat.reduceLeDiff, Nat.reduceMul]; try simp) (by simp only [allLook, allLookM, go_sem, ↓reduceIte, reduceIte, Nat.reduceAdd, Nat.reduceLT, Nat.reduceEqDiff, Nat.reduceLeDiff, Nat.reduceMul]; try simp))
    · simp (maxSteps := 2000000) (disch := omega) only [go_sem, ↓reduceIte, reduceIte, Nat.reduceAdd, Nat.reduceLT, Nat.reduceEqDiff, Nat.reduceLeDiff, Nat.reduceMul]
      have : l.length = i := by omega
      subst this
      simp [hf, depG]
end Go.Proofs.Ytojenglklffkoaa

namespace Go.Proofs.Ytojenglklffkoaa
open Go Go.AI Go.Proofs
set_option linter.unusedSimpArgs false
set_option linter.unusedVariables false
set_option maxRecDepth 4000
theorem dep19_ok (ps : List Product) (l : List Sale) (hp : ∀ x ∈ ps, x.ok) (hl : ∀ x ∈ l, x.ok) (hn : l.length ≤ 1048576) (hm : ps.length ≤ 1048576) :
    CallsTo Try.prog 28 [.sl (ps.map Product.av), .sl (l.map Sale.av)] [.p (.int .i64 (depS ps l).1), .p (.int .i64 (depS ps l).2)] := by
  refine f28_calls (Nat.le_of_ble_eq_true rfl) ?_
  simp (maxSteps := 2000000) (disch := omega) only [go_sem, ↓reduceIte, reduceIte, Nat.reduceAdd, Nat.reduceLT, Nat.reduceEqDiff, Nat.reduceLeDiff, Nat.reduceMul]
  refine cA_d (fun h1 => ?_) (fun h1 => ?_)
  · have hd : depS ps l = (0, 8) := by unfold depS; rw [if_pos (by omega)]
    rw [hd]
    simp (maxSteps := 2000000) (disch := omega) only [go_sem, ↓reduceIte, reduceIte, Nat.reduceAdd, Nat.reduceLT, Nat.reduceEqDiff, Nat.reduceLeDiff, Nat.reduceMul]
  · have hd : depS ps l = depG ps l 0 := by unfold depS; rw [if_neg (by omega)]
    rw [hd]
    simp (maxSteps := 2000000) (disch := omega) only [go_sem, ↓reduceIte, reduceIte, Nat.reduceAdd, Nat.reduceLT, Nat.reduceEqDiff, Nat.reduceLeDiff, Nat.reduceMul]
    refine loop_of f28L9_is (fun i : Nat × Int => ⟨[(7, .int .i64 i.1), (1, .sl (l.map Sale.av)), (0, .sl (ps.map Product.av)), (6, .int .i64 i.2)], []⟩) (fun i => i.1 ≤ l.length ∧ 0 ≤ i.2 ∧ i.2 ≤ i.1 * 1000000 ∧ depG ps l 0 = depG ps (l.drop i.1) i.2) (fun i => l.length - i.1) (0, 0) ⟨Nat.zero_le _, by simp, by simp, rfl⟩ (le_intro (by simp only [allLook, allLookM, go_sem, ↓reduceIte, reduceIte, Nat.reduceAdd, Nat.reduceLT, Nat.reduceEqDiff, Nat.reduceLeDiff, Nat.reduceMul]; try simp) (by simp only [allLook, allLookM, go_sem, ↓reduceIte, reduceIte, Nat.reduceAdd, Nat.reduceLT, Nat.reduceEqDiff, Nat.reduceLeDiff, Nat.reduceMul]; try simp)) ?_
    rintro ⟨i, n⟩ R ⟨hi, hn0, hn1, hf⟩ hR
    simp only at hi hn0 hn1 hf
    simp (maxSteps := 2000000) (disch := omega) only [go_sem, ↓reduceIte, reduceIte, Nat.reduceAdd, Nat.reduceLT, Nat.reduceEqDiff, Nat.reduceLeDiff, Nat.reduceMul]
    refine cA_d (fun h2 => ?_) (fun h2 => ?_)
    · have hlt : i < l.length := by omega
      rw [List.drop_eq_getElem_cons hlt, depG] at hf
      have hx := hl l[i] (List.getElem_mem _)
      unfold Sale.ok In64 at hx
      by_cases hp' : 0 ≤ l[i].p ∧ l[i].p < ps.length
      · have hy := hp ps[l[i].p.toNat] (List.getElem_mem (by omega))
        unfold Product.ok In64 at hy
        rw [dif_pos hp'] at hf
        (repeat' (first | refine gA_dt (fun h => ?_) (fun h => ?_) | refine gA_df (fun h => ?_) (fun h => ?_) | refine cA_d (fun h => ?_) (fun h => ?_) | refine idxS_map i rfl hlt (fun _ => rfl) ?_ | refine idxS_map l[i].p.toNat (by omega) (by omega) (fun _ => rfl) ?_ | simp (maxSteps := 2000000) (disch := omega) only [go_sem, ↓reduceIte, reduceIte, Nat.reduceAdd, Nat.reduceLT, Nat.reduceEqDiff, Nat.reduceLeDiff, Nat.reduceMul, Sale.av, Product.av]))
        all_goals try (exfalso; omega)
        all_goals try (rw [if_pos (by simp [depBad]; omega)] at hf; simp [hf]; done)
        have hc' := mul_bd (a := l[i].c) (b := ps[l[i].p.toNat].dep) (A := 1000) (B := 1000) (by omega) (by omega) (by omega) (by omega)
        rw [if_neg (by simp [depBad]; omega)] at hf
        simp (maxSteps := 2000000) (disch := omega) only [go_sem, ↓reduceIte, reduceIte, Nat.reduceAdd, Nat.reduceLT, Nat.reduceEqDiff, Nat.reduceLeDiff, Nat.reduceMul]
        refine hR (i + 1, n + l[i].c * ps[l[i].p.toNat].dep) _ ⟨hlt, by simp only []; omega, by simp only []; omega, hf⟩ (by simp only []; omega) (le_intro (by simp only [allLook, allLookM, go_sem, ↓reduceIte, reduceIte, Nat.reduceAdd, Nat.reduceLT, Nat.reduceEqDiff, Nat.reduceLeDiff, Nat.reduceMul]; try simp) (by simp only [allLook, allLookM, go_sem, ↓reduceIte, reduceIte, Nat.reduceAdd, Nat.reduceLT, Nat.reduceEqDiff, Nat.reduceLeDiff, Nat.reduceMul]; try simp))
      · rw [dif_neg hp'] at hf
        (repeat' (first | refine gA_dt (fun h => ?_) (fun h => ?_) | refine gA_df (fun h => ?_) (fun h => ?_) | refine cA_d (fun h => ?_) (fun h => ?_) | refine idxS_map i rfl hlt (fun _ => rfl) ?_ | simp (maxSteps := 2000000) (disch := omega) only [go_sem, ↓reduceIte, reduceIte, Nat.reduceAdd, Nat.reduceLT, Nat.reduceEqDiff, Nat.reduceLeDiff, Nat.reduceMul, Sale.av, Product.av]))
        all_goals try (exfalso; omega)
        all_goals simp [hf]
    · simp (maxSteps := 2000000) (disch := omega) only [go_sem, ↓reduceIte, reduceIte, Nat.reduceAdd, Nat.reduceLT, Nat.reduceEqDiff, Nat.reduceLeDiff, Nat.reduceMul]
      have : l.length = i := by omega
      subst this
      simp [hf, depG]
end Go.Proofs.Ytojenglklffkoaa

namespace Go.Proofs.Ytojenglklffkoaa
open Go Go.AI Go.Proofs
set_option linter.unusedSimpArgs false
set_option linter.unusedVariables false
set_option maxRecDepth 4000
def faultS (x : Sale) (np nq : Int) : Int :=
  if x.p < 0 ∨ np ≤ x.p then 7 else if x.f < 0 ∨ 1073741824 < x.f ∨ x.c < 1 ∨ 1000 < x.c ∨ 1073741824 < x.f + x.c - 1 then 1 else if x.r < 0 ∨ nq ≤ x.r then 7 else if x.t < 0 ∨ 3155759999 < x.t then 1 else 0
theorem fault28_ok (x : Sale) (np nq : Int) (hx : x.ok) (h1 : In64 np) (h2 : In64 nq) : CallsTo Try.prog 38 [x.av, .int .i64 np, .int .i64 nq] [.p (.int .i64 (faultS x np nq))] := by
  obtain ⟨p, f, c, r, t⟩ := x
  unfold Sale.ok In64 at hx
  unfold In64 at h1 h2
  simp only [] at hx
  refine f38_calls (Nat.le_of_ble_eq_true rfl) ?_
  unfold Sale.av
  (repeat' (first | refine gA_dt (fun h => ?_) (fun h => ?_) | refine gA_df (fun h => ?_) (fun h => ?_) | refine cA_d (fun h => ?_) (fun h => ?_) | simp (maxSteps := 2000000) (disch := omega) only [go_sem, ↓reduceIte, reduceIte, Nat.reduceAdd, Nat.reduceLT, Nat.reduceEqDiff, Nat.reduceLeDiff, Nat.reduceMul]))
  all_goals (simp only [AV.int.injEq, true_and, faultS])
  all_goals ((repeat' split) <;> omega)
theorem one33_ok (x : Sale) (np nq : Int) (hx : x.ok) (h1 : In64 np) (h2 : In64 nq) : CallsTo Try.prog 43 [.int .i64 np, x.av, .int .i64 nq] [.p (.int .i64 (faultS x np nq))] := by
  obtain ⟨p, f, c, r, t⟩ := x
  unfold Sale.ok In64 at hx
  unfold In64 at h1 h2
  simp only [] at hx
  refine f43_calls (Nat.le_of_ble_eq_true rfl) ?_
  unfold Sale.av
  (repeat' (first | refine gA_dt (fun h => ?_) (fun h => ?_) | refine gA_df (fun h => ?_) (fun h => ?_) | refine cA_d (fun h => ?_) (fun h => ?_) | simp (maxSteps := 2000000) (disch := omega) only [go_sem, ↓reduceIte, reduceIte, Nat.reduceAdd, Nat.reduceLT, Nat.reduceEqDiff, Nat.reduceLeDiff, Nat.reduceMul]))
  all_goals (simp only [AV.int.injEq, true_and, faultS])
  all_goals ((repeat' split) <;> omega)
end Go.Proofs.Ytojenglklffkoaa

namespace Go.Proofs.Ytojenglklffkoaa
open Go Go.AI Go.Proofs
set_option linter.unusedSimpArgs false
set_option linter.unusedVariables false
set_option maxRecDepth 4000
theorem contains34_ok (x : Sale) (s : Int) (hx : x.ok) (hs : In64 s) : CallsTo Try.prog 44 [x.av, .int .i64 s] [.p (.bool (x.has s))] := by
  obtain ⟨p, f, c, r, t⟩ := x
  obtain ⟨-, hf, hc, -, -⟩ := hx
  unfold In64 at hf hc hs
  simp only [] at hf hc
  refine f44_calls (Nat.le_of_ble_eq_true rfl) ?_
  unfold Sale.av Sale.has
  (repeat' (first | refine gA_dt (fun h => ?_) (fun h => ?_) | simp (maxSteps := 2000000) (disch := omega) only [go_sem, ↓reduceIte, reduceIte, Nat.reduceAdd, Nat.reduceLT, Nat.reduceEqDiff, Nat.reduceLeDiff, Nat.reduceMul, ↓wrapK_uo]))
  all_goals first | (refine congrArg AV.bool (decide_eq_decide.2 ?_); omega) | (refine congrArg AV.bool (decide_eq_false ?_).symm; omega)
end Go.Proofs.Ytojenglklffkoaa

namespace Go.Proofs.Ytojenglklffkoaa
open Go Go.AI Go.Proofs
set_option linter.unusedSimpArgs false
set_option linter.unusedVariables false
set_option maxRecDepth 4000
theorem ints25_ok (a b : List Int) (ha : a.length ≤ 1048576) (hb : b.length ≤ 1048576) : CallsTo Try.prog 14 [.sl (a.map (AV.int .i64)), .sl (b.map (AV.int .i64))] [.p (.bool (decide (a = b)))] := by
  refine f14_calls (Nat.le_of_ble_eq_true rfl) ?_
  simp (maxSteps := 2000000) (disch := omega) only [go_sem, ↓reduceIte, reduceIte, Nat.reduceAdd, Nat.reduceLT, Nat.reduceEqDiff, Nat.reduceLeDiff, Nat.reduceMul]
  refine cA_d (fun h1 => ?_) (fun h1 => ?_)
  · have hne : a ≠ b := fun e => h1 (by rw [e])
    simp (maxSteps := 2000000) (disch := omega) only [go_sem, ↓reduceIte, reduceIte, Nat.reduceAdd, Nat.reduceLT, Nat.reduceEqDiff, Nat.reduceLeDiff, Nat.reduceMul]
    simp [hne]
  · simp (maxSteps := 2000000) (disch := omega) only [go_sem, ↓reduceIte, reduceIte, Nat.reduceAdd, Nat.reduceLT, Nat.reduceEqDiff, Nat.reduceLeDiff, Nat.reduceMul]
    have hlen : a.length = b.length := by omega
    refine loop_of f14L8_is (fun i : Nat => ⟨[(5, .int .i64 i), (0, .sl (a.map (AV.int .i64))), (1, .sl (b.map (AV.int .i64)))], []⟩) (fun i => i ≤ a.length ∧ (a = b ↔ a.drop i = b.drop i)) (fun i => a.length - i) 0 ⟨Nat.zero_le _, by simp⟩ (le_intro (by simp only [allLook, allLookM, go_sem, ↓reduceIte, reduceIte, Nat.reduceAdd, Nat.reduceLT, Nat.reduceEqDiff, Nat.reduceLeDiff, Nat.reduceMul]; try simp) (by simp only [allLook, allLookM, go_sem, ↓reduceIte, reduceIte, Nat.reduceAdd, Nat.reduceLT, Nat.reduceEqDiff, Nat.reduceLeDiff, Nat.reduceMul]; try simp)) ?_
    rintro i R ⟨hi, hf⟩ hR
    simp (maxSteps := 2000000) (disch := omega) only [go_sem, ↓reduceIte, reduceIte, Nat.reduceAdd, Nat.reduceLT, Nat.reduceEqDiff, Nat.reduceLeDiff, Nat.reduceMul]
    refine cA_d (fun h2 => ?_) (fun h2 => ?_)
    · have hlt : i < a.length := by omega
      have hlt' : i < b.length := by omega
      rw [List.drop_eq_getElem_cons hlt, List.drop_eq_getElem_cons hlt', List.cons.injEq] at hf
      simp (maxSteps := 2000000) (disch := omega) only [go_sem, ↓reduceIte, reduceIte, Nat.reduceAdd, Nat.reduceLT, Nat.reduceEqDiff, Nat.reduceLeDiff, Nat.reduceMul]
      refine idxS_map i rfl hlt (fun _ => rfl) ?_
      simp (maxSteps := 2000000) (disch := omega) only [go_sem, ↓reduceIte, reduceIte, Nat.reduceAdd, Nat.reduceLT, Nat.reduceEqDiff, Nat.reduceLeDiff, Nat.reduceMul]
      refine idxS_map i rfl hlt' (fun _ => rfl) ?_
      simp (maxSteps := 2000000) (disch := omega) only [go_sem, ↓reduceIte, reduceIte, Nat.reduceAdd, Nat.reduceLT, Nat.reduceEqDiff, Nat.reduceLeDiff, Nat.reduceMul]
      refine cA_d (fun h3 => ?_) (fun h3 => ?_)
      · have hne : a ≠ b := fun e => h3 (hf.1 e).1
        simp (maxSteps := 2000000) (disch := omega) only [go_sem, ↓reduceIte, reduceIte, Nat.reduceAdd, Nat.reduceLT, Nat.reduceEqDiff, Nat.reduceLeDiff, Nat.reduceMul]
        simp [hne]
      · have h3' : a[i] = b[i] := Decidable.not_not.1 h3
        simp (maxSteps := 2000000) (disch := omega) only [go_sem, ↓reduceIte, reduceIte, Nat.reduceAdd, Nat.reduceLT, Nat.reduceEqDiff, Nat.reduceLeDiff, Nat.reduceMul]
        refine hR (i + 1) _ ⟨hlt, by rw [hf]; exact ⟨fun h => h.2, fun h => ⟨h3', h⟩⟩⟩ (by omega) (le_intro (by simp only [allLook, allLookM, go_sem, ↓reduceIte, reduceIte, Nat.reduceAdd, Nat.reduceLT, Nat.reduceEqDiff, Nat.reduceLeDiff, Nat.reduceMul]; try simp) (by simp only [allLook, allLookM, go_sem, ↓reduceIte, reduceIte, Nat.reduceAdd, Nat.reduceLT, Nat.reduceEqDiff, Nat.reduceLeDiff, Nat.reduceMul]; try simp))
    · simp (maxSteps := 2000000) (disch := omega) only [go_sem, ↓reduceIte, reduceIte, Nat.reduceAdd, Nat.reduceLT, Nat.reduceEqDiff, Nat.reduceLeDiff, Nat.reduceMul]
      have : a.length = i := by omega
      have e1 : a.drop i = [] := by rw [← this]; simp
      have e2 : b.drop i = [] := by rw [← this, hlen]; simp
      rw [e1, e2] at hf
      simp [hf]
end Go.Proofs.Ytojenglklffkoaa

namespace Go.Proofs.Ytojenglklffkoaa
open Go Go.AI Go.Proofs
set_option linter.unusedSimpArgs false
set_option linter.unusedVariables false
set_option maxRecDepth 4000
theorem Sale.cells5 {l : List Sale} : ∀ y ∈ l.map Sale.av, y.cells.length = 5 := by
  intro y hy
  obtain ⟨x, _, rfl⟩ := List.mem_map.1 hy
  rfl
theorem clone29_ok (l : List Sale) (hn : l.length ≤ 1048576) : CallsTo Try.prog 39 [.sl (l.map Sale.av)] [.fresh 42 5 (l.map Sale.av)] := by
  refine f39_calls (Nat.le_of_ble_eq_true rfl) ?_
  simp (maxSteps := 2000000) (disch := omega) only [go_sem, ↓reduceIte, reduceIte, Nat.reduceAdd, Nat.reduceLT, Nat.reduceEqDiff, Nat.reduceLeDiff, Nat.reduceMul]
  refine nlR_ways (fun h => ?_) (fun h => ?_) (fun h => ?_)
  · simp (maxSteps := 2000000) (disch := omega) only [go_sem, ↓reduceIte, reduceIte, Nat.reduceAdd, Nat.reduceLT, Nat.reduceEqDiff, Nat.reduceLeDiff, Nat.reduceMul]
    rw [h]
  all_goals
    simp (maxSteps := 2000000) (disch := omega) only [go_sem, ↓reduceIte, reduceIte, Nat.reduceAdd, Nat.reduceLT, Nat.reduceEqDiff, Nat.reduceLeDiff, Nat.reduceMul]
    refine bsK_intro (xs := []) rfl (by decide) (by decide) (by rfl) ?_
    simp (maxSteps := 2000000) (disch := omega) only [go_sem, ↓reduceIte, reduceIte, Nat.reduceAdd, Nat.reduceLT, Nat.reduceEqDiff, Nat.reduceLeDiff, Nat.reduceMul]
    refine appendA_of (ty := 42) (k := 5) (bytes := 40) (z := [.int .i64 0, .int .i64 0, .int .i64 0, .int .i64 0, .int .i64 0]) (by kernel_rfl) (by kernel_rfl) (by kernel_rfl) rfl ?_
    simp (maxSteps := 2000000) (disch := omega) only [go_sem, ↓reduceIte, reduceIte, Nat.reduceAdd, Nat.reduceLT, Nat.reduceEqDiff, Nat.reduceLeDiff, Nat.reduceMul]
    refine appO_few (by decide) (by decide) (by simp) Sale.cells5 (by simp; omega) ?_
    simp (maxSteps := 2000000) (disch := omega) only [go_sem, ↓reduceIte, reduceIte, Nat.reduceAdd, Nat.reduceLT, Nat.reduceEqDiff, Nat.reduceLeDiff, Nat.reduceMul]
theorem cmp31_ok (x y : Sale) (hx : 0 ≤ x.f ∧ x.f ≤ 1073741824) (hy : 0 ≤ y.f ∧ y.f ≤ 1073741824) : CallsTo Try.prog 41 [x.av, y.av] [.p (.int .i64 (x.f - y.f))] := by
  obtain ⟨p, f, c, r, t⟩ := x
  obtain ⟨p', f', c', r', t'⟩ := y
  simp only [] at hx hy
  refine f41_calls (Nat.le_of_ble_eq_true rfl) ?_
  unfold Sale.av
  simp (maxSteps := 2000000) (disch := omega) only [go_sem, ↓reduceIte, reduceIte, Nat.reduceAdd, Nat.reduceLT, Nat.reduceEqDiff, Nat.reduceLeDiff, Nat.reduceMul]
end Go.Proofs.Ytojenglklffkoaa

namespace Go.Proofs.Ytojenglklffkoaa
open Go Go.AI Go.Proofs
set_option linter.unusedSimpArgs false
set_option linter.unusedVariables false
set_option maxRecDepth 4000
abbrev VSale := { x : Sale // 0 ≤ x.f ∧ x.f ≤ 1073741824 }
instance : Inhabited VSale := ⟨⟨⟨0, 0, 0, 0, 0⟩, by decide⟩⟩
theorem sort30_ok (l : List Sale) (h : ∀ x ∈ l, 0 ≤ x.f ∧ x.f ≤ 1073741824) (hn : l.length ≤ 1048576) :
    ∃ s : List Sale, s.Perm l ∧ s.Pairwise (fun a b => a.f ≤ b.f) ∧ SortsTo Try.prog 40 42 5 (l.map Sale.av) [.fn 41 []] (s.map Sale.av) := by
  let cf : VSale → VSale → Int := fun x y => x.1.f - y.1.f
  have hO : Go.Sort.SWO (Go.Proofs.ltOf cf) := by
    constructor
    · intro x; simp [Go.Proofs.ltOf, cf]
    · intro x y z h1 h2; simp [Go.Proofs.ltOf, cf] at *; omega
    · intro x y z h1 h2; simp [Go.Proofs.ltOf, cf] at *; omega
  have hs := sortsTo_of sortSale 5 Try.isAgg42 Try.sizeOf42 (fun x : VSale => [.int .i64 x.1.p, .int .i64 x.1.f, .int .i64 x.1.c, .int .i64 x.1.r, .int .i64 x.1.t]) (fun _ => rfl)
    (fun x c hc => by simp at hc; rcases hc with rfl | rfl | rfl | rfl | rfl <;> exact ⟨rfl, rfl, fun s e => by cases e⟩) cf hO 41 [] (fun x y => cmp31_ok x.1 y.1 x.2 y.2)
  let l' : List VSale := l.pmap Subtype.mk h
  have hl' : l'.map Subtype.val = l := by simp [l', List.map_pmap]
  have hlen : l'.length = l.length := by simp [l']
  obtain ⟨p1, p2⟩ := sortL_spec cf hO l'
  refine ⟨(sortL cf l').map Subtype.val, ?_, ?_, ?_⟩
  · rw [← hl']; exact p1.map _
  · rw [List.pairwise_map]
    refine p2.imp ?_
    intro a b hab
    simp only [cf] at hab; omega
  · have := hs l' (by omega)
    have e1 : l'.map (fun x : VSale => AV.agg [.int .i64 x.1.p, .int .i64 x.1.f, .int .i64 x.1.c, .int .i64 x.1.r, .int .i64 x.1.t]) = l.map Sale.av := by
      conv => rhs; rw [← hl', List.map_map]
      rfl
    have e2 : (sortL cf l').map (fun x : VSale => AV.agg [.int .i64 x.1.p, .int .i64 x.1.f, .int .i64 x.1.c, .int .i64 x.1.r, .int .i64 x.1.t]) = ((sortL cf l').map Subtype.val).map Sale.av := by
      rw [List.map_map]; rfl
    rw [e1, e2] at this
    exact this
def firstF (np nq : Int) : List Sale → Int
  | [] => 0
  | x :: r => if faultS x np nq ≠ 0 then faultS x np nq else firstF np nq r
theorem firstF_zero (np nq : Int) : ∀ (l : List Sale), firstF np nq l = 0 → ∀ x ∈ l, faultS x np nq = 0
  | [], _, x, hx => by simp at hx
  | y :: r, h, x, hx => by
    unfold firstF at h
    split at h
    · contradiction
    · rename_i h0
      rcases List.mem_cons.1 hx with rfl | hx
      · exact Decidable.not_not.1 h0
      · exact firstF_zero np nq r h x hx
def disj (a b : Sale) : Prop := a.has b.f = false ∧ b.has a.f = false
instance (a b : Sale) : Decidable (disj a b) := by unfold disj; exact inferInstance
def checkS (np nq : Int) (l : List Sale) : Int := if 512 < l.length then 8 else if firstF np nq l ≠ 0 then firstF np nq l else if l.Pairwise disj then 0 else 6
def adjB : List Sale → Bool
  | a :: b :: r => !a.has b.f && adjB (b :: r)
  | _ => true
theorem faultS_zero {x : Sale} {np nq : Int} (h : faultS x np nq = 0) : 0 ≤ x.f ∧ x.f ≤ 1073741824 ∧ 1 ≤ x.c ∧ x.c ≤ 1000 := by
  unfold faultS at h
  repeat' (split at h)
  all_goals first | omega | contradiction
theorem adj_pairwise : ∀ (s : List Sale), s.Pairwise (fun a b => a.f ≤ b.f) → (∀ x ∈ s, 1 ≤ x.c) → (s.Pairwise disj ↔ adjB s = true)
  | [], _, _ => by simp [adjB]
  | [a], _, _ => by simp [adjB]
  | a :: b :: r, h, hc => by
    have ih := adj_pairwise (b :: r) (List.pairwise_cons.1 h).2 (fun x hx => hc x (by simp [hx]))
    rw [List.pairwise_cons, ih]
    have h1 := (List.pairwise_cons.1 h).1
    have h2 := (List.pairwise_cons.1 (List.pairwise_cons.1 h).2).1
    have hca := hc a (by simp)
    simp only [adjB, Bool.and_eq_true, Bool.not_eq_true']
    constructor
    · rintro ⟨h3, h4⟩; exact ⟨(h3 b (by simp)).1, h4⟩
    · rintro ⟨h3, h4⟩
      refine ⟨fun x hx => ?_, h4⟩
      have hab := h1 b (by simp)
      have hbx : b.f ≤ x.f := by
        rcases List.mem_cons.1 hx with rfl | hx
        · exact Int.le_refl _
        · exact h2 x hx
      simp only [Sale.has, decide_eq_false_iff_not] at h3
      unfold disj
      simp only [Sale.has, decide_eq_false_iff_not]
      omega
theorem disj_perm {s l : List Sale} (h : s.Perm l) : s.Pairwise disj ↔ l.Pairwise disj := h.pairwise_iff (fun {x y} hxy => ⟨hxy.2, hxy.1⟩)
theorem Sale.flat_scal (s : List Sale) : ∀ c ∈ flat (s.map Sale.av), c.scal = true := by
  intro c hc
  induction s with
  | nil => simp [flat] at hc
  | cons x s ih =>
    simp only [List.map_cons, flat, List.mem_append] at hc
    rcases hc with hc | hc
    · simp [Sale.av, AV.cells] at hc; rcases hc with rfl | rfl | rfl | rfl | rfl <;> rfl
    · exact ih hc
theorem check11_ok (np : List Product) (l : List Sale) (nq : Int) (hl : ∀ x ∈ l, x.ok) (hq : In64 nq) (hn : l.length ≤ 1048576) (hm : np.length ≤ 1048576) :
    CallsTo Try.prog 23 [.sl (np.map Product.av), .sl (l.map Sale.av), .int .i64 nq] [.p (.int .i64 (checkS np.length nq l))] := by
  refine f23_calls (Nat.le_of_ble_eq_true rfl) ?_
  simp (maxSteps := 2000000) (disch := omega) only [go_sem, ↓reduceIte, reduceIte, Nat.reduceAdd, Nat.reduceLT, Nat.reduceEqDiff, Nat.reduceLeDiff, Nat.reduceMul]
  refine cA_d (fun h1 => ?_) (fun h1 => ?_)
  · have hd : checkS np.length nq l = 8 := by unfold checkS; rw [if_pos (by omega)]
    rw [hd]
    simp (maxSteps := 2000000) (disch := omega) only [go_sem, ↓reduceIte, reduceIte, Nat.reduceAdd, Nat.reduceLT, Nat.reduceEqDiff, Nat.reduceLeDiff, Nat.reduceMul]
  · have hd : checkS np.length nq l = if firstF np.length nq l ≠ 0 then firstF np.length nq l else if l.Pairwise disj then 0 else 6 := by unfold checkS; rw [if_neg (by omega)]
    rw [hd]
    simp (maxSteps := 2000000) (disch := omega) only [go_sem, ↓reduceIte, reduceIte, Nat.reduceAdd, Nat.reduceLT, Nat.reduceEqDiff, Nat.reduceLeDiff, Nat.reduceMul]
    refine loop_of f23L8_is (fun i : Nat => ⟨[(17, .int .i64 i), (16, .int .i64 l.length), (15, .sl (l.map Sale.av)), (1, .sl (l.map Sale.av)), (0, .sl (np.map Product.av)), (2, .int .i64 nq)], []⟩) (fun i => i ≤ l.length ∧ firstF np.length nq l = firstF np.length nq (l.drop i)) (fun i => l.length - i) 0 ⟨Nat.zero_le _, rfl⟩ (le_intro (by simp only [allLook, allLookM, go_sem, ↓reduceIte, reduceIte, Nat.reduceAdd, Nat.reduceLT, Nat.reduceEqDiff, Nat.reduceLeDiff, Nat.reduceMul]; try simp) (by simp only [allLook, allLookM, go_sem, ↓reduceIte, reduceIte, Nat.reduceAdd, Nat.reduceLT, Nat.reduceEqDiff, Nat.reduceLeDiff, Nat.reduceMul]; try simp)) ?_
    rintro i R ⟨hi, hf⟩ hR
    simp (maxSteps := 2000000) (disch := omega) only [go_sem, ↓reduceIte, reduceIte, Nat.reduceAdd, Nat.reduceLT, Nat.reduceEqDiff, Nat.reduceLeDiff, Nat.reduceMul]
    refine cA_d (fun h2 => ?_) (fun h2 => ?_)
    · have hlt : i < l.length := by omega
      rw [List.drop_eq_getElem_cons hlt, firstF] at hf
      simp (maxSteps := 2000000) (disch := omega) only [go_sem, ↓reduceIte, reduceIte, Nat.reduceAdd, Nat.reduceLT, Nat.reduceEqDiff, Nat.reduceLeDiff, Nat.reduceMul]
      refine idxS_map i rfl hlt (fun _ => rfl) ?_
      simp (maxSteps := 2000000) (disch := omega) only [go_sem, ↓reduceIte, reduceIte, Nat.reduceAdd, Nat.reduceLT, Nat.reduceEqDiff, Nat.reduceLeDiff, Nat.reduceMul, Sale.av]
      refine call_1 (fault28_ok l[i] np.length nq (hl _ (List.getElem_mem _)) (by unfold In64; omega) hq) (by rfl) (by rfl) ?_
      simp (maxSteps := 2000000) (disch := omega) only [go_sem, ↓reduceIte, reduceIte, Nat.reduceAdd, Nat.reduceLT, Nat.reduceEqDiff, Nat.reduceLeDiff, Nat.reduceMul]
      refine cA_d (fun h3 => ?_) (fun h3 => ?_)
      · rw [if_pos h3] at hf
        simp (maxSteps := 2000000) (disch := omega) only [go_sem, ↓reduceIte, reduceIte, Nat.reduceAdd, Nat.reduceLT, Nat.reduceEqDiff, Nat.reduceLeDiff, Nat.reduceMul]
        rw [hf, if_pos h3]
      · rw [if_neg h3] at hf
        simp (maxSteps := 2000000) (disch := omega) only [go_sem, ↓reduceIte, reduceIte, Nat.reduceAdd, Nat.reduceLT, Nat.reduceEqDiff, Nat.reduceLeDiff, Nat.reduceMul]
        exact hR (i + 1) _ ⟨hlt, hf⟩ (by omega) (le_intro (by simp only [allLook, allLookM, go_sem, ↓reduceIte, reduceIte, Nat.reduceAdd, Nat.reduceLT, Nat.reduceEqDiff, Nat.reduceLeDiff, Nat.reduceMul]; try simp) (by simp only [allLook, allLookM, go_sem, ↓reduceIte, reduceIte, Nat.reduceAdd, Nat.reduceLT, Nat.reduceEqDiff, Nat.reduceLeDiff, Nat.reduceMul]; try simp))
    · have : l.length = i := by omega
      have hff : firstF np.length nq l = 0 := by rw [hf, ← this]; simp [firstF]
      have hz := firstF_zero _ _ l hff
      rw [if_neg (by rw [hff]; simp)]
      simp (maxSteps := 2000000) (disch := omega) only [go_sem, ↓reduceIte, reduceIte, Nat.reduceAdd, Nat.reduceLT, Nat.reduceEqDiff, Nat.reduceLeDiff, Nat.reduceMul]
      refine call_f1 (clone29_ok l hn) (by rfl) (by rfl) ?_
      simp (maxSteps := 2000000) (disch := omega) only [go_sem, ↓reduceIte, reduceIte, Nat.reduceAdd, Nat.reduceLT, Nat.reduceEqDiff, Nat.reduceLeDiff, Nat.reduceMul]
      obtain ⟨s, hperm, hsort, hs⟩ := sort30_ok l (fun x hx => ⟨(faultS_zero (hz x hx)).1, (faultS_zero (hz x hx)).2.1⟩) hn
      refine call_s (id := 31) (rest := [.fn 41 []]) (rest' := [.fn 41 []]) rfl (by rfl) (by rfl) hs ?_ ?_
      · exact Sale.flat_scal s
      simp (maxSteps := 2000000) (disch := omega) only [go_sem, ↓reduceIte, reduceIte, Nat.reduceAdd, Nat.reduceLT, Nat.reduceEqDiff, Nat.reduceLeDiff, Nat.reduceMul]
      have hsl : s.length = l.length := hperm.length_eq
      have hadj := adj_pairwise s hsort (fun x hx => (faultS_zero (hz x (hperm.mem_iff.1 hx))).2.2.1)
      have hite : (if l.Pairwise disj then (0 : Int) else 6) = if adjB s = true then 0 else 6 := by
        simp only [← disj_perm hperm, hadj]
      rw [hite]
      have hsok : ∀ x ∈ s, x.ok := fun x hx => hl x (hperm.mem_iff.1 hx)
      clear hite hadj hsort hs hd hR
      refine loop_of f23L25_is (fun i : Nat => ⟨[(11, .int .i64 i), (10, .own 31)], [(31, .arr 42 5 (s.map Sale.av))]⟩) (fun i => 1 ≤ i ∧ (i ≤ s.length ∨ s = []) ∧ adjB s = adjB (s.drop (i - 1))) (fun i => s.length - i) 1 ⟨Nat.le_refl _, by cases s <;> simp, rfl⟩ (le_intro (by simp only [allLook, allLookM, go_sem, ↓reduceIte, reduceIte, Nat.reduceAdd, Nat.reduceLT, Nat.reduceEqDiff, Nat.reduceLeDiff, Nat.reduceMul]; try simp) (by simp only [allLook, allLookM, go_sem, ↓reduceIte, reduceIte, Nat.reduceAdd, Nat.reduceLT, Nat.reduceEqDiff, Nat.reduceLeDiff, Nat.reduceMul]; try simp)) ?_
      rintro i R ⟨hi, hi2, hf⟩ hR
      simp (maxSteps := 2000000) (disch := omega) only [go_sem, ↓reduceIte, reduceIte, Nat.reduceAdd, Nat.reduceLT, Nat.reduceEqDiff, Nat.reduceLeDiff, Nat.reduceMul]
      refine cA_d (fun h2 => ?_) (fun h2 => ?_)
      · have hlt : i < s.length := by omega
        rw [List.drop_eq_getElem_cons (by omega), show i - 1 + 1 = i by omega, List.drop_eq_getElem_cons hlt, adjB] at hf
        simp (maxSteps := 2000000) (disch := omega) only [go_sem, ↓reduceIte, reduceIte, Nat.reduceAdd, Nat.reduceLT, Nat.reduceEqDiff, Nat.reduceLeDiff, Nat.reduceMul]
        refine idxO_map (i - 1) (by omega) (by omega) ?_
        simp (maxSteps := 2000000) (disch := omega) only [go_sem, ↓reduceIte, reduceIte, Nat.reduceAdd, Nat.reduceLT, Nat.reduceEqDiff, Nat.reduceLeDiff, Nat.reduceMul]
        refine at_map (by omega) ?_
        simp (maxSteps := 2000000) (disch := omega) only [go_sem, ↓reduceIte, reduceIte, Nat.reduceAdd, Nat.reduceLT, Nat.reduceEqDiff, Nat.reduceLeDiff, Nat.reduceMul, Sale.av]
        refine idxO_map i rfl hlt ?_
        simp (maxSteps := 2000000) (disch := omega) only [go_sem, ↓reduceIte, reduceIte, Nat.reduceAdd, Nat.reduceLT, Nat.reduceEqDiff, Nat.reduceLeDiff, Nat.reduceMul]
        refine at_map hlt ?_
        simp (maxSteps := 2000000) (disch := omega) only [go_sem, ↓reduceIte, reduceIte, Nat.reduceAdd, Nat.reduceLT, Nat.reduceEqDiff, Nat.reduceLeDiff, Nat.reduceMul, Sale.av]
        refine callq_1 (by rfl) (contains_ok s[i - 1] s[i].f (hsok _ (List.getElem_mem _)) (hsok _ (List.getElem_mem _)).2.1) (by rfl) ?_
        simp (maxSteps := 2000000) (disch := omega) only [go_sem, ↓reduceIte, reduceIte, Nat.reduceAdd, Nat.reduceLT, Nat.reduceEqDiff, Nat.reduceLeDiff, Nat.reduceMul]
        refine cA_b (fun h3 => ?_) (fun h3 => ?_)
        · rw [h3] at hf
          simp (maxSteps := 2000000) (disch := omega) only [go_sem, ↓reduceIte, reduceIte, Nat.reduceAdd, Nat.reduceLT, Nat.reduceEqDiff, Nat.reduceLeDiff, Nat.reduceMul]
          rw [hf]; rfl
        · rw [h3] at hf
          simp (maxSteps := 2000000) (disch := omega) only [go_sem, ↓reduceIte, reduceIte, Nat.reduceAdd, Nat.reduceLT, Nat.reduceEqDiff, Nat.reduceLeDiff, Nat.reduceMul]
          refine hR (i + 1) _ ⟨by omega, .inl hlt, ?_⟩ (by omega) (le_intro (by simp only [allLook, allLookM, go_sem, ↓reduceIte, reduceIte, Nat.reduceAdd, Nat.reduceLT, Nat.reduceEqDiff, Nat.reduceLeDiff, Nat.reduceMul]; try simp) (by simp only [allLook, allLookM, go_sem, ↓reduceIte, reduceIte, Nat.reduceAdd, Nat.reduceLT, Nat.reduceEqDiff, Nat.reduceLeDiff, Nat.reduceMul]; try simp))
          rw [hf, show i + 1 - 1 = i by omega, List.drop_eq_getElem_cons hlt]; simp
      · have hadj : adjB s = true := by
          rw [hf]
          rcases hi2 with hi2 | rfl
          · have hl1 : (s.drop (i - 1)).length ≤ 1 := by simp; omega
            match s.drop (i - 1), hl1 with
            | [], _ => rfl
            | [_], _ => rfl
          · simp [adjB]
        simp (maxSteps := 2000000) (disch := omega) only [go_sem, ↓reduceIte, reduceIte, Nat.reduceAdd, Nat.reduceLT, Nat.reduceEqDiff, Nat.reduceLeDiff, Nat.reduceMul]
        rw [hadj]; rfl
end Go.Proofs.Ytojenglklffkoaa

namespace Go.Proofs.Ytojenglklffkoaa
open Go Go.AI Go.Proofs
set_option linter.unusedSimpArgs false
set_option linter.unusedVariables false
set_option maxRecDepth 4000
structure Payout where
  s : Int
  m : Int
  q : Int
  t : Int
  b : Bool
  p : Int
  a : Int
def Payout.av (x : Payout) : AV := .agg [.int .i64 x.s, .int .i64 x.m, .int .i64 x.q, .int .i64 x.t, .bool x.b, .int .i64 x.p, .int .i64 x.a]
def Payout.ok (x : Payout) : Prop := In64 x.s ∧ In64 x.m ∧ In64 x.q ∧ In64 x.t ∧ In64 x.p ∧ In64 x.a
def totG : List Payout → Int → Int × Int
  | [], n => if 1000000000000 < n then (0, 2) else (n, 0)
  | x :: r, n => if x.a < 0 ∨ 1000000000000 < x.a then (0, 1) else totG r (n + x.a)
def totS (l : List Payout) : Int × Int := if 512 < l.length then (0, 8) else totG l 0
theorem total25_ok (l : List Payout) (hl : ∀ x ∈ l, x.ok) (hn : l.length ≤ 1048576) :
    CallsTo Try.prog 25 [.sl (l.map Payout.av)] [.p (.int .i64 (totS l).1), .p (.int .i64 (totS l).2)] := by
  refine f25_calls (Nat.le_of_ble_eq_true rfl) ?_
  simp (maxSteps := 2000000) (disch := omega) only [go_sem, ↓reduceIte, reduceIte, Nat.reduceAdd, Nat.reduceLT, Nat.reduceEqDiff, Nat.reduceLeDiff, Nat.reduceMul]
  refine cA_d (fun h1 => ?_) (fun h1 => ?_)
  · have hd : totS l = (0, 8) := by unfold totS; rw [if_pos (by omega)]
    rw [hd]
    simp (maxSteps := 2000000) (disch := omega) only [go_sem, ↓reduceIte, reduceIte, Nat.reduceAdd, Nat.reduceLT, Nat.reduceEqDiff, Nat.reduceLeDiff, Nat.reduceMul]
  · have hd : totS l = totG l 0 := by unfold totS; rw [if_neg (by omega)]
    rw [hd]
    simp (maxSteps := 2000000) (disch := omega) only [go_sem, ↓reduceIte, reduceIte, Nat.reduceAdd, Nat.reduceLT, Nat.reduceEqDiff, Nat.reduceLeDiff, Nat.reduceMul]
    refine loop_of f25L9_is (fun i : Nat × Int => ⟨[(12, .int .i64 i.1), (11, .int .i64 l.length), (10, .sl (l.map Payout.av)), (4, .int .i64 i.2)], []⟩) (fun i => i.1 ≤ l.length ∧ 0 ≤ i.2 ∧ i.2 ≤ i.1 * 1000000000000 ∧ totG l 0 = totG (l.drop i.1) i.2) (fun i => l.length - i.1) (0, 0) ⟨Nat.zero_le _, by simp, by simp, rfl⟩ (le_intro (by simp only [allLook, allLookM, go_sem, ↓reduceIte, reduceIte, Nat.reduceAdd, Nat.reduceLT, Nat.reduceEqDiff, Nat.reduceLeDiff, Nat.reduceMul]; try simp) (by simp only [allLook, allLookM, go_sem, ↓reduceIte, reduceIte, Nat.reduceAdd, Nat.reduceLT, Nat.reduceEqDiff, Nat.reduceLeDiff, Nat.reduceMul]; try simp)) ?_
    rintro ⟨i, n⟩ R ⟨hi, hn0, hn1, hf⟩ hR
    simp only at hi hn0 hn1 hf
    simp (maxSteps := 2000000) (disch := omega) only [go_sem, ↓reduceIte, reduceIte, Nat.reduceAdd, Nat.reduceLT, Nat.reduceEqDiff, Nat.reduceLeDiff, Nat.reduceMul]
    refine cA_d (fun h2 => ?_) (fun h2 => ?_)
    · have hlt : i < l.length := by omega
      rw [List.drop_eq_getElem_cons hlt, totG] at hf
      have hx := hl l[i] (List.getElem_mem _)
      unfold Payout.ok In64 at hx
      (repeat' (first | refine gA_dt (fun h => ?_) (fun h => ?_) | refine gA_df (fun h => ?_) (fun h => ?_) | refine cA_d (fun h => ?_) (fun h => ?_) | (exfalso; omega) | refine idxS_map i rfl hlt (fun _ => rfl) ?_ | simp (maxSteps := 2000000) (disch := omega) only [go_sem, ↓reduceIte, reduceIte, Nat.reduceAdd, Nat.reduceLT, Nat.reduceEqDiff, Nat.reduceLeDiff, Nat.reduceMul, Payout.av]))
      all_goals first
        | (rw [if_pos (by omega)] at hf; simp [hf]; done)
        | (rw [if_neg (by omega)] at hf; refine hR (i + 1, n + l[i].a) _ ⟨hlt, by simp only []; omega, by simp only []; omega, hf⟩ (by simp only []; omega) ?_; exact (le_intro (by simp only [allLook, allLookM, go_sem, ↓reduceIte, reduceIte, Nat.reduceAdd, Nat.reduceLT, Nat.reduceEqDiff, Nat.reduceLeDiff, Nat.reduceMul]; try simp) (by simp only [allLook, allLookM, go_sem, ↓reduceIte, reduceIte, Nat.reduceAdd, Nat.reduceLT, Nat.reduceEqDiff, Nat.reduceLeDiff, Nat.reduceMul]; try simp)))
    · have : l.length = i := by omega
      subst this
      rw [List.drop_length, totG] at hf
      (repeat' (first | simp (maxSteps := 2000000) (disch := omega) only [go_sem, ↓reduceIte, reduceIte, Nat.reduceAdd, Nat.reduceLT, Nat.reduceEqDiff, Nat.reduceLeDiff, Nat.reduceMul] | refine cA_d (fun h => ?_) (fun h => ?_)))
      all_goals first
        | (rw [if_pos (by omega)] at hf; simp [hf]; done)
        | (rw [if_neg (by omega)] at hf; simp [hf]; done)
theorem total29_ok (l : List Payout) (hl : ∀ x ∈ l, x.ok) (hn : l.length ≤ 1048576) :
    CallsTo Try.prog 29 [.sl (l.map Payout.av)] [.p (.int .i64 (totS l).1), .p (.int .i64 (totS l).2)] := by
  refine f29_calls (Nat.le_of_ble_eq_true rfl) ?_
  simp (maxSteps := 2000000) (disch := omega) only [go_sem, ↓reduceIte, reduceIte, Nat.reduceAdd, Nat.reduceLT, Nat.reduceEqDiff, Nat.reduceLeDiff, Nat.reduceMul]
  refine cA_d (fun h1 => ?_) (fun h1 => ?_)
  · have hd : totS l = (0, 8) := by unfold totS; rw [if_pos (by omega)]
    rw [hd]
    simp (maxSteps := 2000000) (disch := omega) only [go_sem, ↓reduceIte, reduceIte, Nat.reduceAdd, Nat.reduceLT, Nat.reduceEqDiff, Nat.reduceLeDiff, Nat.reduceMul]
  · have hd : totS l = totG l 0 := by unfold totS; rw [if_neg (by omega)]
    rw [hd]
    simp (maxSteps := 2000000) (disch := omega) only [go_sem, ↓reduceIte, reduceIte, Nat.reduceAdd, Nat.reduceLT, Nat.reduceEqDiff, Nat.reduceLeDiff, Nat.reduceMul]
    refine loop_of f29L9_is (fun i : Nat × Int => ⟨[(5, .int .i64 i.1), (0, .sl (l.map Payout.av)), (4, .int .i64 i.2)], []⟩) (fun i => i.1 ≤ l.length ∧ 0 ≤ i.2 ∧ i.2 ≤ i.1 * 1000000000000 ∧ totG l 0 = totG (l.drop i.1) i.2) (fun i => l.length - i.1) (0, 0) ⟨Nat.zero_le _, by simp, by simp, rfl⟩ (le_intro (by simp only [allLook, allLookM, go_sem, ↓reduceIte, reduceIte, Nat.reduceAdd, Nat.reduceLT, Nat.reduceEqDiff, Nat.reduceLeDiff, Nat.reduceMul]; try simp) (by simp only [allLook, allLookM, go_sem, ↓reduceIte, reduceIte, Nat.reduceAdd, Nat.reduceLT, Nat.reduceEqDiff, Nat.reduceLeDiff, Nat.reduceMul]; try simp)) ?_
    rintro ⟨i, n⟩ R ⟨hi, hn0, hn1, hf⟩ hR
    simp only at hi hn0 hn1 hf
    simp (maxSteps := 2000000) (disch := omega) only [go_sem, ↓reduceIte, reduceIte, Nat.reduceAdd, Nat.reduceLT, Nat.reduceEqDiff, Nat.reduceLeDiff, Nat.reduceMul]
    refine cA_d (fun h2 => ?_) (fun h2 => ?_)
    · have hlt : i < l.length := by omega
      rw [List.drop_eq_getElem_cons hlt, totG] at hf
      have hx := hl l[i] (List.getElem_mem _)
      unfold Payout.ok In64 at hx
      (repeat' (first | refine gA_dt (fun h => ?_) (fun h => ?_) | refine gA_df (fun h => ?_) (fun h => ?_) | refine cA_d (fun h => ?_) (fun h => ?_) | (exfalso; omega) | refine idxS_map i rfl hlt (fun _ => rfl) ?_ | simp (maxSteps := 2000000) (disch := omega) only [go_sem, ↓reduceIte, reduceIte, Nat.reduceAdd, Nat.reduceLT, Nat.reduceEqDiff, Nat.reduceLeDiff, Nat.reduceMul, Payout.av]))
      all_goals first
        | (rw [if_pos (by omega)] at hf; simp [hf]; done)
        | (rw [if_neg (by omega)] at hf; refine hR (i + 1, n + l[i].a) _ ⟨hlt, by simp only []; omega, by simp only []; omega, hf⟩ (by simp only []; omega) ?_; exact (le_intro (by simp only [allLook, allLookM, go_sem, ↓reduceIte, reduceIte, Nat.reduceAdd, Nat.reduceLT, Nat.reduceEqDiff, Nat.reduceLeDiff, Nat.reduceMul]; try simp) (by simp only [allLook, allLookM, go_sem, ↓reduceIte, reduceIte, Nat.reduceAdd, Nat.reduceLT, Nat.reduceEqDiff, Nat.reduceLeDiff, Nat.reduceMul]; try simp)))
    · have : l.length = i := by omega
      subst this
      rw [List.drop_length, totG] at hf
      (repeat' (first | simp (maxSteps := 2000000) (disch := omega) only [go_sem, ↓reduceIte, reduceIte, Nat.reduceAdd, Nat.reduceLT, Nat.reduceEqDiff, Nat.reduceLeDiff, Nat.reduceMul] | refine cA_d (fun h => ?_) (fun h => ?_)))
      all_goals first
        | (rw [if_pos (by omega)] at hf; simp [hf]; done)
        | (rw [if_neg (by omega)] at hf; simp [hf]; done)
end Go.Proofs.Ytojenglklffkoaa

namespace Go.Proofs.Ytojenglklffkoaa
open Go Go.AI Go.Proofs
set_option linter.unusedSimpArgs false
set_option linter.unusedVariables false
set_option maxRecDepth 4000
theorem pairwise_at {l : List Sale} (h : l.Pairwise disj) {k i : Nat} (hki : k < i) (hi : i < l.length) : disj (l[k]'(by omega)) l[i] := List.pairwise_iff_getElem.1 h k i (by omega) hi hki
set_option maxHeartbeats 4000000 in
theorem check12_ok (np : List Product) (l : List Sale) (nq : Int) (hl : ∀ x ∈ l, x.ok) (hq : In64 nq) (hn : l.length ≤ 1048576) (hm : np.length ≤ 1048576) :
    CallsTo Try.prog 27 [.sl (np.map Product.av), .sl (l.map Sale.av), .int .i64 nq] [.p (.int .i64 (checkS np.length nq l))] := by
  refine f27_calls (Nat.le_of_ble_eq_true rfl) ?_
  simp (maxSteps := 2000000) (disch := omega) only [go_sem, ↓reduceIte, reduceIte, Nat.reduceAdd, Nat.reduceLT, Nat.reduceEqDiff, Nat.reduceLeDiff, Nat.reduceMul]
  refine cA_d (fun h1 => ?_) (fun h1 => ?_)
  · have hd : checkS np.length nq l = 8 := by unfold checkS; rw [if_pos (by omega)]
    rw [hd]
    simp (maxSteps := 2000000) (disch := omega) only [go_sem, ↓reduceIte, reduceIte, Nat.reduceAdd, Nat.reduceLT, Nat.reduceEqDiff, Nat.reduceLeDiff, Nat.reduceMul]
  have hd : checkS np.length nq l = if firstF np.length nq l ≠ 0 then firstF np.length nq l else if l.Pairwise disj then 0 else 6 := by unfold checkS; rw [if_neg (by omega)]
  rw [hd]
  simp (maxSteps := 2000000) (disch := omega) only [go_sem, ↓reduceIte, reduceIte, Nat.reduceAdd, Nat.reduceLT, Nat.reduceEqDiff, Nat.reduceLeDiff, Nat.reduceMul]
  refine loop_of f27L8_is (fun i : Nat => ⟨[(7, .int .i64 i), (1, .sl (l.map Sale.av)), (0, .sl (np.map Product.av)), (2, .int .i64 nq)], []⟩) (fun i => i ≤ l.length ∧ firstF np.length nq l = firstF np.length nq (l.drop i)) (fun i => l.length - i) 0 ⟨Nat.zero_le _, rfl⟩ (le_intro (by simp only [allLook, allLookM, go_sem, ↓reduceIte, reduceIte, Nat.reduceAdd, Nat.reduceLT, Nat.reduceEqDiff, Nat.reduceLeDiff, Nat.reduceMul]; try simp) (by simp only [allLook, allLookM, go_sem, ↓reduceIte, reduceIte, Nat.reduceAdd, Nat.reduceLT, Nat.reduceEqDiff, Nat.reduceLeDiff, Nat.reduceMul]; try simp)) ?_
  rintro i R ⟨hi, hf⟩ hR
  simp (maxSteps := 2000000) (disch := omega) only [go_sem, ↓reduceIte, reduceIte, Nat.reduceAdd, Nat.reduceLT, Nat.reduceEqDiff, Nat.reduceLeDiff, Nat.reduceMul]
  refine cA_d (fun h2 => ?_) (fun h2 => ?_)
  · have hlt : i < l.length := by omega
    rw [List.drop_eq_getElem_cons hlt, firstF] at hf
    simp (maxSteps := 2000000) (disch := omega) only [go_sem, ↓reduceIte, reduceIte, Nat.reduceAdd, Nat.reduceLT, Nat.reduceEqDiff, Nat.reduceLeDiff, Nat.reduceMul]
    refine idxS_map i rfl hlt (fun _ => rfl) ?_
    simp (maxSteps := 2000000) (disch := omega) only [go_sem, ↓reduceIte, reduceIte, Nat.reduceAdd, Nat.reduceLT, Nat.reduceEqDiff, Nat.reduceLeDiff, Nat.reduceMul, Sale.av]
    refine call_1 (one33_ok l[i] np.length nq (hl _ (List.getElem_mem _)) (by unfold In64; omega) hq) (by rfl) (by rfl) ?_
    simp (maxSteps := 2000000) (disch := omega) only [go_sem, ↓reduceIte, reduceIte, Nat.reduceAdd, Nat.reduceLT, Nat.reduceEqDiff, Nat.reduceLeDiff, Nat.reduceMul]
    refine cA_d (fun h3 => ?_) (fun h3 => ?_)
    · rw [if_pos h3] at hf
      simp (maxSteps := 2000000) (disch := omega) only [go_sem, ↓reduceIte, reduceIte, Nat.reduceAdd, Nat.reduceLT, Nat.reduceEqDiff, Nat.reduceLeDiff, Nat.reduceMul]
      rw [hf, if_pos h3]
    · rw [if_neg h3] at hf
      simp (maxSteps := 2000000) (disch := omega) only [go_sem, ↓reduceIte, reduceIte, Nat.reduceAdd, Nat.reduceLT, Nat.reduceEqDiff, Nat.reduceLeDiff, Nat.reduceMul]
      exact hR (i + 1) _ ⟨hlt, hf⟩ (by omega) (le_intro (by simp only [allLook, allLookM, go_sem, ↓reduceIte, reduceIte, Nat.reduceAdd, Nat.reduceLT, Nat.reduceEqDiff, Nat.reduceLeDiff, Nat.reduceMul]; try simp) (by simp only [allLook, allLookM, go_sem, ↓reduceIte, reduceIte, Nat.reduceAdd, Nat.reduceLT, Nat.reduceEqDiff, Nat.reduceLeDiff, Nat.reduceMul]; try simp))
  have : l.length = i := by omega
  have hff : firstF np.length nq l = 0 := by rw [hf, ← this]; simp [firstF]
  rw [if_neg (by rw [hff]; simp)]
  clear hd hf hR
  simp (maxSteps := 2000000) (disch := omega) only [go_sem, ↓reduceIte, reduceIte, Nat.reduceAdd, Nat.reduceLT, Nat.reduceEqDiff, Nat.reduceLeDiff, Nat.reduceMul]
  refine loop_of f27L22_is (fun i : Nat => ⟨[(9, .int .i64 i), (1, .sl (l.map Sale.av))], []⟩) (fun i => i ≤ l.length ∧ ∀ (k j : Nat) (hk : k < j) (hj : j < l.length), j < i → disj (l[k]'(by omega)) l[j]) (fun i => l.length - i) 0 ⟨Nat.zero_le _, fun k j _ _ h => by omega⟩ (le_intro (by simp only [allLook, allLookM, go_sem, ↓reduceIte, reduceIte, Nat.reduceAdd, Nat.reduceLT, Nat.reduceEqDiff, Nat.reduceLeDiff, Nat.reduceMul]; try simp) (by simp only [allLook, allLookM, go_sem, ↓reduceIte, reduceIte, Nat.reduceAdd, Nat.reduceLT, Nat.reduceEqDiff, Nat.reduceLeDiff, Nat.reduceMul]; try simp)) ?_
  rintro i R ⟨hi, hdj⟩ hR
  simp (maxSteps := 2000000) (disch := omega) only [go_sem, ↓reduceIte, reduceIte, Nat.reduceAdd, Nat.reduceLT, Nat.reduceEqDiff, Nat.reduceLeDiff, Nat.reduceMul]
  refine cA_d (fun h2 => ?_) (fun h2 => ?_)
  case refine_2 =>
    have hpw : l.Pairwise disj := List.pairwise_iff_getElem.2 fun k j hk hj hkj => hdj k j hkj hj (by omega)
    rw [if_pos hpw]
    simp (maxSteps := 2000000) (disch := omega) only [go_sem, ↓reduceIte, reduceIte, Nat.reduceAdd, Nat.reduceLT, Nat.reduceEqDiff, Nat.reduceLeDiff, Nat.reduceMul]
  have hlt : i < l.length := by omega
  simp (maxSteps := 2000000) (disch := omega) only [go_sem, ↓reduceIte, reduceIte, Nat.reduceAdd, Nat.reduceLT, Nat.reduceEqDiff, Nat.reduceLeDiff, Nat.reduceMul]
  refine loop_of f27L30_is (fun k : Nat => ⟨[(10, .int .i64 k), (9, .int .i64 i), (1, .sl (l.map Sale.av))], []⟩) (fun k => k ≤ i ∧ ∀ (j : Nat) (hj : j < i), j < k → disj (l[j]'(by omega)) l[i]) (fun k => i - k) 0 ⟨Nat.zero_le _, fun j _ h => by omega⟩ (le_intro (by simp only [allLook, allLookM, go_sem, ↓reduceIte, reduceIte, Nat.reduceAdd, Nat.reduceLT, Nat.reduceEqDiff, Nat.reduceLeDiff, Nat.reduceMul]; try simp) (by simp only [allLook, allLookM, go_sem, ↓reduceIte, reduceIte, Nat.reduceAdd, Nat.reduceLT, Nat.reduceEqDiff, Nat.reduceLeDiff, Nat.reduceMul]; try simp)) ?_
  rintro k R' ⟨hk, hdk⟩ hR'
  simp (maxSteps := 2000000) (disch := omega) only [go_sem, ↓reduceIte, reduceIte, Nat.reduceAdd, Nat.reduceLT, Nat.reduceEqDiff, Nat.reduceLeDiff, Nat.reduceMul]
  refine cA_d (fun h3 => ?_) (fun h3 => ?_)
  case refine_2 =>
    have hki : k = i := by omega
    subst hki
    simp (maxSteps := 2000000) (disch := omega) only [go_sem, ↓reduceIte, reduceIte, Nat.reduceAdd, Nat.reduceLT, Nat.reduceEqDiff, Nat.reduceLeDiff, Nat.reduceMul]
    refine hR (k + 1) _ ⟨hlt, fun a b hab hb hbi => ?_⟩ (by omega) (le_intro (by simp only [allLook, allLookM, go_sem, ↓reduceIte, reduceIte, Nat.reduceAdd, Nat.reduceLT, Nat.reduceEqDiff, Nat.reduceLeDiff, Nat.reduceMul]; try simp) (by simp only [allLook, allLookM, go_sem, ↓reduceIte, reduceIte, Nat.reduceAdd, Nat.reduceLT, Nat.reduceEqDiff, Nat.reduceLeDiff, Nat.reduceMul]; try simp))
    rcases Nat.lt_or_ge b k with h | h
    · exact hdj a b hab hb h
    · have : b = k := by omega
      subst this
      exact hdk a hab hab
  have hkl : k < l.length := by omega
  have hki : k < i := by omega
  have c1 := contains34_ok l[i] l[k].f (hl _ (List.getElem_mem _)) (hl _ (List.getElem_mem _)).2.1
  have c2 := contains34_ok l[k] l[i].f (hl _ (List.getElem_mem _)) (hl _ (List.getElem_mem _)).2.1
  simp (maxSteps := 2000000) (disch := omega) only [go_sem, ↓reduceIte, reduceIte, Nat.reduceAdd, Nat.reduceLT, Nat.reduceEqDiff, Nat.reduceLeDiff, Nat.reduceMul]
  refine idxS_map i rfl hlt (fun _ => rfl) ?_
  simp (maxSteps := 2000000) (disch := omega) only [go_sem, ↓reduceIte, reduceIte, Nat.reduceAdd, Nat.reduceLT, Nat.reduceEqDiff, Nat.reduceLeDiff, Nat.reduceMul, Sale.av]
  refine idxS_map k rfl hkl (fun _ => rfl) ?_
  simp (maxSteps := 2000000) (disch := omega) only [go_sem, ↓reduceIte, reduceIte, Nat.reduceAdd, Nat.reduceLT, Nat.reduceEqDiff, Nat.reduceLeDiff, Nat.reduceMul, Sale.av]
  refine callq_1 (by rfl) c1 (by rfl) ?_
  simp (maxSteps := 2000000) (disch := omega) only [go_sem, ↓reduceIte, reduceIte, Nat.reduceAdd, Nat.reduceLT, Nat.reduceEqDiff, Nat.reduceLeDiff, Nat.reduceMul]
  refine gA_bf (fun h4 => ?_) (fun h4 => ?_)
  · simp (maxSteps := 2000000) (disch := omega) only [go_sem, ↓reduceIte, reduceIte, Nat.reduceAdd, Nat.reduceLT, Nat.reduceEqDiff, Nat.reduceLeDiff, Nat.reduceMul]
    refine idxS_map k rfl hkl (fun _ => rfl) ?_
    simp (maxSteps := 2000000) (disch := omega) only [go_sem, ↓reduceIte, reduceIte, Nat.reduceAdd, Nat.reduceLT, Nat.reduceEqDiff, Nat.reduceLeDiff, Nat.reduceMul, Sale.av]
    refine idxS_map i rfl hlt (fun _ => rfl) ?_
    simp (maxSteps := 2000000) (disch := omega) only [go_sem, ↓reduceIte, reduceIte, Nat.reduceAdd, Nat.reduceLT, Nat.reduceEqDiff, Nat.reduceLeDiff, Nat.reduceMul, Sale.av]
    refine callq_1 (by rfl) c2 (by rfl) ?_
    simp (maxSteps := 2000000) (disch := omega) only [go_sem, ↓reduceIte, reduceIte, Nat.reduceAdd, Nat.reduceLT, Nat.reduceEqDiff, Nat.reduceLeDiff, Nat.reduceMul]
    refine cA_b (fun h5 => ?_) (fun h5 => ?_)
    · simp (maxSteps := 2000000) (disch := omega) only [go_sem, ↓reduceIte, reduceIte, Nat.reduceAdd, Nat.reduceLT, Nat.reduceEqDiff, Nat.reduceLeDiff, Nat.reduceMul]
      rw [if_neg (fun hp => by have := (pairwise_at hp hki hlt).1; rw [h5] at this; cases this)]
    · simp (maxSteps := 2000000) (disch := omega) only [go_sem, ↓reduceIte, reduceIte, Nat.reduceAdd, Nat.reduceLT, Nat.reduceEqDiff, Nat.reduceLeDiff, Nat.reduceMul]
      refine hR' (k + 1) _ ⟨by omega, fun j hj hjk => ?_⟩ (by omega) (le_intro (by simp only [allLook, allLookM, go_sem, ↓reduceIte, reduceIte, Nat.reduceAdd, Nat.reduceLT, Nat.reduceEqDiff, Nat.reduceLeDiff, Nat.reduceMul]; try simp) (by simp only [allLook, allLookM, go_sem, ↓reduceIte, reduceIte, Nat.reduceAdd, Nat.reduceLT, Nat.reduceEqDiff, Nat.reduceLeDiff, Nat.reduceMul]; try simp))
      rcases Nat.lt_or_ge j k with h | h
      · exact hdk j hj h
      · have : j = k := by omega
        subst this
        exact ⟨h5, h4⟩
  · simp (maxSteps := 2000000) (disch := omega) only [go_sem, ↓reduceIte, reduceIte, Nat.reduceAdd, Nat.reduceLT, Nat.reduceEqDiff, Nat.reduceLeDiff, Nat.reduceMul]
    rw [if_neg (fun hp => by have := (pairwise_at hp hki hlt).2; rw [h4] at this; cases this)]
end Go.Proofs.Ytojenglklffkoaa

namespace Go.Proofs.Ytojenglklffkoaa
open Go Go.AI Go.Proofs
set_option linter.unusedSimpArgs false
set_option linter.unusedVariables false
set_option maxRecDepth 4000
structure Case where
  ps : List Product
  l : List Sale
  d : List Payout
  o : List Int
  n : Int
def Case.av (x : Case) : AV := .agg [.sl (x.ps.map Product.av), .sl (x.l.map Sale.av), .sl (x.d.map Payout.av), .sl (x.o.map (AV.int .i64)), .int .i64 x.n]
structure Case.ok (x : Case) : Prop where
  ps : ∀ y ∈ x.ps, y.ok
  l : ∀ y ∈ x.l, y.ok
  d : ∀ y ∈ x.d, y.ok
  o : ∀ y ∈ x.o, In64 y
  n : In64 x.n
def Case.small (x : Case) : Bool := decide (x.ps.length ≤ 200 ∧ x.l.length ≤ 600 ∧ x.d.length ≤ 600 ∧ x.o.length ≤ 100)
theorem small10_ok (x : Case) : CallsTo Try.prog 10 [x.av] [.p (.bool x.small)] := by
  refine f10_calls (Nat.le_of_ble_eq_true rfl) ?_
  unfold Case.small
  (repeat' (first | simp (maxSteps := 2000000) (disch := omega) only [go_sem, ↓reduceIte, reduceIte, Nat.reduceAdd, Nat.reduceLT, Nat.reduceEqDiff, Nat.reduceLeDiff, Nat.reduceMul, Case.av] | refine gA_dt (fun h => ?_) (fun h => ?_) | refine gA_df (fun h => ?_) (fun h => ?_) | refine cA_d (fun h => ?_) (fun h => ?_)))
  all_goals first | (rw [show decide (x.ps.length ≤ 200 ∧ x.l.length ≤ 600 ∧ x.d.length ≤ 600 ∧ x.o.length ≤ 100) = false from decide_eq_false (by omega)]) | (congr 1; rw [decide_eq_decide]; omega)
def posG : List Int → Int
  | [] => 0
  | x :: r => if x < -1125899906842624 ∨ 1125899906842624 < x then 1 else posG r
def posS (l : List Int) : Int := if 33 < l.length then 8 else posG l
theorem pos35_ok (l : List Int) (hl : ∀ x ∈ l, In64 x) (hn : l.length ≤ 1048576) : CallsTo Try.prog 35 [.sl (l.map (AV.int .i64))] [.p (.int .i64 (posS l))] := by
  refine f35_calls (Nat.le_of_ble_eq_true rfl) ?_
  simp (maxSteps := 2000000) (disch := omega) only [go_sem, ↓reduceIte, reduceIte, Nat.reduceAdd, Nat.reduceLT, Nat.reduceEqDiff, Nat.reduceLeDiff, Nat.reduceMul]
  refine cA_d (fun h1 => ?_) (fun h1 => ?_)
  · have hd : posS l = 8 := by unfold posS; rw [if_pos (by omega)]
    rw [hd]
    simp (maxSteps := 2000000) (disch := omega) only [go_sem, ↓reduceIte, reduceIte, Nat.reduceAdd, Nat.reduceLT, Nat.reduceEqDiff, Nat.reduceLeDiff, Nat.reduceMul]
  · have hd : posS l = posG l := by unfold posS; rw [if_neg (by omega)]
    rw [hd]
    simp (maxSteps := 2000000) (disch := omega) only [go_sem, ↓reduceIte, reduceIte, Nat.reduceAdd, Nat.reduceLT, Nat.reduceEqDiff, Nat.reduceLeDiff, Nat.reduceMul]
    refine loop_of f35L8_is (fun i : Nat => ⟨[(3, .int .i64 i), (0, .sl (l.map (AV.int .i64)))], []⟩) (fun i => i ≤ l.length ∧ posG l = posG (l.drop i)) (fun i => l.length - i) 0 ⟨Nat.zero_le _, by simp⟩ (le_intro (by simp only [allLook, allLookM, go_sem, ↓reduceIte, reduceIte, Nat.reduceAdd, Nat.reduceLT, Nat.reduceEqDiff, Nat.reduceLeDiff, Nat.reduceMul]; try simp) (by simp only [allLook, allLookM, go_sem, ↓reduceIte, reduceIte, Nat.reduceAdd, Nat.reduceLT, Nat.reduceEqDiff, Nat.reduceLeDiff, Nat.reduceMul]; try simp)) ?_
    rintro i R ⟨hi, hf⟩ hR
    simp (maxSteps := 2000000) (disch := omega) only [go_sem, ↓reduceIte, reduceIte, Nat.reduceAdd, Nat.reduceLT, Nat.reduceEqDiff, Nat.reduceLeDiff, Nat.reduceMul]
    refine cA_d (fun h2 => ?_) (fun h2 => ?_)
    · have hlt : i < l.length := by omega
      rw [List.drop_eq_getElem_cons hlt, posG] at hf
      have hx := hl l[i] (List.getElem_mem _)
      unfold In64 at hx
      (repeat' (first | refine gA_dt (fun h => ?_) (fun h => ?_) | refine gA_df (fun h => ?_) (fun h => ?_) | refine cA_d (fun h => ?_) (fun h => ?_) | (exfalso; omega) | refine idxS_map i rfl hlt (fun _ => rfl) ?_ | simp (maxSteps := 2000000) (disch := omega) only [go_sem, ↓reduceIte, reduceIte, Nat.reduceAdd, Nat.reduceLT, Nat.reduceEqDiff, Nat.reduceLeDiff, Nat.reduceMul]))
      all_goals first
        | (rw [if_pos (by omega)] at hf; simp [hf]; done)
        | (rw [if_neg (by omega)] at hf; refine hR (i + 1) _ ⟨hlt, hf⟩ (by omega) ?_; exact (le_intro (by simp only [allLook, allLookM, go_sem, ↓reduceIte, reduceIte, Nat.reduceAdd, Nat.reduceLT, Nat.reduceEqDiff, Nat.reduceLeDiff, Nat.reduceMul]; try simp) (by simp only [allLook, allLookM, go_sem, ↓reduceIte, reduceIte, Nat.reduceAdd, Nat.reduceLT, Nat.reduceEqDiff, Nat.reduceLeDiff, Nat.reduceMul]; try simp)))
    · have : l.length = i := by omega
      subst this
      rw [List.drop_length, posG] at hf
      simp (maxSteps := 2000000) (disch := omega) only [go_sem, ↓reduceIte, reduceIte, Nat.reduceAdd, Nat.reduceLT, Nat.reduceEqDiff, Nat.reduceLeDiff, Nat.reduceMul]
      try simp [hf]
theorem in45_ok (x : Int) (hx : In64 x) : CallsTo Try.prog 45 [.int .i64 x] [.p (.bool (decide (x < -1125899906842624 ∨ 1125899906842624 < x)))] := by
  refine f45_calls (Nat.le_of_ble_eq_true rfl) ?_
  (repeat' (first | simp (maxSteps := 2000000) (disch := omega) only [go_sem, ↓reduceIte, reduceIte, Nat.reduceAdd, Nat.reduceLT, Nat.reduceEqDiff, Nat.reduceLeDiff, Nat.reduceMul] | refine gA_dt (fun h => ?_) (fun h => ?_) | refine gA_df (fun h => ?_) (fun h => ?_) | refine cA_d (fun h => ?_) (fun h => ?_)))
  all_goals first | (rw [show decide (x < -1125899906842624 ∨ 1125899906842624 < x) = true from decide_eq_true (by omega)]) | (congr 1; rw [decide_eq_decide]; omega)
theorem ne37_ok (x : Int) (hx : In64 x) : CallsTo Try.prog 37 [.int .i64 x] [.p (.bool (decide (x ≠ 0)))] := by
  refine f37_calls (Nat.le_of_ble_eq_true rfl) ?_
  simp (maxSteps := 2000000) (disch := omega) only [go_sem, ↓reduceIte, reduceIte, Nat.reduceAdd, Nat.reduceLT, Nat.reduceEqDiff, Nat.reduceLeDiff, Nat.reduceMul]
def idxP (p : Int → Bool) : List Int → Nat → Int
  | [], _ => -1
  | x :: r, i => if p x then i else idxP p r (i + 1)
theorem idxP_any (p : Int → Bool) : ∀ (l : List Int) (i : Nat), 0 ≤ idxP p l i ↔ l.any p = true
  | [], i => by simp [idxP]
  | x :: r, i => by
    unfold idxP
    split
    · rename_i h; simp [h]
    · rename_i h; rw [idxP_any p r (i + 1)]; simp [h]
theorem index46_ok (l : List Int) (g : FuncId) (p : Int → Bool) (hl : ∀ x ∈ l, In64 x) (hn : l.length ≤ 1048576) (hg : ∀ x, In64 x → CallsTo Try.prog g [.int .i64 x] [.p (.bool (p x))]) :
    CallsTo Try.prog 46 [.sl (l.map (AV.int .i64)), .fn g []] [.p (.int .i64 (idxP p l 0))] := by
  refine f46_calls (Nat.le_of_ble_eq_true rfl) ?_
  simp (maxSteps := 2000000) (disch := omega) only [go_sem, ↓reduceIte, reduceIte, Nat.reduceAdd, Nat.reduceLT, Nat.reduceEqDiff, Nat.reduceLeDiff, Nat.reduceMul]
  refine loop_of f46L4_is (fun i : Nat => ⟨[(8, .int .i64 i), (7, .int .i64 l.length), (0, .sl (l.map (AV.int .i64))), (1, .fn g [])], []⟩) (fun i => i ≤ l.length ∧ idxP p l 0 = idxP p (l.drop i) i) (fun i => l.length - i) 0 ⟨Nat.zero_le _, by simp⟩ (le_intro (by simp only [allLook, allLookM, go_sem, ↓reduceIte, reduceIte, Nat.reduceAdd, Nat.reduceLT, Nat.reduceEqDiff, Nat.reduceLeDiff, Nat.reduceMul]; try simp) (by simp only [allLook, allLookM, go_sem, ↓reduceIte, reduceIte, Nat.reduceAdd, Nat.reduceLT, Nat.reduceEqDiff, Nat.reduceLeDiff, Nat.reduceMul]; try simp)) ?_
  rintro i R ⟨hi, hf⟩ hR
  simp (maxSteps := 2000000) (disch := omega) only [go_sem, ↓reduceIte, reduceIte, Nat.reduceAdd, Nat.reduceLT, Nat.reduceEqDiff, Nat.reduceLeDiff, Nat.reduceMul]
  refine cA_d (fun h2 => ?_) (fun h2 => ?_)
  · have hlt : i < l.length := by omega
    rw [List.drop_eq_getElem_cons hlt, idxP] at hf
    have hx := hl l[i] (List.getElem_mem _)
    simp (maxSteps := 2000000) (disch := omega) only [go_sem, ↓reduceIte, reduceIte, Nat.reduceAdd, Nat.reduceLT, Nat.reduceEqDiff, Nat.reduceLeDiff, Nat.reduceMul]
    refine idxS_map i rfl hlt (fun _ => rfl) ?_
    simp (maxSteps := 2000000) (disch := omega) only [go_sem, ↓reduceIte, reduceIte, Nat.reduceAdd, Nat.reduceLT, Nat.reduceEqDiff, Nat.reduceLeDiff, Nat.reduceMul]
    refine call_1 (hg l[i] hx) (by rfl) (by rfl) ?_
    simp (maxSteps := 2000000) (disch := omega) only [go_sem, ↓reduceIte, reduceIte, Nat.reduceAdd, Nat.reduceLT, Nat.reduceEqDiff, Nat.reduceLeDiff, Nat.reduceMul]
    refine cA_b (fun h3 => ?_) (fun h3 => ?_)
    · rw [if_pos h3] at hf
      simp (maxSteps := 2000000) (disch := omega) only [go_sem, ↓reduceIte, reduceIte, Nat.reduceAdd, Nat.reduceLT, Nat.reduceEqDiff, Nat.reduceLeDiff, Nat.reduceMul]
      rw [hf]
    · rw [if_neg (by simp [h3])] at hf
      simp (maxSteps := 2000000) (disch := omega) only [go_sem, ↓reduceIte, reduceIte, Nat.reduceAdd, Nat.reduceLT, Nat.reduceEqDiff, Nat.reduceLeDiff, Nat.reduceMul]
      refine hR (i + 1) _ ⟨hlt, hf⟩ (by omega) (le_intro (by simp only [allLook, allLookM, go_sem, ↓reduceIte, reduceIte, Nat.reduceAdd, Nat.reduceLT, Nat.reduceEqDiff, Nat.reduceLeDiff, Nat.reduceMul]; try simp) (by simp only [allLook, allLookM, go_sem, ↓reduceIte, reduceIte, Nat.reduceAdd, Nat.reduceLT, Nat.reduceEqDiff, Nat.reduceLeDiff, Nat.reduceMul]; try simp))
  · have : l.length = i := by omega
    subst this
    rw [List.drop_length, idxP] at hf
    simp (maxSteps := 2000000) (disch := omega) only [go_sem, ↓reduceIte, reduceIte, Nat.reduceAdd, Nat.reduceLT, Nat.reduceEqDiff, Nat.reduceLeDiff, Nat.reduceMul]
    rw [hf]
theorem any36_ok (l : List Int) (g : FuncId) (p : Int → Bool) (hl : ∀ x ∈ l, In64 x) (hn : l.length ≤ 1048576) (hg : ∀ x, In64 x → CallsTo Try.prog g [.int .i64 x] [.p (.bool (p x))]) :
    CallsTo Try.prog 36 [.sl (l.map (AV.int .i64)), .fn g []] [.p (.bool (l.any p))] := by
  refine f36_calls (Nat.le_of_ble_eq_true rfl) ?_
  simp (maxSteps := 2000000) (disch := omega) only [go_sem, ↓reduceIte, reduceIte, Nat.reduceAdd, Nat.reduceLT, Nat.reduceEqDiff, Nat.reduceLeDiff, Nat.reduceMul]
  refine call_1 (index46_ok l g p hl hn hg) (by rfl) (by rfl) ?_
  simp (maxSteps := 2000000) (disch := omega) only [go_sem, ↓reduceIte, reduceIte, Nat.reduceAdd, Nat.reduceLT, Nat.reduceEqDiff, Nat.reduceLeDiff, Nat.reduceMul]
  have := idxP_any p l 0
  congr 1
  rw [Bool.eq_iff_iff, ← this]
  simp
theorem posG_any : ∀ (l : List Int), posG l = if l.any (fun x => decide (x < -1125899906842624 ∨ 1125899906842624 < x)) = true then 1 else 0
  | [] => rfl
  | x :: r => by
    unfold posG
    rw [posG_any r]
    by_cases h : x < -1125899906842624 ∨ 1125899906842624 < x
    · rw [if_pos h, if_pos]; simp [h]
    · rw [if_neg h]; simp [h]
theorem in30_ok (l : List Int) (hl : ∀ x ∈ l, In64 x) (hn : l.length ≤ 1048576) : CallsTo Try.prog 30 [.sl (l.map (AV.int .i64))] [.p (.bool (decide (posG l = 0)))] := by
  refine f30_calls (Nat.le_of_ble_eq_true rfl) ?_
  simp (maxSteps := 2000000) (disch := omega) only [go_sem, ↓reduceIte, reduceIte, Nat.reduceAdd, Nat.reduceLT, Nat.reduceEqDiff, Nat.reduceLeDiff, Nat.reduceMul]
  refine call_1 (any36_ok l 45 _ hl hn in45_ok) (by rfl) (by rfl) ?_
  rw [posG_any]
  cases l.any (fun x => decide (x < -1125899906842624 ∨ 1125899906842624 < x))
  · simp (maxSteps := 2000000) (disch := omega) only [go_sem, ↓reduceIte, reduceIte, Nat.reduceAdd, Nat.reduceLT, Nat.reduceEqDiff, Nat.reduceLeDiff, Nat.reduceMul]
    try simp
  · simp (maxSteps := 2000000) (disch := omega) only [go_sem, ↓reduceIte, reduceIte, Nat.reduceAdd, Nat.reduceLT, Nat.reduceEqDiff, Nat.reduceLeDiff, Nat.reduceMul]
    try simp
end Go.Proofs.Ytojenglklffkoaa

namespace Go.Proofs.Ytojenglklffkoaa
open Go Go.AI Go.Proofs
set_option linter.unusedSimpArgs false
set_option linter.unusedVariables false
set_option maxRecDepth 4000
theorem stO_int {e : TypeId} {l : List Int} {i : Nat} {v : Int} {k : Ob → Prop} (hi : i < l.length) (h : Run (k (.arr e 1 ((l.set i v).map (AV.int .i64))))) : Run (stO (some (.arr e 1 (l.map (AV.int .i64)))) 1 i 0 (.int .i64 v) k) := by
  refine ⟨rfl, rfl, rfl, ?_⟩
  rw [List.getElem?_map, List.getElem?_eq_getElem hi]
  refine ⟨Nat.le_refl _, ?_⟩
  have : (l.map (AV.int .i64)).set i (AV.withCells (.int .i64 l[i]) (splice [.int .i64 l[i]] 0 [.int .i64 v])) = (l.set i v).map (AV.int .i64) := by
    rw [List.map_set]; rfl
  exact this ▸ h
theorem int_cells {l : List Int} : ∀ y ∈ l.map (AV.int .i64), y.cells.length = 1 := by
  intro y hy
  simp at hy
  obtain ⟨a, -, rfl⟩ := hy
  rfl
theorem clone31_ok (l : List Int) (hn : l.length ≤ 1048576) : CallsTo Try.prog 31 [.sl (l.map (AV.int .i64))] [.fresh 3 1 (l.map (AV.int .i64))] := by
  refine f31_calls (Nat.le_of_ble_eq_true rfl) ?_
  simp (maxSteps := 2000000) (disch := omega) only [go_sem, ↓reduceIte, reduceIte, Nat.reduceAdd, Nat.reduceLT, Nat.reduceEqDiff, Nat.reduceLeDiff, Nat.reduceMul]
  refine nlR_ways (fun h => ?_) (fun h => ?_) (fun h => ?_)
  · simp (maxSteps := 2000000) (disch := omega) only [go_sem, ↓reduceIte, reduceIte, Nat.reduceAdd, Nat.reduceLT, Nat.reduceEqDiff, Nat.reduceLeDiff, Nat.reduceMul]
    rw [h]
  all_goals
    simp (maxSteps := 2000000) (disch := omega) only [go_sem, ↓reduceIte, reduceIte, Nat.reduceAdd, Nat.reduceLT, Nat.reduceEqDiff, Nat.reduceLeDiff, Nat.reduceMul]
    refine bsK_intro (xs := []) rfl (by decide) (by decide) (by rfl) ?_
    simp (maxSteps := 2000000) (disch := omega) only [go_sem, ↓reduceIte, reduceIte, Nat.reduceAdd, Nat.reduceLT, Nat.reduceEqDiff, Nat.reduceLeDiff, Nat.reduceMul]
    refine appendA_of (ty := 3) (k := 1) (bytes := 8) (z := [.int .i64 0]) (by kernel_rfl) (by kernel_rfl) (by kernel_rfl) rfl ?_
    simp (maxSteps := 2000000) (disch := omega) only [go_sem, ↓reduceIte, reduceIte, Nat.reduceAdd, Nat.reduceLT, Nat.reduceEqDiff, Nat.reduceLeDiff, Nat.reduceMul]
    refine appO_few (by decide) (by decide) (by simp) int_cells (by simp; omega) ?_
    simp (maxSteps := 2000000) (disch := omega) only [go_sem, ↓reduceIte, reduceIte, Nat.reduceAdd, Nat.reduceLT, Nat.reduceEqDiff, Nat.reduceLeDiff, Nat.reduceMul]
def extI (p : Int → Int → Bool) (l : List Int) : List Int → Nat → Nat → Nat
  | [], _, b => b
  | x :: r, i, b => extI p l r (i + 1) (if p x (l.getD b 0) then i else b)
def ext (p : Int → Int → Bool) (l : List Int) : Nat := extI p l l 0 0
theorem ext32_ok (l : List Int) (g : FuncId) (p : Int → Int → Bool) (hl : ∀ x ∈ l, In64 x) (hn : l.length ≤ 1048576) (hg : ∀ x y, In64 x → In64 y → CallsTo Try.prog g [.int .i64 x, .int .i64 y] [.p (.bool (p x y))]) :
    CallsTo Try.prog 32 [.sl (l.map (AV.int .i64)), .fn g []] [.p (.int .i64 (ext p l))] := by
  refine f32_calls (Nat.le_of_ble_eq_true rfl) ?_
  simp (maxSteps := 2000000) (disch := omega) only [go_sem, ↓reduceIte, reduceIte, Nat.reduceAdd, Nat.reduceLT, Nat.reduceEqDiff, Nat.reduceLeDiff, Nat.reduceMul]
  refine loop_of f32L5_is (fun i : Nat × Nat => ⟨[(10, .int .i64 i.1), (9, .int .i64 l.length), (8, .sl (l.map (AV.int .i64))), (5, .int .i64 i.2), (0, .sl (l.map (AV.int .i64))), (1, .fn g [])], []⟩) (fun i => i.1 ≤ l.length ∧ (i.2 < l.length ∨ i.2 = 0) ∧ ext p l = extI p l (l.drop i.1) i.1 i.2) (fun i => l.length - i.1) (0, 0) ⟨Nat.zero_le _, .inr rfl, by simp [ext]⟩ (le_intro (by simp only [allLook, allLookM, go_sem, ↓reduceIte, reduceIte, Nat.reduceAdd, Nat.reduceLT, Nat.reduceEqDiff, Nat.reduceLeDiff, Nat.reduceMul]; try simp) (by simp only [allLook, allLookM, go_sem, ↓reduceIte, reduceIte, Nat.reduceAdd, Nat.reduceLT, Nat.reduceEqDiff, Nat.reduceLeDiff, Nat.reduceMul]; try simp)) ?_
  rintro ⟨i, b⟩ R ⟨hi, hb, hf⟩ hR
  simp only at hi hb hf
  simp (maxSteps := 2000000) (disch := omega) only [go_sem, ↓reduceIte, reduceIte, Nat.reduceAdd, Nat.reduceLT, Nat.reduceEqDiff, Nat.reduceLeDiff, Nat.reduceMul]
  refine cA_d (fun h2 => ?_) (fun h2 => ?_)
  · have hlt : i < l.length := by omega
    have hbl : b < l.length := by omega
    rw [List.drop_eq_getElem_cons hlt, extI, show l.getD b 0 = l[b] by simp [List.getD, hbl]] at hf
    simp (maxSteps := 2000000) (disch := omega) only [go_sem, ↓reduceIte, reduceIte, Nat.reduceAdd, Nat.reduceLT, Nat.reduceEqDiff, Nat.reduceLeDiff, Nat.reduceMul]
    refine idxS_map i rfl hlt (fun _ => rfl) ?_
    simp (maxSteps := 2000000) (disch := omega) only [go_sem, ↓reduceIte, reduceIte, Nat.reduceAdd, Nat.reduceLT, Nat.reduceEqDiff, Nat.reduceLeDiff, Nat.reduceMul]
    refine idxS_map b rfl hbl (fun _ => rfl) ?_
    simp (maxSteps := 2000000) (disch := omega) only [go_sem, ↓reduceIte, reduceIte, Nat.reduceAdd, Nat.reduceLT, Nat.reduceEqDiff, Nat.reduceLeDiff, Nat.reduceMul]
    refine call_1 (hg l[i] l[b] (hl _ (List.getElem_mem _)) (hl _ (List.getElem_mem _))) (by rfl) (by rfl) ?_
    simp (maxSteps := 2000000) (disch := omega) only [go_sem, ↓reduceIte, reduceIte, Nat.reduceAdd, Nat.reduceLT, Nat.reduceEqDiff, Nat.reduceLeDiff, Nat.reduceMul]
    refine cA_b (fun h3 => ?_) (fun h3 => ?_)
    · rw [if_pos h3] at hf
      simp (maxSteps := 2000000) (disch := omega) only [go_sem, ↓reduceIte, reduceIte, Nat.reduceAdd, Nat.reduceLT, Nat.reduceEqDiff, Nat.reduceLeDiff, Nat.reduceMul]
      refine hR (i + 1, i) _ ⟨hlt, .inl hlt, hf⟩ (by simp only []; omega) (le_intro (by simp only [allLook, allLookM, go_sem, ↓reduceIte, reduceIte, Nat.reduceAdd, Nat.reduceLT, Nat.reduceEqDiff, Nat.reduceLeDiff, Nat.reduceMul]; try simp) (by simp only [allLook, allLookM, go_sem, ↓reduceIte, reduceIte, Nat.reduceAdd, Nat.reduceLT, Nat.reduceEqDiff, Nat.reduceLeDiff, Nat.reduceMul]; try simp))
    · rw [if_neg (by simp [h3])] at hf
      simp (maxSteps := 2000000) (disch := omega) only [go_sem, ↓reduceIte, reduceIte, Nat.reduceAdd, Nat.reduceLT, Nat.reduceEqDiff, Nat.reduceLeDiff, Nat.reduceMul]
      refine hR (i + 1, b) _ ⟨hlt, .inl hbl, hf⟩ (by simp only []; omega) (le_intro (by simp only [allLook, allLookM, go_sem, ↓reduceIte, reduceIte, Nat.reduceAdd, Nat.reduceLT, Nat.reduceEqDiff, Nat.reduceLeDiff, Nat.reduceMul]; try simp) (by simp only [allLook, allLookM, go_sem, ↓reduceIte, reduceIte, Nat.reduceAdd, Nat.reduceLT, Nat.reduceEqDiff, Nat.reduceLeDiff, Nat.reduceMul]; try simp))
  · have : l.length = i := by omega
    subst this
    rw [List.drop_length, extI] at hf
    simp (maxSteps := 2000000) (disch := omega) only [go_sem, ↓reduceIte, reduceIte, Nat.reduceAdd, Nat.reduceLT, Nat.reduceEqDiff, Nat.reduceLeDiff, Nat.reduceMul]
    rw [hf]
theorem lt33_ok (x y : Int) (hx : In64 x) (hy : In64 y) : CallsTo Try.prog 33 [.int .i64 x, .int .i64 y] [.p (.bool (decide (x < y)))] := by
  refine f33_calls (Nat.le_of_ble_eq_true rfl) ?_
  simp (maxSteps := 2000000) (disch := omega) only [go_sem, ↓reduceIte, reduceIte, Nat.reduceAdd, Nat.reduceLT, Nat.reduceEqDiff, Nat.reduceLeDiff, Nat.reduceMul]
theorem gt34_ok (x y : Int) (hx : In64 x) (hy : In64 y) : CallsTo Try.prog 34 [.int .i64 x, .int .i64 y] [.p (.bool (decide (y < x)))] := by
  refine f34_calls (Nat.le_of_ble_eq_true rfl) ?_
  simp (maxSteps := 2000000) (disch := omega) only [go_sem, ↓reduceIte, reduceIte, Nat.reduceAdd, Nat.reduceLT, Nat.reduceEqDiff, Nat.reduceLeDiff, Nat.reduceMul]
def knownS (d : List Payout) (o : List Int) (n : Int) : Int :=
  if 8 < o.length then 8 else if o.all (fun x => decide (0 ≤ x ∧ x < n)) = true then (if d.all (fun x => decide (0 ≤ x.m ∧ x.m < o.length)) = true then 0 else 7) else 7
theorem known26_ok (d : List Payout) (o : List Int) (n : Int) (hd : ∀ x ∈ d, x.ok) (ho : ∀ x ∈ o, In64 x) (hn : In64 n) (h1 : d.length ≤ 1048576) (h2 : o.length ≤ 1048576) :
    CallsTo Try.prog 26 [.sl (d.map Payout.av), .sl (o.map (AV.int .i64)), .int .i64 n] [.p (.int .i64 (knownS d o n))] := by
  refine f26_calls (Nat.le_of_ble_eq_true rfl) ?_
  simp (maxSteps := 2000000) (disch := omega) only [go_sem, ↓reduceIte, reduceIte, Nat.reduceAdd, Nat.reduceLT, Nat.reduceEqDiff, Nat.reduceLeDiff, Nat.reduceMul]
  unfold knownS
  refine cA_d (fun h3 => ?_) (fun h3 => ?_)
  · rw [if_pos (by omega)]
    simp (maxSteps := 2000000) (disch := omega) only [go_sem, ↓reduceIte, reduceIte, Nat.reduceAdd, Nat.reduceLT, Nat.reduceEqDiff, Nat.reduceLeDiff, Nat.reduceMul]
  rw [if_neg (by omega)]
  simp (maxSteps := 2000000) (disch := omega) only [go_sem, ↓reduceIte, reduceIte, Nat.reduceAdd, Nat.reduceLT, Nat.reduceEqDiff, Nat.reduceLeDiff, Nat.reduceMul]
  unfold In64 at hn
  refine loop_of f26L8_is (fun i : Nat => ⟨[(16, .int .i64 i), (15, .int .i64 o.length), (14, .sl (o.map (AV.int .i64))), (0, .sl (d.map Payout.av)), (1, .sl (o.map (AV.int .i64))), (2, .int .i64 n)], []⟩) (fun i => i ≤ o.length ∧ o.all (fun x => decide (0 ≤ x ∧ x < n)) = (o.drop i).all (fun x => decide (0 ≤ x ∧ x < n))) (fun i => o.length - i) 0 ⟨Nat.zero_le _, by simp⟩ (le_intro (by simp only [allLook, allLookM, go_sem, ↓reduceIte, reduceIte, Nat.reduceAdd, Nat.reduceLT, Nat.reduceEqDiff, Nat.reduceLeDiff, Nat.reduceMul]; try simp) (by simp only [allLook, allLookM, go_sem, ↓reduceIte, reduceIte, Nat.reduceAdd, Nat.reduceLT, Nat.reduceEqDiff, Nat.reduceLeDiff, Nat.reduceMul]; try simp)) ?_
  rintro i R ⟨hi, hf⟩ hR
  simp (maxSteps := 2000000) (disch := omega) only [go_sem, ↓reduceIte, reduceIte, Nat.reduceAdd, Nat.reduceLT, Nat.reduceEqDiff, Nat.reduceLeDiff, Nat.reduceMul]
  refine cA_d (fun h4 => ?_) (fun h4 => ?_)
  · have hlt : i < o.length := by omega
    have hx := ho o[i] (List.getElem_mem _)
    unfold In64 at hx
    rw [List.drop_eq_getElem_cons hlt, List.all_cons] at hf
    (repeat' (first | refine gA_dt (fun h => ?_) (fun h => ?_) | refine gA_df (fun h => ?_) (fun h => ?_) | refine cA_d (fun h => ?_) (fun h => ?_) | (exfalso; omega) | refine idxS_map i rfl hlt (fun _ => rfl) ?_ | simp (maxSteps := 2000000) (disch := omega) only [go_sem, ↓reduceIte, reduceIte, Nat.reduceAdd, Nat.reduceLT, Nat.reduceEqDiff, Nat.reduceLeDiff, Nat.reduceMul]))
    all_goals first
      | (rw [show decide (0 ≤ o[i] ∧ o[i] < n) = false from decide_eq_false (by omega), Bool.false_and] at hf; rw [hf]; rfl)
      | (rw [show decide (0 ≤ o[i] ∧ o[i] < n) = true from decide_eq_true (by omega), Bool.true_and] at hf; refine hR (i + 1) _ ⟨hlt, hf⟩ (by omega) ?_; exact (le_intro (by simp only [allLook, allLookM, go_sem, ↓reduceIte, reduceIte, Nat.reduceAdd, Nat.reduceLT, Nat.reduceEqDiff, Nat.reduceLeDiff, Nat.reduceMul]; try simp) (by simp only [allLook, allLookM, go_sem, ↓reduceIte, reduceIte, Nat.reduceAdd, Nat.reduceLT, Nat.reduceEqDiff, Nat.reduceLeDiff, Nat.reduceMul]; try simp)))
  have hio : o.length = i := by omega
  rw [← hio, List.drop_length, List.all_nil] at hf
  rw [if_pos hf]
  clear hR
  simp (maxSteps := 2000000) (disch := omega) only [go_sem, ↓reduceIte, reduceIte, Nat.reduceAdd, Nat.reduceLT, Nat.reduceEqDiff, Nat.reduceLeDiff, Nat.reduceMul]
  refine loop_of f26L22_is (fun i : Nat => ⟨[(30, .int .i64 i), (29, .int .i64 d.length), (28, .sl (d.map Payout.av)), (1, .sl (o.map (AV.int .i64)))], []⟩) (fun i => i ≤ d.length ∧ d.all (fun x => decide (0 ≤ x.m ∧ x.m < o.length)) = (d.drop i).all (fun x => decide (0 ≤ x.m ∧ x.m < o.length))) (fun i => d.length - i) 0 ⟨Nat.zero_le _, by simp⟩ (le_intro (by simp only [allLook, allLookM, go_sem, ↓reduceIte, reduceIte, Nat.reduceAdd, Nat.reduceLT, Nat.reduceEqDiff, Nat.reduceLeDiff, Nat.reduceMul]; try simp) (by simp only [allLook, allLookM, go_sem, ↓reduceIte, reduceIte, Nat.reduceAdd, Nat.reduceLT, Nat.reduceEqDiff, Nat.reduceLeDiff, Nat.reduceMul]; try simp)) ?_
  rintro j R' ⟨hj, hg⟩ hR
  simp (maxSteps := 2000000) (disch := omega) only [go_sem, ↓reduceIte, reduceIte, Nat.reduceAdd, Nat.reduceLT, Nat.reduceEqDiff, Nat.reduceLeDiff, Nat.reduceMul]
  refine cA_d (fun h5 => ?_) (fun h5 => ?_)
  · have hlt : j < d.length := by omega
    have hx := hd d[j] (List.getElem_mem _)
    unfold Payout.ok In64 at hx
    rw [List.drop_eq_getElem_cons hlt, List.all_cons] at hg
    (repeat' (first | refine gA_dt (fun h => ?_) (fun h => ?_) | refine gA_df (fun h => ?_) (fun h => ?_) | refine cA_d (fun h => ?_) (fun h => ?_) | (exfalso; omega) | refine idxS_map j rfl hlt (fun _ => rfl) ?_ | simp (maxSteps := 2000000) (disch := omega) only [go_sem, ↓reduceIte, reduceIte, Nat.reduceAdd, Nat.reduceLT, Nat.reduceEqDiff, Nat.reduceLeDiff, Nat.reduceMul, Payout.av]))
    all_goals first
      | (rw [show decide (0 ≤ d[j].m ∧ d[j].m < o.length) = false from decide_eq_false (by omega), Bool.false_and] at hg; rw [hg]; rfl)
      | (rw [show decide (0 ≤ d[j].m ∧ d[j].m < o.length) = true from decide_eq_true (by omega), Bool.true_and] at hg; refine hR (j + 1) _ ⟨hlt, hg⟩ (by omega) ?_; exact (le_intro (by simp only [allLook, allLookM, go_sem, ↓reduceIte, reduceIte, Nat.reduceAdd, Nat.reduceLT, Nat.reduceEqDiff, Nat.reduceLeDiff, Nat.reduceMul]; try simp) (by simp only [allLook, allLookM, go_sem, ↓reduceIte, reduceIte, Nat.reduceAdd, Nat.reduceLT, Nat.reduceEqDiff, Nat.reduceLeDiff, Nat.reduceMul]; try simp)))
  have hjd : d.length = j := by omega
  rw [← hjd, List.drop_length, List.all_nil] at hg
  rw [if_pos hg]
  simp (maxSteps := 2000000) (disch := omega) only [go_sem, ↓reduceIte, reduceIte, Nat.reduceAdd, Nat.reduceLT, Nat.reduceEqDiff, Nat.reduceLeDiff, Nat.reduceMul]
end Go.Proofs.Ytojenglklffkoaa

namespace Go.Proofs.Ytojenglklffkoaa
open Go Go.AI Go.Proofs
set_option linter.unusedSimpArgs false
set_option linter.unusedVariables false
def addAt (l : List Int) (i : Nat) (v : Int) : List Int := l.set i (l.getD i 0 + v)
theorem addAt_len (l : List Int) (i : Nat) (v : Int) : (addAt l i v).length = l.length := by simp [addAt]
theorem addAt_eq {l : List Int} {i : Nat} (h : i < l.length) (v : Int) : addAt l i v = l.set i (l[i] + v) := by simp [addAt, List.getD, h]
def bdL (B : Int) (l : List Int) : Prop := ∀ x ∈ l, -B ≤ x ∧ x ≤ B
theorem addAt_bd {B C : Int} {l : List Int} {i : Nat} {v : Int} (hB : 0 ≤ B) (h : bdL B l) (hv : -C ≤ v ∧ v ≤ C) : bdL (B + C) (addAt l i v) := by
  intro x hx
  unfold addAt at hx
  rcases List.mem_or_eq_of_mem_set hx with hx | rfl
  · have := h x hx; omega
  · by_cases hi : i < l.length
    · have := h l[i] (List.getElem_mem hi)
      simp [List.getD, hi]
      omega
    · simp [List.getD, hi]
      omega
def payStep (o : List Int) (n : Nat) (l : List Int) (x : Payout) : List Int := addAt (addAt l (o.getD x.m.toNat 0).toNat x.a) n (-x.a)
def payAll (o : List Int) (n : Nat) (d : List Payout) : List Int := d.foldl (payStep o n) (List.replicate (n + 1) 0)
def prodD (ps : List Product) (x : Sale) : Int := (ps.getD x.p.toNat ⟨[], 0, 0, 0, 0⟩).dep
def saleStep (ps : List Product) (n : Nat) (l : List Int) (x : Sale) : List Int := addAt (addAt l x.r.toNat (-(x.c * prodD ps x))) n (x.c * prodD ps x)
def posN (ps : List Product) (o : List Int) (n : Nat) (d : List Payout) (l : List Sale) : List Int := l.foldl (saleStep ps n) (payAll o n d)
def netS (x : Case) : List Int × Int :=
  if x.n < 1 ∨ 32 < x.n then ([], 1) else if checkS x.ps.length x.n x.l ≠ 0 then ([], checkS x.ps.length x.n x.l) else if (depS x.ps x.l).2 ≠ 0 then ([], (depS x.ps x.l).2)
  else if (totS x.d).2 ≠ 0 then ([], (totS x.d).2) else if knownS x.d x.o x.n ≠ 0 then ([], knownS x.d x.o x.n) else (posN x.ps x.o x.n.toNat x.d x.l, 0)
theorem payAll_take (o : List Int) (n : Nat) (d : List Payout) (i : Nat) (h : i < d.length) : payAll o n (d.take (i + 1)) = payStep o n (payAll o n (d.take i)) d[i] := by
  unfold payAll
  rw [← List.take_append_getElem h, List.foldl_append]
  rfl
theorem posN_take (ps : List Product) (o : List Int) (n : Nat) (d : List Payout) (l : List Sale) (i : Nat) (h : i < l.length) : posN ps o n d (l.take (i + 1)) = saleStep ps n (posN ps o n d (l.take i)) l[i] := by
  unfold posN
  rw [← List.take_append_getElem h, List.foldl_append]
  rfl
theorem payFold (o : List Int) (n : Nat) : ∀ (d : List Payout) (l : List Int) (B : Int), 0 ≤ B → bdL B l → (∀ x ∈ d, 0 ≤ x.a ∧ x.a ≤ 1000000000000) →
    (d.foldl (payStep o n) l).length = l.length ∧ bdL (B + d.length * 2000000000000) (d.foldl (payStep o n) l)
  | [], l, B, hB, h, _ => ⟨rfl, by intro x hx; have := h x hx; simp; omega⟩
  | x :: r, l, B, hB, h, hd => by
    have hx := hd x (by simp)
    have h1 := addAt_bd (i := (o.getD x.m.toNat 0).toNat) (v := x.a) (C := 1000000000000) hB h (by omega)
    have h2 := addAt_bd (i := n) (v := -x.a) (C := 1000000000000) (by omega) h1 (by omega)
    have := payFold o n r (payStep o n l x) (B + 1000000000000 + 1000000000000) (by omega) h2 (fun y hy => hd y (by simp [hy]))
    refine ⟨by rw [List.foldl_cons, this.1]; simp [payStep, addAt_len], ?_⟩
    rw [List.foldl_cons]
    intro y hy
    have := this.2 y hy
    rw [List.length_cons]
    omega
theorem payAll_ok {o : List Int} {n : Nat} {d : List Payout} (h : ∀ x ∈ d, 0 ≤ x.a ∧ x.a ≤ 1000000000000) : (payAll o n d).length = n + 1 ∧ bdL (d.length * 2000000000000) (payAll o n d) := by
  have := payFold o n d (List.replicate (n + 1) 0) 0 (by omega) (by intro x hx; have := List.eq_of_mem_replicate hx; omega) h
  rw [List.length_replicate, Int.zero_add] at this
  exact this
theorem saleFold (ps : List Product) (n : Nat) : ∀ (d : List Sale) (l : List Int) (B : Int), 0 ≤ B → bdL B l → (∀ x ∈ d, 0 ≤ x.c * prodD ps x ∧ x.c * prodD ps x ≤ 1000000) →
    (d.foldl (saleStep ps n) l).length = l.length ∧ bdL (B + d.length * 2000000) (d.foldl (saleStep ps n) l)
  | [], l, B, hB, h, _ => ⟨rfl, by intro x hx; have := h x hx; simp; omega⟩
  | x :: r, l, B, hB, h, hd => by
    have hx := hd x (by simp)
    have h1 := addAt_bd (i := x.r.toNat) (v := -(x.c * prodD ps x)) (C := 1000000) hB h (by omega)
    have h2 := addAt_bd (i := n) (v := x.c * prodD ps x) (C := 1000000) (by omega) h1 (by omega)
    have := saleFold ps n r (saleStep ps n l x) (B + 1000000 + 1000000) (by omega) h2 (fun y hy => hd y (by simp [hy]))
    refine ⟨by rw [List.foldl_cons, this.1]; simp [saleStep, addAt_len], ?_⟩
    rw [List.foldl_cons]
    intro y hy
    have := this.2 y hy
    rw [List.length_cons]
    omega
theorem posN_ok {ps : List Product} {o : List Int} {n : Nat} {d : List Payout} {l : List Sale} (h : ∀ x ∈ d, 0 ≤ x.a ∧ x.a ≤ 1000000000000) (hl : ∀ x ∈ l, 0 ≤ x.c * prodD ps x ∧ x.c * prodD ps x ≤ 1000000) :
    (posN ps o n d l).length = n + 1 ∧ bdL (d.length * 2000000000000 + l.length * 2000000) (posN ps o n d l) := by
  have h1 := payAll_ok (o := o) (n := n) h
  have := saleFold ps n l (payAll o n d) (d.length * 2000000000000) (by omega) h1.2 hl
  rw [h1.1] at this
  exact this
theorem totG_zero : ∀ (l : List Payout) (n : Int), (totG l n).2 = 0 → ∀ x ∈ l, 0 ≤ x.a ∧ x.a ≤ 1000000000000
  | [], _, _, x, hx => by simp at hx
  | y :: r, n, h, x, hx => by
    unfold totG at h
    split at h
    · simp at h
    · rename_i hy
      rcases List.mem_cons.1 hx with rfl | hx
      · omega
      · exact totG_zero r _ h x hx
theorem totS_zero {l : List Payout} (h : (totS l).2 = 0) : l.length ≤ 512 ∧ ∀ x ∈ l, 0 ≤ x.a ∧ x.a ≤ 1000000000000 := by
  unfold totS at h
  split at h
  · simp at h
  · exact ⟨by omega, totG_zero l 0 h⟩
theorem depG_zero (ps : List Product) : ∀ (l : List Sale) (n : Int), (depG ps l n).2 = 0 → ∀ x ∈ l, 0 ≤ x.p ∧ x.p < ps.length ∧ 0 ≤ x.c * prodD ps x ∧ x.c * prodD ps x ≤ 1000000
  | [], _, _, x, hx => by simp at hx
  | y :: r, n, h, x, hx => by
    unfold depG at h
    split at h
    · rename_i hp
      split at h
      · simp at h
      · rename_i hb
        rcases List.mem_cons.1 hx with rfl | hx
        · have e : prodD ps x = (ps[x.p.toNat]'(by omega)).dep := by
            unfold prodD
            have : x.p.toNat < ps.length := by omega
            simp [List.getD, this]
          rw [e]
          simp [depBad] at hb
          have := mul_bd (a := x.c) (b := (ps[x.p.toNat]'(by omega)).dep) (A := 1000) (B := 1000) (by omega) (by omega) (by omega) (by omega)
          omega
        · exact depG_zero ps r _ h x hx
    · simp at h
theorem depS_zero {ps : List Product} {l : List Sale} (h : (depS ps l).2 = 0) : l.length ≤ 512 ∧ ∀ x ∈ l, 0 ≤ x.p ∧ x.p < ps.length ∧ 0 ≤ x.c * prodD ps x ∧ x.c * prodD ps x ≤ 1000000 := by
  unfold depS at h
  split at h
  · simp at h
  · exact ⟨by omega, depG_zero ps l 0 h⟩
theorem checkS_zero {np n : Int} {l : List Sale} (h : checkS np n l = 0) : ∀ x ∈ l, 0 ≤ x.r ∧ x.r < n := by
  unfold checkS at h
  split at h
  · simp at h
  · split at h
    · rename_i h1; exact absurd h h1
    · rename_i h1
      intro x hx
      have := firstF_zero np n l (Decidable.not_not.1 h1) x hx
      unfold faultS at this
      split at this
      · simp at this
      · split at this
        · simp at this
        · split at this
          · simp at this
          · omega
theorem knownS_zero {d : List Payout} {o : List Int} {n : Int} (h : knownS d o n = 0) : o.length ≤ 8 ∧ (∀ x ∈ o, 0 ≤ x ∧ x < n) ∧ ∀ x ∈ d, 0 ≤ x.m ∧ x.m < o.length := by
  unfold knownS at h
  split at h
  · simp at h
  · split at h
    · rename_i h1
      split at h
      · rename_i h2
        refine ⟨by omega, fun x hx => ?_, fun x hx => ?_⟩
        · simpa using List.all_eq_true.1 h1 x hx
        · simpa using List.all_eq_true.1 h2 x hx
      · simp at h
    · simp at h
end Go.Proofs.Ytojenglklffkoaa

namespace Go.Proofs.Ytojenglklffkoaa
open Go Go.AI Go.Proofs
set_option linter.unusedSimpArgs false
set_option linter.unusedVariables false
set_option maxRecDepth 4000
set_option maxHeartbeats 4000000 in
theorem net12_ok (x : Case) (hx : x.ok) (hs : x.small = true) :
    CallsTo Try.prog 12 [.sl (x.ps.map Product.av), .sl (x.l.map Sale.av), .sl (x.d.map Payout.av), .sl (x.o.map (AV.int .i64)), .int .i64 x.n] [.fresh 3 1 ((netS x).1.map (AV.int .i64)), .p (.int .i64 (netS x).2)] := by
  obtain ⟨ps, l, d, o, n⟩ := x
  obtain ⟨hp, hl, hd, ho, hn⟩ := hx
  simp only at hp hl hd ho hn
  unfold Case.small at hs
  rw [decide_eq_true_eq] at hs
  simp only at hs
  have hn' := hn
  unfold In64 at hn'
  refine f12_calls (Nat.le_of_ble_eq_true rfl) ?_
  simp only
  by_cases e1 : n < 1 ∨ 32 < n
  · rw [show netS ⟨ps, l, d, o, n⟩ = ([], 1) by unfold netS; simp only; rw [if_pos e1]]
    (repeat' (first | simp (maxSteps := 2000000) (disch := omega) only [go_sem, ↓reduceIte, reduceIte, Nat.reduceAdd, Nat.reduceLT, Nat.reduceEqDiff, Nat.reduceLeDiff, Nat.reduceMul, List.map_nil] | refine gA_dt (fun h => ?_) (fun h => ?_) | refine gA_df (fun h => ?_) (fun h => ?_) | refine cA_d (fun h => ?_) (fun h => ?_) | (exfalso; omega) | exact trivial))
  have k1 := check11_ok ps l n hl hn (by omega) (by omega)
  have k2 := dep18_ok ps l hp hl (by omega) (by omega)
  have k3 := total25_ok d hd (by omega)
  have k4 := known26_ok d o n hd ho hn (by omega) (by omega)
  (repeat' (first | simp (maxSteps := 2000000) (disch := omega) only [go_sem, ↓reduceIte, reduceIte, Nat.reduceAdd, Nat.reduceLT, Nat.reduceEqDiff, Nat.reduceLeDiff, Nat.reduceMul] | refine gA_dt (fun h => absurd h (by omega)) (fun h => ?_) | refine gA_df (fun h => ?_) (fun h => absurd h (by omega)) | refine cA_d (fun h => absurd h (by omega)) (fun h => ?_)))
  refine call_1 k1 (by rfl) (by rfl) ?_
  simp (maxSteps := 2000000) (disch := omega) only [go_sem, ↓reduceIte, reduceIte, Nat.reduceAdd, Nat.reduceLT, Nat.reduceEqDiff, Nat.reduceLeDiff, Nat.reduceMul]
  refine cA_d (fun e2 => ?_) (fun e2 => ?_)
  · rw [show netS ⟨ps, l, d, o, n⟩ = ([], checkS ps.length n l) by unfold netS; simp only; rw [if_neg e1, if_pos e2]]
    simp (maxSteps := 2000000) (disch := omega) only [go_sem, ↓reduceIte, reduceIte, Nat.reduceAdd, Nat.reduceLT, Nat.reduceEqDiff, Nat.reduceLeDiff, Nat.reduceMul, List.map_nil]
    exact trivial
  simp (maxSteps := 2000000) (disch := omega) only [go_sem, ↓reduceIte, reduceIte, Nat.reduceAdd, Nat.reduceLT, Nat.reduceEqDiff, Nat.reduceLeDiff, Nat.reduceMul]
  refine call_2 k2 (by rfl) (by rfl) ?_
  simp (maxSteps := 2000000) (disch := omega) only [go_sem, ↓reduceIte, reduceIte, Nat.reduceAdd, Nat.reduceLT, Nat.reduceEqDiff, Nat.reduceLeDiff, Nat.reduceMul]
  refine cA_d (fun e3 => ?_) (fun e3 => ?_)
  · rw [show netS ⟨ps, l, d, o, n⟩ = ([], (depS ps l).2) by unfold netS; simp only; rw [if_neg e1, if_neg e2, if_pos e3]]
    simp (maxSteps := 2000000) (disch := omega) only [go_sem, ↓reduceIte, reduceIte, Nat.reduceAdd, Nat.reduceLT, Nat.reduceEqDiff, Nat.reduceLeDiff, Nat.reduceMul, List.map_nil]
    exact trivial
  simp (maxSteps := 2000000) (disch := omega) only [go_sem, ↓reduceIte, reduceIte, Nat.reduceAdd, Nat.reduceLT, Nat.reduceEqDiff, Nat.reduceLeDiff, Nat.reduceMul]
  refine call_2 k3 (by rfl) (by rfl) ?_
  simp (maxSteps := 2000000) (disch := omega) only [go_sem, ↓reduceIte, reduceIte, Nat.reduceAdd, Nat.reduceLT, Nat.reduceEqDiff, Nat.reduceLeDiff, Nat.reduceMul]
  refine cA_d (fun e4 => ?_) (fun e4 => ?_)
  · rw [show netS ⟨ps, l, d, o, n⟩ = ([], (totS d).2) by unfold netS; simp only; rw [if_neg e1, if_neg e2, if_neg e3, if_pos e4]]
    simp (maxSteps := 2000000) (disch := omega) only [go_sem, ↓reduceIte, reduceIte, Nat.reduceAdd, Nat.reduceLT, Nat.reduceEqDiff, Nat.reduceLeDiff, Nat.reduceMul, List.map_nil]
    exact trivial
  simp (maxSteps := 2000000) (disch := omega) only [go_sem, ↓reduceIte, reduceIte, Nat.reduceAdd, Nat.reduceLT, Nat.reduceEqDiff, Nat.reduceLeDiff, Nat.reduceMul]
  refine call_1 k4 (by rfl) (by rfl) ?_
  simp (maxSteps := 2000000) (disch := omega) only [go_sem, ↓reduceIte, reduceIte, Nat.reduceAdd, Nat.reduceLT, Nat.reduceEqDiff, Nat.reduceLeDiff, Nat.reduceMul]
  refine cA_d (fun e5 => ?_) (fun e5 => ?_)
  · rw [show netS ⟨ps, l, d, o, n⟩ = ([], knownS d o n) by unfold netS; simp only; rw [if_neg e1, if_neg e2, if_neg e3, if_neg e4, if_pos e5]]
    simp (maxSteps := 2000000) (disch := omega) only [go_sem, ↓reduceIte, reduceIte, Nat.reduceAdd, Nat.reduceLT, Nat.reduceEqDiff, Nat.reduceLeDiff, Nat.reduceMul, List.map_nil]
    exact trivial
  rw [show netS ⟨ps, l, d, o, n⟩ = (posN ps o n.toNat d l, 0) by unfold netS; simp only; rw [if_neg e1, if_neg e2, if_neg e3, if_neg e4, if_neg e5]]
  have z2 := checkS_zero (Decidable.not_not.1 e2)
  obtain ⟨z3, z3'⟩ := depS_zero (Decidable.not_not.1 e3)
  obtain ⟨z4, z4'⟩ := totS_zero (Decidable.not_not.1 e4)
  obtain ⟨z5, z5', z5''⟩ := knownS_zero (Decidable.not_not.1 e5)
  obtain ⟨N, rfl⟩ : ∃ N : Nat, n = N := ⟨n.toNat, by omega⟩
  rw [Int.toNat_natCast] at *
  simp (maxSteps := 2000000) (disch := omega) only [go_sem, ↓reduceIte, reduceIte, Nat.reduceAdd, Nat.reduceLT, Nat.reduceEqDiff, Nat.reduceLeDiff, Nat.reduceMul]
  refine mkK_intro (N + 1) (by omega) rfl (by decide) (by omega) (by omega) ?_
  rw [show List.replicate (N + 1) (AV.int .i64 0) = (payAll o N (d.take 0)).map (AV.int .i64) by simp [payAll]]
  simp (maxSteps := 2000000) (disch := omega) only [go_sem, ↓reduceIte, reduceIte, Nat.reduceAdd, Nat.reduceLT, Nat.reduceEqDiff, Nat.reduceLeDiff, Nat.reduceMul]
  refine loop_of f12L29_is (fun i : Nat => ⟨[(66, .int .i64 i), (65, .int .i64 d.length), (64, .sl (d.map Payout.av)), (18, .own 63), (0, .sl (ps.map Product.av)), (1, .sl (l.map Sale.av)), (3, .sl (o.map (AV.int .i64))), (4, .int .i64 N)], [(63, .arr 3 1 ((payAll o N (d.take i)).map (AV.int .i64)))]⟩)
    (fun i => i ≤ d.length) (fun i => d.length - i) 0 (Nat.zero_le _) (le_intro (by simp only [allLook, allLookM, go_sem, ↓reduceIte, reduceIte, Nat.reduceAdd, Nat.reduceLT, Nat.reduceEqDiff, Nat.reduceLeDiff, Nat.reduceMul]; try simp) (by simp only [allLook, allLookM, go_sem, ↓reduceIte, reduceIte, Nat.reduceAdd, Nat.reduceLT, Nat.reduceEqDiff, Nat.reduceLeDiff, Nat.reduceMul]; try simp)) ?_
  rintro i R hi hR
  simp (maxSteps := 2000000) (disch := omega) only [go_sem, ↓reduceIte, reduceIte, Nat.reduceAdd, Nat.reduceLT, Nat.reduceEqDiff, Nat.reduceLeDiff, Nat.reduceMul]
  refine cA_d (fun h2 => ?_) (fun h2 => ?_)
  · have hlt : i < d.length := by omega
    have hx := hd d[i] (List.getElem_mem _)
    unfold Payout.ok In64 at hx
    have hm := z5'' d[i] (List.getElem_mem _)
    have hml : d[i].m.toNat < o.length := by omega
    have hox := z5' o[d[i].m.toNat] (List.getElem_mem hml)
    have ha := z4' d[i] (List.getElem_mem _)
    have hpa := payAll_ok (o := o) (n := N) (d := d.take i) (fun y hy => z4' y (List.mem_of_mem_take hy))
    have htl : (d.take i).length ≤ 512 := by simp; omega
    have hst := payAll_take o N d i hlt
    generalize hP : payAll o N (d.take i) = P at *
    have hpl : o[d[i].m.toNat].toNat < P.length := by omega
    have hpn : N < P.length := by omega
    have hb1 := hpa.2 P[o[d[i].m.toNat].toNat] (List.getElem_mem hpl)
    unfold payStep at hst
    rw [show o.getD d[i].m.toNat 0 = o[d[i].m.toNat] by simp [List.getD, hml]] at hst
    rw [addAt_eq hpl] at hst
    have hpn' : N < (P.set o[d[i].m.toNat].toNat (P[o[d[i].m.toNat].toNat] + d[i].a)).length := by simp; omega
    rw [addAt_eq hpn'] at hst
    have hb2 : bdL (2000000000000000) (P.set o[d[i].m.toNat].toNat (P[o[d[i].m.toNat].toNat] + d[i].a)) := by
      intro y hy
      rcases List.mem_or_eq_of_mem_set hy with hy | rfl
      · have := hpa.2 y hy; omega
      · omega
    have hb3 := hb2 _ (List.getElem_mem hpn')
    rw [← Int.sub_eq_add_neg] at hst
    simp (maxSteps := 2000000) (disch := omega) only [go_sem, ↓reduceIte, reduceIte, Nat.reduceAdd, Nat.reduceLT, Nat.reduceEqDiff, Nat.reduceLeDiff, Nat.reduceMul]
    refine idxS_map i rfl hlt (fun _ => rfl) ?_
    simp (maxSteps := 2000000) (disch := omega) only [go_sem, ↓reduceIte, reduceIte, Nat.reduceAdd, Nat.reduceLT, Nat.reduceEqDiff, Nat.reduceLeDiff, Nat.reduceMul, Payout.av]
    refine idxS_map d[i].m.toNat (by omega) hml (fun _ => rfl) ?_
    (repeat' (first | simp (maxSteps := 2000000) (disch := omega) only [go_sem, ↓reduceIte, reduceIte, Nat.reduceAdd, Nat.reduceLT, Nat.reduceEqDiff, Nat.reduceLeDiff, Nat.reduceMul] | refine idxO_map o[d[i].m.toNat].toNat (by omega) hpl ?_ | refine idxO_map N rfl hpn' ?_ | refine at_map hpl ?_ | refine at_map hpn' ?_ | refine stO_int hpl ?_ | refine stO_int hpn' ?_))
    refine hR (i + 1) _ hlt (by omega) ?_
    rw [hst]
    exact (le_intro (by simp only [allLook, allLookM, go_sem, ↓reduceIte, reduceIte, Nat.reduceAdd, Nat.reduceLT, Nat.reduceEqDiff, Nat.reduceLeDiff, Nat.reduceMul]; try simp) (by simp only [allLook, allLookM, go_sem, ↓reduceIte, reduceIte, Nat.reduceAdd, Nat.reduceLT, Nat.reduceEqDiff, Nat.reduceLeDiff, Nat.reduceMul]; try simp))
  have hil : d.length = i := by omega
  subst hil
  rw [List.take_length]
  clear hR
  simp (maxSteps := 2000000) (disch := omega) only [go_sem, ↓reduceIte, reduceIte, Nat.reduceAdd, Nat.reduceLT, Nat.reduceEqDiff, Nat.reduceLeDiff, Nat.reduceMul]
  refine loop_of f12L42_is (fun i : Nat => ⟨[(94, .int .i64 i), (93, .int .i64 l.length), (92, .sl (l.map Sale.av)), (18, .own 63), (0, .sl (ps.map Product.av)), (4, .int .i64 N)], [(63, .arr 3 1 ((posN ps o N d (l.take i)).map (AV.int .i64)))]⟩)
    (fun i => i ≤ l.length) (fun i => l.length - i) 0 (Nat.zero_le _) (le_intro (by simp only [allLook, allLookM, go_sem, ↓reduceIte, reduceIte, Nat.reduceAdd, Nat.reduceLT, Nat.reduceEqDiff, Nat.reduceLeDiff, Nat.reduceMul, List.take_zero, show posN ps o N d [] = payAll o N d from rfl]; try simp) (by simp only [allLook, allLookM, go_sem, ↓reduceIte, reduceIte, Nat.reduceAdd, Nat.reduceLT, Nat.reduceEqDiff, Nat.reduceLeDiff, Nat.reduceMul, List.take_zero, show posN ps o N d [] = payAll o N d from rfl]; try simp)) ?_
  rintro i R hi hR
  simp (maxSteps := 2000000) (disch := omega) only [go_sem, ↓reduceIte, reduceIte, Nat.reduceAdd, Nat.reduceLT, Nat.reduceEqDiff, Nat.reduceLeDiff, Nat.reduceMul]
  refine cA_d (fun h2 => ?_) (fun h2 => ?_)
  · have hlt : i < l.length := by omega
    have hx := hl l[i] (List.getElem_mem _)
    unfold Sale.ok In64 at hx
    have hr := z2 l[i] (List.getElem_mem _)
    have hpp := z3' l[i] (List.getElem_mem _)
    have hpi : l[i].p.toNat < ps.length := by omega
    have hge : prodD ps l[i] = ps[l[i].p.toNat].dep := by simp [prodD, List.getD, hpi]
    have hpa := posN_ok (ps := ps) (o := o) (n := N) (d := d) (l := l.take i) z4' (fun y hy => (z3' y (List.mem_of_mem_take hy)).2.2)
    have htl : (l.take i).length ≤ 512 := by simp; omega
    have hst := posN_take ps o N d l i hlt
    rw [hge] at hpp
    unfold saleStep at hst
    rw [hge] at hst
    generalize hP : posN ps o N d (l.take i) = P at *
    have hpl : l[i].r.toNat < P.length := by omega
    have hb1 := hpa.2 P[l[i].r.toNat] (List.getElem_mem hpl)
    rw [addAt_eq hpl, ← Int.sub_eq_add_neg] at hst
    have hpn' : N < (P.set l[i].r.toNat (P[l[i].r.toNat] - l[i].c * ps[l[i].p.toNat].dep)).length := by simp; omega
    rw [addAt_eq hpn'] at hst
    have hb2 : bdL (2000000000000000) (P.set l[i].r.toNat (P[l[i].r.toNat] - l[i].c * ps[l[i].p.toNat].dep)) := by
      intro y hy
      rcases List.mem_or_eq_of_mem_set hy with hy | rfl
      · have := hpa.2 y hy; omega
      · omega
    have hb3 := hb2 _ (List.getElem_mem hpn')
    simp (maxSteps := 2000000) (disch := omega) only [go_sem, ↓reduceIte, reduceIte, Nat.reduceAdd, Nat.reduceLT, Nat.reduceEqDiff, Nat.reduceLeDiff, Nat.reduceMul]
    refine idxS_map i rfl hlt (fun _ => rfl) ?_
    simp (maxSteps := 2000000) (disch := omega) only [go_sem, ↓reduceIte, reduceIte, Nat.reduceAdd, Nat.reduceLT, Nat.reduceEqDiff, Nat.reduceLeDiff, Nat.reduceMul, Sale.av]
    refine idxS_map l[i].p.toNat (by omega) hpi (fun _ => rfl) ?_
    (repeat' (first | simp (maxSteps := 2000000) (disch := omega) only [go_sem, ↓reduceIte, reduceIte, Nat.reduceAdd, Nat.reduceLT, Nat.reduceEqDiff, Nat.reduceLeDiff, Nat.reduceMul, Product.av] | refine idxO_map l[i].r.toNat (by omega) hpl ?_ | refine idxO_map N rfl hpn' ?_ | refine at_map hpl ?_ | refine at_map hpn' ?_ | refine stO_int hpl ?_ | refine stO_int hpn' ?_))
    refine hR (i + 1) _ hlt (by omega) ?_
    rw [hst]
    exact (le_intro (by simp only [allLook, allLookM, go_sem, ↓reduceIte, reduceIte, Nat.reduceAdd, Nat.reduceLT, Nat.reduceEqDiff, Nat.reduceLeDiff, Nat.reduceMul]; try simp) (by simp only [allLook, allLookM, go_sem, ↓reduceIte, reduceIte, Nat.reduceAdd, Nat.reduceLT, Nat.reduceEqDiff, Nat.reduceLeDiff, Nat.reduceMul]; try simp))
  have hil : l.length = i := by omega
  subst hil
  rw [List.take_length]
  simp (maxSteps := 2000000) (disch := omega) only [go_sem, ↓reduceIte, reduceIte, Nat.reduceAdd, Nat.reduceLT, Nat.reduceEqDiff, Nat.reduceLeDiff, Nat.reduceMul]
  exact trivial
end Go.Proofs.Ytojenglklffkoaa
