import Derived.Test.YtpclkldmkmmmhaaS1
namespace Go.Proofs.Ytpclkldmkmmmhaa
open Go Go.AI Go.Proofs
set_option linter.unusedSimpArgs false
set_option linter.unusedVariables false
set_option maxRecDepth 4000
theorem block16_ok (s : Int) (hs : In64 s) : CallsTo Try.prog 16 [.int .i64 s] [.p (.int .i64 (if s < 0 then -1 else s / 16))] := by
  unfold In64 at hs
  refine f16_calls (Nat.le_of_ble_eq_true rfl) ?_
  (repeat' (first | refine gA_dt (fun h => ?_) (fun h => ?_) | refine gA_df (fun h => ?_) (fun h => ?_) | refine cA_d (fun h => ?_) (fun h => ?_) | simp (maxSteps := 2000000) (disch := omega) only [go_sem, ↓reduceIte, reduceIte, Nat.reduceAdd, Nat.reduceLT, Nat.reduceEqDiff, Nat.reduceLeDiff, Nat.reduceMul])) <;> (simp only [AV.int.injEq, true_and]; split <;> omega)
theorem block17_ok (s : Int) (hs : In64 s) : CallsTo Try.prog 17 [.int .i64 s] [.p (.int .i64 (if s < 0 then -1 else s / 16))] := by
  unfold In64 at hs
  refine f17_calls (Nat.le_of_ble_eq_true rfl) ?_
  (repeat' (first | refine gA_dt (fun h => ?_) (fun h => ?_) | refine gA_df (fun h => ?_) (fun h => ?_) | refine cA_d (fun h => ?_) (fun h => ?_) | simp (maxSteps := 2000000) (disch := omega) only [go_sem, ↓reduceIte, reduceIte, Nat.reduceAdd, Nat.reduceLT, Nat.reduceEqDiff, Nat.reduceLeDiff, Nat.reduceMul])) <;> (simp only [AV.int.injEq, true_and]; split <;> omega)
structure Product where
  code : List UInt8
  pr : Int
  dep : Int
  mat : Int
  g : Int
def Product.av (x : Product) : AV := .agg [.str x.code, .int .i64 x.pr, .int .i64 x.dep, .int .i64 x.mat, .int .i64 x.g]
def Product.ok (x : Product) : Prop := x.code.length ≤ maxLen ∧ In64 x.pr ∧ In64 x.dep ∧ In64 x.mat ∧ In64 x.g
def depBad (c d : Int) : Bool := decide (c < 1) || decide (1000 < c) || decide (d < 1) || decide (1000 < d)
def depG (ps : List Product) : List Sale → Int → Int × Int
  | [], n => (n, 0)
  | x :: r, n => if h : 0 ≤ x.p ∧ x.p < ps.length then (if depBad x.c (ps[x.p.toNat]'(by omega)).dep then (0, 1) else depG ps r (n + x.c * (ps[x.p.toNat]'(by omega)).dep)) else (0, 7)
def depS (ps : List Product) (l : List Sale) : Int × Int := if 512 < l.length then (0, 8) else depG ps l 0
theorem mul_bd {a b A B : Int} (h1 : 0 ≤ a) (h2 : a ≤ A) (h3 : 0 ≤ b) (h4 : b ≤ B) : 0 ≤ a * b ∧ a * b ≤ A * B :=
  ⟨Int.mul_nonneg h1 h3, Int.mul_le_mul h2 h4 h3 (Int.le_trans h1 h2)⟩
theorem dep18_ok (ps : List Product) (l : List Sale) (hp : ∀ x ∈ ps, x.ok) (hl : ∀ x ∈ l, x.ok) (hn : l.length ≤ 1048576) (hm : ps.length ≤ 1048576) :
    CallsTo Try.prog 18 [.sl (ps.map Product.av), .sl (l.map Sale.av)] [.p (.int .i64 (depS ps l).1), .p (.int .i64 (depS ps l).2)] := by
  refine f18_calls (Nat.le_of_ble_eq_true rfl) ?_
  simp (maxSteps := 2000000) (disch := omega) only [go_sem, ↓reduceIte, reduceIte, Nat.reduceAdd, Nat.reduceLT, Nat.reduceEqDiff, Nat.reduceLeDiff, Nat.reduceMul]
  refine cA_d (fun h1 => ?_) (fun h1 => ?_)
  · have hd : depS ps l = (0, 8) := by unfold depS; rw [if_pos (by omega)]
    rw [hd]
    simp (maxSteps := 2000000) (disch := omega) only [go_sem, ↓reduceIte, reduceIte, Nat.reduceAdd, Nat.reduceLT, Nat.reduceEqDiff, Nat.reduceLeDiff, Nat.reduceMul]
  · have hd : depS ps l = depG ps l 0 := by unfold depS; rw [if_neg (by omega)]
    rw [hd]
    simp (maxSteps := 2000000) (disch := omega) only [go_sem, ↓reduceIte, reduceIte, Nat.reduceAdd, Nat.reduceLT, Nat.reduceEqDiff, Nat.reduceLeDiff, Nat.reduceMul]
    refine loop_of f18L9_is (fun i : Nat × Int => ⟨[(15, .int .i64 i.1), (14, .int .i64 l.length), (13, .sl (l.map Sale.av)), (0, .sl (ps.map Product.av)), (6, .int .i64 i.2)], []⟩) (fun i => i.1 ≤ l.length ∧ 0 ≤ i.2 ∧ i.2 ≤ i.1 * 1000000 ∧ depG ps l 0 = depG ps (l.drop i.1) i.2) (fun i => l.length - i.1) (0, 0) ⟨Nat.zero_le _, by simp, by simp, rfl⟩ (le_intro (by simp only [allLook, allLookM, go_sem, ↓reduceIte, reduceIte, Nat.reduceAdd, Nat.reduceLT, Nat.reduceEqDiff, Nat.reduceLeDiff, Nat.reduceMul]; try simp) (by simp only [allLook, allLookM, go_sem, ↓reduceIte, reduceIte, Nat.reduceAdd, Nat.reduceLT, Nat.reduceEqDiff, Nat.reduceLeDiff, Nat.reduceMul]; try simp)) ?_
    rintro ⟨i, n⟩ R ⟨hi, hn0, hn1, hf⟩ hR
    simp only at hi hn0 hn1 hf
    simp (maxSteps := 2000000) (disch := omega) only [go_sem, ↓reduceIte, reduceIte, Nat.reduceAdd, Nat.reduceLT, Nat.reduceEqDiff, Nat.reduceLeDiff, Nat.reduceMul]
    refine cA_d (fun h2 => ?_) (fun h2 => ?_)
    · have hlt : i < l.length := by omega
      rw [List.drop_eq_getElem_cons hlt, depG] at hf
      have hx := hl l[i] (List.getElem_mem _)
      unfold Sale.ok In64 at hx
      simp (maxSteps := 2000000) (disch := omega) only [go_sem, ↓reduceIte, reduceIte, Nat.reduceAdd, Nat.reduceLT, Nat.reduceEqDiff, Nat.reduceLeDiff, Nat.reduceMul]
      refine idxS_map i rfl hlt (fun _ => rfl) ?_
      simp (maxSteps := 2000000) (disch := omega) only [go_sem, ↓reduceIte, reduceIte, Nat.reduceAdd, Nat.reduceLT, Nat.reduceEqDiff, Nat.reduceLeDiff, Nat.reduceMul, Sale.av]
      (repeat' (first | refine gA_dt (fun h => ?_) (fun h => ?_) | refine gA_df (fun h => ?_) (fun h => ?_) | refine cA_d (fun h => ?_) (fun h => ?_) | simp (maxSteps := 2000000) (disch := omega) only [go_sem, ↓reduceIte, reduceIte, Nat.reduceAdd, Nat.reduceLT, Nat.reduceEqDiff, Nat.reduceLeDiff, Nat.reduceMul]))
      all_goals try (rw [dif_neg (by omega)] at hf; simp [hf]; done)
      · have hp' : 0 ≤ l[i].p ∧ l[i].p < ps.length := by omega
        rw [dif_pos hp'] at hf
        refine idxS_map l[i].p.toNat (by omega) (by omega) (fun _ => rfl) ?_
        have hy := hp ps[l[i].p.toNat] (List.getElem_mem (by omega))
        unfold Product.ok In64 at hy
        simp (maxSteps := 2000000) (disch := omega) only [go_sem, ↓reduceIte, reduceIte, Nat.reduceAdd, Nat.reduceLT, Nat.reduceEqDiff, Nat.reduceLeDiff, Nat.reduceMul, Product.av]
        (repeat' (first | refine gA_dt (fun h => ?_) (fun h => ?_) | refine gA_df (fun h => ?_) (fun h => ?_) | refine cA_d (fun h => ?_) (fun h => ?_) | simp (maxSteps := 2000000) (disch := omega) only [go_sem, ↓reduceIte, reduceIte, Nat.reduceAdd, Nat.reduceLT, Nat.reduceEqDiff, Nat.reduceLeDiff, Nat.reduceMul]))
        all_goals try (rw [if_pos (by simp [depBad]; omega)] at hf; simp [hf]; done)
        have hc' := mul_bd (a := l[i].c) (b := ps[l[i].p.toNat].dep) (A := 1000) (B := 1000) (by omega) (by omega) (by omega) (by omega)
        rw [if_neg (by simp [depBad]; omega)] at hf
        simp (maxSteps := 2000000) (disch := omega) only [go_sem, ↓reduceIte, reduceIte, Nat.reduceAdd, Nat.reduceLT, Nat.reduceEqDiff, Nat.reduceLeDiff, Nat.reduceMul]
        refine hR (i + 1, n + l[i].c * ps[l[i].p.toNat].dep) _ ⟨hlt, by simp only []; omega, by simp only []; omega, hf⟩ (by simp only []; omega) (le_intro (by simp only [allLook, allLookM, go_sem, ↓reduceIte, reduceIte, Nat.reduceAdd, Nat.reduceLT, Nat.reduceEqDiff, Nat.reduceLeDiff, Nat.reduceMul]; try simp) (by simp only [allLook, allLookM, go_sem, ↓reduceIte, reduceIte, Nat.reduceAdd, Nat.reduceLT, Nat.reduceEqDiff, Nat.reduceLeDiff, Nat.reduceMul]; try simp))
    · simp (maxSteps := 2000000) (disch := omega) only [go_sem, ↓reduceIte, reduceIte, Nat.reduceAdd, Nat.reduceLT, Nat.reduceEqDiff, Nat.reduceLeDiff, Nat.reduceMul]
      have : l.length = i := by omega
      subst this
      simp [hf, depG]
end Go.Proofs.Ytpclkldmkmmmhaa
