import Derived.Test.YtpclkldmkmmmhaaS20
namespace Go.Proofs.Ytpclkldmkmmmhaa
open Go Go.AI Go.Proofs
set_option linter.unusedSimpArgs false
set_option linter.unusedVariables false
def sumP : List Placing → Int
  | [] => 0
  | y :: r => y.g + sumP r
theorem sumP_append (a b : List Placing) : sumP (a ++ b) = sumP a + sumP b := by
  induction a with
  | nil => simp [sumP]
  | cons x a ih => simp only [List.cons_append, sumP, ih]; omega
def wantG (ps : List Product) (w : Win) : List Sale → Int
  | [] => 0
  | x :: r => (if inW w x then x.c * (prodOf ps x).g else 0) + wantG ps w r
def sumN (f : Nat → Int) : Nat → Int
  | 0 => 0
  | n + 1 => sumN f n + f n
theorem sumN_add (f g : Nat → Int) : ∀ n, sumN (fun i => f i + g i) n = sumN f n + sumN g n
  | 0 => rfl
  | n + 1 => by simp only [sumN, sumN_add f g n]; omega
theorem sumN_congr {f g : Nat → Int} (h : ∀ i, f i = g i) (n : Nat) : sumN f n = sumN g n := by rw [show f = g from funext h]
theorem sumN_zero : ∀ n, sumN (fun _ => 0) n = 0
  | 0 => rfl
  | n + 1 => by simp only [sumN, sumN_zero n]; rfl
theorem sumN_ind (a v : Int) : ∀ n : Nat, sumN (fun i => if a = (i : Int) then v else 0) n = if 0 ≤ a ∧ a < n then v else 0
  | 0 => by simp [sumN]; omega
  | n + 1 => by
    simp only [sumN, sumN_ind a v n]
    by_cases h1 : a = n
    · subst h1; rw [if_neg (by omega), if_pos rfl, if_pos (by omega)]; simp
    · rw [if_neg h1]
      by_cases h2 : 0 ≤ a ∧ a < n
      · rw [if_pos h2, if_pos (by omega)]; simp
      · rw [if_neg h2, if_neg (by omega)]; rfl
theorem sumP_row {ps : List Product} {l : List Sale} {w : Win} (hg : ∀ x ∈ l, goodX ps x) (P : Nat) : ∀ n, sumP (rowG ps l w P n) = sumN (fun M => totG ps w P M l) n
  | 0 => rfl
  | n + 1 => by
    have hb := (totG_bd (w := w) (P := P) (M := n) l hg).1
    rw [rowG_succ, sumP_append, sumP_row hg P n, sumN]
    split
    · simp [sumP]
    · simp [sumP]; omega
theorem sumP_all {ps : List Product} {l : List Sale} {w : Win} (hg : ∀ x ∈ l, goodX ps x) : ∀ n, sumP (allG ps l w n) = sumN (fun P => sumN (fun M => totG ps w P M l) 16) n
  | 0 => rfl
  | n + 1 => by rw [allG_succ, sumP_append, sumP_all hg n, sumP_row hg n 16]; rfl
theorem sum_tot {ps : List Product} {w : Win} : ∀ {l : List Sale}, (∀ x ∈ l, goodX ps x) → sumN (fun P => sumN (fun M => totG ps w P M l) 16) 32 = wantG ps w l
  | [], _ => by simp only [totG, wantG, sumN_zero]
  | x :: r, h => by
    have ih := sum_tot (w := w) (fun y hy => h y (List.mem_cons_of_mem x hy))
    have hu := (h x (by simp)).2.2
    unfold Product.use at hu
    simp only [totG, wantG]
    have e1 : ∀ P : Nat, sumN (fun M : Nat => (if inW w x ∧ (prodOf ps x).pr = (P : Int) ∧ (prodOf ps x).mat = (M : Int) then x.c * (prodOf ps x).g else 0) + totG ps w P M r) 16 =
        (if inW w x ∧ (prodOf ps x).pr = (P : Int) then x.c * (prodOf ps x).g else 0) + sumN (fun M => totG ps w P M r) 16 := by
      intro P
      rw [sumN_add]
      congr 1
      by_cases hp : inW w x ∧ (prodOf ps x).pr = (P : Int)
      · rw [if_pos hp]
        have := sumN_ind (prodOf ps x).mat (x.c * (prodOf ps x).g) 16
        rw [if_pos (by omega)] at this
        refine (sumN_congr (fun M => ?_) 16).trans this
        by_cases hm : (prodOf ps x).mat = (M : Int)
        · rw [if_pos ⟨hp.1, hp.2, hm⟩, if_pos hm]
        · rw [if_neg (fun hh => hm hh.2.2), if_neg hm]
      · rw [if_neg hp]
        refine (sumN_congr (fun M => ?_) 16).trans (sumN_zero 16)
        rw [if_neg (fun hh => hp ⟨hh.1, hh.2.1⟩)]
    rw [sumN_congr e1, sumN_add, ih]
    congr 1
    by_cases hw : inW w x
    · rw [if_pos hw]
      have := sumN_ind (prodOf ps x).pr (x.c * (prodOf ps x).g) 32
      rw [if_pos (by omega)] at this
      refine (sumN_congr (fun P => ?_) 32).trans this
      by_cases hm : (prodOf ps x).pr = (P : Int)
      · rw [if_pos ⟨hw, hm⟩, if_pos hm]
      · rw [if_neg (fun hh => hm hh.2), if_neg hm]
    · rw [if_neg hw]
      refine (sumN_congr (fun P => ?_) 32).trans (sumN_zero 32)
      rw [if_neg (fun hh => hw hh.1)]
theorem sumP_want {ps : List Product} {l : List Sale} {w : Win} (hg : ∀ x ∈ l, goodX ps x) : sumP (allG ps l w 32) = wantG ps w l := by rw [sumP_all hg, sum_tot hg]
theorem wantG_append (ps : List Product) (w : Win) (xs : List Sale) (x : Sale) : wantG ps w (xs ++ [x]) = wantG ps w xs + (if inW w x then x.c * (prodOf ps x).g else 0) := by
  induction xs with
  | nil => simp [wantG]
  | cons y ys ih => simp only [List.cons_append, wantG, ih]; omega
theorem wantG_bd {ps : List Product} {w : Win} : ∀ (xs : List Sale), (∀ x ∈ xs, goodX ps x) → 0 ≤ wantG ps w xs ∧ wantG ps w xs ≤ xs.length * 10000000
  | [], _ => by simp [wantG]
  | x :: r, h => by
    have ih := wantG_bd (w := w) r (fun y hy => h y (by simp [hy]))
    have hb := cell_bd (h x (by simp))
    simp only [wantG, List.length_cons]
    split <;> omega
theorem sumP_nonneg : ∀ (a : List Placing), (∀ y ∈ a, 0 ≤ y.g) → 0 ≤ sumP a
  | [], _ => by simp [sumP]
  | y :: r, h => by
    have := sumP_nonneg r (fun z hz => h z (by simp [hz]))
    have := h y (by simp)
    simp only [sumP]; omega
theorem gramsG_of {x : Placing} {v : Int} : ∀ {L : List Placing}, (∀ y ∈ L, y.pr = x.pr → y.mat = x.mat → y.g = v) → ((∀ y ∈ L, ¬ (y.pr = x.pr ∧ y.mat = x.mat)) → v = 0) → gramsG x L = v
  | [], _, h => by simp [gramsG, h (by simp)]
  | y :: r, h1, h2 => by
    unfold gramsG
    by_cases hk : y.pr = x.pr ∧ y.mat = x.mat
    · rw [if_pos hk]; exact h1 y (by simp) hk.1 hk.2
    · rw [if_neg hk]
      refine gramsG_of (fun z hz => h1 z (by simp [hz])) (fun h3 => h2 (fun z hz => ?_))
      rcases List.mem_cons.1 hz with rfl | hz
      · exact hk
      · exact h3 z hz
theorem grams_all {ps : List Product} {l : List Sale} {w : Win} (hg : ∀ x ∈ l, goodX ps x) {x : Placing} (h1 : 0 ≤ x.pr ∧ x.pr < 32) (h2 : 0 ≤ x.mat ∧ x.mat < 16) : gramsG x (allG ps l w 32) = totG ps w x.pr x.mat l := by
  refine gramsG_of (fun y hy e1 e2 => ?_) (fun h3 => ?_)
  · obtain ⟨P, M, _, _, _, rfl⟩ := mem_allG.1 hy
    simp only at e1 e2 ⊢
    rw [e1, e2]
  · have hb := (totG_bd (w := w) (P := x.pr) (M := x.mat) l hg).1
    rcases Int.lt_or_le 0 (totG ps w x.pr x.mat l) with h | h
    · exfalso
      refine h3 ⟨x.pr, x.mat, totG ps w x.pr x.mat l⟩ (mem_allG.2 ⟨x.pr.toNat, x.mat.toNat, by omega, by omega, ?_, ?_⟩) ⟨rfl, rfl⟩
      · rw [Int.toNat_of_nonneg h1.1, Int.toNat_of_nonneg h2.1]; exact h
      · rw [Int.toNat_of_nonneg h1.1, Int.toNat_of_nonneg h2.1]
    · omega
theorem totG_split {ps : List Product} {a m b : Int} (h1 : a ≤ m) (h2 : m ≤ b) (P M : Int) : ∀ l : List Sale, totG ps ⟨a, b⟩ P M l = totG ps ⟨a, m⟩ P M l + totG ps ⟨m, b⟩ P M l
  | [] => by simp [totG]
  | x :: r => by
    have hA : inW ⟨a, b⟩ x ↔ inW ⟨a, m⟩ x ∨ inW ⟨m, b⟩ x := by unfold inW; simp only; omega
    have hB : ¬ (inW ⟨a, m⟩ x ∧ inW ⟨m, b⟩ x) := by unfold inW; simp only; omega
    simp only [totG, totG_split h1 h2 P M r, hA]
    by_cases hk : (prodOf ps x).pr = P ∧ (prodOf ps x).mat = M
    · by_cases c1 : inW ⟨a, m⟩ x
      · by_cases c2 : inW ⟨m, b⟩ x
        · exact absurd ⟨c1, c2⟩ hB
        · simp only [c1, c2, hk, true_or, and_self, if_true, false_and, if_false]; omega
      · by_cases c2 : inW ⟨m, b⟩ x
        · simp only [c1, c2, hk, or_true, and_self, if_true, false_and, if_false]; omega
        · simp only [c1, c2, or_self, false_and, if_false]; omega
    · simp only [hk, and_false, if_false]; omega
end Go.Proofs.Ytpclkldmkmmmhaa
