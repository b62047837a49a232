import Derived.Test.YtpclkldmkmmmhaaS12
namespace Go.Proofs.Ytpclkldmkmmmhaa
open Go Go.AI Go.Proofs
set_option linter.unusedSimpArgs false
set_option linter.unusedVariables false
set_option maxRecDepth 4000
structure Win where
  a : Int
  b : Int
def Win.av (w : Win) : AV := .agg [.int .i64 w.a, .int .i64 w.b]
def Win.ok (w : Win) : Prop := In64 w.a ∧ In64 w.b
def prodOf (ps : List Product) (x : Sale) : Product := ps.getD x.p.toNat ⟨[], 0, 0, 0, 0⟩
def Product.use (x : Product) : Prop := 0 ≤ x.pr ∧ x.pr < 32 ∧ 0 ≤ x.mat ∧ x.mat < 16 ∧ 1 ≤ x.g ∧ x.g ≤ 10000
instance (x : Product) : Decidable x.use := by unfold Product.use; exact inferInstance
def badG (ps : List Product) : List Sale → Int
  | [] => 0
  | x :: r => if x.p < 0 ∨ ps.length ≤ x.p then 7 else if x.c < 1 ∨ 1000 < x.c ∨ ¬ (prodOf ps x).use then 1 else badG ps r
def inW (w : Win) (x : Sale) : Prop := w.a ≤ x.t ∧ x.t < w.b
instance (w : Win) (x : Sale) : Decidable (inW w x) := by unfold inW; exact inferInstance
def totG (ps : List Product) (w : Win) (P M : Int) : List Sale → Int
  | [] => 0
  | x :: r => (if inW w x ∧ (prodOf ps x).pr = P ∧ (prodOf ps x).mat = M then x.c * (prodOf ps x).g else 0) + totG ps w P M r
def cellG (ps : List Product) (l : List Sale) (w : Win) (P M : Nat) : Option Placing := if 0 < totG ps w P M l then some ⟨P, M, totG ps w P M l⟩ else none
def rowG (ps : List Product) (l : List Sale) (w : Win) (P n : Nat) : List Placing := (List.range n).filterMap (cellG ps l w P)
def allG (ps : List Product) (l : List Sale) (w : Win) (n : Nat) : List Placing := (List.range n).flatMap fun P => rowG ps l w P 16
def placedS (ps : List Product) (l : List Sale) (w : Win) : List Placing × Int :=
  if w.a < 0 ∨ w.b < w.a ∨ 3155760000 < w.b then ([], 1) else if 512 < l.length then ([], 8) else if badG ps l ≠ 0 then ([], badG ps l) else (allG ps l w 32, 0)
/-! ### groups -/
def lookG (P M : Int) : List Placing → Nat → Option (Nat × Int)
  | [], _ => none
  | g :: r, i => if P = g.pr ∧ M = g.mat then some (i, g.g) else lookG P M r (i + 1)
def entG (g : Placing) : AV × AV := (.agg [.int .i64 g.pr, .int .i64 g.mat], .int .i64 g.g)
theorem findA_g (P M : Int) : ∀ (gs : List Placing) (i : Nat), findA true [0, 0] (.agg [.int .i64 P, .int .i64 M]) (gs.map entG) i = some ((lookG P M gs i).map fun r => (r.1, .int .i64 r.2))
  | [], i => rfl
  | g :: r, i => by
    simp only [List.map_cons, findA, entG, eqK, eqL, if_true, Option.map_some, lookG]
    by_cases h : P = g.pr ∧ M = g.mat
    · rw [if_pos h]; simp [h.1, h.2]
    · rw [if_neg h]
      have : ((P == g.pr) && ((M == g.mat) && true)) = false := by
        rw [Bool.eq_false_iff]; intro hh; simp at hh; exact h hh
      rw [this]
      exact findA_g P M r (i + 1)
theorem lookG_some {P M : Int} : ∀ {gs : List Placing} {i j : Nat} {n : Int}, lookG P M gs i = some (j, n) → i ≤ j ∧ gs[j - i]? = some ⟨P, M, n⟩
  | [], i, j, n, h => by simp [lookG] at h
  | g :: r, i, j, n, h => by
    unfold lookG at h
    split at h
    · rename_i hk
      simp at h
      obtain ⟨rfl, rfl⟩ := h
      obtain ⟨p, m, x⟩ := g
      simp only at hk
      refine ⟨Nat.le_refl _, ?_⟩
      simp [hk.1, hk.2]
    · obtain ⟨h1, h2⟩ := lookG_some h
      have e : j - i = (j - (i + 1)) + 1 := by omega
      rw [e]; exact ⟨by omega, by simpa using h2⟩
theorem lookG_none {P M : Int} : ∀ {gs : List Placing} {i : Nat}, lookG P M gs i = none → ∀ g ∈ gs, ¬ (g.pr = P ∧ g.mat = M)
  | [], i, h, g, hg => by simp at hg
  | x :: r, i, h, g, hg => by
    unfold lookG at h
    split at h
    · cases h
    · rename_i hk
      rcases List.mem_cons.1 hg with rfl | hg
      · intro hh; exact hk ⟨hh.1.symm, hh.2.symm⟩
      · exact lookG_none h g hg
def updG (gs : List Placing) (P M n : Int) : List Placing :=
  match lookG P M gs 0 with
  | none => gs ++ [⟨P, M, n⟩]
  | some (j, n0) => gs.set j ⟨P, M, n0 + n⟩
def stepG (ps : List Product) (w : Win) (gs : List Placing) (x : Sale) : List Placing :=
  if inW w x then updG gs (prodOf ps x).pr (prodOf ps x).mat (x.c * (prodOf ps x).g) else gs
end Go.Proofs.Ytpclkldmkmmmhaa
