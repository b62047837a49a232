import Derived.Test.YtpclkldmkmmmhaaS13
namespace Go.Proofs.Ytpclkldmkmmmhaa
open Go Go.AI Go.Proofs
set_option linter.unusedSimpArgs false
set_option linter.unusedVariables false
def plt (a b : Placing) : Prop := a.pr < b.pr ∨ a.pr = b.pr ∧ a.mat < b.mat
theorem eq_of_plt : ∀ (l₁ l₂ : List Placing), l₁.Pairwise plt → l₂.Pairwise plt → (∀ x, x ∈ l₁ ↔ x ∈ l₂) → l₁ = l₂
  | [], [], _, _, _ => rfl
  | [], b :: t, _, _, h => by have := (h b).2 (by simp); simp at this
  | a :: t, [], _, _, h => by have := (h a).1 (by simp); simp at this
  | a :: s, b :: t, h1, h2, h => by
    obtain ⟨ha, hs⟩ := List.pairwise_cons.1 h1
    obtain ⟨hb, ht⟩ := List.pairwise_cons.1 h2
    have hab : a = b := by
      have m1 := (h a).1 (by simp)
      have m2 := (h b).2 (by simp)
      rcases List.mem_cons.1 m1 with e | m1
      · exact e
      · rcases List.mem_cons.1 m2 with e | m2
        · exact e.symm
        · have := ha b m2; have := hb a m1; unfold plt at *; omega
    subst hab
    rw [eq_of_plt s t hs ht]
    intro x
    constructor
    · intro hx
      have := (h x).1 (by simp [hx])
      rcases List.mem_cons.1 this with e | m
      · subst e; have := ha x hx; unfold plt at this; omega
      · exact m
    · intro hx
      have := (h x).2 (by simp [hx])
      rcases List.mem_cons.1 this with e | m
      · subst e; have := hb x hx; unfold plt at this; omega
      · exact m
theorem totG_append (ps : List Product) (w : Win) (P M : Int) (xs : List Sale) (x : Sale) : totG ps w P M (xs ++ [x]) = totG ps w P M xs + (if inW w x ∧ (prodOf ps x).pr = P ∧ (prodOf ps x).mat = M then x.c * (prodOf ps x).g else 0) := by
  induction xs with
  | nil => simp [totG]
  | cons y ys ih => simp only [List.cons_append, totG, ih]; omega
def goodX (ps : List Product) (x : Sale) : Prop := 1 ≤ x.c ∧ x.c ≤ 1000 ∧ (prodOf ps x).use
theorem cell_bd {ps : List Product} {x : Sale} (h : goodX ps x) : 1 ≤ x.c * (prodOf ps x).g ∧ x.c * (prodOf ps x).g ≤ 10000000 := by
  obtain ⟨h1, h2, _, _, _, _, h3, h4⟩ := h
  have a := Int.mul_le_mul h2 h4 (by omega) (by omega)
  have b := Int.mul_le_mul h1 h3 (by omega) (by omega)
  omega
theorem totG_bd {ps : List Product} {w : Win} {P M : Int} : ∀ (xs : List Sale), (∀ x ∈ xs, goodX ps x) → 0 ≤ totG ps w P M xs ∧ totG ps w P M xs ≤ xs.length * 10000000
  | [], _ => by simp [totG]
  | x :: r, h => by
    have ih := totG_bd (w := w) (P := P) (M := M) r (fun y hy => h y (by simp [hy]))
    have hb := cell_bd (h x (by simp))
    simp only [totG, List.length_cons]
    split <;> omega
theorem badG_zero {ps : List Product} : ∀ {l : List Sale}, badG ps l = 0 → ∀ x ∈ l, goodX ps x ∧ 0 ≤ x.p ∧ x.p < ps.length
  | [], _, x, hx => by simp at hx
  | y :: r, h, x, hx => by
    unfold badG at h
    split at h
    · omega
    · split at h
      · omega
      · rename_i h1 h2
        rcases List.mem_cons.1 hx with rfl | hx
        · exact ⟨⟨by omega, by omega, Decidable.not_not.1 (fun hh => h2 (.inr (.inr hh)))⟩, by omega, by omega⟩
        · exact badG_zero h x hx
structure GI (ps : List Product) (w : Win) (gs : List Placing) (xs : List Sale) : Prop where
  apart : gs.Pairwise fun g h => ¬ (g.pr = h.pr ∧ g.mat = h.mat)
  each : ∀ g ∈ gs, 0 ≤ g.pr ∧ g.pr < 32 ∧ 0 ≤ g.mat ∧ g.mat < 16 ∧ g.g = totG ps w g.pr g.mat xs ∧ 1 ≤ g.g
  all : ∀ P M, 0 < totG ps w P M xs → ∃ g ∈ gs, g.pr = P ∧ g.mat = M
theorem GI.nil (ps : List Product) (w : Win) : GI ps w [] [] := ⟨.nil, by simp, fun P M h => by simp [totG] at h⟩
theorem tot_other {ps : List Product} {w : Win} {gs : List Placing} {xs : List Sale} (h : GI ps w gs xs) (hx : ∀ x ∈ xs, goodX ps x) {P M : Int} (hn : ∀ g ∈ gs, ¬ (g.pr = P ∧ g.mat = M)) : totG ps w P M xs = 0 := by
  have hb := (totG_bd (w := w) (P := P) (M := M) xs hx).1
  rcases Int.lt_or_le 0 (totG ps w P M xs) with h' | h'
  · obtain ⟨g, hg, h1, h2⟩ := h.all P M h'
    exact absurd ⟨h1, h2⟩ (hn g hg)
  · omega
theorem GI.step {ps : List Product} {w : Win} {gs : List Placing} {xs : List Sale} {x : Sale} (h : GI ps w gs xs) (hxs : ∀ x ∈ xs, goodX ps x) (hx : goodX ps x) : GI ps w (stepG ps w gs x) (xs ++ [x]) := by
  have hb := cell_bd hx
  obtain ⟨_, _, hu1, hu2, hu3, hu4, _, _⟩ := hx
  unfold stepG
  by_cases hw : inW w x
  · rw [if_pos hw]
    generalize hP : (prodOf ps x).pr = P at *
    generalize hM : (prodOf ps x).mat = M at *
    generalize hN : x.c * (prodOf ps x).g = n at *
    have ht : ∀ P' M', totG ps w P' M' (xs ++ [x]) = totG ps w P' M' xs + if P = P' ∧ M = M' then n else 0 := by
      intro P' M'
      rw [totG_append, hP, hM, hN]
      simp [hw]
    unfold updG
    split
    · rename_i hl
      have hno := lookG_none hl
      have h0 := tot_other h hxs hno
      refine ⟨?_, ?_, ?_⟩
      · rw [List.pairwise_append]
        refine ⟨h.apart, by simp, ?_⟩
        intro a ha b hb'
        simp at hb'; subst hb'
        exact hno a ha
      · intro g hg
        rcases List.mem_append.1 hg with hg | hg
        · obtain ⟨q1, q2, q3, q4, q5, q6⟩ := h.each g hg
          refine ⟨q1, q2, q3, q4, ?_, q6⟩
          rw [ht, if_neg (fun hh => hno g hg ⟨hh.1.symm, hh.2.symm⟩), q5]; omega
        · simp at hg; subst hg
          refine ⟨hu1, hu2, hu3, hu4, ?_, hb.1⟩
          rw [ht, h0, if_pos ⟨rfl, rfl⟩]; simp
      · intro P' M' hpos
        rw [ht] at hpos
        by_cases hk : P = P' ∧ M = M'
        · obtain ⟨rfl, rfl⟩ := hk
          exact ⟨_, List.mem_append.2 (.inr (List.mem_singleton.2 rfl)), rfl, rfl⟩
        · rw [if_neg hk] at hpos
          obtain ⟨g, hg, h1⟩ := h.all P' M' (by omega)
          exact ⟨g, List.mem_append.2 (.inl hg), h1⟩
    · rename_i j n0 hl
      have hj := (lookG_some hl).2
      simp only [Nat.sub_zero] at hj
      have hjlt : j < gs.length := by
        rcases Nat.lt_or_ge j gs.length with h' | h'
        · exact h'
        · simp [List.getElem?_eq_none h'] at hj
      have hjg : gs[j] = ⟨P, M, n0⟩ := by rw [List.getElem?_eq_getElem hjlt] at hj; simpa using hj
      have hmem : (⟨P, M, n0⟩ : Placing) ∈ gs := hjg ▸ List.getElem_mem hjlt
      obtain ⟨q1, q2, q3, q4, q5, q6⟩ := h.each _ hmem
      have hap := List.pairwise_iff_getElem.1 h.apart
      have key : ∀ (i : Nat) (hi : i < (gs.set j ⟨P, M, n0 + n⟩).length), ((gs.set j ⟨P, M, n0 + n⟩)[i]).pr = (gs[i]'(by simpa using hi)).pr ∧ ((gs.set j ⟨P, M, n0 + n⟩)[i]).mat = (gs[i]'(by simpa using hi)).mat := by
        intro i hi
        rw [List.getElem_set]
        split
        · rename_i e; subst e; rw [hjg]; exact ⟨rfl, rfl⟩
        · exact ⟨rfl, rfl⟩
      refine ⟨?_, ?_, ?_⟩
      · rw [List.pairwise_iff_getElem]
        intro i k hi hk hik
        rw [(key i hi).1, (key i hi).2, (key k hk).1, (key k hk).2]
        exact hap i k _ _ hik
      · intro g hg
        obtain ⟨i, hi, rfl⟩ := List.getElem_of_mem hg
        have hi' : i < gs.length := by simpa using hi
        rw [List.getElem_set]
        split
        · rename_i e; subst e
          refine ⟨q1, q2, q3, q4, ?_, by simp only at q6 ⊢; omega⟩
          rw [ht, if_pos ⟨rfl, rfl⟩]
          simp only at q5 ⊢; omega
        · rename_i e
          obtain ⟨r1, r2, r3, r4, r5, r6⟩ := h.each _ (List.getElem_mem hi')
          refine ⟨r1, r2, r3, r4, ?_, r6⟩
          rw [ht, if_neg, r5, Int.add_zero]
          rintro ⟨e1, e2⟩
          rcases Nat.lt_or_ge i j with hij | hij
          · exact hap i j hi' hjlt hij (by rw [hjg]; exact ⟨e1.symm, e2.symm⟩)
          · exact hap j i hjlt hi' (by omega) (by rw [hjg]; exact ⟨e1, e2⟩)
      · intro P' M' hpos
        rw [ht] at hpos
        have : ∃ g ∈ gs, g.pr = P' ∧ g.mat = M' := by
          by_cases hk : P = P' ∧ M = M'
          · obtain ⟨rfl, rfl⟩ := hk
            exact ⟨_, hmem, rfl, rfl⟩
          · rw [if_neg hk] at hpos
            exact h.all P' M' (by omega)
        obtain ⟨g, hg, h1⟩ := this
        obtain ⟨i, hi, rfl⟩ := List.getElem_of_mem hg
        have hi2 : i < (gs.set j ⟨P, M, n0 + n⟩).length := by simpa using hi
        exact ⟨(gs.set j ⟨P, M, n0 + n⟩)[i], List.getElem_mem hi2, by rw [(key i hi2).1]; exact h1.1, by rw [(key i hi2).2]; exact h1.2⟩
  · rw [if_neg hw]
    have ht : ∀ P' M', totG ps w P' M' (xs ++ [x]) = totG ps w P' M' xs := by intro P' M'; rw [totG_append]; simp [hw]
    exact ⟨h.apart, fun g hg => by rw [ht]; exact h.each g hg, fun P M hp => h.all P M (by rw [ht] at hp; exact hp)⟩
theorem mem_rowG {ps : List Product} {l : List Sale} {w : Win} {P n : Nat} {y : Placing} : y ∈ rowG ps l w P n ↔ ∃ M : Nat, M < n ∧ 0 < totG ps w P M l ∧ y = ⟨P, M, totG ps w P M l⟩ := by
  simp only [rowG, List.mem_filterMap, List.mem_range, cellG]
  constructor
  · rintro ⟨M, h1, h2⟩
    split at h2
    · exact ⟨M, h1, by assumption, by simpa using h2.symm⟩
    · cases h2
  · rintro ⟨M, h1, h2, rfl⟩
    exact ⟨M, h1, by rw [if_pos h2]⟩
theorem mem_allG {ps : List Product} {l : List Sale} {w : Win} {n : Nat} {y : Placing} : y ∈ allG ps l w n ↔ ∃ P M : Nat, P < n ∧ M < 16 ∧ 0 < totG ps w P M l ∧ y = ⟨P, M, totG ps w P M l⟩ := by
  simp only [allG, List.mem_flatMap, List.mem_range, mem_rowG]
  constructor
  · rintro ⟨P, h1, M, h2, h3, h4⟩; exact ⟨P, M, h1, h2, h3, h4⟩
  · rintro ⟨P, M, h1, h2, h3, h4⟩; exact ⟨P, h1, M, h2, h3, h4⟩
theorem allG_sorted (ps : List Product) (l : List Sale) (w : Win) (n : Nat) : (allG ps l w n).Pairwise plt := by
  have hr : ∀ n, (List.range n).Pairwise (· < ·) := fun n => List.pairwise_lt_range
  unfold allG
  rw [List.pairwise_flatMap]
  refine ⟨fun P _ => ?_, ?_⟩
  · unfold rowG
    rw [List.pairwise_filterMap]
    refine (hr 16).imp ?_
    intro a b hab x hx y hy
    unfold cellG at hx hy
    split at hx
    · split at hy
      · simp at hx hy; subst hx; subst hy
        exact .inr ⟨rfl, by simpa using hab⟩
      · cases hy
    · cases hx
  · refine (hr n).imp ?_
    intro a b hab x hx y hy
    obtain ⟨M, _, _, rfl⟩ := mem_rowG.1 hx
    obtain ⟨M', _, _, rfl⟩ := mem_rowG.1 hy
    exact .inl (by simpa using hab)
theorem GI.final {ps : List Product} {w : Win} {gs s : List Placing} {l : List Sale} (h : GI ps w gs l) (hs : s.Perm gs) (hsort : s.Pairwise fun a b => ¬ plt b a) : s = allG ps l w 32 := by
  refine eq_of_plt _ _ ?_ (allG_sorted _ _ _ _) ?_
  · have hap : s.Pairwise fun g h => ¬ (g.pr = h.pr ∧ g.mat = h.mat) := (hs.pairwise_iff (fun {x y} hxy hh => hxy ⟨hh.1.symm, hh.2.symm⟩)).2 h.apart
    refine (hsort.and hap).imp ?_
    intro a b hab
    unfold plt at *
    omega
  · intro x
    rw [hs.mem_iff, mem_allG]
    constructor
    · intro hx
      obtain ⟨q1, q2, q3, q4, q5, q6⟩ := h.each x hx
      obtain ⟨p, m, g⟩ := x
      simp only at q1 q2 q3 q4 q5 q6
      refine ⟨p.toNat, m.toNat, by omega, by omega, ?_, ?_⟩
      · rw [Int.toNat_of_nonneg q1, Int.toNat_of_nonneg q3]; omega
      · rw [Int.toNat_of_nonneg q1, Int.toNat_of_nonneg q3, q5]
    · rintro ⟨P, M, hP, hM, hpos, rfl⟩
      obtain ⟨g, hg, h1, h2⟩ := h.all P M hpos
      have := (h.each g hg).2.2.2.2.1
      rw [h1, h2] at this
      obtain ⟨p, m, n⟩ := g
      simp only at h1 h2 this
      subst h1; subst h2; subst this
      exact hg
end Go.Proofs.Ytpclkldmkmmmhaa
