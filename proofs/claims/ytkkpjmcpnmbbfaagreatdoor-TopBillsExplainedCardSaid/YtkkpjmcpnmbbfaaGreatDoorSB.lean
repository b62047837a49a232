/- slices.SortFunc of the library, by the shelf's contract, as a sort in place of this layer. -/
import Derived.Test.YtkkpjmcpnmbbfaaGreatDoorA13
import Derived.Shelf.SlSortCmp.NoneTotal
namespace Go.AI
open Go.Proofs Go.Shelf Go.Sort
section
variable {P : Program} {ρ : Ren} {α : Type} [Inhabited α]
def sortL (cf : α → α → Int) (l : List α) : List α := (pdq (ltOf cf) l.toArray 0 l.length (Lib.bitLen l.length) true true).toList
theorem sortL_spec (cf : α → α → Int) (hO : SWO (ltOf cf)) (l : List α) : (sortL cf l).Perm l ∧ (sortL cf l).Pairwise (fun a b => ¬ cf b a < 0) := by
  have h := pdq_sorts (ltOf cf) hO l.toArray 0 l.length (Lib.bitLen l.length) true true (Nat.zero_le _) (by simp) (Or.inl rfl)
  obtain ⟨⟨h1, _, h2⟩, h3⟩ := h
  have hs : (pdq (ltOf cf) l.toArray 0 l.length (Lib.bitLen l.length) true true).size = l.length := by rw [h1]; simp
  refine ⟨?_, ?_⟩
  · unfold sortL
    have e1 : (pdq (ltOf cf) l.toArray 0 l.length (Lib.bitLen l.length) true true).extract 0 l.length = pdq (ltOf cf) l.toArray 0 l.length (Lib.bitLen l.length) true true := by
      generalize pdq (ltOf cf) l.toArray 0 l.length (Lib.bitLen l.length) true true = d at hs ⊢
      rw [← hs]; simp
    have e2 : l.toArray.extract 0 l.length = l.toArray := by simp
    rw [e1, e2] at h2
    simpa using h2
  · unfold sortL
    rw [List.pairwise_iff_getElem]
    intro i j hi hj hij
    simp only [Array.length_toList] at hi hj
    have := h3 i j (Nat.zero_le _) hij (by omega)
    rw [getElem!_pos _ j hj, getElem!_pos _ i hi] at this
    simp only [ltOf, decide_eq_false_iff_not] at this
    simpa using this
theorem sortL_length (cf : α → α → Int) (hO : SWO (ltOf cf)) (l : List α) : (sortL cf l).length = l.length := (sortL_spec cf hO l).1.length_eq
@[reducible] def onDr : Dr := ⟨True⟩
theorem grow_of_below {w w' : World} (h : @Below onDr w.heap.size w w') : ∃ q os, w' = grow (w.drewN q) os := by
  letI : Dr := onDr
  refine ⟨w'.drawn - w.drawn, w'.heap.extract w.heap.size w'.heap.size, ?_⟩
  have e1 : w.heap ++ w'.heap.extract w.heap.size w'.heap.size = w'.heap := by
    apply Array.ext_getElem?
    intro k
    rw [Array.getElem?_append]
    split
    · rename_i hk; exact (h.block k hk).symm
    · rename_i hk
      rw [Array.getElem?_extract]
      have := h.size
      by_cases h2 : k < w'.heap.size
      · rw [if_pos (by omega)]; congr 1; omega
      · rw [if_neg (by omega), Array.getElem?_eq_none (by omega)]
  cases w'
  have a1 := h.os; have a2 := h.tape; have a3 := h.output; have a4 := h.drawn trivial
  dsimp only at a1 a2 a3 a4 e1
  subst a1 a2 a3
  simp only [grow, World.drewN, e1]
  congr 1
  omega
theorem Rep.ofScal {S : Nat → Prop} {w : World} {φ : Pl} : ∀ {x : AV}, x.scal = true → x.one = true → (∀ s, x = .str s → s.length ≤ maxLen) → Rep S w φ x x.toV
  | .int k n, _, _, _ => .int k n
  | .bool b, _, _, _ => .bool b
  | .str s, _, _, h => .str s (h s rfl)
  | .agg _, _, h, _ => by simp [AV.one] at h
  | .tup _, _, h, _ => by simp [AV.one] at h
  | .sl _, h, _, _ => by simp [AV.scal] at h
  | .pp _ _, h, _, _ => by simp [AV.scal] at h
  | .own _, h, _, _ => by simp [AV.scal] at h
  | .ad _ _ _, h, _, _ => by simp [AV.scal] at h
  | .mp _, h, _, _ => by simp [AV.scal] at h
  | .fn _ _, h, _, _ => by simp [AV.scal] at h
  | .un, h, _, _ => by simp [AV.scal] at h
theorem RepL.ofScal {S : Nat → Prop} {w : World} {φ : Pl} : ∀ {xs : List AV}, (∀ x ∈ xs, x.scal = true ∧ x.one = true ∧ (∀ s, x = .str s → s.length ≤ maxLen)) → RepL S w φ xs (Go.AI.toVL xs)
  | [], _ => .nil
  | x :: xs, h => .cons (.ofScal (h x (by simp)).1 (h x (by simp)).2.1 (h x (by simp)).2.2) (RepL.ofScal (xs := xs) fun y hy => h y (List.mem_cons_of_mem _ hy))
theorem toV_oneCell {x : AV} (h : x.one = true) (hs : x.scal = true) : x.toV.oneCell' = true := by
  cases x <;> first | rfl | (simp [AV.one] at h; done) | (simp [AV.scal] at hs; done)
end
end Go.AI
