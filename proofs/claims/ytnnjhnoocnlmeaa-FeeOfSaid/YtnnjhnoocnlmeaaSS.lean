/- Stable order: elements with the places from which they came. Nothing of a program is used here. -/
import Derived.Test.YtnnjhnoocnlmeaaA0
namespace Go.AI
section
variable {α β : Type}

/-- A strict weak order. -/
structure Less (L : α → α → Bool) : Prop where
  irr : ∀ x, L x x = false
  tr : ∀ x y z, L x y = true → L y z = true → L x z = true
  ng : ∀ x y z, L x y = false → L y z = false → L x z = false
theorem Less.asym {L : α → α → Bool} (h : Less L) {x y : α} (e : L x y = true) : L y x = false := by
  cases e2 : L y x with
  | false => rfl
  | true => have := h.tr x y x e e2; rw [h.irr] at this; cases this

/-- The order of elements with their places. -/
def tl (L : α → α → Bool) (x y : α × Nat) : Prop := L x.1 y.1 = true ∨ (L y.1 x.1 = false ∧ x.2 < y.2)
instance (L : α → α → Bool) (x y : α × Nat) : Decidable (tl L x y) := by unfold tl; infer_instance
theorem tl_trans {L : α → α → Bool} (h : Less L) {x y z : α × Nat} (h1 : tl L x y) (h2 : tl L y z) : tl L x z := by
  unfold tl at *
  rcases h1 with h1 | ⟨h1, g1⟩ <;> rcases h2 with h2 | ⟨h2, g2⟩
  · exact .inl (h.tr _ _ _ h1 h2)
  · cases e : L x.1 z.1 with
    | true => exact .inl rfl
    | false => have := h.ng _ _ _ e h2; rw [h1] at this; cases this
  · cases e : L x.1 z.1 with
    | true => exact .inl rfl
    | false => have := h.ng _ _ _ h1 e; rw [h2] at this; cases this
  · exact .inr ⟨h.ng _ _ _ h2 h1, by omega⟩
theorem tl_irr {L : α → α → Bool} (h : Less L) (x : α × Nat) : ¬ tl L x x := by
  rintro (h1 | ⟨_, h1⟩)
  · rw [h.irr] at h1; cases h1
  · omega
theorem tl_asym {L : α → α → Bool} (h : Less L) {x y : α × Nat} (h1 : tl L x y) : ¬ tl L y x := fun h2 => tl_irr h x (tl_trans h h1 h2)
theorem tl_total {L : α → α → Bool} {x y : α × Nat} (hn : x.2 ≠ y.2) (h1 : ¬ tl L x y) : tl L y x := by
  unfold tl at *
  cases e : L y.1 x.1 with
  | true => exact .inl rfl
  | false =>
    cases e2 : L x.1 y.1 with
    | true => exact absurd (.inl e2) h1
    | false => exact .inr ⟨rfl, by have : ¬ x.2 < y.2 := fun g => h1 (.inr ⟨e, g⟩); omega⟩
/-- Between an element and one that came later the order of the elements alone decides. -/
theorem tl_later {L : α → α → Bool} {x y : α × Nat} (h : x.2 < y.2) : tl L y x ↔ L y.1 x.1 = true := by
  unfold tl
  constructor
  · rintro (h1 | ⟨_, h1⟩)
    · exact h1
    · omega
  · exact .inl
theorem tl_sooner {L : α → α → Bool} (hL : Less L) {x y : α × Nat} (h : x.2 < y.2) : tl L x y ↔ L y.1 x.1 = false := by
  unfold tl
  constructor
  · rintro (h1 | ⟨h1, _⟩)
    · exact hL.asym h1
    · exact h1
  · exact fun e => .inr ⟨e, h⟩

def Srt (L : α → α → Bool) (S : List (α × Nat)) : Prop := S.Pairwise (tl L)
/-- No two came from one place. -/
def Dis (S : List (α × Nat)) : Prop := S.Pairwise fun x y => x.2 ≠ y.2

def insT (L : α → α → Bool) (x : α × Nat) : List (α × Nat) → List (α × Nat)
  | [] => [x]
  | y :: r => if tl L x y then x :: y :: r else y :: insT L x r
def isortT (L : α → α → Bool) : List (α × Nat) → List (α × Nat)
  | [] => []
  | x :: r => insT L x (isortT L r)
theorem insT_perm (L : α → α → Bool) (x : α × Nat) : ∀ S, (insT L x S).Perm (x :: S)
  | [] => .refl _
  | y :: r => by
    unfold insT
    split
    · exact .refl _
    · exact ((insT_perm L x r).cons y).trans (.swap x y r)
theorem isortT_perm (L : α → α → Bool) : ∀ S, (isortT L S).Perm S
  | [] => .refl _
  | x :: r => (insT_perm L x _).trans ((isortT_perm L r).cons x)
theorem insT_srt {L : α → α → Bool} (h : Less L) (x : α × Nat) : ∀ S, Srt L S → (∀ y ∈ S, x.2 ≠ y.2) → Srt L (insT L x S)
  | [], _, _ => by simp [insT, Srt]
  | y :: r, hs, hn => by
    unfold insT
    have hs' := List.pairwise_cons.1 hs
    split
    · rename_i hxy
      refine List.pairwise_cons.2 ⟨fun z hz => ?_, hs⟩
      rcases List.mem_cons.1 hz with rfl | hz
      · exact hxy
      · exact tl_trans h hxy (hs'.1 z hz)
    · rename_i hxy
      refine List.pairwise_cons.2 ⟨fun z hz => ?_, insT_srt h x r hs'.2 (fun z hz => hn z (by simp [hz]))⟩
      rcases List.mem_cons.1 ((insT_perm L x r).mem_iff.1 hz) with rfl | hz
      · exact tl_total (hn y (by simp)) hxy
      · exact hs'.1 z hz
theorem Dis.perm {S S' : List (α × Nat)} (h : Dis S) (hp : S.Perm S') : Dis S' := hp.pairwise h (fun h => Ne.symm h)
theorem isortT_srt {L : α → α → Bool} (h : Less L) : ∀ S, Dis S → Srt L (isortT L S)
  | [], _ => .nil
  | x :: r, hd => by
    have hd' := List.pairwise_cons.1 hd
    exact insT_srt h x _ (isortT_srt h r hd'.2) (fun y hy => hd'.1 y ((isortT_perm L r).mem_iff.1 hy))
/-- There is one order. -/
theorem srt_unique {L : α → α → Bool} (h : Less L) : ∀ {S S' : List (α × Nat)}, Srt L S → Srt L S' → S.Perm S' → S = S'
  | [], S', _, _, hp => (List.Perm.nil_eq hp)
  | x :: r, [], _, _, hp => by have := hp.length_eq; simp at this
  | x :: r, y :: r', h1, h2, hp => by
    have h1' := List.pairwise_cons.1 h1
    have h2' := List.pairwise_cons.1 h2
    have hxy : x = y := by
      have hx : x ∈ y :: r' := hp.mem_iff.1 (by simp)
      have hy : y ∈ x :: r := hp.mem_iff.2 (by simp)
      rcases List.mem_cons.1 hx with e | hx
      · exact e
      · rcases List.mem_cons.1 hy with e | hy
        · exact e.symm
        · exact absurd (h1'.1 y hy) (tl_asym h (h2'.1 x hx))
    subst hxy
    rw [srt_unique h h1'.2 h2'.2 hp.cons_inv]
theorem isortT_of {L : α → α → Bool} (h : Less L) {S S' : List (α × Nat)} (hd : Dis S) (h1 : Srt L S') (hp : S'.Perm S) : isortT L S = S' :=
  srt_unique h (isortT_srt h S hd) h1 ((isortT_perm L S).trans hp.symm)
theorem isortT_len (L : α → α → Bool) (S : List (α × Nat)) : (isortT L S).length = S.length := (isortT_perm L S).length_eq
theorem isortT_same {L : α → α → Bool} (h : Less L) {S : List (α × Nat)} (hd : Dis S) (h1 : Srt L S) : isortT L S = S := isortT_of h hd h1 (.refl _)
theorem isortT_cong {L : α → α → Bool} (h : Less L) {S S' : List (α × Nat)} (hd : Dis S) (hp : S'.Perm S) : isortT L S' = isortT L S :=
  (isortT_of h (hd.perm hp.symm) (isortT_srt h S hd) ((isortT_perm L S).trans hp.symm))

/-- Two sorted lists, cut so that what is left of the cuts comes before what is right of them. -/
theorem isortT_halves {L : α → α → Bool} (h : Less L) {A1 A2 B1 B2 : List (α × Nat)} (hA : Srt L (A1 ++ A2)) (hB : Srt L (B1 ++ B2)) (hd : Dis ((A1 ++ A2) ++ (B1 ++ B2)))
    (h1 : ∀ x ∈ A1, ∀ y ∈ B2, tl L x y) (h2 : ∀ y ∈ B1, ∀ x ∈ A2, tl L y x) : isortT L ((A1 ++ A2) ++ (B1 ++ B2)) = isortT L (A1 ++ B1) ++ isortT L (A2 ++ B2) := by
  have hp : ((A1 ++ B1) ++ (A2 ++ B2)).Perm ((A1 ++ A2) ++ (B1 ++ B2)) := by
    rw [List.append_assoc, List.append_assoc]
    refine List.Perm.append_left A1 ?_
    rw [← List.append_assoc, ← List.append_assoc]
    exact List.Perm.append_right B2 List.perm_append_comm
  have hd' : Dis ((A1 ++ B1) ++ (A2 ++ B2)) := hd.perm hp.symm
  obtain ⟨d1, d2, _⟩ := List.pairwise_append.1 hd'
  obtain ⟨_, _, a3⟩ := List.pairwise_append.1 hA
  obtain ⟨_, _, b3⟩ := List.pairwise_append.1 hB
  refine isortT_of h hd (List.pairwise_append.2 ⟨isortT_srt h _ d1, isortT_srt h _ d2, fun x hx y hy => ?_⟩) ((List.Perm.append (isortT_perm L _) (isortT_perm L _)).trans hp)
  rcases List.mem_append.1 ((isortT_perm L _).mem_iff.1 hx) with hx | hx <;> rcases List.mem_append.1 ((isortT_perm L _).mem_iff.1 hy) with hy | hy
  · exact a3 x hx y hy
  · exact h1 x hx y hy
  · exact h2 x hx y hy
  · exact b3 x hx y hy

/-- Sorted in pieces of 'c'. -/
def chunkF (L : α → α → Bool) (c : Nat) : Nat → List (α × Nat) → List (α × Nat)
  | 0, _ => []
  | f + 1, T => if T = [] then [] else isortT L (T.take c) ++ chunkF L c f (T.drop c)
def chunk (L : α → α → Bool) (c : Nat) (T : List (α × Nat)) : List (α × Nat) := chunkF L c T.length T
theorem chunkF_fuel (L : α → α → Bool) {c : Nat} (hc : 0 < c) : ∀ (f g : Nat) (T : List (α × Nat)), T.length ≤ f → T.length ≤ g → chunkF L c f T = chunkF L c g T
  | 0, 0, T, _, _ => rfl
  | 0, g + 1, T, hf, _ => by
    have : T = [] := List.eq_nil_of_length_eq_zero (by omega)
    subst this; rfl
  | f + 1, 0, T, _, hg => by
    have : T = [] := List.eq_nil_of_length_eq_zero (by omega)
    subst this; rfl
  | f + 1, g + 1, T, hf, hg => by
    unfold chunkF
    split
    · rfl
    · rename_i hT
      have hl : 0 < T.length := List.length_pos_iff.2 hT
      rw [chunkF_fuel L hc f g (T.drop c) (by simp; omega) (by simp; omega)]
theorem chunk_nil (L : α → α → Bool) (c : Nat) : chunk L c [] = [] := rfl
theorem chunk_eq (L : α → α → Bool) {c : Nat} (hc : 0 < c) {T : List (α × Nat)} (hT : T ≠ []) : chunk L c T = isortT L (T.take c) ++ chunk L c (T.drop c) := by
  have hl : 0 < T.length := List.length_pos_iff.2 hT
  obtain ⟨k, hk⟩ : ∃ k, T.length = k + 1 := ⟨T.length - 1, by omega⟩
  show chunkF L c T.length T = _
  rw [hk, chunkF, if_neg hT]
  unfold chunk
  rw [chunkF_fuel L hc k (T.drop c).length (T.drop c) (by simp; omega) (Nat.le_refl _)]
theorem chunk_one (L : α → α → Bool) {c : Nat} (hc : 0 < c) {T : List (α × Nat)} (h : T.length ≤ c) : chunk L c T = isortT L T := by
  by_cases hT : T = []
  · subst hT; rfl
  · rw [chunk_eq L hc hT, List.take_of_length_le h, List.drop_eq_nil_of_le h, chunk_nil, List.append_nil]
theorem chunk_append (L : α → α → Bool) {c : Nat} (hc : 0 < c) : ∀ (q : Nat) (U V : List (α × Nat)), U.length = q * c → chunk L c (U ++ V) = chunk L c U ++ chunk L c V
  | 0, U, V, h => by
    have : U = [] := List.eq_nil_of_length_eq_zero (by omega)
    subst this; rfl
  | q + 1, U, V, h => by
    rw [Nat.add_mul, Nat.one_mul] at h
    have hU : U ≠ [] := by intro e; subst e; simp at h; omega
    rw [chunk_eq L hc (T := U ++ V) (by simp [hU]), chunk_eq L hc hU, List.take_append_of_le_length (by omega), List.drop_append_of_le_length (by omega), chunk_append L hc q (U.drop c) V (by simp; omega), List.append_assoc]
theorem chunk_len (L : α → α → Bool) {c : Nat} (hc : 0 < c) : ∀ (n : Nat) (T : List (α × Nat)), T.length ≤ n → (chunk L c T).length = T.length
  | 0, T, h => by
    have : T = [] := List.eq_nil_of_length_eq_zero (by omega)
    subst this; rfl
  | n + 1, T, h => by
    by_cases hT : T = []
    · subst hT; rfl
    · have hl : 0 < T.length := List.length_pos_iff.2 hT
      rw [chunk_eq L hc hT, List.length_append, isortT_len, chunk_len L hc n (T.drop c) (by simp; omega)]
      simp; omega
/-- Two pieces become one. -/
theorem chunk_two {L : α → α → Bool} (h : Less L) {c : Nat} (hc : 0 < c) {T : List (α × Nat)} (hd : Dis T) (hl : T.length ≤ 2 * c) : isortT L T = isortT L (isortT L (T.take c) ++ isortT L (T.drop c)) := by
  symm
  refine isortT_cong h hd ?_
  refine ((isortT_perm L _).append (isortT_perm L _)).trans ?_
  rw [List.take_append_drop]

/-- Two elements change places. -/
theorem swap_far (U V W : List β) (x z : β) : ((U ++ x :: (V ++ z :: W)).set U.length z).set (U.length + (V.length + 1)) x = U ++ z :: (V ++ x :: W) := by
  simp [List.set_append]
theorem swap_far' (U V W : List β) (x z : β) : ((U ++ x :: (V ++ z :: W)).set (U.length + (V.length + 1)) x).set U.length z = U ++ z :: (V ++ x :: W) := by
  simp [List.set_append]
end
end Go.AI
