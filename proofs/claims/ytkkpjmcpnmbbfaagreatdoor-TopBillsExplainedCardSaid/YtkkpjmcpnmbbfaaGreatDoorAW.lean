/- A call that works on its caller's memory: a variable of the caller may bear another number meanwhile. -/
import Derived.Test.YtkkpjmcpnmbbfaaGreatDoorAT
namespace Go.AI
def AV.mv (i j : Nat) : AV → AV
  | .ad k a b => .ad (if k = i then j else k) a b
  | x => x
def mvC (i j : Nat) (cs : List AV) : List AV := (killL j cs).map (AV.mv i j)
section
variable {S : Nat → Prop} {w : World} {φ : Pl} {P : Program}
theorem Rep.mv {x : AV} {v : Value} (h : Rep S w φ x v) {i j : Nat} (hφ : φ j = φ i) : Rep S w φ (x.mv i j) v := by
  unfold AV.mv
  split
  · rename_i k a b
    cases h with
    | ad _ _ _ hd h =>
      by_cases e : k = i
      · rw [if_pos e]; subst e; exact .ad j a b hd (hφ.trans h)
      · rw [if_neg e]; exact .ad k a b hd h
  · exact h
theorem RepL.mv {i j : Nat} (hφ : φ j = φ i) : ∀ {cs : List AV} {vs : List Value}, RepL S w φ cs vs → RepL S w φ (cs.map (AV.mv i j)) vs
  | [], _, h => by cases h; exact .nil
  | x :: r, _, h => by cases h with | cons h t => exact .cons (h.mv hφ) (t.mv hφ)
theorem InlTo.move [Dr] {f : FuncId} {xs A cs : List AV} {vs : List Value} {mem : List (Nat × Ob)} {R : List AV → List (Nat × Ob) → Prop} (i j h : Nat) (hj : j < 1000) (hn : j ≠ i ∧ h ≠ i ∧ h ≠ j)
    (h1 : lkM mem i = some (.box A)) (h2 : lkM mem h = some (.held cs vs)) (hx : mentL j xs = false)
    (hk : InlTo P f xs ((h, .held (Go.AI.mvC i j cs) vs) :: (j, .box (killL j A)) :: killM j (dropM i mem)) R) : InlTo P f xs mem R := by
  obtain ⟨n1, n2, n3⟩ := hn
  obtain ⟨a1, a2⟩ := hk
  refine ⟨a1, fun S0 w0 w φ S args hG hr hx' => ?_⟩
  obtain ⟨hdi, p1, p2, p3⟩ := hr.mem i _ h1
  have hφ : ∀ k, k ≠ j → (φ.set j hdi) k = φ k := fun k hk => Pl.set_ne _ _ _ _ hk
  have hj' : (φ.set j hdi) j = some hdi := Pl.set_same _ _ _
  have hji : (φ.set j hdi) j = (φ.set j hdi) i := by rw [hj', hφ i (Ne.symm n1), p1]
  have key : ∀ id ob hd, lkM ((h, .held (Go.AI.mvC i j cs) vs) :: (j, .box (killL j A)) :: killM j (dropM i mem)) id = some ob → (φ.set j hdi) id = some hd → hd.live ob →
      ∃ id0 ob0, lkM mem id0 = some ob0 ∧ φ id0 = some hd ∧ hd.live ob0 ∧ ((id = j ∧ id0 = i) ∨ (id = id0 ∧ id ≠ j ∧ id0 ≠ i)) := by
    intro id ob hd hl hp hlv
    simp only [lkM] at hl
    split at hl
    · cases hl; exact hlv.elim
    split at hl
    · rename_i e
      subst e
      cases hl
      rw [hj'] at hp
      cases hp
      exact ⟨i, _, h1, p1, trivial, .inl ⟨rfl, rfl⟩⟩
    · rename_i e
      rw [lookM_killM, Option.map_eq_some_iff] at hl
      obtain ⟨o, hl, rfl⟩ := hl
      rw [lookM_dropM] at hl
      split at hl
      · cases hl
      · rename_i e2
        exact ⟨id, o, hl, (hφ id (Ne.symm e)).symm.trans hp, live_kill.1 hlv, .inr ⟨rfl, Ne.symm e, e2⟩⟩
  refine a2 S0 w0 w (φ.set j hdi) S args hG ⟨hr.size, hr.defers, hr.below, fun t x ht => (by simp [lk] at ht), ?_, ?_, hr.sub0, hr.lt, hr.new, fun id hd e => ?_⟩ (hx'.place hx hφ)
  · intro id ob hl
    simp only [lkM] at hl
    split at hl
    · rename_i e
      subst e
      cases hl
      obtain ⟨hd, q1, q2, q3⟩ := hr.mem h _ h2
      exact ⟨hd, (hφ _ n3).trans q1, (RepL.killL q2 j hφ).mv hji, fun l => l.elim⟩
    split at hl
    · rename_i e
      subst e
      cases hl
      exact ⟨hdi, hj', p2.kill j hφ, p3⟩
    · rename_i e
      rw [lookM_killM, Option.map_eq_some_iff] at hl
      obtain ⟨o, hl, rfl⟩ := hl
      rw [lookM_dropM] at hl
      split at hl
      · cases hl
      obtain ⟨hd, q1, q2, q3⟩ := hr.mem _ _ hl
      exact ⟨hd, (hφ _ (Ne.symm e)).trans q1, q2.kill j hφ, fun l => q3 (live_kill.1 l)⟩
  · intro a b oa ob ha hb la lb pa pb va vb e
    obtain ⟨a0, oa0, ka, pa0, va0, ra⟩ := key a oa ha la pa va
    obtain ⟨b0, ob0, kb, pb0, vb0, rb⟩ := key b ob hb lb pb vb
    have := hr.inj a0 b0 oa0 ob0 ha hb ka kb pa0 pb0 va0 vb0 e
    omega
  · obtain ⟨e1, e2, e3⟩ := hr.pin id hd e
    exact ⟨(hφ id (by omega)).trans e1, e2, e3⟩
theorem appendA_nil {P : Program} {t ty k bytes d : Nat} {z ys : List AV} {x : AV} {K : St → Prop} {e : List (Nat × AV)} {m : List (Nat × Ob)} (g : Nat) (ht : tyEl P t = some (ty, k)) (hb : tyBytes P ty = some bytes) (hz : zeroA P ty = some z) (hl : z.length = k) (h0 : 0 < k) (hg : g < 1000) (hx : St.elems ⟨e, m⟩ x = some ys) (hn : ys ≠ [])
    (hy : ∀ y ∈ ys, y.cells.length = k) (hbd : ys.length * bytes ≤ 140737488355328) (hml : ys.length ≤ maxLen) (h : Run (K ⟨(d, .own g) :: killE g e, (g, .arr ty k ys) :: killM g m⟩)) : Run (appendA P (some d) .nils x t K ⟨e, m⟩) := by
  show appendA P (some d) .nils x t K ⟨e, m⟩
  unfold appendA
  simp only [ht, hx, hb, hz]
  exact ⟨g, hg, h0, hl, hn, hy, hbd, hml, h⟩
end
end Go.AI
