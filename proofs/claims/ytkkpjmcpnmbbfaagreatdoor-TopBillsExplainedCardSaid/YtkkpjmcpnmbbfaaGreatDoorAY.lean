/- A region whose order is open and that writes: of its head the late operations may come behind the tail's first; they read the same in every world that the tail may leave meanwhile. One walk of the text's order serves every order. -/
import Derived.Test.YtkkpjmcpnmbbfaaGreatDoorAX
namespace Go.AI
section
variable {P : Program} {ops : Array Oper} {md : Region.Mode} {W : Nat → World → Prop} {n : Nat}
def sunk (md : Region.Mode) (ops : Array Oper) (n : Nat) : Nat → Nat → Bool
  | 0, _ => false
  | f + 1, i => (List.range (n + 1)).any fun j => decide (i < j) && Region.waitsFor md ops j i && (decide (j = n) || sunk md ops n f j)
def lateB (md : Region.Mode) (ops : Array Oper) (n i : Nat) : Bool := !sunk md ops n n i
def Shut (md : Region.Mode) (ops : Array Oper) (q : Array Bool) : Prop := ∀ j k, q.getD j false = true → Region.waitsFor md ops j k = true → q.getD k false = true
theorem Shut.more {q : Array Bool} {i : Nat} (h : Shut md ops q) (hr : i ∈ Region.ready md ops q) : Shut md ops (q.setIfInBounds i true) := by
  intro j k hj hw
  by_cases e : i = j
  · subst e; exact getD_set_true (waits_of_ready hr hw)
  · rw [getD_set_ne false e] at hj; exact getD_set_true (h j k hj hw)
theorem sunk_in {q : Array Bool} (h : Shut md ops q) (hn : ∀ k, Region.waitsFor md ops n k = true → q.getD k false = true) : ∀ (f i : Nat), sunk md ops n f i = true → q.getD i false = true
  | 0, _, h' => by cases h'
  | f + 1, i, h' => by
    unfold sunk at h'
    obtain ⟨j, _, hj⟩ := List.any_eq_true.1 h'
    simp only [Bool.and_eq_true, Bool.or_eq_true, decide_eq_true_eq] at hj
    obtain ⟨⟨_, hw⟩, rfl | hs⟩ := hj
    · exact hn i hw
    · exact h j i (sunk_in h hn f j hs) hw
theorem late_of {q : Array Bool} (hc : barB md ops n = true) (h : Shut md ops q) {t i : Nat} (ht : t ∈ Region.ready md ops q) (hnt : n ≤ t) (hi : q.getD i false = false) : lateB md ops n i = true := by
  have htl : t < ops.size := by
    obtain ⟨_, o, ho, _⟩ := mem_ready.1 ht
    exact (Array.getElem?_eq_some_iff.1 ho).1
  have key : ∀ m s, s ≤ m → n ≤ s → s < ops.size → (∀ k, Region.waitsFor md ops s k = true → q.getD k false = true) → ∀ k, Region.waitsFor md ops n k = true → q.getD k false = true := by
    intro m
    induction m with
    | zero => intro s h1 h2 _ h3; have e1 : s = n := by omega
              subst e1; exact h3
    | succ m ih =>
      intro s h1 h2 hsl h3
      rcases Nat.lt_or_ge n s with hlt | hge
      · have h4 := List.all_eq_true.1 hc s (List.mem_range.2 hsl)
        rw [decide_eq_false (by omega), Bool.false_or] at h4
        obtain ⟨u, hu, hu2⟩ := List.any_eq_true.1 h4
        simp only [Bool.and_eq_true, decide_eq_true_eq] at hu2
        have hul := List.mem_range.1 hu
        have hq := h3 u hu2.2
        exact ih u (by omega) hu2.1 (by omega) (fun k hk => h u k hq hk)
      · have e1 : s = n := by omega
        subst e1; exact h3
  have hn := key t t (Nat.le_refl _) hnt htl (fun k hk => waits_of_ready ht hk)
  unfold lateB
  cases hs : sunk md ops n n i with
  | false => rfl
  | true => have := sunk_in h hn n i hs; rw [hi] at this; cases this
theorem no_wait {q : Array Bool} {t i : Nat} (ht : t ∈ Region.ready md ops q) (hi : q.getD i false = false) : Region.waitsFor md ops t i = false := by
  cases h : Region.waitsFor md ops t i with
  | false => rfl
  | true => rw [waits_of_ready ht h] at hi; cases hi
def yOp (P : Program) (md : Region.Mode) (ops : Array Oper) (W : Nat → World → Prop) (n i : Nat) (K : Act → World → Prop) (a : Act) (w : World) : Prop :=
  match ops[i]? with
  | none => K a w
  | some o => if Region.wanted o (yielded ops a.tmps) then
      (i < n ∧ W i w ∧ ∃ v, (∀ w', W i w' → (execOp a.eval o).run P w' = .ok (.value v) w') ∧ K (a.put o.dst v) w) ∨
      (n ≤ i ∧ ∃ v w', ((execOp a.eval o).run P w = .ok (.value v) w' ∨ ((execOp a.eval o).run P w = .ok .skip w' ∧ v = undef)) ∧ (∀ k, k < n → lateB md ops n k = true → Region.waitsFor md ops i k = false → W k w') ∧ K (a.put o.dst v) w')
    else K (a.put o.dst undef) w
def yAny (P : Program) (md : Region.Mode) (ops : Array Oper) (W : Nat → World → Prop) (n : Nat) (Q : Act → World → Prop) : Nat → Array Bool → Act → World → Prop
  | 0, listed, a, w => Region.ready md ops listed = [] ∧ Q a w
  | f + 1, listed, a, w => (Region.ready md ops listed = [] → Q a w) ∧ ∀ i ∈ Region.ready md ops listed, yOp P md ops W n i (yAny P md ops W n Q f (listed.setIfInBounds i true)) a w
theorem yOp_wp {i : Nat} {K K' : Act → World → Prop} {Q' : Exit → Act → World → Prop} {a : Act} {w : World} (h : ∀ a w, K a w → K' a w) (hh : yOp P md ops W n i K a w) : wpOp P ops Q' i K' a w := by
  unfold yOp at hh
  unfold wpOp
  split
  · rename_i ho; simp only [ho] at hh; exact h _ _ hh
  · rename_i o ho
    simp only [ho] at hh
    split
    · rename_i hw
      rw [if_pos hw] at hh
      left
      rcases hh with ⟨_, hC, v, hv, hk⟩ | ⟨_, v, w', hv, _, hk⟩
      · unfold Oper.wp; rw [hv w hC]; exact h _ _ hk
      · rcases hv with hv | ⟨hv, rfl⟩
        · unfold Oper.wp; rw [hv]; exact h _ _ hk
        · unfold Oper.wp; rw [hv]; exact h _ _ hk
    · rename_i hw
      rw [if_neg hw] at hh
      exact h _ _ hh
theorem yAny_wp {Q : Act → World → Prop} {Q' : Exit → Act → World → Prop} (hQ : ∀ a w, Q a w → Q' .normal a w) : ∀ (f : Nat) (listed : Array Bool) (a : Act) (w : World), yAny P md ops W n Q f listed a w → wpAny P md ops Q' f listed a w
  | 0, _, _, _, h => ⟨h.1, hQ _ _ h.2⟩
  | f + 1, _, _, _, h => ⟨fun h0 => hQ _ _ (h.1 h0), fun i hi => yOp_wp (fun a w h => yAny_wp hQ f _ a w h) (h.2 i hi)⟩
theorem YieldsC.yOp {i : Nat} {o : Oper} {v : Value} {a : Act} {w : World} (hi : ops[i]? = some o) (hn : i < n) (hC : W i w) (hy : YieldsC P ops (W i) o v a) {K : Act → World → Prop} (h : K (a.put o.dst v) w) : Go.AI.yOp P md ops W n i K a w := by
  unfold Go.AI.yOp
  simp only [hi]
  rcases hy with ⟨hw, hv⟩ | ⟨hw, rfl⟩
  · rw [if_pos hw]; exact .inl ⟨hn, hC, v, hv, h⟩
  · rw [hw]; exact h
theorem yOp_put {i j : Nat} {oi oj : Oper} {v : Value} (hin : i < n) (hj : ops[j]? = some oj) (hap : oi.apart ops oj = true) (hsi : ∀ cs b, oi.op ≠ .select cs b) (hsj : ∀ cs b, oj.op ≠ .select cs b) (hlate : n ≤ j → lateB md ops n i = true) (hno : Region.waitsFor md ops j i = false)
    {K : Act → World → Prop} {a : Act} {w : World} (hC : W i w) (hy : YieldsC P ops (W i) oi v a) (h : yOp P md ops W n j K (a.put oi.dst v) w) :
    yOp P md ops W n j (fun a' w' => (YieldsC P ops (W i) oi v a' ∧ W i w') ∧ K (a'.put oi.dst v) w') a w := by
  obtain ⟨h1, h2, h3⟩ := Oper.apart_spec hap
  have keep : ∀ u, YieldsC P ops (W i) oi v (a.put oj.dst u) := fun u => hy.of_same (execOp_put oi hsi a oj.dst u h3) (wanted_put oi a oj.dst u h3)
  unfold yOp at *
  simp only [hj] at *
  rw [wanted_put oj a oi.dst v h1, execOp_put oj hsj a oi.dst v h1] at h
  split
  · rename_i hw
    rw [if_pos hw] at h
    rcases h with ⟨hjn, hCw, u, hu, hk⟩ | ⟨hjn, u, w', hu, he, hk⟩
    · exact .inl ⟨hjn, hCw, u, hu, ⟨keep u, hC⟩, by rw [← Act.put_comm a v u h2]; exact hk⟩
    · exact .inr ⟨hjn, u, w', hu, he, ⟨keep u, he i hin (hlate hjn) hno⟩, by rw [← Act.put_comm a v u h2]; exact hk⟩
  · rename_i hw
    rw [if_neg hw] at h
    exact ⟨⟨keep _, hC⟩, by rw [← Act.put_comm a v undef h2]; exact h⟩
theorem yOp_mono {i : Nat} {K K' : Act → World → Prop} {a : Act} {w : World} (h : ∀ a w, K a w → K' a w) (hh : yOp P md ops W n i K a w) : yOp P md ops W n i K' a w := by
  unfold yOp at *
  split
  · rename_i ho; simp only [ho] at hh; exact h _ _ hh
  · rename_i o ho
    simp only [ho] at hh
    split
    · rename_i hw
      rw [if_pos hw] at hh
      rcases hh with ⟨h1, h2, v, h3, h4⟩ | ⟨h1, v, w', h2, h3, h4⟩
      · exact .inl ⟨h1, h2, v, h3, h _ _ h4⟩
      · exact .inr ⟨h1, v, w', h2, h3, h _ _ h4⟩
    · rename_i hw
      rw [if_neg hw] at hh
      exact h _ _ hh
theorem yAny_first {Q : Act → World → Prop} {i : Nat} {oi : Oper} {v : Value} (hi : ops[i]? = some oi) (hin : i < n) (hsel : ∀ (j : Nat) (o : Oper) cs b, ops[j]? = some o → o.op ≠ .select cs b) (hc : barB md ops n = true) (fuel : Nat) :
    ∀ (listed : Array Bool) (a : Act) (w : World), Shut md ops listed →
      (∀ j oj, ops[j]? = some oj → j ≠ i → listed.getD j true = false → (∀ e ∈ oj.after, Region.binds md e = true → e.on ≠ i) → oi.apart ops oj = true) →
      i ∈ Region.ready md ops listed → W i w → YieldsC P ops (W i) oi v a →
      yAny P md ops W n Q fuel (listed.setIfInBounds i true) (a.put oi.dst v) w → yAny P md ops W n Q (fuel + 1) listed a w := by
  induction fuel with
  | zero =>
    intro listed a w _ _ hr hC hy H
    refine ⟨fun h => absurd h (List.ne_nil_of_mem hr), fun j hj => ?_⟩
    by_cases hji : j = i
    · subst hji; exact hy.yOp hi hin hC H
    · have := ready_mono hj hji
      rw [H.1] at this
      cases this
  | succ fuel ih =>
    intro listed a w hsh hfree hr hC hy H
    refine ⟨fun h => absurd h (List.ne_nil_of_mem hr), fun j hj => ?_⟩
    by_cases hji : j = i
    · subst hji; exact hy.yOp hi hin hC H
    · have hun : listed.getD i false = false := getD_both (mem_ready.1 hr).1
      obtain ⟨hjun, oj, hoj, hall⟩ := mem_ready.1 hj
      have hnot : ∀ e ∈ oj.after, Region.binds md e = true → e.on ≠ i := by
        intro e he hb heq
        have := hall e he hb
        rw [heq, hun] at this
        cases this
      refine yOp_mono (fun a' w' h3 => ih (listed.setIfInBounds j true) a' w' (hsh.more hj) (fun k ok hk hki hku hkn => hfree k ok hk hki ?_ hkn) (ready_mono hr (Ne.symm hji)) h3.1.2 h3.1.1 ?_)
        (yOp_put hin hoj (hfree j oj hoj hji hjun hnot) (fun cs b => hsel i oi cs b hi) (fun cs b => hsel j oj cs b hoj) (fun hnj => late_of hc hsh hj hnj hun) (no_wait hj hun) hC hy (H.2 j (ready_mono hj hji)))
      · by_cases hjk : j = k
        · exact hjk ▸ hjun
        · rwa [getD_set_ne true hjk] at hku
      · rw [Array.setIfInBounds_comm _ _ hji]
        exact h3.2
def yTail (P : Program) (md : Region.Mode) (ops : Array Oper) (W : Nat → World → Prop) (n : Nat) (Q : Act → World → Prop) : Nat → List Oper → Act → World → Prop
  | _, [], a, w => Q a w
  | i, o :: r, a, w => if Region.wanted o (yielded ops a.tmps) then
      (∃ v w', ((execOp a.eval o).run P w = .ok (.value v) w' ∨ ((execOp a.eval o).run P w = .ok .skip w' ∧ v = undef)) ∧ (∀ k, k < n → lateB md ops n k = true → Region.waitsFor md ops i k = false → W k w') ∧ yTail P md ops W n Q (i + 1) r (a.put o.dst v) w')
    else yTail P md ops W n Q (i + 1) r (a.put o.dst undef) w
theorem yAny_tail {Q : Act → World → Prop} : ∀ (l : List Oper) (k : Nat) (listed : Array Bool) (a : Act) (w : World), n ≤ k → (∀ j, l[j]? = ops[k + j]?) → Region.seqB md ops l.length k listed = true → yTail P md ops W n Q k l a w → yAny P md ops W n Q l.length listed a w
  | [], k, listed, a, w, _, _, hB, h => ⟨by simpa [Region.seqB] using hB, h⟩
  | o :: l, k, listed, a, w, hnk, hl, hB, h => by
    have h0 : ops[k]? = some o := by simpa using (hl 0).symm
    simp only [List.length_cons, Region.seqB, Bool.and_eq_true, decide_eq_true_eq] at hB
    refine ⟨fun h1 => (by rw [hB.1] at h1; cases h1), fun i hi => ?_⟩
    rw [hB.1] at hi
    have hik : i = k := by simpa using hi
    subst hik
    have ih := fun a' w' h' => yAny_tail (Q := Q) l (i + 1) (listed.setIfInBounds i true) a' w' (by omega) (fun j => by have := hl (j + 1); simpa [Nat.add_assoc, Nat.add_comm 1 j] using this) hB.2 h'
    unfold yOp
    simp only [h0]
    unfold yTail at h
    split
    · rename_i hw
      rw [if_pos hw] at h
      obtain ⟨v, w', h1, h2, h3⟩ := h
      exact .inr ⟨hnk, v, w', h1, h2, ih _ _ h3⟩
    · rename_i hw
      rw [if_neg hw] at h
      exact ih _ _ h
end
end Go.AI
