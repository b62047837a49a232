/- A region whose order is open and that writes: its head only reads, and reads the same in every world that the tail's first operations may leave; the tail's own order is fixed. One walk of the text's order serves every order. -/
import Derived.Test.YtkkpjmcpnmbbfaaGreatDoorA0
import Derived.Deep.Quiet
import Derived.StillTail
namespace Go.AI
section
variable {P : Program} {ops : Array Oper} {md : Region.Mode} {C : World → Prop} {n : Nat}
def early (md : Region.Mode) (ops : Array Oper) (n i : Nat) : Bool := (List.range n).any fun k => !Region.waitsFor md ops i k
def mOp (P : Program) (md : Region.Mode) (ops : Array Oper) (C : World → Prop) (n i : Nat) (K : Act → World → Prop) (a : Act) (w : World) : Prop :=
  match ops[i]? with
  | none => K a w
  | some o => if Region.wanted o (yielded ops a.tmps) then
      (i < n ∧ C w ∧ ∃ v, (∀ w', C w' → (execOp a.eval o).run P w' = .ok (.value v) w') ∧ K (a.put o.dst v) w) ∨
      (n ≤ i ∧ ∃ v w', ((execOp a.eval o).run P w = .ok (.value v) w' ∨ ((execOp a.eval o).run P w = .ok .skip w' ∧ v = undef)) ∧ (early md ops n i = true → C w') ∧ K (a.put o.dst v) w')
    else K (a.put o.dst undef) w
def mAny (P : Program) (md : Region.Mode) (ops : Array Oper) (C : World → Prop) (n : Nat) (Q : Act → World → Prop) : Nat → Array Bool → Act → World → Prop
  | 0, listed, a, w => Region.ready md ops listed = [] ∧ Q a w
  | f + 1, listed, a, w => (Region.ready md ops listed = [] → Q a w) ∧ ∀ i ∈ Region.ready md ops listed, mOp P md ops C n i (mAny P md ops C n Q f (listed.setIfInBounds i true)) a w
theorem mOp_wp {i : Nat} {K K' : Act → World → Prop} {Q' : Exit → Act → World → Prop} {a : Act} {w : World} (h : ∀ a w, K a w → K' a w) (hh : mOp P md ops C n i K a w) : wpOp P ops Q' i K' a w := by
  unfold mOp at hh
  unfold wpOp
  split
  · rename_i ho; simp only [ho] at hh; exact h _ _ hh
  · rename_i o ho
    simp only [ho] at hh
    split
    · rename_i hw
      rw [if_pos hw] at hh
      left
      rcases hh with ⟨_, hC, v, hv, hk⟩ | ⟨_, v, w', hv, _, hk⟩
      · unfold Oper.wp; rw [hv w hC]; exact h _ _ hk
      · rcases hv with hv | ⟨hv, rfl⟩
        · unfold Oper.wp; rw [hv]; exact h _ _ hk
        · unfold Oper.wp; rw [hv]; exact h _ _ hk
    · rename_i hw
      rw [if_neg hw] at hh
      exact h _ _ hh
theorem mAny_wp {Q : Act → World → Prop} {Q' : Exit → Act → World → Prop} (hQ : ∀ a w, Q a w → Q' .normal a w) : ∀ (f : Nat) (listed : Array Bool) (a : Act) (w : World), mAny P md ops C n Q f listed a w → wpAny P md ops Q' f listed a w
  | 0, _, _, _, h => ⟨h.1, hQ _ _ h.2⟩
  | f + 1, _, _, _, h => ⟨fun h0 => hQ _ _ (h.1 h0), fun i hi => mOp_wp (fun a w h => mAny_wp hQ f _ a w h) (h.2 i hi)⟩
def YieldsC (P : Program) (ops : Array Oper) (C : World → Prop) (o : Oper) (v : Value) (a : Act) : Prop :=
  (Region.wanted o (yielded ops a.tmps) = true ∧ ∀ w, C w → (execOp a.eval o).run P w = .ok (.value v) w) ∨ (Region.wanted o (yielded ops a.tmps) = false ∧ v = undef)
theorem YieldsC.mOp {i : Nat} {o : Oper} {v : Value} {a : Act} {w : World} (hi : ops[i]? = some o) (hn : i < n) (hC : C w) (hy : YieldsC P ops C o v a) {K : Act → World → Prop} (h : K (a.put o.dst v) w) : Go.AI.mOp P md ops C n i K a w := by
  unfold Go.AI.mOp
  simp only [hi]
  rcases hy with ⟨hw, hv⟩ | ⟨hw, rfl⟩
  · rw [if_pos hw]; exact .inl ⟨hn, hC, v, hv, h⟩
  · rw [hw]; exact h
theorem YieldsC.of_same {o : Oper} {v : Value} {a a' : Act} (hy : YieldsC P ops C o v a) (he : execOp a'.eval o = execOp a.eval o) (hw : Region.wanted o (yielded ops a'.tmps) = Region.wanted o (yielded ops a.tmps)) : YieldsC P ops C o v a' := by
  unfold YieldsC at *
  rw [he, hw]
  exact hy
theorem mOp_put {i j : Nat} {oi oj : Oper} {v : Value} (hin : i < n) (hj : ops[j]? = some oj) (hap : oi.apart ops oj = true) (hsi : ∀ cs b, oi.op ≠ .select cs b) (hsj : ∀ cs b, oj.op ≠ .select cs b) (hwait : ∀ e ∈ oj.after, Region.binds md e = true → e.on ≠ i)
    {K : Act → World → Prop} {a : Act} {w : World} (hC : C w) (hy : YieldsC P ops C oi v a) (h : mOp P md ops C n j K (a.put oi.dst v) w) :
    mOp P md ops C n j (fun a' w' => (YieldsC P ops C oi v a' ∧ C w') ∧ K (a'.put oi.dst v) w') a w := by
  obtain ⟨h1, h2, h3⟩ := Oper.apart_spec hap
  have keep : ∀ u, YieldsC P ops C oi v (a.put oj.dst u) := fun u => hy.of_same (execOp_put oi hsi a oj.dst u h3) (wanted_put oi a oj.dst u h3)
  have hearly : early md ops n j = true := by
    unfold early
    rw [List.any_eq_true]
    refine ⟨i, List.mem_range.2 hin, ?_⟩
    cases hc : Region.waitsFor md ops j i with
    | false => rfl
    | true =>
      obtain ⟨o', ho', e, he, hb, hon⟩ := Region.waitsFor_spec hc
      rw [hj] at ho'; cases ho'
      exact absurd hon (hwait e he hb)
  unfold mOp at *
  simp only [hj] at *
  rw [wanted_put oj a oi.dst v h1, execOp_put oj hsj a oi.dst v h1] at h
  split
  · rename_i hw
    rw [if_pos hw] at h
    rcases h with ⟨hjn, hCw, u, hu, hk⟩ | ⟨hjn, u, w', hu, he, hk⟩
    · exact .inl ⟨hjn, hCw, u, hu, ⟨keep u, hC⟩, by rw [← Act.put_comm a v u h2]; exact hk⟩
    · exact .inr ⟨hjn, u, w', hu, he, ⟨keep u, he hearly⟩, by rw [← Act.put_comm a v u h2]; exact hk⟩
  · rename_i hw
    rw [if_neg hw] at h
    exact ⟨⟨keep _, hC⟩, by rw [← Act.put_comm a v undef h2]; exact h⟩
theorem mOp_mono {i : Nat} {K K' : Act → World → Prop} {a : Act} {w : World} (h : ∀ a w, K a w → K' a w) (hh : mOp P md ops C n i K a w) : mOp P md ops C n i K' a w := by
  unfold mOp at *
  split
  · rename_i ho; simp only [ho] at hh; exact h _ _ hh
  · rename_i o ho
    simp only [ho] at hh
    split
    · rename_i hw
      rw [if_pos hw] at hh
      rcases hh with ⟨h1, h2, v, h3, h4⟩ | ⟨h1, v, w', h2, h3, h4⟩
      · exact .inl ⟨h1, h2, v, h3, h _ _ h4⟩
      · exact .inr ⟨h1, v, w', h2, h3, h _ _ h4⟩
    · rename_i hw
      rw [if_neg hw] at hh
      exact h _ _ hh
theorem mAny_first {Q : Act → World → Prop} {i : Nat} {oi : Oper} {v : Value} (hi : ops[i]? = some oi) (hin : i < n) (hsel : ∀ (j : Nat) (o : Oper) cs b, ops[j]? = some o → o.op ≠ .select cs b) :
    ∀ (fuel : Nat) (listed : Array Bool) (a : Act) (w : World),
      (∀ j oj, ops[j]? = some oj → j ≠ i → listed.getD j true = false → (∀ e ∈ oj.after, Region.binds md e = true → e.on ≠ i) → oi.apart ops oj = true) →
      i ∈ Region.ready md ops listed → C w → YieldsC P ops C oi v a →
      mAny P md ops C n Q fuel (listed.setIfInBounds i true) (a.put oi.dst v) w → mAny P md ops C n Q (fuel + 1) listed a w := by
  intro fuel
  induction fuel with
  | zero =>
    intro listed a w _ hr hC hy H
    refine ⟨fun h => (by rw [h] at hr; cases hr), fun j hj => ?_⟩
    by_cases hji : j = i
    · subst hji; exact hy.mOp hi hin hC H
    · have := ready_mono hj hji
      rw [H.1] at this
      cases this
  | succ fuel ih =>
    intro listed a w hfree hr hC hy H
    refine ⟨fun h => (by rw [h] at hr; cases hr), fun j hj => ?_⟩
    by_cases hji : j = i
    · subst hji; exact hy.mOp hi hin hC H
    · have h1 := H.2 j (ready_mono hj hji)
      obtain ⟨hjun, oj, hoj, hall⟩ := mem_ready.1 hj
      have hnot : ∀ e ∈ oj.after, Region.binds md e = true → e.on ≠ i := fun e he hb heq => by
        have h1 := hall e he hb
        have h0 := (mem_ready.1 hr).1
        rw [heq] at h1
        rcases Nat.lt_or_ge i listed.size with h' | h'
        · simp [h'] at h0 h1; rw [h0] at h1; cases h1
        · simp [Array.getElem?_eq_none h'] at h1
      have h2 := mOp_put hin hoj (hfree j oj hoj hji hjun hnot) (fun cs b => hsel i oi cs b hi) (fun cs b => hsel j oj cs b hoj) hnot hC hy h1
      have hfree' : ∀ k ok, ops[k]? = some ok → k ≠ i → (listed.setIfInBounds j true).getD k true = false →
          (∀ e ∈ ok.after, Region.binds md e = true → e.on ≠ i) → oi.apart ops ok = true := fun k ok hk hki hun hno => by
        refine hfree k ok hk hki ?_ hno
        by_cases hjk : j = k
        · subst hjk; exact hjun
        · rw [getD_set_ne true hjk] at hun; exact hun
      refine mOp_mono (fun a' w' h3 => ih (listed.setIfInBounds j true) a' w' hfree' (ready_mono hr (Ne.symm hji)) h3.1.2 h3.1.1 ?_) h2
      rw [Array.setIfInBounds_comm _ _ hji]
      exact h3.2
def wpHead (P : Program) (ops : Array Oper) (C : World → Prop) (Q : Act → Prop) : List Oper → Act → Prop
  | [], a => Q a
  | o :: r, a => if Region.wanted o (yielded ops a.tmps) then (∃ v, (∀ w, C w → (execOp a.eval o).run P w = .ok (.value v) w) ∧ wpHead P ops C Q r (a.put o.dst v)) else wpHead P ops C Q r (a.put o.dst undef)
def wpTail (P : Program) (md : Region.Mode) (ops : Array Oper) (C : World → Prop) (n : Nat) (Q : Act → World → Prop) : Nat → List Oper → Act → World → Prop
  | _, [], a, w => Q a w
  | k, o :: r, a, w => if Region.wanted o (yielded ops a.tmps) then
      (∃ v w', ((execOp a.eval o).run P w = .ok (.value v) w' ∨ ((execOp a.eval o).run P w = .ok .skip w' ∧ v = undef)) ∧ (early md ops n k = true → C w') ∧ wpTail P md ops C n Q (k + 1) r (a.put o.dst v) w')
    else wpTail P md ops C n Q (k + 1) r (a.put o.dst undef) w
theorem mAny_tail {Q : Act → World → Prop} : ∀ (l : List Oper) (k : Nat) (listed : Array Bool) (a : Act) (w : World), n ≤ k → (∀ j, l[j]? = ops[k + j]?) → Region.seqB md ops l.length k listed = true → wpTail P md ops C n Q k l a w → mAny P md ops C n Q l.length listed a w
  | [], k, listed, a, w, _, _, hB, h => ⟨by simpa [Region.seqB] using hB, h⟩
  | o :: l, k, listed, a, w, hnk, hl, hB, h => by
    have h0 : ops[k]? = some o := by simpa using (hl 0).symm
    simp only [List.length_cons, Region.seqB, Bool.and_eq_true, decide_eq_true_eq] at hB
    refine ⟨fun h1 => (by rw [hB.1] at h1; cases h1), fun i hi => ?_⟩
    rw [hB.1] at hi
    have hik : i = k := by simpa using hi
    subst hik
    have ih := fun a' w' h' => mAny_tail (Q := Q) l (i + 1) (listed.setIfInBounds i true) a' w' (by omega) (fun j => by have := hl (j + 1); simpa [Nat.add_assoc, Nat.add_comm 1 j] using this) hB.2 h'
    unfold mOp
    simp only [h0]
    unfold wpTail at h
    split
    · rename_i hw
      rw [if_pos hw] at h
      obtain ⟨v, w', h1, h2, h3⟩ := h
      exact .inr ⟨hnk, v, w', h1, h2, ih _ _ h3⟩
    · rename_i hw
      rw [if_neg hw] at h
      exact ih _ _ h
theorem mAny_head {Q : Act → World → Prop} {w : World} {g : Nat} (hsel : Region.noSelect ops = true) (hC : C w) : ∀ (l : List Oper) (k : Nat) (listed : Array Bool) (a : Act), (∀ j, j < l.length → l[j]? = ops[k + j]?) → k + l.length = n →
    Region.lexHead md ops g l.length k listed = true → wpHead P ops C (fun a' => ∀ listed', Region.seqB md ops g n listed' = true → mAny P md ops C n Q g listed' a' w) l a → mAny P md ops C n Q (l.length + g) listed a w
  | [], k, listed, a, _, hk, hB, h => by
    have : k = n := by simpa using hk
    subst this
    simpa using h listed (by simpa [Region.lexHead] using hB)
  | o :: l, k, listed, a, hl, hk, hB, h => by
    have h0 : ops[k]? = some o := by simpa using (hl 0 (by simp)).symm
    simp only [List.length_cons, Region.lexHead, Bool.and_eq_true] at hB
    obtain ⟨⟨hr, hf⟩, hB'⟩ := hB
    have hkn : k < n := by simp only [List.length_cons] at hk; omega
    have hr' : k ∈ Region.ready md ops listed := by simpa using hr
    have ih := fun a' h' => mAny_head (Q := Q) (w := w) (g := g) hsel hC l (k + 1) (listed.setIfInBounds k true) a' (fun j hj => by have := hl (j + 1) (by simp; omega); simpa [Nat.add_assoc, Nat.add_comm 1 j] using this) (by simp only [List.length_cons] at hk; omega) hB' h'
    rw [show (o :: l).length + g = (l.length + g) + 1 by simp; omega]
    unfold wpHead at h
    split at h
    · rename_i hw
      obtain ⟨v, hv, hn⟩ := h
      exact mAny_first h0 hkn (Region.noSelect_spec hsel) (l.length + g) listed a w (Region.free_spec h0 hf) hr' hC (.inl ⟨hw, hv⟩) (ih _ hn)
    · rename_i hw
      exact mAny_first h0 hkn (Region.noSelect_spec hsel) (l.length + g) listed a w (Region.free_spec h0 hf) hr' hC (.inr ⟨by simpa using hw, rfl⟩) (ih _ h)
theorem wpHead_mono {Q1 Q2 : Act → Prop} (hQ : ∀ a, Q1 a → Q2 a) : ∀ (l : List Oper) (a : Act), wpHead P ops C Q1 l a → wpHead P ops C Q2 l a
  | [], a, h => hQ a h
  | o :: r, a, h => by
    simp only [wpHead] at h ⊢
    split
    · rename_i hw; rw [if_pos hw] at h; obtain ⟨v, h1, h2⟩ := h; exact ⟨v, h1, wpHead_mono hQ r _ h2⟩
    · rename_i hw; rw [if_neg hw] at h; exact wpHead_mono hQ r _ h
def lexMoveB (md : Region.Mode) (ops : Array Oper) (n : Nat) : Bool := Region.noSelect ops && decide (n < ops.size) && Region.lexHead md ops (ops.size - n) n 0 (Array.replicate ops.size false)
theorem wp_region_move {id : Nat} {Q : Exit → Act → World → Prop} {a : Act} {w : World} (hm : P.follows .mixedOrders = true) (hB : lexMoveB .any ops n = true) (hC : C { w with drawn := w.drawn + 1 })
    (h : wpHead P ops C (fun a' => wpTail P .any ops C n (fun a w => Q .normal a w) n (ops.toList.drop n) a' { w with drawn := w.drawn + 1 }) (ops.toList.take n) a) : (Code.region id ops true).wp P Q a w := by
  simp only [lexMoveB, Bool.and_eq_true, decide_eq_true_eq] at hB
  obtain ⟨⟨hsel, hn⟩, hlex⟩ := hB
  refine wp_region_any hm ?_
  have hn' : n < ops.toList.length := by simpa using hn
  have htl : (ops.toList.take n).length = n := by simp; omega
  have hdl : (ops.toList.drop n).length = ops.size - n := by simp
  have key := mAny_head (P := P) (md := .any) (ops := ops) (C := C) (n := n) (Q := fun a w => Q .normal a w) (w := { w with drawn := w.drawn + 1 }) (g := ops.size - n) hsel hC (ops.toList.take n) 0 (Array.replicate ops.size false) a
    (fun j hj => by
      rw [htl] at hj
      simp [hj]) (by simpa using htl) (by rw [htl]; exact hlex) (wpHead_mono (fun a' h' listed' hs => by
      rw [← hdl]
      exact mAny_tail (ops.toList.drop n) n listed' a' _ (Nat.le_refl _) (fun j => by simp [List.getElem?_drop]) (by rw [hdl]; exact hs) h') _ _ h)
  rw [htl, show n + (ops.size - n) = ops.size by omega] at key
  exact mAny_wp (fun _ _ h => h) _ _ _ _ key
end
end Go.AI
