/- A region whose order is open, with one operation that all of the head comes before and all of the rest behind: a call, its results taken apart. One walk of the text's order serves every order. -/
import Derived.Test.YtkkpjmcpnmbbfaaGreatDoorAR
namespace Go.AI
section
variable {P : Program} {ops : Array Oper} {md : Region.Mode} {w : World}
def barB (md : Region.Mode) (ops : Array Oper) (n : Nat) : Bool :=
  (List.range ops.size).all fun t => decide (t ≤ n) || (List.range t).any fun s => decide (n ≤ s) && Region.waitsFor md ops t s
structure Heads (md : Region.Mode) (ops : Array Oper) (n : Nat) (q : Array Bool) : Prop where
  len : q.size = ops.size
  back : ∀ j k, q.getD j false = true → Region.waitsFor md ops j k = true → q.getD k false = true
  low : ∀ t, q.getD t false = true → t < n
theorem waits_of_ready {q : Array Bool} {t k : Nat} (h : t ∈ Region.ready md ops q) (hw : Region.waitsFor md ops t k = true) : q.getD k false = true := by
  obtain ⟨o, ho, e, he, hb, rfl⟩ := Region.waitsFor_spec hw
  obtain ⟨_, o', ho', hall⟩ := mem_ready.1 h
  have e1 : o = o' := Option.some.inj (ho.symm.trans ho')
  subst e1
  exact hall e he hb
theorem Heads.more {n i : Nat} {q : Array Bool} (h : Heads md ops n q) (hr : i ∈ Region.ready md ops q) (hin : i < n) : Heads md ops n (q.setIfInBounds i true) := by
  have key : ∀ j, (q.setIfInBounds i true).getD j false = true → j = i ∨ q.getD j false = true := by
    intro j hj
    by_cases e : i = j
    · exact .inl e.symm
    · rw [getD_set_ne false e] at hj; exact .inr hj
  refine ⟨by simp [h.len], fun j k hj hw => ?_, fun t ht => ?_⟩
  · rcases key j hj with rfl | hj
    · exact getD_set_true (waits_of_ready hr hw)
    · exact getD_set_true (h.back j k hj hw)
  · rcases key t ht with rfl | ht
    · exact hin
    · exact h.low t ht
theorem Heads.bar {n : Nat} {q : Array Bool} (hs : Region.sinkB md ops n = true) (hc : barB md ops n = true) (h : Heads md ops n q) {t : Nat} (ht : t ∈ Region.ready md ops q) (hnt : n ≤ t) : ∀ i, i < n → q.getD i false = true := by
  obtain ⟨_, o, ho, _⟩ := mem_ready.1 ht
  have htl : t < ops.size := (Array.getElem?_eq_some_iff.1 ho).1
  have e : t = n := by
    rcases Nat.lt_or_ge n t with hlt | hge
    · have h1 := List.all_eq_true.1 hc t (List.mem_range.2 htl)
      rw [decide_eq_false (by omega), Bool.false_or] at h1
      obtain ⟨s, _, hs2⟩ := List.any_eq_true.1 h1
      simp only [Bool.and_eq_true, decide_eq_true_eq] at hs2
      have := h.low s (waits_of_ready ht hs2.2)
      omega
    · omega
  subst e
  have all : ∀ m i, t - i ≤ m → i < t → q.getD i false = true := by
    intro m
    induction m with
    | zero => intro i h1 h2; omega
    | succ m ih =>
      intro i h1 h2
      obtain ⟨j, hj, hj2⟩ := List.any_eq_true.1 (List.all_eq_true.1 hs i (List.mem_range.2 h2))
      simp only [Bool.and_eq_true, decide_eq_true_eq] at hj2
      have hjt := List.mem_range.1 hj
      rcases Nat.lt_or_ge j t with h3 | h3
      · exact h.back j i (ih j (by omega) h3) hj2.2
      · have : j = t := by omega
        subst this
        exact waits_of_ready ht hj2.2
  exact fun i hi => all (t - i) i (Nat.le_refl _) hi
theorem wpAnyL_one {n i : Nat} {oi : Oper} {v : Value} {L : Array Bool → Act → Prop} (hi : ops[i]? = some oi) (hsel : ∀ (j : Nat) (o : Oper) cs b, ops[j]? = some o → o.op ≠ .select cs b)
    (hs : Region.sinkB md ops n = true) (hc : barB md ops n = true) (hin : i < n) (hdone : ∀ q a, L q a → ∀ j ∈ Region.ready md ops q, n ≤ j) (f : Nat) :
    ∀ (q : Array Bool) (a : Act), Heads md ops n q → (∀ j oj, ops[j]? = some oj → j ≠ i → q.getD j true = false → (∀ e ∈ oj.after, Region.binds md e = true → e.on ≠ i) → oi.apart ops oj = true) →
      i ∈ Region.ready md ops q → YieldsAt P ops w oi v a → wpAnyL P md ops w n L f (q.setIfInBounds i true) (a.put oi.dst v) → wpAnyL P md ops w n L (f + 1) q a := by
  induction f with
  | zero =>
    intro q a inv _ hr hy H
    refine ⟨List.ne_nil_of_mem hr, fun j hj => ?_⟩
    have hq : q.getD i false = false := getD_both (mem_ready.1 hr).1
    have hjn : j < n := Nat.lt_of_not_le fun hge => by rw [inv.bar hs hc hj hge i hin] at hq; cases hq
    by_cases e : j = i
    · subst e; exact ⟨hjn, hy.stOp hi H⟩
    · exact absurd (hdone _ _ H j (ready_mono hj e)) (by omega)
  | succ f ih =>
    intro q a inv hfree hr hy H
    refine ⟨List.ne_nil_of_mem hr, fun j hj => ?_⟩
    have hq : q.getD i false = false := getD_both (mem_ready.1 hr).1
    have hjn : j < n := Nat.lt_of_not_le fun hge => by rw [inv.bar hs hc hj hge i hin] at hq; cases hq
    by_cases e : j = i
    · subst e; exact ⟨hjn, hy.stOp hi H⟩
    refine ⟨hjn, ?_⟩
    obtain ⟨hun, oj, hoj, hall⟩ := mem_ready.1 hj
    have hno : ∀ e ∈ oj.after, Region.binds md e = true → e.on ≠ i := by
      intro d he hb hd
      have := hall d he hb
      rw [hd, hq] at this
      cases this
    refine stOp_mono (fun a' h3 => ih (q.setIfInBounds j true) a' (inv.more hj hjn) (fun k ok hk hki hku hkn => hfree k ok hk hki ?_ hkn) (ready_mono hr (Ne.symm e)) h3.1 ?_)
      (stOp_put hoj (hfree j oj hoj e hun hno) (fun cs b => hsel i oi cs b hi) (fun cs b => hsel j oj cs b hoj) hy (H.2 j (ready_mono hj e)).2)
    · by_cases hjk : j = k
      · exact hjk ▸ hun
      · rwa [getD_set_ne true hjk] at hku
    · rw [Array.setIfInBounds_comm _ _ e]
      exact h3.2
def lexMid (md : Region.Mode) (ops : Array Oper) (n : Nat) : Nat → Nat → Array Bool → Bool
  | 0, _, listed => decide (Region.ready md ops listed = [n]) && Region.lexFrom md ops (ops.size - (n + 1)) (n + 1) (listed.setIfInBounds n true)
  | f + 1, k, listed => (Region.ready md ops listed).contains k && Region.free md ops listed k && lexMid md ops n f (k + 1) (listed.setIfInBounds k true)
def lexBarB (md : Region.Mode) (ops : Array Oper) (n : Nat) : Bool :=
  Region.noSelect ops && decide (n < ops.size) && Region.sinkB md ops n && barB md ops n && lexMid md ops n n 0 (Array.replicate ops.size false)
theorem wpAnyL_mid {n : Nat} {Lq : Act → Prop} (hsel : Region.noSelect ops = true) (hs : Region.sinkB md ops n = true) (hc : barB md ops n = true) :
    ∀ (l : List Oper) (k : Nat) (listed : Array Bool) (a : Act), (∀ j, j < l.length → l[j]? = ops[k + j]?) → k + l.length = n → Heads md ops n listed →
    lexMid md ops n l.length k listed = true → wpStill P ops w Lq l a →
    wpAnyL P md ops w n (fun listed' a' => (Region.ready md ops listed' = [n] ∧ Region.lexFrom md ops (ops.size - (n + 1)) (n + 1) (listed'.setIfInBounds n true) = true) ∧ Lq a') l.length listed a
  | [], k, listed, a, _, hk, _, hB, h => by
    simp only [List.length_nil, lexMid, Bool.and_eq_true, decide_eq_true_eq] at hB
    exact ⟨hB, h⟩
  | o :: l, k, listed, a, hl, hk, inv, hB, h => by
    have h0 : ops[k]? = some o := by simpa using (hl 0 (by simp)).symm
    simp only [List.length_cons, lexMid, Bool.and_eq_true] at hB
    obtain ⟨⟨hr, hf⟩, hB'⟩ := hB
    have hkn : k < n := by simp only [List.length_cons] at hk; omega
    have hr' : k ∈ Region.ready md ops listed := by simpa using hr
    have hst : stOp P ops w k (wpStill P ops w Lq l) a := by unfold stOp; simp only [h0]; exact h
    obtain ⟨v, hy, hK⟩ := yieldsAt_of_stOp h0 hst
    exact wpAnyL_one h0 (Region.noSelect_spec hsel) hs hc hkn (fun listed' a' hL j hj => by rw [hL.1.1] at hj; simp at hj; omega) l.length listed a inv (Region.free_spec h0 hf) hr' hy
      (wpAnyL_mid hsel hs hc l (k + 1) _ _ (fun j hj => by have := hl (j + 1) (by simp; omega); simpa [Nat.add_assoc, Nat.add_comm 1 j] using this) (by simp only [List.length_cons] at hk; omega) (inv.more hr' hkn) hB' hK)
theorem wp_region_bar {id : Nat} {Q : Exit → Act → World → Prop} {a : Act} (n : Nat) (hm : P.follows .mixedOrders = true) (hB : lexBarB .any ops n = true)
    (h : wpStill P ops { w with drawn := w.drawn + 1 } (fun a' => ∃ o, ops[n]? = some o ∧ o.guard = none ∧
      o.wp P a' { w with drawn := w.drawn + 1 } (fun a2 w2 => ∃ C : World → Prop, C w2 ∧ wpQuiet P ops C (fun a3 => ∀ w3, C w3 → Q .normal a3 w3) (ops.toList.drop (n + 1)) a2) Q) (ops.toList.take n) a) : (Code.region id ops true).wp P Q a w := by
  simp only [lexBarB, Bool.and_eq_true, decide_eq_true_eq] at hB
  obtain ⟨⟨⟨⟨hsel, hn⟩, hs⟩, hc⟩, hlex⟩ := hB
  refine wp_region_any hm ?_
  have htl : (ops.toList.take n).length = n := by simp; omega
  have hdl : (ops.toList.drop (n + 1)).length = ops.size - (n + 1) := by simp
  have inv : Heads .any ops n (Array.replicate ops.size false) := by
    refine ⟨by simp, fun j k hl => ?_, fun t hl => ?_⟩ <;> (rw [getD_replicate_false] at hl; cases hl)
  have key := wpAnyL_mid (P := P) (w := { w with drawn := w.drawn + 1 }) hsel hs hc (ops.toList.take n) 0 (Array.replicate ops.size false) a
    (fun j hj => by rw [htl] at hj; simp [hj]) (by simpa using htl) inv (by rw [htl]; exact hlex) h
  rw [htl] at key
  have := wpAny_of_head (P := P) (md := .any) (ops := ops) (n := n) (g := (ops.size - (n + 1)) + 1) (Q' := Q) (w := { w with drawn := w.drawn + 1 }) ?_ _ _ _ key
  · rwa [show n + (ops.size - (n + 1) + 1) = ops.size by omega] at this
  rintro listed a' ⟨⟨h1, h2⟩, o, ho, hg, hwp⟩
  refine ⟨fun h0 => (by rw [h1] at h0; cases h0), fun i hi => ?_⟩
  rw [h1] at hi
  have : i = n := by simpa using hi
  subst this
  have hw : Region.wanted o (yielded ops a'.tmps) = true := by unfold Region.wanted; rw [hg]
  unfold wpOp
  simp only [ho]
  rw [if_pos hw]
  refine .inl (Oper.wp_mono (fun a2 w2 h3 => ?_) hwp)
  obtain ⟨C, hC, hq⟩ := h3
  have := wpAnyQ_lex (P := P) (C := C) (md := .any) (ops := ops) hsel (ops.toList.drop (i + 1)) (i + 1) (listed.setIfInBounds i true) a2 (fun j => by simp [List.getElem?_drop]) (by rw [hdl]; exact h2) hq
  rw [hdl] at this
  exact wpAny_of_quiet (Q := fun a3 => ∀ w3, C w3 → Q .normal a3 w3) (fun _ w' hw' h => h w' hw') _ _ _ _ hC this
end
end Go.AI
