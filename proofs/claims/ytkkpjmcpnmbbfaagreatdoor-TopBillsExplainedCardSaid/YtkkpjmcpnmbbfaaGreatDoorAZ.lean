/- A region whose order is open, with a new variable made at no fixed place ahead of the tail. One walk of the text's order serves every order. -/
import Derived.Test.YtkkpjmcpnmbbfaaGreatDoorAY
import Derived.Deep.Quiet
namespace Go.AI
section
variable {P : Program} {ops : Array Oper} {md : Region.Mode} {D : Option Nat → World → Prop} {G : World → Prop} {al n : Nat} {Q : Act → World → Prop}
def ptrV (b : Nat) : Value := .pointer (some ⟨b, 0, none⟩)
def QF (P : Program) (D : Option Nat → World → Prop) (o : Oper) (a : Act) (v : Value) : Prop := ∀ x w, D x w → o.quietAt P a (D x) w v
def YF (P : Program) (ops : Array Oper) (D : Option Nat → World → Prop) (o : Oper) (v : Value) (a : Act) : Prop :=
  (Region.wanted o (yielded ops a.tmps) = true ∧ QF P D o a v) ∨ (Region.wanted o (yielded ops a.tmps) = false ∧ v = undef)
theorem QF.of_same {o : Oper} {v : Value} {a a' : Act} (h : QF P D o a v) (he : execOp a'.eval o = execOp a.eval o) : QF P D o a' v := by
  unfold QF Oper.quietAt at *
  rw [he]
  exact h
theorem YF.of_same {o : Oper} {v : Value} {a a' : Act} (h : YF P ops D o v a) (he : execOp a'.eval o = execOp a.eval o) (hw : Region.wanted o (yielded ops a'.tmps) = Region.wanted o (yielded ops a.tmps)) : YF P ops D o v a' := by
  unfold YF at *
  rw [hw]
  exact h.imp (fun h => ⟨h.1, h.2.of_same he⟩) id
def z1 (P : Program) (md : Region.Mode) (ops : Array Oper) (D : Option Nat → World → Prop) (G : World → Prop) (al n : Nat) (Q : Act → World → Prop) (i f : Nat) (q : Array Bool) (Y : Option Nat → Act → Prop) (ob : Option Nat) (a : Act) : Prop :=
  match ops[i]? with
  | none => Y ob a
  | some o => if Region.wanted o (yielded ops a.tmps) then
      (i < n ∧ i ≠ al ∧ ∃ v, QF P D o a v ∧ Y ob (a.put o.dst v)) ∨
      (i = al ∧ ob = none ∧ (∀ w, D none w → ∃ b w', (execOp a.eval o).run P w = .ok (.value (ptrV b)) w' ∧ D (some b) w') ∧ ∀ b, Y (some b) (a.put o.dst (ptrV b))) ∨
      (n ≤ i ∧ ∀ w, D ob w → ∃ v w', ((execOp a.eval o).run P w = .ok (.value v) w' ∨ ((execOp a.eval o).run P w = .ok .skip w' ∧ v = undef)) ∧ (∀ k, k < n → lateB md ops n k = true → Region.waitsFor md ops i k = false → G w') ∧ yAny P md ops (fun _ => G) n Q f (q.setIfInBounds i true) (a.put o.dst v) w')
    else i < n ∧ Y ob (a.put o.dst undef)
def Y1 (P : Program) (md : Region.Mode) (ops : Array Oper) (D : Option Nat → World → Prop) (G : World → Prop) (al n : Nat) (Q : Act → World → Prop) : Nat → Array Bool → Option Nat → Act → Prop
  | 0, q, ob, a => Region.ready md ops q = [] ∧ ∀ w, D ob w → Q a w
  | f + 1, q, ob, a => (Region.ready md ops q = [] → ∀ w, D ob w → Q a w) ∧ ∀ i ∈ Region.ready md ops q, z1 P md ops D G al n Q i f q (Y1 P md ops D G al n Q f (q.setIfInBounds i true)) ob a
theorem Y1_wp {Q' : Exit → Act → World → Prop} (hQ : ∀ a w, Q a w → Q' .normal a w) : ∀ (f : Nat) (q : Array Bool) (ob : Option Nat) (a : Act) (w : World), D ob w → Y1 P md ops D G al n Q f q ob a → wpAny P md ops Q' f q a w
  | 0, _, _, _, w, hw, h => ⟨h.1, hQ _ _ (h.2 w hw)⟩
  | f + 1, q, ob, a, w, hw, h => by
    refine ⟨fun h0 => hQ _ _ (h.1 h0 w hw), fun i hi => ?_⟩
    have hh := h.2 i hi
    unfold z1 at hh
    unfold wpOp
    split
    · rename_i ho; simp only [ho] at hh; exact Y1_wp hQ f _ ob a w hw hh
    · rename_i o ho
      simp only [ho] at hh
      split
      · rename_i hwt
        rw [if_pos hwt] at hh
        left
        rcases hh with ⟨_, _, v, hv, hk⟩ | ⟨_, rfl, hr, hk⟩ | ⟨_, hk⟩
        · exact Oper.wp_of_quiet (C := D ob) hw (fun a' w' hw' hk' => Y1_wp hQ f _ ob a' w' hw' hk') ⟨v, hv ob, hk⟩
        · obtain ⟨b, w', h1, h2⟩ := hr w hw
          unfold Oper.wp
          rw [h1]
          exact Y1_wp hQ f _ (some b) _ w' h2 (hk b)
        · obtain ⟨v, w', h1, _, h3⟩ := hk w hw
          unfold Oper.wp
          rcases h1 with h1 | ⟨h1, rfl⟩
          · rw [h1]; exact yAny_wp hQ f _ _ _ h3
          · rw [h1]; exact yAny_wp hQ f _ _ _ h3
      · rename_i hwt
        rw [if_neg hwt] at hh
        exact Y1_wp hQ f _ ob _ w hw hh.2
theorem Y1_first {i : Nat} {oi : Oper} {v : Value} (hi : ops[i]? = some oi) (hin : i < n) (hia : i ≠ al) (hsel : ∀ (j : Nat) (o : Oper) cs b, ops[j]? = some o → o.op ≠ .select cs b) (hc : barB md ops n = true) (f : Nat) :
    ∀ (q : Array Bool) (ob : Option Nat) (a : Act), Shut md ops q →
      (∀ j oj, ops[j]? = some oj → j ≠ i → q.getD j true = false → (∀ e ∈ oj.after, Region.binds md e = true → e.on ≠ i) → oi.apart ops oj = true) →
      i ∈ Region.ready md ops q → YF P ops D oi v a → (lateB md ops n i = true → YieldsC P ops G oi v a) →
      Y1 P md ops D G al n Q f (q.setIfInBounds i true) ob (a.put oi.dst v) → Y1 P md ops D G al n Q (f + 1) q ob a := by
  have own : ∀ (g : Nat) (q : Array Bool) (ob : Option Nat) (a : Act), YF P ops D oi v a → Y1 P md ops D G al n Q g (q.setIfInBounds i true) ob (a.put oi.dst v) → z1 P md ops D G al n Q i g q (Y1 P md ops D G al n Q g (q.setIfInBounds i true)) ob a := by
    intro g q ob a hy H
    unfold z1
    simp only [hi]
    rcases hy with ⟨hw, hv⟩ | ⟨hw, rfl⟩
    · rw [if_pos hw]; exact .inl ⟨hin, hia, v, hv, H⟩
    · rw [if_neg (by rw [hw]; simp)]; exact ⟨hin, H⟩
  induction f with
  | zero =>
    intro q ob a _ _ hr hy _ H
    refine ⟨fun h => absurd h (List.ne_nil_of_mem hr), fun j hj => ?_⟩
    by_cases hji : j = i
    · subst hji; exact own 0 q ob a hy H
    · have := ready_mono hj hji
      rw [H.1] at this
      cases this
  | succ f ih =>
    intro q ob a hsh hfree hr hy hyl H
    refine ⟨fun h => absurd h (List.ne_nil_of_mem hr), fun j hj => ?_⟩
    by_cases hji : j = i
    · subst hji; exact own (f + 1) q ob a hy H
    have hun : q.getD i false = false := getD_both (mem_ready.1 hr).1
    obtain ⟨hjun, oj, hoj, hall⟩ := mem_ready.1 hj
    have hnot : ∀ e ∈ oj.after, Region.binds md e = true → e.on ≠ i := by
      intro e he hb heq
      have := hall e he hb
      rw [heq, hun] at this
      cases this
    obtain ⟨h1, h2, h3⟩ := Oper.apart_spec (hfree j oj hoj hji hjun hnot)
    have si := fun cs b => hsel i oi cs b hi
    have sj := fun cs b => hsel j oj cs b hoj
    have ekeep : ∀ u, execOp (a.put oj.dst u).eval oi = execOp a.eval oi := fun u => execOp_put oi si a oj.dst u h3
    have wkeep : ∀ u, Region.wanted oi (yielded ops (a.put oj.dst u).tmps) = Region.wanted oi (yielded ops a.tmps) := fun u => wanted_put oi a oj.dst u h3
    have hfree' : ∀ k ok, ops[k]? = some ok → k ≠ i → (q.setIfInBounds j true).getD k true = false → (∀ e ∈ ok.after, Region.binds md e = true → e.on ≠ i) → oi.apart ops ok = true := by
      intro k ok hk hki hku hkn
      refine hfree k ok hk hki ?_ hkn
      by_cases hjk : j = k
      · exact hjk ▸ hjun
      · rwa [getD_set_ne true hjk] at hku
    have hr' := ready_mono hr (Ne.symm hji)
    have go : ∀ (ob : Option Nat) (u : Value), Y1 P md ops D G al n Q f ((q.setIfInBounds i true).setIfInBounds j true) ob ((a.put oi.dst v).put oj.dst u) → Y1 P md ops D G al n Q (f + 1) (q.setIfInBounds j true) ob (a.put oj.dst u) := by
      intro ob u hk
      refine ih (q.setIfInBounds j true) ob (a.put oj.dst u) (hsh.more hj) hfree' hr' (hy.of_same (ekeep u) (wkeep u)) (fun hl => (hyl hl).of_same (ekeep u) (wkeep u)) ?_
      rw [Array.setIfInBounds_comm _ _ hji, ← Act.put_comm a v u h2]
      exact hk
    have hh := H.2 j (ready_mono hj hji)
    unfold z1 at hh ⊢
    simp only [hoj] at hh ⊢
    rw [wanted_put oj a oi.dst v h1] at hh
    have ej := execOp_put oj sj a oi.dst v h1
    split
    · rename_i hw
      rw [if_pos hw] at hh
      rcases hh with ⟨g1, g2, u, g3, g4⟩ | ⟨g1, g2, g3, g4⟩ | ⟨g1, g2⟩
      · exact .inl ⟨g1, g2, u, g3.of_same ej.symm, go ob u g4⟩
      · rw [ej] at g3
        exact .inr (.inl ⟨g1, g2, g3, fun b => go (some b) (ptrV b) (g4 b)⟩)
      · rw [ej] at g2
        refine .inr (.inr ⟨g1, fun w hw' => ?_⟩)
        obtain ⟨u, w', k1, k2, k3⟩ := g2 w hw'
        have hl := late_of hc hsh hj g1 hun
        refine ⟨u, w', k1, k2, ?_⟩
        refine yAny_first (W := fun _ => G) hi hin hsel hc f (q.setIfInBounds j true) (a.put oj.dst u) w' (hsh.more hj) hfree' hr' (k2 i hin hl (no_wait hj hun)) ((hyl hl).of_same (ekeep u) (wkeep u)) ?_
        rw [Array.setIfInBounds_comm _ _ hji, ← Act.put_comm a v u h2]
        exact k3
    · rename_i hw
      rw [if_neg hw] at hh
      exact ⟨hh.1, go ob undef hh.2⟩
def zHead (P : Program) (ops : Array Oper) (D : Option Nat → World → Prop) (G : World → Prop) (md : Region.Mode) (n : Nat) (R : Act → Prop) : Nat → List Oper → Act → Prop
  | _, [], a => R a
  | k, o :: r, a => if Region.wanted o (yielded ops a.tmps) then (∃ v, QF P D o a v ∧ (lateB md ops n k = true → ∀ w, G w → (execOp a.eval o).run P w = .ok (.value v) w) ∧ zHead P ops D G md n R (k + 1) r (a.put o.dst v)) else zHead P ops D G md n R (k + 1) r (a.put o.dst undef)
def zNew (P : Program) (md : Region.Mode) (ops : Array Oper) (D : Option Nat → World → Prop) (G : World → Prop) (al n : Nat) (Q : Act → World → Prop) (a : Act) : Prop :=
  ∃ o, ops[al]? = some o ∧ o.guard = none ∧ (∀ w, D none w → ∃ b w', (execOp a.eval o).run P w = .ok (.value (ptrV b)) w' ∧ D (some b) w') ∧
    ∀ b w, D (some b) w → yTail P md ops (fun _ => G) n Q n (ops.toList.drop n) (a.put o.dst (ptrV b)) w
theorem Y1_tail : ∀ (l : List Oper) (q : Array Bool) (ob : Option Nat) (a : Act), (∀ j, l[j]? = ops[n + j]?) → Region.seqB md ops l.length n q = true → (∀ o ∈ l, o.guard = none) → (∀ w, D ob w → yTail P md ops (fun _ => G) n Q n l a w) → Y1 P md ops D G al n Q l.length q ob a
  | [], q, ob, a, _, hB, _, h => ⟨by simpa [Region.seqB] using hB, h⟩
  | o :: l, q, ob, a, hl, hB, hg, h => by
    have h0 : ops[n]? = some o := by simpa using (hl 0).symm
    simp only [List.length_cons, Region.seqB, Bool.and_eq_true, decide_eq_true_eq] at hB
    refine ⟨fun h1 => (by rw [hB.1] at h1; cases h1), fun i hi => ?_⟩
    rw [hB.1] at hi
    have hik : i = n := by simpa using hi
    subst hik
    have hw : Region.wanted o (yielded ops a.tmps) = true := by unfold Region.wanted; rw [hg o (by simp)]
    unfold z1
    simp only [h0]
    rw [if_pos hw]
    refine .inr (.inr ⟨Nat.le_refl _, fun w hw' => ?_⟩)
    have := h w hw'
    unfold yTail at this
    rw [if_pos hw] at this
    obtain ⟨v, w', h1, h2, h3⟩ := this
    exact ⟨v, w', h1, h2, yAny_tail l (i + 1) (q.setIfInBounds i true) _ w' (by omega) (fun j => by have := hl (j + 1); simpa [Nat.add_assoc, Nat.add_comm 1 j] using this) hB.2 h3⟩
theorem wp_region_new {id : Nat} {Q : Exit → Act → World → Prop} {a : Act} {w : World} (hm : P.follows .mixedOrders = true) (hB : lexMoveB .any ops (al + 1) = true) (hc : barB .any ops (al + 1) = true) (hal : lateB .any ops (al + 1) al = false) (hg : ∀ o ∈ ops.toList.drop (al + 1), o.guard = none) (hD : D none { w with drawn := w.drawn + 1 })
    (h : zHead P ops D G .any (al + 1) (zNew P .any ops D G al (al + 1) (fun a w => Q .normal a w)) 0 (ops.toList.take al) a) : (Code.region id ops true).wp P Q a w := by
  simp only [lexMoveB, Bool.and_eq_true, decide_eq_true_eq] at hB
  obtain ⟨⟨hsel, hn⟩, hlex⟩ := hB
  refine wp_region_any hm ?_
  have hdl : (ops.toList.drop (al + 1)).length = ops.size - (al + 1) := by simp
  have hsh : Shut .any ops (Array.replicate ops.size false) := by
    intro j k hj
    rw [getD_replicate_false] at hj
    cases hj
  have key : ∀ (l : List Oper) (k : Nat) (q : Array Bool) (a : Act), (∀ j, j < l.length → l[j]? = ops[k + j]?) → k + l.length = al → (∀ j, j < k → q.getD j false = true) → q.size = ops.size → Shut .any ops q →
      Region.lexHead .any ops (ops.size - (al + 1)) (l.length + 1) k q = true → zHead P ops D G .any (al + 1) (zNew P .any ops D G al (al + 1) (fun a w => Q .normal a w)) k l a →
      Y1 P .any ops D G al (al + 1) (fun a w => Q .normal a w) (l.length + 1 + (ops.size - (al + 1))) q none a := by
    intro l
    induction l with
    | nil =>
      intro k q a _ hk hq hqs hsh hB h
      have : k = al := by simpa using hk
      subst this
      obtain ⟨o, ho, hgo, hrun, htail⟩ := h
      simp only [List.length_nil, Region.lexHead, Bool.and_eq_true] at hB
      obtain ⟨⟨hr, _⟩, hB'⟩ := hB
      have hr' : k ∈ Region.ready .any ops q := by simpa using hr
      have hun : q.getD k false = false := getD_both (mem_ready.1 hr').1
      rw [show ([] : List Oper).length + 1 + (ops.size - (k + 1)) = (ops.size - (k + 1)) + 1 by simp; omega]
      refine ⟨fun h1 => absurd h1 (List.ne_nil_of_mem hr'), fun j hj => ?_⟩
      have hjk : j = k := by
        rcases Nat.lt_trichotomy j k with h1 | h1 | h1
        · have := getD_both (mem_ready.1 hj).1
          rw [hq j h1] at this
          cases this
        · exact h1
        · have := late_of hc hsh hj h1 hun
          rw [hal] at this
          cases this
      subst hjk
      have hw : Region.wanted o (yielded ops a.tmps) = true := by unfold Region.wanted; rw [hgo]
      unfold z1
      simp only [ho]
      rw [if_pos hw]
      refine .inr (.inl ⟨by simp, by simp, hrun, fun b => ?_⟩)
      have := Y1_tail (P := P) (D := D) (G := G) (al := j) (n := j + 1) (Q := fun a w => Q .normal a w) (ops.toList.drop (j + 1)) (q.setIfInBounds j true) (some b) (a.put o.dst (ptrV b)) (fun i => by simp [List.getElem?_drop]) (by rw [hdl]; exact hB') hg (htail b)
      rwa [hdl] at this
    | cons o l ih =>
      intro k q a hl hk hq hqs hsh hB h
      have h0 : ops[k]? = some o := by simpa using (hl 0 (by simp)).symm
      simp only [List.length_cons] at hB hk
      rw [Region.lexHead] at hB
      simp only [Bool.and_eq_true] at hB
      obtain ⟨⟨hr, hf⟩, hB'⟩ := hB
      have hka : k < al := by omega
      have hr' : k ∈ Region.ready .any ops q := by simpa using hr
      have hkl : k < ops.size := (Array.getElem?_eq_some_iff.1 h0).1
      have ih' := fun a' h' => ih (k + 1) (q.setIfInBounds k true) a' (fun j hj => by have := hl (j + 1) (by simp; omega); simpa [Nat.add_assoc, Nat.add_comm 1 j] using this) (by omega) (fun j hj => by
        by_cases e : k = j
        · subst e; simp [hqs, hkl]
        · rw [getD_set_ne false e]; exact hq j (by omega)) (by simp [hqs]) (hsh.more hr') hB' h'
      rw [show (o :: l).length + 1 + (ops.size - (al + 1)) = (l.length + 1 + (ops.size - (al + 1))) + 1 by simp; omega]
      unfold zHead at h
      split at h
      · rename_i hw
        obtain ⟨v, hv, hlv, hn⟩ := h
        exact Y1_first h0 (by omega) (by omega) (Region.noSelect_spec hsel) hc _ q none a hsh (Region.free_spec h0 hf) hr' (.inl ⟨hw, hv⟩) (fun hl => .inl ⟨hw, hlv hl⟩) (ih' _ hn)
      · rename_i hw
        have hw' : Region.wanted o (yielded ops a.tmps) = false := by simpa using hw
        exact Y1_first h0 (by omega) (by omega) (Region.noSelect_spec hsel) hc _ q none a hsh (Region.free_spec h0 hf) hr' (.inr ⟨hw', rfl⟩) (fun _ => .inr ⟨hw', rfl⟩) (ih' _ h)
  have htl : (ops.toList.take al).length = al := by simp; omega
  have := key (ops.toList.take al) 0 (Array.replicate ops.size false) a (fun j hj => by rw [htl] at hj; simp [hj]) (by simpa using htl) (fun j hj => by omega) (by simp) hsh (by rw [htl]; exact hlex) h
  rw [htl, show al + 1 + (ops.size - (al + 1)) = ops.size by omega] at this
  exact Y1_wp (fun _ _ h => h) _ _ none _ _ hD this
theorem wp_region_tail {id : Nat} {Q : Exit → Act → World → Prop} {a : Act} {w : World} (hm : P.follows .mixedOrders = true) (hB : lexMoveB .any ops n = true) (hc : barB .any ops n = true) (hg : ∀ o ∈ ops.toList.drop n, o.guard = none) (hD : D none { w with drawn := w.drawn + 1 })
    (h : zHead P ops D G .any n (fun a' => ∀ w, D none w → yTail P .any ops (fun _ => G) n (fun a w => Q .normal a w) n (ops.toList.drop n) a' w) 0 (ops.toList.take n) a) : (Code.region id ops true).wp P Q a w := by
  simp only [lexMoveB, Bool.and_eq_true, decide_eq_true_eq] at hB
  obtain ⟨⟨hsel, hn⟩, hlex⟩ := hB
  refine wp_region_any hm ?_
  have hdl : (ops.toList.drop n).length = ops.size - n := by simp
  have hsh : Shut .any ops (Array.replicate ops.size false) := by
    intro j k hj
    rw [getD_replicate_false] at hj
    cases hj
  have key : ∀ (l : List Oper) (k : Nat) (q : Array Bool) (a : Act), (∀ j, j < l.length → l[j]? = ops[k + j]?) → k + l.length = n → Shut .any ops q →
      Region.lexHead .any ops (ops.size - n) l.length k q = true → zHead P ops D G .any n (fun a' => ∀ w, D none w → yTail P .any ops (fun _ => G) n (fun a w => Q .normal a w) n (ops.toList.drop n) a' w) k l a →
      Y1 P .any ops D G ops.size n (fun a w => Q .normal a w) (l.length + (ops.size - n)) q none a := by
    intro l
    induction l with
    | nil =>
      intro k q a _ hk hsh hB h
      have : k = n := by simpa using hk
      subst this
      have := Y1_tail (P := P) (D := D) (G := G) (al := ops.size) (n := k) (Q := fun a w => Q .normal a w) (ops.toList.drop k) q none a (fun i => by simp [List.getElem?_drop]) (by rw [hdl]; simpa [Region.lexHead] using hB) hg h
      rw [hdl] at this
      simpa using this
    | cons o l ih =>
      intro k q a hl hk hsh hB h
      have h0 : ops[k]? = some o := by simpa using (hl 0 (by simp)).symm
      simp only [List.length_cons] at hB hk
      rw [Region.lexHead] at hB
      simp only [Bool.and_eq_true] at hB
      obtain ⟨⟨hr, hf⟩, hB'⟩ := hB
      have hr' : k ∈ Region.ready .any ops q := by simpa using hr
      have hkl : k < ops.size := (Array.getElem?_eq_some_iff.1 h0).1
      have ih' := fun a' h' => ih (k + 1) (q.setIfInBounds k true) a' (fun j hj => by have := hl (j + 1) (by simp; omega); simpa [Nat.add_assoc, Nat.add_comm 1 j] using this) (by omega) (hsh.more hr') hB' h'
      rw [show (o :: l).length + (ops.size - n) = (l.length + (ops.size - n)) + 1 by simp; omega]
      unfold zHead at h
      split at h
      · rename_i hw
        obtain ⟨v, hv, hlv, hn⟩ := h
        exact Y1_first h0 (by omega) (by omega) (Region.noSelect_spec hsel) hc _ q none a hsh (Region.free_spec h0 hf) hr' (.inl ⟨hw, hv⟩) (fun hl => .inl ⟨hw, hlv hl⟩) (ih' _ hn)
      · rename_i hw
        have hw' : Region.wanted o (yielded ops a.tmps) = false := by simpa using hw
        exact Y1_first h0 (by omega) (by omega) (Region.noSelect_spec hsel) hc _ q none a hsh (Region.free_spec h0 hf) hr' (.inr ⟨hw', rfl⟩) (fun _ => .inr ⟨hw', rfl⟩) (ih' _ h)
  have htl : (ops.toList.take n).length = n := by simp; omega
  have := key (ops.toList.take n) 0 (Array.replicate ops.size false) a (fun j hj => by rw [htl] at hj; simp [hj]) (by simpa using htl) hsh (by rw [htl]; exact hlex) h
  rw [htl, show n + (ops.size - n) = ops.size by omega] at this
  exact Y1_wp (fun _ _ h => h) _ _ none _ _ hD this
end
end Go.AI
