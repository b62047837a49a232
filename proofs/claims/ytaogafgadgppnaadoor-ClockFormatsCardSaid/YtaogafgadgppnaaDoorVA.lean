import Derived.Test.YtaogafgadgppnaaDoorG2
import Derived.Test.YtaogafgadgppnaaDoorA16
import Derived.Test.YtaogafgadgppnaaDoorSB
import Derived.Test.YtaogafgadgppnaaDoorLS
namespace Go.Proofs.YtaogafgadgppnaaDoor
open Go Go.AI Go.Proofs
set_option linter.unusedSimpArgs false
set_option linter.unusedVariables false
theorem get_mid {β : Type} (U W : List β) (x : β) (i : Nat) (h : i = U.length) : (U ++ x :: W)[i]? = some x := by subst h; simp
structure Win where
  a : Int
  b : Int
  deriving DecidableEq
def Win.av (w : Win) : AV := .agg [.int .i64 w.a, .int .i64 w.b]
def Win.ok (w : Win) : Prop := 0 ≤ w.a ∧ w.a ≤ w.b ∧ w.b ≤ 3155760000
instance (w : Win) : Decidable w.ok := by unfold Win.ok; infer_instance
def hasT (t : Int) (w : Win) : Bool := decide (w.a ≤ t ∧ t < w.b)
def mrgF (c : Win) : List Win → List Win
  | [] => [c]
  | w :: r => if w.a ≤ c.b then mrgF ⟨c.a, max c.b w.b⟩ r else c :: mrgF w r
def mrg : List Win → List Win
  | [] => []
  | w :: r => mrgF w r
def mrgO (c : Option Win) (r : List Win) : List Win := match c with | none => mrg r | some c => mrgF c r
/-- Sorted, not empty, apart. -/
def Canon (l : List Win) : Prop := (∀ w ∈ l, w.a < w.b) ∧ l.Pairwise (fun x y => x.b < y.a)
theorem mrgF_canon : ∀ (r : List Win) (c : Win), c.a < c.b → (∀ w ∈ r, c.a ≤ w.a ∧ w.a < w.b) → r.Pairwise (fun x y => x.a ≤ y.a) → Canon (mrgF c r) ∧ ∀ w ∈ mrgF c r, c.a ≤ w.a
  | [], c, h, _, _ => by
    refine ⟨⟨?_, ?_⟩, ?_⟩ <;> simp [mrgF]
    exact h
  | w :: r, c, h, hr, hs => by
    have hs' := List.pairwise_cons.1 hs
    have hw := hr w (by simp)
    rw [mrgF]
    split
    · have := mrgF_canon r ⟨c.a, max c.b w.b⟩ (by simp only; omega) (fun v hv => hr v (by simp [hv])) hs'.2
      exact this
    · rename_i hn
      have := mrgF_canon r w hw.2 (fun v hv => ⟨hs'.1 v hv, (hr v (by simp [hv])).2⟩) hs'.2
      refine ⟨⟨fun v hv => ?_, List.pairwise_cons.2 ⟨fun v hv => ?_, this.1.2⟩⟩, fun v hv => ?_⟩
      · rcases List.mem_cons.1 hv with rfl | hv
        · exact h
        · exact this.1.1 v hv
      · have := this.2 v hv; omega
      · rcases List.mem_cons.1 hv with rfl | hv
        · omega
        · have := this.2 v hv; omega
theorem mrgF_mem (t : Int) : ∀ (r : List Win) (c : Win), (∀ w ∈ r, c.a ≤ w.a) → r.Pairwise (fun x y => x.a ≤ y.a) → (mrgF c r).any (hasT t) = (hasT t c || r.any (hasT t))
  | [], c, _, _ => by simp [mrgF]
  | w :: r, c, hr, hs => by
    have hs' := List.pairwise_cons.1 hs
    have hw := hr w (by simp)
    rw [mrgF]
    split
    · rename_i hle
      rw [mrgF_mem t r ⟨c.a, max c.b w.b⟩ (fun v hv => hr v (by simp [hv])) hs'.2, List.any_cons, ← Bool.or_assoc]
      congr 1
      unfold hasT
      rw [Bool.eq_iff_iff]
      simp only [Bool.or_eq_true, decide_eq_true_eq]
      omega
    · rw [List.any_cons, mrgF_mem t r w (fun v hv => hs'.1 v hv) hs'.2, List.any_cons]
theorem mrg_canon {s : List Win} (h : ∀ w ∈ s, w.a < w.b) (hs : s.Pairwise (fun x y => x.a ≤ y.a)) : Canon (mrg s) := by
  cases s with
  | nil => exact ⟨by simp [mrg], List.Pairwise.nil⟩
  | cons w r =>
    have hs' := List.pairwise_cons.1 hs
    exact (mrgF_canon r w (h w (by simp)) (fun v hv => ⟨hs'.1 v hv, h v (by simp [hv])⟩) hs'.2).1
theorem mrg_mem (t : Int) {s : List Win} (hs : s.Pairwise (fun x y => x.a ≤ y.a)) : (mrg s).any (hasT t) = s.any (hasT t) := by
  cases s with
  | nil => rfl
  | cons w r =>
    have hs' := List.pairwise_cons.1 hs
    rw [List.any_cons]
    exact mrgF_mem t r w hs'.1 hs'.2
theorem hasT_iff {t : Int} {w : Win} : hasT t w = true ↔ w.a ≤ t ∧ t < w.b := by unfold hasT; exact decide_eq_true_iff
theorem any_far {t : Int} {x : Win} {l : List Win} (h : ∀ y ∈ l, x.b < y.a) (ht : t ≤ x.b) : l.any (hasT t) = false := by
  rw [List.any_eq_false]
  intro y hy e
  have := h y hy
  have := hasT_iff.1 e
  omega
/-- Windows in this form are known from their moments. -/
theorem canon_uniq : ∀ (l1 l2 : List Win), Canon l1 → Canon l2 → (∀ t, l1.any (hasT t) = l2.any (hasT t)) → l1 = l2
  | [], [], _, _, _ => rfl
  | [], y :: l2, _, h2, h => by
    have := h y.a
    have hy := h2.1 y (by simp)
    rw [List.any_nil, List.any_cons, hasT_iff.2 ⟨Int.le_refl _, hy⟩] at this
    simp at this
  | x :: l1, [], h1, _, h => by
    have := h x.a
    have hx := h1.1 x (by simp)
    rw [List.any_nil, List.any_cons, hasT_iff.2 ⟨Int.le_refl _, hx⟩] at this
    simp at this
  | x :: l1, y :: l2, h1, h2, h => by
    have hx := h1.1 x (by simp)
    have hy := h2.1 y (by simp)
    have p1 := List.pairwise_cons.1 h1.2
    have p2 := List.pairwise_cons.1 h2.2
    have low : ∀ (u v : Win) (l : List Win), v.a < v.b → (∀ w ∈ l, v.b < w.a) → (∃ w ∈ v :: l, w.a ≤ u.a) → v.a ≤ u.a := by
      rintro u v l hv hl ⟨w, hw, e⟩
      rcases List.mem_cons.1 hw with rfl | hw
      · exact e
      · have := hl w hw; omega
    have ha : x.a = y.a := by
      have e1 := h x.a
      have e2 := h y.a
      rw [List.any_cons (l := l1), hasT_iff.2 ⟨Int.le_refl _, hx⟩, Bool.true_or, eq_comm, List.any_eq_true] at e1
      rw [List.any_cons (l := l2), hasT_iff.2 ⟨Int.le_refl _, hy⟩, Bool.true_or, List.any_eq_true] at e2
      obtain ⟨w1, m1, k1⟩ := e1
      obtain ⟨w2, m2, k2⟩ := e2
      have := low x y l2 hy p2.1 ⟨w1, m1, (hasT_iff.1 k1).1⟩
      have := low y x l1 hx p1.1 ⟨w2, m2, (hasT_iff.1 k2).1⟩
      omega
    have hb : x.b = y.b := by
      rcases Int.lt_trichotomy x.b y.b with hlt | he | hgt
      · have e := h x.b
        rw [List.any_cons, List.any_cons, any_far p1.1 (Int.le_refl _), hasT_iff.2 (show y.a ≤ x.b ∧ x.b < y.b by omega)] at e
        have : hasT x.b x = false := by unfold hasT; exact decide_eq_false (by omega)
        rw [this] at e
        simp at e
      · exact he
      · have e := h y.b
        rw [List.any_cons, List.any_cons, any_far p2.1 (Int.le_refl _), hasT_iff.2 (show x.a ≤ y.b ∧ y.b < x.b by omega)] at e
        have : hasT y.b y = false := by unfold hasT; exact decide_eq_false (by omega)
        rw [this] at e
        simp at e
    have hxy : x = y := by
      cases x; cases y; simp only at ha hb; rw [ha, hb]
    subst hxy
    rw [canon_uniq l1 l2 ⟨fun w hw => h1.1 w (by simp [hw]), p1.2⟩ ⟨fun w hw => h2.1 w (by simp [hw]), p2.2⟩ (fun t => ?_)]
    by_cases ht : t ≤ x.b
    · rw [any_far p1.1 ht, any_far p2.1 ht]
    · have e := h t
      have : hasT t x = false := by unfold hasT; exact decide_eq_false (by omega)
      rw [List.any_cons, List.any_cons, this, Bool.false_or, Bool.false_or] at e
      exact e
def keep (l : List Win) : List Win := l.filter (fun w => decide (w.a < w.b))
def insW (w : Win) : List Win → List Win
  | [] => [w]
  | x :: r => if w.a < x.a then w :: x :: r else x :: insW w r
def srtW (l : List Win) : List Win := l.foldl (fun s w => insW w s) []
def nrm (l : List Win) : List Win := mrg (srtW (keep l))
theorem insW_perm (w : Win) : ∀ l, (insW w l).Perm (w :: l)
  | [] => .refl _
  | x :: r => by
    unfold insW
    split
    · exact .refl _
    · exact ((insW_perm w r).cons x).trans (.swap w x r)
theorem insW_sorted (w : Win) : ∀ l : List Win, l.Pairwise (fun x y => x.a ≤ y.a) → (insW w l).Pairwise (fun x y => x.a ≤ y.a)
  | [], _ => by simp [insW]
  | x :: r, h => by
    have h' := List.pairwise_cons.1 h
    unfold insW
    split
    · refine List.pairwise_cons.2 ⟨fun y hy => ?_, h⟩
      rcases List.mem_cons.1 hy with rfl | hy
      · omega
      · have := h'.1 y hy; omega
    · refine List.pairwise_cons.2 ⟨fun y hy => ?_, insW_sorted w r h'.2⟩
      rcases List.mem_cons.1 ((insW_perm w r).mem_iff.1 hy) with rfl | hy
      · omega
      · exact h'.1 y hy
theorem srtW_spec (l : List Win) : (srtW l).Perm l ∧ (srtW l).Pairwise (fun x y => x.a ≤ y.a) := by
  have key : ∀ (l s : List Win), s.Pairwise (fun x y => x.a ≤ y.a) → (l.foldl (fun s w => insW w s) s).Perm (s ++ l) ∧ (l.foldl (fun s w => insW w s) s).Pairwise (fun x y => x.a ≤ y.a) := by
    intro l
    induction l with
    | nil => intro s hs; exact ⟨by simp, hs⟩
    | cons w r ih =>
      intro s hs
      have := ih (insW w s) (insW_sorted w s hs)
      refine ⟨this.1.trans ?_, this.2⟩
      refine ((insW_perm w s).append_right r).trans ?_
      rw [List.cons_append]
      exact List.perm_middle.symm
  have := key l [] List.Pairwise.nil
  exact this
theorem any_perm {s l : List Win} (h : s.Perm l) (t : Int) : s.any (hasT t) = l.any (hasT t) := by
  rw [Bool.eq_iff_iff, List.any_eq_true, List.any_eq_true]
  exact ⟨fun ⟨v, hv, e⟩ => ⟨v, h.mem_iff.1 hv, e⟩, fun ⟨v, hv, e⟩ => ⟨v, h.mem_iff.2 hv, e⟩⟩
theorem keep_any (l : List Win) (t : Int) : (keep l).any (hasT t) = l.any (hasT t) := by
  unfold keep
  rw [List.any_filter]
  congr 1
  funext w
  rw [Bool.eq_iff_iff, Bool.and_eq_true, decide_eq_true_eq, hasT_iff]
  omega
theorem keep_lt {l : List Win} : ∀ w ∈ keep l, w.a < w.b := fun w hw => of_decide_eq_true (List.mem_filter.1 hw).2
/-- However the windows are sorted, the union is this. -/
theorem nrm_of {l s : List Win} (hp : s.Perm (keep l)) (hs : s.Pairwise (fun x y => x.a ≤ y.a)) : mrg s = nrm l := by
  obtain ⟨q1, q2⟩ := srtW_spec (keep l)
  refine canon_uniq _ _ (mrg_canon (fun w hw => keep_lt w (hp.mem_iff.1 hw)) hs) (mrg_canon (fun w hw => keep_lt w (q1.mem_iff.1 hw)) q2) (fun t => ?_)
  unfold nrm
  rw [mrg_mem t hs, mrg_mem t q2, any_perm hp, any_perm q1]
theorem nrm_canon (l : List Win) : Canon (nrm l) := by
  obtain ⟨q1, q2⟩ := srtW_spec (keep l)
  exact mrg_canon (fun w hw => keep_lt w (q1.mem_iff.1 hw)) q2
theorem nrm_any (l : List Win) (t : Int) : (nrm l).any (hasT t) = l.any (hasT t) := by
  obtain ⟨q1, q2⟩ := srtW_spec (keep l)
  unfold nrm
  rw [mrg_mem t q2, any_perm q1, keep_any]
theorem mrgF_bd (N : Int) : ∀ (r : List Win) (c : Win), 0 ≤ c.a ∧ c.a < c.b ∧ c.b ≤ N → (∀ w ∈ r, 0 ≤ w.a ∧ w.a < w.b ∧ w.b ≤ N) → (∀ w ∈ mrgF c r, 0 ≤ w.a ∧ w.a < w.b ∧ w.b ≤ N) ∧ (mrgF c r).length ≤ r.length + 1
  | [], c, hc, _ => by simp [mrgF]; exact hc
  | w :: r, c, hc, hr => by
    have hw := hr w (by simp)
    rw [mrgF]
    split
    · have := mrgF_bd N r ⟨c.a, max c.b w.b⟩ (by simp only; omega) (fun v hv => hr v (by simp [hv]))
      exact ⟨this.1, by have := this.2; simp; omega⟩
    · have := mrgF_bd N r w hw (fun v hv => hr v (by simp [hv]))
      refine ⟨fun v hv => ?_, by have := this.2; simp; omega⟩
      rcases List.mem_cons.1 hv with rfl | hv
      · exact hc
      · exact this.1 v hv
theorem nrm_bd {l : List Win} (h : ∀ w ∈ l, w.ok) : (∀ w ∈ nrm l, 0 ≤ w.a ∧ w.a < w.b ∧ w.b ≤ 3155760000) ∧ (nrm l).length ≤ l.length := by
  obtain ⟨q1, _⟩ := srtW_spec (keep l)
  have hk : ∀ w ∈ srtW (keep l), 0 ≤ w.a ∧ w.a < w.b ∧ w.b ≤ 3155760000 := by
    intro w hw
    have h1 := q1.mem_iff.1 hw
    have h2 := keep_lt w h1
    have h3 := h w (List.mem_filter.1 h1).1
    unfold Win.ok at h3
    omega
  have hl : (srtW (keep l)).length ≤ l.length := by rw [q1.length_eq]; exact List.length_filter_le _ _
  unfold nrm
  generalize srtW (keep l) = s at *
  cases s with
  | nil => simp [mrg]
  | cons w r =>
    have := mrgF_bd 3155760000 r w (hk w (by simp)) (fun v hv => hk v (by simp [hv]))
    exact ⟨this.1, by have := this.2; simp only [List.length_cons] at hl; simp only [mrg]; omega⟩
/-! ### Intersections -/
def cutW (v w : Win) : Win := ⟨max v.a w.a, min v.b w.b⟩
def cutL (v : Win) : List Win → List Win
  | [] => []
  | w :: y => if (cutW v w).a < (cutW v w).b then cutW v w :: cutL v y else cutL v y
def cmnD : List Win → List Win → List Win
  | [], _ => []
  | v :: x, y => cutL v y ++ cmnD x y
def cmnP : List Win → List Win → List Win
  | [], _ => []
  | _ :: _, [] => []
  | v :: x, w :: y => (if (cutW v w).a < (cutW v w).b then [cutW v w] else []) ++ if v.b < w.b then cmnP x (w :: y) else cmnP (v :: x) y
termination_by x y => x.length + y.length
theorem cutL_mem {v u : Win} : ∀ {y : List Win}, u ∈ cutL v y → ∃ w ∈ y, u = cutW v w ∧ u.a < u.b
  | [], h => by simp [cutL] at h
  | w :: y, h => by
    unfold cutL at h
    split at h
    · rcases List.mem_cons.1 h with rfl | h
      · exact ⟨w, by simp, rfl, by assumption⟩
      · obtain ⟨w', h1, h2⟩ := cutL_mem h; exact ⟨w', by simp [h1], h2⟩
    · obtain ⟨w', h1, h2⟩ := cutL_mem h; exact ⟨w', by simp [h1], h2⟩
theorem cmnD_mem {u : Win} {y : List Win} : ∀ {x : List Win}, u ∈ cmnD x y → ∃ v ∈ x, ∃ w ∈ y, u = cutW v w ∧ u.a < u.b
  | [], h => by simp [cmnD] at h
  | v :: x, h => by
    rw [cmnD] at h
    rcases List.mem_append.1 h with h | h
    · obtain ⟨w, h1, h2⟩ := cutL_mem h; exact ⟨v, by simp, w, h1, h2⟩
    · obtain ⟨v', h1, h2⟩ := cmnD_mem h; exact ⟨v', by simp [h1], h2⟩
theorem cmnP_mem {u : Win} : ∀ (x y : List Win), u ∈ cmnP x y → ∃ v ∈ x, ∃ w ∈ y, u = cutW v w ∧ u.a < u.b
  | [], y, h => by simp [cmnP] at h
  | v :: x, [], h => by simp [cmnP] at h
  | v :: x, w :: y, h => by
    rw [cmnP] at h
    rcases List.mem_append.1 h with h | h
    · split at h
      · rcases List.mem_cons.1 h with rfl | h
        · exact ⟨v, by simp, w, by simp, rfl, by assumption⟩
        · simp at h
      · simp at h
    · split at h
      · obtain ⟨v', h1, w', h2, h3⟩ := cmnP_mem x (w :: y) h; exact ⟨v', by simp [h1], w', h2, h3⟩
      · obtain ⟨v', h1, w', h2, h3⟩ := cmnP_mem (v :: x) y h; exact ⟨v', h1, w', by simp [h2], h3⟩
termination_by x y => x.length + y.length
theorem canon_tl {x : Win} {l : List Win} (h : Canon (x :: l)) : Canon l := ⟨fun w hw => h.1 w (by simp [hw]), (List.pairwise_cons.1 h.2).2⟩
theorem cut_lt {v w : Win} : (cutW v w).b ≤ v.b ∧ (cutW v w).b ≤ w.b ∧ v.a ≤ (cutW v w).a ∧ w.a ≤ (cutW v w).a := by
  unfold cutW; simp only; omega
theorem cutL_canon (v : Win) : ∀ {y : List Win}, Canon y → Canon (cutL v y)
  | [], _ => ⟨by simp [cutL], List.Pairwise.nil⟩
  | w :: y, h => by
    have p := List.pairwise_cons.1 h.2
    have ih := cutL_canon v (canon_tl h)
    unfold cutL
    split
    · rename_i hc
      refine ⟨fun u hu => ?_, List.pairwise_cons.2 ⟨fun u hu => ?_, ih.2⟩⟩
      · rcases List.mem_cons.1 hu with rfl | hu
        · exact hc
        · exact ih.1 u hu
      · obtain ⟨w', h1, rfl, _⟩ := cutL_mem hu
        have := p.1 w' h1
        have := cut_lt (v := v) (w := w)
        have := cut_lt (v := v) (w := w')
        omega
    · exact ih
theorem cmnD_canon {y : List Win} (hy : Canon y) : ∀ {x : List Win}, Canon x → Canon (cmnD x y)
  | [], _ => ⟨by simp [cmnD], List.Pairwise.nil⟩
  | v :: x, h => by
    have p := List.pairwise_cons.1 h.2
    have i1 := cutL_canon v hy
    have i2 := cmnD_canon hy (canon_tl h)
    rw [cmnD]
    refine ⟨fun u hu => ?_, List.pairwise_append.2 ⟨i1.2, i2.2, fun u hu u' hu' => ?_⟩⟩
    · rcases List.mem_append.1 hu with hu | hu
      · exact i1.1 u hu
      · exact i2.1 u hu
    · obtain ⟨w, _, rfl, _⟩ := cutL_mem hu
      obtain ⟨v', h1, w', _, rfl, _⟩ := cmnD_mem hu'
      have := p.1 v' h1
      have := cut_lt (v := v) (w := w)
      have := cut_lt (v := v') (w := w')
      omega
theorem cmnP_canon : ∀ (x y : List Win), Canon x → Canon y → Canon (cmnP x y)
  | [], y, _, _ => by rw [cmnP]; exact ⟨by simp, List.Pairwise.nil⟩
  | v :: x, [], _, _ => by rw [cmnP]; exact ⟨by simp, List.Pairwise.nil⟩
  | v :: x, w :: y, hx, hy => by
    have px := List.pairwise_cons.1 hx.2
    have py := List.pairwise_cons.1 hy.2
    rw [cmnP]
    have fin : ∀ l : List Win, Canon l → (∀ u ∈ l, (cutW v w).b < u.a) → Canon ((if (cutW v w).a < (cutW v w).b then [cutW v w] else []) ++ l) := by
      intro l hl hu
      split
      · rename_i hc
        refine ⟨fun u h => ?_, List.pairwise_cons.2 ⟨hu, hl.2⟩⟩
        rcases List.mem_cons.1 h with rfl | h
        · exact hc
        · exact hl.1 u h
      · exact hl
    by_cases hvw : v.b < w.b
    · rw [if_pos hvw]
      refine fin _ (cmnP_canon x (w :: y) (canon_tl hx) hy) (fun u hu => ?_)
      obtain ⟨v', h1, w', _, rfl, _⟩ := cmnP_mem _ _ hu
      have := px.1 v' h1
      have := cut_lt (v := v) (w := w)
      have := cut_lt (v := v') (w := w')
      omega
    · rw [if_neg hvw]
      refine fin _ (cmnP_canon (v :: x) y hx (canon_tl hy)) (fun u hu => ?_)
      obtain ⟨v', _, w', h1, rfl, _⟩ := cmnP_mem _ _ hu
      have := py.1 w' h1
      have := cut_lt (v := v) (w := w)
      have := cut_lt (v := v') (w := w')
      omega
termination_by x y => x.length + y.length
theorem cut_has (t : Int) (v w : Win) : hasT t (cutW v w) = (hasT t v && hasT t w) := by
  rw [Bool.eq_iff_iff, Bool.and_eq_true, hasT_iff, hasT_iff, hasT_iff]
  unfold cutW; simp only; omega
theorem cut_any (t : Int) (v w : Win) : (if (cutW v w).a < (cutW v w).b then [cutW v w] else []).any (hasT t) = (hasT t v && hasT t w) := by
  rw [← cut_has]
  split
  · simp
  · rename_i h
    rw [List.any_nil]
    unfold hasT
    exact (decide_eq_false (by omega)).symm
theorem cutL_any (t : Int) (v : Win) : ∀ y : List Win, (cutL v y).any (hasT t) = (hasT t v && y.any (hasT t))
  | [] => by simp [cutL]
  | w :: y => by
    have h := cut_any t v w
    unfold cutL
    rw [List.any_cons, Bool.and_or_distrib_left, ← cutL_any t v y, ← h]
    split <;> simp
theorem cmnD_any (t : Int) (y : List Win) : ∀ x : List Win, (cmnD x y).any (hasT t) = (x.any (hasT t) && y.any (hasT t))
  | [] => by simp [cmnD]
  | v :: x => by rw [cmnD, List.any_append, cutL_any, cmnD_any t y x, List.any_cons, Bool.and_or_distrib_right]
theorem cmnP_any (t : Int) : ∀ (x y : List Win), Canon x → Canon y → (cmnP x y).any (hasT t) = (x.any (hasT t) && y.any (hasT t))
  | [], y, _, _ => by rw [cmnP]; simp
  | v :: x, [], _, _ => by rw [cmnP]; simp
  | v :: x, w :: y, hx, hy => by
    have px := List.pairwise_cons.1 hx.2
    have py := List.pairwise_cons.1 hy.2
    rw [cmnP, List.any_append, cut_any]
    split
    · rename_i hlt
      rw [cmnP_any t x (w :: y) (canon_tl hx) hy, List.any_cons (l := x), List.any_cons (l := y)]
      cases hv : hasT t v with
      | false => simp
      | true =>
        have := hasT_iff.1 hv
        rw [any_far (x := w) py.1 (by omega)]
        cases hasT t w <;> simp
    · rename_i hge
      rw [cmnP_any t (v :: x) y hx (canon_tl hy), List.any_cons (l := x), List.any_cons (l := y)]
      cases hw : hasT t w with
      | false => simp
      | true =>
        have := hasT_iff.1 hw
        rw [any_far (x := v) px.1 (by omega)]
        cases hasT t v <;> simp
termination_by x y => x.length + y.length
theorem cmnP_eq {x y : List Win} (hx : Canon x) (hy : Canon y) : cmnP x y = cmnD x y :=
  canon_uniq _ _ (cmnP_canon x y hx hy) (cmnD_canon hy hx) (fun t => by rw [cmnP_any t x y hx hy, cmnD_any])
theorem cmnD_comm {x y : List Win} (hx : Canon x) (hy : Canon y) : cmnD x y = cmnD y x :=
  canon_uniq _ _ (cmnD_canon hy hx) (cmnD_canon hx hy) (fun t => by rw [cmnD_any, cmnD_any, Bool.and_comm])
end Go.Proofs.YtaogafgadgppnaaDoor

namespace Go.Proofs.YtaogafgadgppnaaDoor
open Go Go.AI Go.Proofs
set_option linter.unusedSimpArgs false
set_option linter.unusedVariables false
set_option maxRecDepth 4000
theorem cmp40_ok (x y : Win) (hx : 0 ≤ x.a ∧ x.a ≤ 3155760000) (hy : 0 ≤ y.a ∧ y.a ≤ 3155760000) : CallsTo Tryd.prog 40 [x.av, y.av] [.p (.int .i64 (x.a - y.a))] := by
  refine f40_calls (Nat.le_of_ble_eq_true rfl) ?_
  (repeat' (first | simp (maxSteps := 2000000) (disch := omega) only [go_sem, ↓reduceIte, reduceIte, Nat.reduceAdd, Nat.reduceLT, Nat.reduceEqDiff, Nat.reduceLeDiff, Nat.reduceMul, Win.av]))
abbrev VWin := { x : Win // 0 ≤ x.a ∧ x.a ≤ 3155760000 }
instance : Inhabited VWin := ⟨⟨⟨0, 0⟩, by decide⟩⟩
theorem sort39_ok (l : List Win) (h : ∀ x ∈ l, 0 ≤ x.a ∧ x.a ≤ 3155760000) (hn : l.length ≤ 1048576) :
    ∃ s : List Win, s.Perm l ∧ s.Pairwise (fun a b => a.a ≤ b.a) ∧ SortsTo Tryd.prog 39 34 2 (l.map Win.av) [.fn 40 []] (s.map Win.av) := by
  let cf : VWin → VWin → Int := fun x y => x.1.a - y.1.a
  have hO : Go.Sort.SWO (Go.Proofs.ltOf cf) := by
    constructor
    · intro x; simp [Go.Proofs.ltOf, cf]
    · intro x y z h1 h2; simp [Go.Proofs.ltOf, cf] at *; omega
    · intro x y z h1 h2; simp [Go.Proofs.ltOf, cf] at *; omega
  have hs := sortsTo_of sortWin 2 Tryd.isAgg34 Tryd.sizeOf34 (fun x : VWin => [.int .i64 x.1.a, .int .i64 x.1.b]) (fun _ => rfl)
    (fun x c hc => by simp at hc; rcases hc with rfl | rfl <;> exact ⟨rfl, rfl, fun s e => by cases e⟩) cf hO 40 [] (fun x y => cmp40_ok x.1 y.1 x.2 y.2)
  let l' : List VWin := l.pmap Subtype.mk h
  have hl' : l'.map Subtype.val = l := by simp [l', List.map_pmap]
  have hlen : l'.length = l.length := by simp [l']
  obtain ⟨p1, p2⟩ := sortL_spec cf hO l'
  refine ⟨(sortL cf l').map Subtype.val, ?_, ?_, ?_⟩
  · rw [← hl']; exact p1.map _
  · rw [List.pairwise_map]
    refine p2.imp ?_
    intro a b hab
    simp only [cf] at hab; omega
  · have := hs l' (by omega)
    have e1 : l'.map (fun x : VWin => AV.agg [.int .i64 x.1.a, .int .i64 x.1.b]) = l.map Win.av := by
      conv => rhs; rw [← hl', List.map_map]
      rfl
    have e2 : (sortL cf l').map (fun x : VWin => AV.agg [.int .i64 x.1.a, .int .i64 x.1.b]) = ((sortL cf l').map Subtype.val).map Win.av := by
      rw [List.map_map]; rfl
    rw [e1, e2] at this
    exact this
end Go.Proofs.YtaogafgadgppnaaDoor

namespace Go.Proofs.YtaogafgadgppnaaDoor
open Go Go.AI Go.Proofs
set_option linter.unusedSimpArgs false
set_option linter.unusedVariables false
set_option maxRecDepth 4000
theorem win_scal (l : List Win) : ∀ c ∈ flat (l.map Win.av), c.scal = true := by
  intro c hc
  induction l with
  | nil => simp [flat] at hc
  | cons x l ih =>
    simp only [List.map_cons, flat, AV.cells, Win.av, List.mem_append, List.mem_cons, List.not_mem_nil, or_false] at hc
    rcases hc with (rfl | rfl) | hc
    · rfl
    · rfl
    · exact ih hc
theorem stO_to {l : List Win} {i : Nat} {x : Win} (hx : l[i]? = some x) {q : Int} {k : Ob → Prop} (h : Run (k (.arr 34 2 ((l.set i ⟨x.a, q⟩).map Win.av)))) : Run (stO (some (.arr 34 2 (l.map Win.av))) 1 i 1 (.int .i64 q) k) := by
  refine ⟨rfl, rfl, rfl, ?_⟩
  rw [List.getElem?_map, hx]
  refine ⟨by simp [Win.av, AV.cells], ?_⟩
  rw [List.map_set] at h
  exact h
def allOk (l : List Win) : Bool := l.all (fun w => decide w.ok)
theorem allOk_iff {l : List Win} : allOk l = true ↔ ∀ w ∈ l, w.ok := by unfold allOk; simp
def mergeR (l : List Win) : List Win := if allOk l = true then nrm l else []
def mergeE (l : List Win) : Int := if allOk l = true then 0 else 1
theorem keep_snoc (d : List Win) (x : Win) : keep (d ++ [x]) = if x.a < x.b then keep d ++ [x] else keep d := by
  unfold keep
  rw [List.filter_append, List.filter_cons]
  by_cases h : x.a < x.b
  · rw [if_pos h, if_pos (decide_eq_true h)]; simp
  · rw [if_neg h, if_neg (by simpa using h)]; simp
set_option maxHeartbeats 8000000 in
theorem merge25_ok (l : List Win) (hn : l.length ≤ 1048576) : CallsTo Tryd.prog 25 [.sl (l.map Win.av)] [.fresh 34 2 ((mergeR l).map Win.av), .p (.int .i64 (mergeE l))] := by
  refine f25_calls (Nat.le_of_ble_eq_true rfl) ?_
  simp (maxSteps := 2000000) (disch := omega) only [go_sem, ↓reduceIte, reduceIte, Nat.reduceAdd, Nat.reduceLT, Nat.reduceEqDiff, Nat.reduceLeDiff, Nat.reduceMul]
  refine loop_of f25L5_is (fun t : List Win × List Win => ⟨[(13, .int .i64 t.1.length), (12, .int .i64 l.length), (11, .sl (l.map Win.av)), (4, .own 4)], [(4, .arr 34 2 ((keep t.1).map Win.av))]⟩)
    (fun t => l = t.1 ++ t.2 ∧ ∀ w ∈ t.1, w.ok) (fun t => t.2.length) ([], l) ⟨rfl, by simp⟩ (le_intro (by simp only [allLook, allLookM, go_sem, ↓reduceIte, reduceIte, Nat.reduceAdd, Nat.reduceLT, Nat.reduceEqDiff, Nat.reduceLeDiff, Nat.reduceMul, show keep [] = [] from rfl]; try simp) (by simp only [allLook, allLookM, go_sem, ↓reduceIte, reduceIte, Nat.reduceAdd, Nat.reduceLT, Nat.reduceEqDiff, Nat.reduceLeDiff, Nat.reduceMul, show keep [] = [] from rfl]; try simp)) ?_
  rintro ⟨d, r⟩ R ⟨hdr, hdo⟩ hR
  simp only at hdr hdo
  have hlen : l.length = d.length + r.length := by rw [hdr, List.length_append]
  have hkd : (keep d).length ≤ d.length := List.length_filter_le _ _
  simp (maxSteps := 2000000) (disch := omega) only [go_sem, ↓reduceIte, reduceIte, Nat.reduceAdd, Nat.reduceLT, Nat.reduceEqDiff, Nat.reduceLeDiff, Nat.reduceMul]
  cases r with
  | cons x r =>
    rw [List.length_cons] at hlen
    refine cA_d (fun _ => ?_) (fun h => absurd (show ((d.length : Nat) : Int) < l.length by omega) h)
    have hx : l[d.length]? = some x := by rw [hdr]; exact get_mid d r x _ rfl
    by_cases hxo : x.ok
    · have hxo' := hxo
      unfold Win.ok at hxo'
      (repeat' (first | simp (maxSteps := 2000000) (disch := omega) only [go_sem, ↓reduceIte, reduceIte, Nat.reduceAdd, Nat.reduceLT, Nat.reduceEqDiff, Nat.reduceLeDiff, Nat.reduceMul, Win.av] | refine idxS_get d.length rfl hx rfl ?_ | refine gA_df (fun _ => ?_) (fun h => absurd h (by omega))))
      refine cA_d (fun h => absurd h (by omega)) (fun _ => ?_)
      simp (maxSteps := 2000000) (disch := omega) only [go_sem, ↓reduceIte, reduceIte, Nat.reduceAdd, Nat.reduceLT, Nat.reduceEqDiff, Nat.reduceLeDiff, Nat.reduceMul]
      by_cases hlt : x.a < x.b
      · refine cA_d (fun _ => ?_) (fun h => absurd hlt h)
        simp (maxSteps := 2000000) (disch := omega) only [go_sem, ↓reduceIte, reduceIte, Nat.reduceAdd, Nat.reduceLT, Nat.reduceEqDiff, Nat.reduceLeDiff, Nat.reduceMul]
        refine bsK_intro (xs := [x.av]) rfl (by decide) (by decide) (by rfl) ?_
        simp (maxSteps := 2000000) (disch := omega) only [go_sem, ↓reduceIte, reduceIte, Nat.reduceAdd, Nat.reduceLT, Nat.reduceEqDiff, Nat.reduceLeDiff, Nat.reduceMul]
        refine appendA_of (ty := 34) (k := 2) (bytes := 16) (z := [.int .i64 0, .int .i64 0]) (by kernel_rfl) (by kernel_rfl) (by kernel_rfl) rfl ?_
        simp (maxSteps := 2000000) (disch := omega) only [go_sem, ↓reduceIte, reduceIte, Nat.reduceAdd, Nat.reduceLT, Nat.reduceEqDiff, Nat.reduceLeDiff, Nat.reduceMul]
        refine appO_few (by decide) (by decide) (by simp) (by simp [AV.cells, Win.av]) (by simp; omega) ?_
        simp (maxSteps := 2000000) (disch := omega) only [go_sem, ↓reduceIte, reduceIte, Nat.reduceAdd, Nat.reduceLT, Nat.reduceEqDiff, Nat.reduceLeDiff, Nat.reduceMul]
        refine hR (d ++ [x], r) _ ⟨by rw [hdr]; simp, fun w hw => by
          rcases List.mem_append.1 hw with hw | hw
          · exact hdo w hw
          · simp at hw; rw [hw]; exact hxo⟩ (by simp) ?_
        rw [keep_snoc, if_pos hlt]
        simp only [List.map_append, List.map_cons, List.map_nil]
        exact (le_intro (by simp only [allLook, allLookM, go_sem, ↓reduceIte, reduceIte, Nat.reduceAdd, Nat.reduceLT, Nat.reduceEqDiff, Nat.reduceLeDiff, Nat.reduceMul, List.length_append, List.length_cons, List.length_nil, show ((d.length : Nat) : Int) + 1 = (d.length + (0 + 1) : Nat) by omega]; try simp) (by simp only [allLook, allLookM, go_sem, ↓reduceIte, reduceIte, Nat.reduceAdd, Nat.reduceLT, Nat.reduceEqDiff, Nat.reduceLeDiff, Nat.reduceMul, List.length_append, List.length_cons, List.length_nil, show ((d.length : Nat) : Int) + 1 = (d.length + (0 + 1) : Nat) by omega]; try simp))
      · refine cA_d (fun h => absurd h hlt) (fun _ => ?_)
        simp (maxSteps := 2000000) (disch := omega) only [go_sem, ↓reduceIte, reduceIte, Nat.reduceAdd, Nat.reduceLT, Nat.reduceEqDiff, Nat.reduceLeDiff, Nat.reduceMul]
        refine hR (d ++ [x], r) _ ⟨by rw [hdr]; simp, fun w hw => by
          rcases List.mem_append.1 hw with hw | hw
          · exact hdo w hw
          · simp at hw; rw [hw]; exact hxo⟩ (by simp) ?_
        rw [keep_snoc, if_neg hlt]
        exact (le_intro (by simp only [allLook, allLookM, go_sem, ↓reduceIte, reduceIte, Nat.reduceAdd, Nat.reduceLT, Nat.reduceEqDiff, Nat.reduceLeDiff, Nat.reduceMul, List.length_append, List.length_cons, List.length_nil, show ((d.length : Nat) : Int) + 1 = (d.length + (0 + 1) : Nat) by omega]; try simp) (by simp only [allLook, allLookM, go_sem, ↓reduceIte, reduceIte, Nat.reduceAdd, Nat.reduceLT, Nat.reduceEqDiff, Nat.reduceLeDiff, Nat.reduceMul, List.length_append, List.length_cons, List.length_nil, show ((d.length : Nat) : Int) + 1 = (d.length + (0 + 1) : Nat) by omega]; try simp))
    · have hall : allOk l = false := by
        rw [← Bool.not_eq_true]
        intro h
        exact hxo (allOk_iff.1 h x (by rw [hdr]; simp))
      have hxo' := hxo
      unfold Win.ok at hxo'
      unfold mergeR mergeE
      rw [hall]
      (repeat' (first | simp (maxSteps := 2000000) (disch := omega) only [go_sem, ↓reduceIte, reduceIte, Nat.reduceAdd, Nat.reduceLT, Nat.reduceEqDiff, Nat.reduceLeDiff, Nat.reduceMul, Win.av] | refine idxS_get d.length rfl hx rfl ?_ | refine gA_df (fun _ => ?_) (fun _ => ?_) | refine cA_d (fun _ => ?_) (fun h => absurd h (by omega))))
      all_goals exact ⟨rfl, trivial⟩
  | nil =>
  rw [List.length_nil] at hlen
  rw [List.append_nil] at hdr
  refine cA_d (fun h => absurd h (by omega)) (fun _ => ?_)
  subst hdr
  have hall : allOk l = true := allOk_iff.2 hdo
  have hbd : ∀ w ∈ keep l, 0 ≤ w.a ∧ w.a < w.b ∧ w.b ≤ 3155760000 := by
    intro w hw
    have h1 := keep_lt w hw
    have h2 := hdo w (List.mem_filter.1 hw).1
    unfold Win.ok at h2
    omega
  obtain ⟨s, p1, p2, hso⟩ := sort39_ok (keep l) (fun x hx => by have := hbd x hx; omega) (by omega)
  have hms := nrm_of p1 p2
  unfold mergeR mergeE
  rw [hall, if_pos rfl, if_pos rfl, ← hms]
  simp (maxSteps := 2000000) (disch := omega) only [go_sem, ↓reduceIte, reduceIte, Nat.reduceAdd, Nat.reduceLT, Nat.reduceEqDiff, Nat.reduceLeDiff, Nat.reduceMul]
  refine call_s (id := 4) (rest := [.fn 40 []]) (rest' := [.fn 40 []]) rfl (by simp only [go_sem, ↓reduceIte, reduceIte, Nat.reduceAdd, Nat.reduceLT, Nat.reduceEqDiff, Nat.reduceLeDiff, Nat.reduceMul]) (by rfl) hso (win_scal _) ?_
  have hsl : s.length = (keep l).length := p1.length_eq
  simp (maxSteps := 2000000) (disch := omega) only [go_sem, ↓reduceIte, reduceIte, Nat.reduceAdd, Nat.reduceLT, Nat.reduceEqDiff, Nat.reduceLeDiff, Nat.reduceMul, List.length_map]
  refine loop_of f25L25_is (fun t : (List Win × Option Win) × (List Win × List Win) => ⟨[(46, .int .i64 t.2.1.length), (45, .int .i64 s.length), (44, .own 4), (7, .own 7)], [(4, .arr 34 2 (s.map Win.av)), (7, .arr 34 2 ((t.1.1 ++ t.1.2.toList).map Win.av))]⟩)
    (fun t => s = t.2.1 ++ t.2.2 ∧ mrg s = t.1.1 ++ mrgO t.1.2 t.2.2 ∧ (t.1.2 = none → t.1.1 = []) ∧ t.1.1.length ≤ t.2.1.length) (fun t => t.2.2.length) (([], none), ([], s)) ⟨rfl, rfl, fun _ => rfl, Nat.le_refl _⟩ (le_intro (by simp only [allLook, allLookM, go_sem, ↓reduceIte, reduceIte, Nat.reduceAdd, Nat.reduceLT, Nat.reduceEqDiff, Nat.reduceLeDiff, Nat.reduceMul]; try simp) (by simp only [allLook, allLookM, go_sem, ↓reduceIte, reduceIte, Nat.reduceAdd, Nat.reduceLT, Nat.reduceEqDiff, Nat.reduceLeDiff, Nat.reduceMul]; try simp)) ?_
  rintro ⟨⟨P, c⟩, ⟨d, r⟩⟩ R3 ⟨hdr, he, hc0, hPd⟩ hR3
  simp only at hdr he hc0 hPd
  have hlen2 : s.length = d.length + r.length := by rw [hdr, List.length_append]
  simp (maxSteps := 2000000) (disch := omega) only [go_sem, ↓reduceIte, reduceIte, Nat.reduceAdd, Nat.reduceLT, Nat.reduceEqDiff, Nat.reduceLeDiff, Nat.reduceMul]
  cases r with
  | nil =>
    rw [List.length_nil] at hlen2
    refine cA_d (fun h => absurd h (by omega)) (fun _ => ?_)
    have hm : mrg s = P ++ c.toList := by
      rw [he]
      cases c with
      | none => rfl
      | some c => rfl
    rw [hm]
    simp (maxSteps := 2000000) (disch := omega) only [go_sem, ↓reduceIte, reduceIte, Nat.reduceAdd, Nat.reduceLT, Nat.reduceEqDiff, Nat.reduceLeDiff, Nat.reduceMul]
    all_goals (try exact trivial)
  | cons w r =>
    rw [List.length_cons] at hlen2
    refine cA_d (fun _ => ?_) (fun h => absurd (show ((d.length : Nat) : Int) < s.length by omega) h)
    have hw : s[d.length]? = some w := by rw [hdr]; exact get_mid d r w _ rfl
    have hwv := hbd w (p1.mem_iff.1 (by rw [hdr]; simp))
    (repeat' (first | simp (maxSteps := 2000000) (disch := omega) only [go_sem, ↓reduceIte, reduceIte, Nat.reduceAdd, Nat.reduceLT, Nat.reduceEqDiff, Nat.reduceLeDiff, Nat.reduceMul, Win.av] | refine idxO_get d.length rfl hw ?_ | refine at_get hw ?_))
    cases c with
    | none =>
      have hP := hc0 rfl
      subst hP
      simp only [Option.toList, List.append_nil, List.length_nil]
      refine gA_dt (fun h => absurd h (by simp)) (fun _ => ?_)
      simp (maxSteps := 2000000) (disch := omega) only [go_sem, ↓reduceIte, reduceIte, Nat.reduceAdd, Nat.reduceLT, Nat.reduceEqDiff, Nat.reduceLeDiff, Nat.reduceMul]
      refine bsK_intro (xs := [w.av]) rfl (by decide) (by decide) (by rfl) ?_
      simp (maxSteps := 2000000) (disch := omega) only [go_sem, ↓reduceIte, reduceIte, Nat.reduceAdd, Nat.reduceLT, Nat.reduceEqDiff, Nat.reduceLeDiff, Nat.reduceMul]
      refine appendA_of (ty := 34) (k := 2) (bytes := 16) (z := [.int .i64 0, .int .i64 0]) (by kernel_rfl) (by kernel_rfl) (by kernel_rfl) rfl ?_
      simp (maxSteps := 2000000) (disch := omega) only [go_sem, ↓reduceIte, reduceIte, Nat.reduceAdd, Nat.reduceLT, Nat.reduceEqDiff, Nat.reduceLeDiff, Nat.reduceMul]
      refine appO_few (by decide) (by decide) (by simp) (by simp [AV.cells, Win.av]) (by simp) ?_
      simp (maxSteps := 2000000) (disch := omega) only [go_sem, ↓reduceIte, reduceIte, Nat.reduceAdd, Nat.reduceLT, Nat.reduceEqDiff, Nat.reduceLeDiff, Nat.reduceMul]
      refine hR3 (([], some w), (d ++ [w], r)) _ ⟨by rw [hdr]; simp, he, fun h => (by cases h), by simp⟩ (by simp) ?_
      exact (le_intro (by simp only [allLook, allLookM, go_sem, ↓reduceIte, reduceIte, Nat.reduceAdd, Nat.reduceLT, Nat.reduceEqDiff, Nat.reduceLeDiff, Nat.reduceMul, Option.toList, List.nil_append, List.map_nil, List.map_cons, List.length_append, List.length_cons, List.length_nil, show ((d.length : Nat) : Int) + 1 = (d.length + (0 + 1) : Nat) by omega]; try simp) (by simp only [allLook, allLookM, go_sem, ↓reduceIte, reduceIte, Nat.reduceAdd, Nat.reduceLT, Nat.reduceEqDiff, Nat.reduceLeDiff, Nat.reduceMul, Option.toList, List.nil_append, List.map_nil, List.map_cons, List.length_append, List.length_cons, List.length_nil, show ((d.length : Nat) : Int) + 1 = (d.length + (0 + 1) : Nat) by omega]; try simp))
    | some c =>
      simp only [Option.toList, List.length_append, List.length_cons, List.length_nil, Nat.zero_add]
      have hcx : (P ++ [c])[P.length]? = some c := get_mid P [] c _ rfl
      have hcl : P.length < (P ++ [c]).length := by simp
      refine gA_dt (fun _ => ?_) (fun h => absurd (show (0 : Int) < ((P.length + 1 : Nat) : Int) by omega) h)
      (repeat' (first | simp (maxSteps := 2000000) (disch := omega) only [go_sem, ↓reduceIte, reduceIte, Nat.reduceAdd, Nat.reduceLT, Nat.reduceEqDiff, Nat.reduceLeDiff, Nat.reduceMul, Win.av] | refine idxO_get P.length (by omega) hcx ?_ | refine at_get hcx ?_))
      have he' : mrg s = P ++ if w.a ≤ c.b then mrgF ⟨c.a, max c.b w.b⟩ r else c :: mrgF w r := he
      refine cA_d (fun h5 => ?_) (fun h5 => ?_)
      · rw [if_pos h5] at he'
        (repeat' (first | simp (maxSteps := 2000000) (disch := omega) only [go_sem, ↓reduceIte, reduceIte, Nat.reduceAdd, Nat.reduceLT, Nat.reduceEqDiff, Nat.reduceLeDiff, Nat.reduceMul, Win.av] | refine idxO_get P.length (by omega) hcx ?_ | refine at_get hcx ?_ | refine stO_to hcx ?_))
        refine hR3 ((P, some ⟨c.a, max c.b w.b⟩), (d ++ [w], r)) _ ⟨by rw [hdr]; simp, he', fun h => (by cases h), by simp; omega⟩ (by simp) ?_
        have hst : (P ++ [c]).set P.length ⟨c.a, max c.b w.b⟩ = P ++ [⟨c.a, max c.b w.b⟩] := by simp
        rw [hst]
        exact (le_intro (by simp only [allLook, allLookM, go_sem, ↓reduceIte, reduceIte, Nat.reduceAdd, Nat.reduceLT, Nat.reduceEqDiff, Nat.reduceLeDiff, Nat.reduceMul, Option.toList, List.length_append, List.length_cons, List.length_nil, show ((d.length : Nat) : Int) + 1 = (d.length + (0 + 1) : Nat) by omega]; try simp) (by simp only [allLook, allLookM, go_sem, ↓reduceIte, reduceIte, Nat.reduceAdd, Nat.reduceLT, Nat.reduceEqDiff, Nat.reduceLeDiff, Nat.reduceMul, Option.toList, List.length_append, List.length_cons, List.length_nil, show ((d.length : Nat) : Int) + 1 = (d.length + (0 + 1) : Nat) by omega]; try simp))
      · rw [if_neg h5] at he'
        simp (maxSteps := 2000000) (disch := omega) only [go_sem, ↓reduceIte, reduceIte, Nat.reduceAdd, Nat.reduceLT, Nat.reduceEqDiff, Nat.reduceLeDiff, Nat.reduceMul]
        refine bsK_intro (xs := [w.av]) rfl (by decide) (by decide) (by rfl) ?_
        simp (maxSteps := 2000000) (disch := omega) only [go_sem, ↓reduceIte, reduceIte, Nat.reduceAdd, Nat.reduceLT, Nat.reduceEqDiff, Nat.reduceLeDiff, Nat.reduceMul]
        refine appendA_of (ty := 34) (k := 2) (bytes := 16) (z := [.int .i64 0, .int .i64 0]) (by kernel_rfl) (by kernel_rfl) (by kernel_rfl) rfl ?_
        simp (maxSteps := 2000000) (disch := omega) only [go_sem, ↓reduceIte, reduceIte, Nat.reduceAdd, Nat.reduceLT, Nat.reduceEqDiff, Nat.reduceLeDiff, Nat.reduceMul]
        refine appO_few (by decide) (by decide) (by simp) (by simp [AV.cells, Win.av]) (by simp; omega) ?_
        simp (maxSteps := 2000000) (disch := omega) only [go_sem, ↓reduceIte, reduceIte, Nat.reduceAdd, Nat.reduceLT, Nat.reduceEqDiff, Nat.reduceLeDiff, Nat.reduceMul]
        refine hR3 ((P ++ [c], some w), (d ++ [w], r)) _ ⟨by rw [hdr]; simp, by rw [he', List.append_assoc]; rfl, fun h => (by cases h), by simp; omega⟩ (by simp) ?_
        rw [show (P ++ [c]).map Win.av ++ [w.av] = ((P ++ [c]) ++ [w]).map Win.av by simp]
        exact (le_intro (by simp only [allLook, allLookM, go_sem, ↓reduceIte, reduceIte, Nat.reduceAdd, Nat.reduceLT, Nat.reduceEqDiff, Nat.reduceLeDiff, Nat.reduceMul, Option.toList, List.length_append, List.length_cons, List.length_nil, show ((d.length : Nat) : Int) + 1 = (d.length + (0 + 1) : Nat) by omega]; try simp) (by simp only [allLook, allLookM, go_sem, ↓reduceIte, reduceIte, Nat.reduceAdd, Nat.reduceLT, Nat.reduceEqDiff, Nat.reduceLeDiff, Nat.reduceMul, Option.toList, List.length_append, List.length_cons, List.length_nil, show ((d.length : Nat) : Int) + 1 = (d.length + (0 + 1) : Nat) by omega]; try simp))
end Go.Proofs.YtaogafgadgppnaaDoor

namespace Go.Proofs.YtaogafgadgppnaaDoor
open Go Go.AI Go.Proofs
set_option linter.unusedSimpArgs false
set_option linter.unusedVariables false
set_option maxRecDepth 4000
theorem valid41_ok (w : Win) : CallsTo Tryd.prog 41 [w.av] [.p (.bool (decide w.ok))] := by
  refine f41_calls (Nat.le_of_ble_eq_true rfl) ?_
  unfold Win.ok Win.av
  (repeat' (first | refine gA_dt (fun h => ?_) (fun h => ?_) | refine gA_df (fun h => ?_) (fun h => ?_) | refine cA_d (fun h => ?_) (fun h => ?_) | simp (maxSteps := 2000000) (disch := omega) only [go_sem, ↓reduceIte, reduceIte, Nat.reduceAdd, Nat.reduceLT, Nat.reduceEqDiff, Nat.reduceLeDiff, Nat.reduceMul]))
  all_goals first | exact congrArg AV.bool (decide_eq_decide.2 (by omega)) | exact congrArg AV.bool (decide_eq_true (by omega)).symm | exact congrArg AV.bool (decide_eq_false (by omega)).symm
set_option maxHeartbeats 8000000 in
theorem insert42_ok (l : List Win) (w : Win) (hn : l.length ≤ 1048576) : CallsTo Tryd.prog 42 [.sl (l.map Win.av), w.av] [.fresh 34 2 ((insW w l).map Win.av)] := by
  refine f42_calls (Nat.le_of_ble_eq_true rfl) ?_
  simp (maxSteps := 2000000) (disch := omega) only [go_sem, ↓reduceIte, reduceIte, Nat.reduceAdd, Nat.reduceLT, Nat.reduceEqDiff, Nat.reduceLeDiff, Nat.reduceMul, Win.av]
  refine loop_of f42L6_is (fun t : (List Win × Bool) × (List Win × List Win) => ⟨[(11, .int .i64 t.2.1.length), (10, .int .i64 l.length), (9, .sl (l.map Win.av)), (6, .bool t.1.2), (5, .own 5), (3, .ad 3 0 0)], [(5, .arr 34 2 (t.1.1.map Win.av)), (3, .box [.int .i64 w.a, .int .i64 w.b])]⟩)
    (fun t => l = t.2.1 ++ t.2.2 ∧ (t.1.2 = false → t.1.1 = t.2.1 ∧ insW w l = t.2.1 ++ insW w t.2.2) ∧ (t.1.2 = true → insW w l = t.1.1 ++ t.2.2) ∧ t.1.1.length ≤ t.2.1.length + 1) (fun t => t.2.2.length) (([], false), ([], l)) ⟨rfl, fun _ => ⟨rfl, rfl⟩, fun h => by simp at h, by simp⟩ (le_intro (by simp only [allLook, allLookM, go_sem, ↓reduceIte, reduceIte, Nat.reduceAdd, Nat.reduceLT, Nat.reduceEqDiff, Nat.reduceLeDiff, Nat.reduceMul]; try simp) (by simp only [allLook, allLookM, go_sem, ↓reduceIte, reduceIte, Nat.reduceAdd, Nat.reduceLT, Nat.reduceEqDiff, Nat.reduceLeDiff, Nat.reduceMul]; try simp)) ?_
  rintro ⟨⟨P, done⟩, ⟨d, r⟩⟩ R ⟨hdr, hf, ht, hP⟩ hR
  simp only at hdr hf ht hP
  have hlen : l.length = d.length + r.length := by rw [hdr, List.length_append]
  simp (maxSteps := 2000000) (disch := omega) only [go_sem, ↓reduceIte, reduceIte, Nat.reduceAdd, Nat.reduceLT, Nat.reduceEqDiff, Nat.reduceLeDiff, Nat.reduceMul]
  cases r with
  | nil =>
    rw [List.length_nil] at hlen
    refine cA_d (fun h => absurd h (by omega)) (fun _ => ?_)
    cases done with
    | true =>
      have := ht rfl
      rw [List.append_nil] at this
      rw [this]
      simp (maxSteps := 2000000) (disch := omega) only [go_sem, ↓reduceIte, reduceIte, Nat.reduceAdd, Nat.reduceLT, Nat.reduceEqDiff, Nat.reduceLeDiff, Nat.reduceMul]
      all_goals (try exact trivial)
    | false =>
      obtain ⟨h1, h2⟩ := hf rfl
      subst h1
      rw [insW] at h2
      simp (maxSteps := 2000000) (disch := omega) only [go_sem, ↓reduceIte, reduceIte, Nat.reduceAdd, Nat.reduceLT, Nat.reduceEqDiff, Nat.reduceLeDiff, Nat.reduceMul]
      refine bsK_intro (xs := [w.av]) rfl (by decide) (by decide) (by rfl) ?_
      simp (maxSteps := 2000000) (disch := omega) only [go_sem, ↓reduceIte, reduceIte, Nat.reduceAdd, Nat.reduceLT, Nat.reduceEqDiff, Nat.reduceLeDiff, Nat.reduceMul]
      refine appendA_of (ty := 34) (k := 2) (bytes := 16) (z := [.int .i64 0, .int .i64 0]) (by kernel_rfl) (by kernel_rfl) (by kernel_rfl) rfl ?_
      simp (maxSteps := 2000000) (disch := omega) only [go_sem, ↓reduceIte, reduceIte, Nat.reduceAdd, Nat.reduceLT, Nat.reduceEqDiff, Nat.reduceLeDiff, Nat.reduceMul]
      refine appO_few (by decide) (by decide) (by simp) (by simp [AV.cells, Win.av]) (by simp; omega) ?_
      rw [h2, List.map_append, List.map_cons, List.map_nil]
      simp (maxSteps := 2000000) (disch := omega) only [go_sem, ↓reduceIte, reduceIte, Nat.reduceAdd, Nat.reduceLT, Nat.reduceEqDiff, Nat.reduceLeDiff, Nat.reduceMul]
      all_goals (try exact trivial)
  | cons x r =>
    rw [List.length_cons] at hlen
    refine cA_d (fun _ => ?_) (fun h => absurd (show ((d.length : Nat) : Int) < l.length by omega) h)
    have hx : l[d.length]? = some x := by rw [hdr]; exact get_mid d r x _ rfl
    have fin : ∀ (P' : List Win) (b : Bool), P'.length ≤ d.length + 1 → ((b = false → P' = d ∧ insW w l = (d ++ [x]) ++ insW w r)) → (b = true → insW w l = (P' ++ [x]) ++ r) → ∀ s', St.le ⟨[(11, .int .i64 (d.length + 1 : Nat)), (10, .int .i64 l.length), (9, .sl (l.map Win.av)), (6, .bool b), (5, .own 5), (3, .ad 3 0 0)], [(5, .arr 34 2 ((P' ++ [x]).map Win.av)), (3, .box [.int .i64 w.a, .int .i64 w.b])]⟩ s' → Run (R s') := fun P' b h1 h2 h3 s' hs => by
      refine hR ((P' ++ [x], b), (d ++ [x], r)) s' ⟨by rw [hdr]; simp, fun hb => ⟨by rw [(h2 hb).1], (h2 hb).2⟩, h3, by simp; omega⟩ (by simp) ?_
      simp only [List.length_append, List.length_cons, List.length_nil]
      exact hs
    cases done with
    | true =>
      have ht' := ht rfl
      (repeat' (first | simp (maxSteps := 2000000) (disch := omega) only [go_sem, ↓reduceIte, reduceIte, Nat.reduceAdd, Nat.reduceLT, Nat.reduceEqDiff, Nat.reduceLeDiff, Nat.reduceMul, Win.av] | refine idxS_get d.length rfl hx rfl ?_))
      refine bsK_intro (xs := [x.av]) rfl (by decide) (by decide) (by rfl) ?_
      simp (maxSteps := 2000000) (disch := omega) only [go_sem, ↓reduceIte, reduceIte, Nat.reduceAdd, Nat.reduceLT, Nat.reduceEqDiff, Nat.reduceLeDiff, Nat.reduceMul]
      refine appendA_of (ty := 34) (k := 2) (bytes := 16) (z := [.int .i64 0, .int .i64 0]) (by kernel_rfl) (by kernel_rfl) (by kernel_rfl) rfl ?_
      simp (maxSteps := 2000000) (disch := omega) only [go_sem, ↓reduceIte, reduceIte, Nat.reduceAdd, Nat.reduceLT, Nat.reduceEqDiff, Nat.reduceLeDiff, Nat.reduceMul]
      refine appO_few (by decide) (by decide) (by simp) (by simp [AV.cells, Win.av]) (by simp; omega) ?_
      simp (maxSteps := 2000000) (disch := omega) only [go_sem, ↓reduceIte, reduceIte, Nat.reduceAdd, Nat.reduceLT, Nat.reduceEqDiff, Nat.reduceLeDiff, Nat.reduceMul]
      refine fin P true hP (fun h => by simp at h) (fun _ => by rw [ht']; simp) _ ?_
      rw [List.map_append, List.map_cons, List.map_nil]
      exact (le_intro (by simp only [allLook, allLookM, go_sem, ↓reduceIte, reduceIte, Nat.reduceAdd, Nat.reduceLT, Nat.reduceEqDiff, Nat.reduceLeDiff, Nat.reduceMul, show ((d.length : Nat) : Int) + 1 = (d.length + 1 : Nat) by omega]; try simp) (by simp only [allLook, allLookM, go_sem, ↓reduceIte, reduceIte, Nat.reduceAdd, Nat.reduceLT, Nat.reduceEqDiff, Nat.reduceLeDiff, Nat.reduceMul, show ((d.length : Nat) : Int) + 1 = (d.length + 1 : Nat) by omega]; try simp))
    | false =>
      obtain ⟨h1, h2⟩ := hf rfl
      subst h1
      rw [insW] at h2
      (repeat' (first | simp (maxSteps := 2000000) (disch := omega) only [go_sem, ↓reduceIte, reduceIte, Nat.reduceAdd, Nat.reduceLT, Nat.reduceEqDiff, Nat.reduceLeDiff, Nat.reduceMul, Win.av] | refine idxS_get P.length rfl hx rfl ?_))
      refine cA_d (fun h5 => ?_) (fun h5 => ?_)
      · rw [if_pos h5] at h2
        simp (maxSteps := 2000000) (disch := omega) only [go_sem, ↓reduceIte, reduceIte, Nat.reduceAdd, Nat.reduceLT, Nat.reduceEqDiff, Nat.reduceLeDiff, Nat.reduceMul]
        refine bsK_intro (xs := [w.av]) rfl (by decide) (by decide) (by rfl) ?_
        simp (maxSteps := 2000000) (disch := omega) only [go_sem, ↓reduceIte, reduceIte, Nat.reduceAdd, Nat.reduceLT, Nat.reduceEqDiff, Nat.reduceLeDiff, Nat.reduceMul]
        refine appendA_of (ty := 34) (k := 2) (bytes := 16) (z := [.int .i64 0, .int .i64 0]) (by kernel_rfl) (by kernel_rfl) (by kernel_rfl) rfl ?_
        simp (maxSteps := 2000000) (disch := omega) only [go_sem, ↓reduceIte, reduceIte, Nat.reduceAdd, Nat.reduceLT, Nat.reduceEqDiff, Nat.reduceLeDiff, Nat.reduceMul]
        refine appO_few (by decide) (by decide) (by simp) (by simp [AV.cells, Win.av]) (by simp; omega) ?_
        simp (maxSteps := 2000000) (disch := omega) only [go_sem, ↓reduceIte, reduceIte, Nat.reduceAdd, Nat.reduceLT, Nat.reduceEqDiff, Nat.reduceLeDiff, Nat.reduceMul]
        refine bsK_intro (xs := [x.av]) rfl (by decide) (by decide) (by rfl) ?_
        simp (maxSteps := 2000000) (disch := omega) only [go_sem, ↓reduceIte, reduceIte, Nat.reduceAdd, Nat.reduceLT, Nat.reduceEqDiff, Nat.reduceLeDiff, Nat.reduceMul]
        refine appendA_of (ty := 34) (k := 2) (bytes := 16) (z := [.int .i64 0, .int .i64 0]) (by kernel_rfl) (by kernel_rfl) (by kernel_rfl) rfl ?_
        simp (maxSteps := 2000000) (disch := omega) only [go_sem, ↓reduceIte, reduceIte, Nat.reduceAdd, Nat.reduceLT, Nat.reduceEqDiff, Nat.reduceLeDiff, Nat.reduceMul]
        refine appO_few (by decide) (by decide) (by simp) (by simp [AV.cells, Win.av]) (by simp; omega) ?_
        simp (maxSteps := 2000000) (disch := omega) only [go_sem, ↓reduceIte, reduceIte, Nat.reduceAdd, Nat.reduceLT, Nat.reduceEqDiff, Nat.reduceLeDiff, Nat.reduceMul]
        refine fin (P ++ [w]) true (by simp) (fun h => by simp at h) (fun _ => by rw [h2]; simp) _ ?_
        rw [show P.map Win.av ++ [w.av] ++ [x.av] = ((P ++ [w]) ++ [x]).map Win.av by simp]
        exact (le_intro (by simp only [allLook, allLookM, go_sem, ↓reduceIte, reduceIte, Nat.reduceAdd, Nat.reduceLT, Nat.reduceEqDiff, Nat.reduceLeDiff, Nat.reduceMul, show ((P.length : Nat) : Int) + 1 = (P.length + 1 : Nat) by omega]; try simp) (by simp only [allLook, allLookM, go_sem, ↓reduceIte, reduceIte, Nat.reduceAdd, Nat.reduceLT, Nat.reduceEqDiff, Nat.reduceLeDiff, Nat.reduceMul, show ((P.length : Nat) : Int) + 1 = (P.length + 1 : Nat) by omega]; try simp))
      · rw [if_neg h5] at h2
        simp (maxSteps := 2000000) (disch := omega) only [go_sem, ↓reduceIte, reduceIte, Nat.reduceAdd, Nat.reduceLT, Nat.reduceEqDiff, Nat.reduceLeDiff, Nat.reduceMul]
        refine bsK_intro (xs := [x.av]) rfl (by decide) (by decide) (by rfl) ?_
        simp (maxSteps := 2000000) (disch := omega) only [go_sem, ↓reduceIte, reduceIte, Nat.reduceAdd, Nat.reduceLT, Nat.reduceEqDiff, Nat.reduceLeDiff, Nat.reduceMul]
        refine appendA_of (ty := 34) (k := 2) (bytes := 16) (z := [.int .i64 0, .int .i64 0]) (by kernel_rfl) (by kernel_rfl) (by kernel_rfl) rfl ?_
        simp (maxSteps := 2000000) (disch := omega) only [go_sem, ↓reduceIte, reduceIte, Nat.reduceAdd, Nat.reduceLT, Nat.reduceEqDiff, Nat.reduceLeDiff, Nat.reduceMul]
        refine appO_few (by decide) (by decide) (by simp) (by simp [AV.cells, Win.av]) (by simp; omega) ?_
        simp (maxSteps := 2000000) (disch := omega) only [go_sem, ↓reduceIte, reduceIte, Nat.reduceAdd, Nat.reduceLT, Nat.reduceEqDiff, Nat.reduceLeDiff, Nat.reduceMul]
        refine fin P false (by omega) (fun _ => ⟨rfl, by rw [h2]; simp⟩) (fun h => by simp at h) _ ?_
        rw [List.map_append, List.map_cons, List.map_nil]
        exact (le_intro (by simp only [allLook, allLookM, go_sem, ↓reduceIte, reduceIte, Nat.reduceAdd, Nat.reduceLT, Nat.reduceEqDiff, Nat.reduceLeDiff, Nat.reduceMul, show ((P.length : Nat) : Int) + 1 = (P.length + 1 : Nat) by omega]; try simp) (by simp only [allLook, allLookM, go_sem, ↓reduceIte, reduceIte, Nat.reduceAdd, Nat.reduceLT, Nat.reduceEqDiff, Nat.reduceLeDiff, Nat.reduceMul, show ((P.length : Nat) : Int) + 1 = (P.length + 1 : Nat) by omega]; try simp))
theorem srtW_snoc (l : List Win) (x : Win) : srtW (l ++ [x]) = insW x (srtW l) := by unfold srtW; rw [List.foldl_append]; rfl
theorem insW_len (w : Win) (l : List Win) : (insW w l).length = l.length + 1 := (insW_perm w l).length_eq
set_option maxHeartbeats 8000000 in
theorem rmerge26_ok (l : List Win) (hn : l.length ≤ 1048576) : CallsTo Tryd.prog 26 [.sl (l.map Win.av)] [.fresh 34 2 ((mergeR l).map Win.av), .p (.int .i64 (mergeE l))] := by
  refine f26_calls (Nat.le_of_ble_eq_true rfl) ?_
  simp (maxSteps := 2000000) (disch := omega) only [go_sem, ↓reduceIte, reduceIte, Nat.reduceAdd, Nat.reduceLT, Nat.reduceEqDiff, Nat.reduceLeDiff, Nat.reduceMul]
  refine loop_of_f f26L5_is (fun t : List Win × List Win => ⟨[(13, .int .i64 t.1.length), (12, .int .i64 l.length), (11, .sl (l.map Win.av)), (4, .sl ((srtW (keep t.1)).map Win.av)), (5, .own 5)], [(5, .arr 34 2 [])]⟩)
    (fun t => l = t.1 ++ t.2 ∧ ∀ w ∈ t.1, w.ok) (fun t => t.2.length) ([], l) ⟨rfl, by simp⟩ (fun I hw hf hI => hf _ 4 34 2 [] (by simp only [go_sem, ↓reduceIte, reduceIte, Nat.reduceAdd, Nat.reduceLT, Nat.reduceEqDiff, Nat.reduceLeDiff, Nat.reduceMul]) (hw _ _ ?_ hI)) ?_
  · exact (le_intro (by simp only [allLook, allLookM, go_sem, ↓reduceIte, reduceIte, Nat.reduceAdd, Nat.reduceLT, Nat.reduceEqDiff, Nat.reduceLeDiff, Nat.reduceMul, St.freeze, show srtW (keep []) = [] from rfl]; try simp) (by simp only [allLook, allLookM, go_sem, ↓reduceIte, reduceIte, Nat.reduceAdd, Nat.reduceLT, Nat.reduceEqDiff, Nat.reduceLeDiff, Nat.reduceMul, St.freeze, show srtW (keep []) = [] from rfl]; try simp))
  rintro ⟨d, r⟩ R ⟨hdr, hdo⟩ hF hR
  simp only at hdr hdo
  have hlen : l.length = d.length + r.length := by rw [hdr, List.length_append]
  have hkd : (keep d).length ≤ d.length := List.length_filter_le _ _
  have hsd : (srtW (keep d)).length = (keep d).length := (srtW_spec (keep d)).1.length_eq
  simp (maxSteps := 2000000) (disch := omega) only [go_sem, ↓reduceIte, reduceIte, Nat.reduceAdd, Nat.reduceLT, Nat.reduceEqDiff, Nat.reduceLeDiff, Nat.reduceMul]
  cases r with
  | cons x r =>
    rw [List.length_cons] at hlen
    refine cA_d (fun _ => ?_) (fun h => absurd (show ((d.length : Nat) : Int) < l.length by omega) h)
    have hx : l[d.length]? = some x := by rw [hdr]; exact get_mid d r x _ rfl
    (repeat' (first | simp (maxSteps := 2000000) (disch := omega) only [go_sem, ↓reduceIte, reduceIte, Nat.reduceAdd, Nat.reduceLT, Nat.reduceEqDiff, Nat.reduceLeDiff, Nat.reduceMul, Win.av] | refine idxS_get d.length rfl hx rfl ?_))
    refine call_1 (valid41_ok x) (by rfl) (by rfl) ?_
    by_cases hxo : x.ok
    · rw [decide_eq_true hxo]
      have hinv : l = (d ++ [x]) ++ r ∧ ∀ w ∈ d ++ [x], w.ok := ⟨by rw [hdr]; simp, fun w hw => by
          rcases List.mem_append.1 hw with hw | hw
          · exact hdo w hw
          · simp at hw; rw [hw]; exact hxo⟩
      simp (maxSteps := 2000000) (disch := omega) only [go_sem, ↓reduceIte, reduceIte, Nat.reduceAdd, Nat.reduceLT, Nat.reduceEqDiff, Nat.reduceLeDiff, Nat.reduceMul]
      by_cases hlt : x.a < x.b
      · refine cA_d (fun _ => ?_) (fun h => absurd hlt h)
        simp (maxSteps := 2000000) (disch := omega) only [go_sem, ↓reduceIte, reduceIte, Nat.reduceAdd, Nat.reduceLT, Nat.reduceEqDiff, Nat.reduceLeDiff, Nat.reduceMul]
        refine callv_f1 (by rfl) (insert42_ok (srtW (keep d)) x (by omega)) (win_scal _) ?_
        rw [← srtW_snoc]
        simp (maxSteps := 2000000) (disch := omega) only [go_sem, ↓reduceIte, reduceIte, Nat.reduceAdd, Nat.reduceLT, Nat.reduceEqDiff, Nat.reduceLeDiff, Nat.reduceMul]
        refine hF _ 27 34 2 ((srtW (keep d ++ [x])).map Win.av) (by simp only [go_sem, ↓reduceIte, reduceIte, Nat.reduceAdd, Nat.reduceLT, Nat.reduceEqDiff, Nat.reduceLeDiff, Nat.reduceMul]) (hR (d ++ [x], r) _ hinv (by simp) ?_)
        rw [keep_snoc, if_pos hlt]
        exact (le_intro (by simp only [allLook, allLookM, go_sem, ↓reduceIte, reduceIte, Nat.reduceAdd, Nat.reduceLT, Nat.reduceEqDiff, Nat.reduceLeDiff, Nat.reduceMul, St.freeze, List.length_append, List.length_cons, List.length_nil, show ((d.length : Nat) : Int) + 1 = (d.length + (0 + 1) : Nat) by omega]; try simp) (by simp only [allLook, allLookM, go_sem, ↓reduceIte, reduceIte, Nat.reduceAdd, Nat.reduceLT, Nat.reduceEqDiff, Nat.reduceLeDiff, Nat.reduceMul, St.freeze, List.length_append, List.length_cons, List.length_nil, show ((d.length : Nat) : Int) + 1 = (d.length + (0 + 1) : Nat) by omega]; try simp))
      · refine cA_d (fun h => absurd h hlt) (fun _ => ?_)
        simp (maxSteps := 2000000) (disch := omega) only [go_sem, ↓reduceIte, reduceIte, Nat.reduceAdd, Nat.reduceLT, Nat.reduceEqDiff, Nat.reduceLeDiff, Nat.reduceMul]
        refine hR (d ++ [x], r) _ hinv (by simp) ?_
        rw [keep_snoc, if_neg hlt]
        exact (le_intro (by simp only [allLook, allLookM, go_sem, ↓reduceIte, reduceIte, Nat.reduceAdd, Nat.reduceLT, Nat.reduceEqDiff, Nat.reduceLeDiff, Nat.reduceMul, List.length_append, List.length_cons, List.length_nil, show ((d.length : Nat) : Int) + 1 = (d.length + (0 + 1) : Nat) by omega]; try simp) (by simp only [allLook, allLookM, go_sem, ↓reduceIte, reduceIte, Nat.reduceAdd, Nat.reduceLT, Nat.reduceEqDiff, Nat.reduceLeDiff, Nat.reduceMul, List.length_append, List.length_cons, List.length_nil, show ((d.length : Nat) : Int) + 1 = (d.length + (0 + 1) : Nat) by omega]; try simp))
    · rw [decide_eq_false hxo]
      have hall : allOk l = false := by
        rw [← Bool.not_eq_true]
        intro h
        exact hxo (allOk_iff.1 h x (by rw [hdr]; simp))
      unfold mergeR mergeE
      rw [hall]
      simp (maxSteps := 2000000) (disch := omega) only [go_sem, ↓reduceIte, reduceIte, Nat.reduceAdd, Nat.reduceLT, Nat.reduceEqDiff, Nat.reduceLeDiff, Nat.reduceMul]
      all_goals exact ⟨rfl, trivial⟩
  | nil =>
  rw [List.length_nil] at hlen
  rw [List.append_nil] at hdr
  refine cA_d (fun h => absurd h (by omega)) (fun _ => ?_)
  subst hdr
  have hall : allOk l = true := allOk_iff.2 hdo
  obtain ⟨p1, p2⟩ := srtW_spec (keep l)
  have hbd : ∀ w ∈ srtW (keep l), 0 ≤ w.a ∧ w.a < w.b ∧ w.b ≤ 3155760000 := by
    intro w hw
    have h0 := p1.mem_iff.1 hw
    have h1 := keep_lt w h0
    have h2 := hdo w (List.mem_filter.1 h0).1
    unfold Win.ok at h2
    omega
  unfold mergeR mergeE
  rw [hall, if_pos rfl, if_pos rfl]
  unfold nrm
  generalize srtW (keep l) = s at *
  simp (maxSteps := 2000000) (disch := omega) only [go_sem, ↓reduceIte, reduceIte, Nat.reduceAdd, Nat.reduceLT, Nat.reduceEqDiff, Nat.reduceLeDiff, Nat.reduceMul]
  clear hR hF
  refine loop_of f26L23_is (fun t : (List Win × Option Win) × (List Win × List Win) => ⟨[(31, .int .i64 t.2.1.length), (30, .int .i64 s.length), (29, .sl (s.map Win.av)), (5, .own 5)], [(5, .arr 34 2 ((t.1.1 ++ t.1.2.toList).map Win.av))]⟩)
    (fun t => s = t.2.1 ++ t.2.2 ∧ mrg s = t.1.1 ++ mrgO t.1.2 t.2.2 ∧ (t.1.2 = none → t.1.1 = []) ∧ t.1.1.length ≤ t.2.1.length) (fun t => t.2.2.length) (([], none), ([], s)) ⟨rfl, rfl, fun _ => rfl, Nat.le_refl _⟩ (le_intro (by simp only [allLook, allLookM, go_sem, ↓reduceIte, reduceIte, Nat.reduceAdd, Nat.reduceLT, Nat.reduceEqDiff, Nat.reduceLeDiff, Nat.reduceMul]; try simp) (by simp only [allLook, allLookM, go_sem, ↓reduceIte, reduceIte, Nat.reduceAdd, Nat.reduceLT, Nat.reduceEqDiff, Nat.reduceLeDiff, Nat.reduceMul]; try simp)) ?_
  rintro ⟨⟨P, c⟩, ⟨d, r⟩⟩ R3 ⟨hdr, he, hc0, hPd⟩ hR3
  simp only at hdr he hc0 hPd
  have hlen2 : s.length = d.length + r.length := by rw [hdr, List.length_append]
  simp (maxSteps := 2000000) (disch := omega) only [go_sem, ↓reduceIte, reduceIte, Nat.reduceAdd, Nat.reduceLT, Nat.reduceEqDiff, Nat.reduceLeDiff, Nat.reduceMul]
  cases r with
  | nil =>
    rw [List.length_nil] at hlen2
    refine cA_d (fun h => absurd h (by omega)) (fun _ => ?_)
    have hm : mrg s = P ++ c.toList := by
      rw [he]
      cases c with
      | none => rfl
      | some c => rfl
    rw [hm]
    simp (maxSteps := 2000000) (disch := omega) only [go_sem, ↓reduceIte, reduceIte, Nat.reduceAdd, Nat.reduceLT, Nat.reduceEqDiff, Nat.reduceLeDiff, Nat.reduceMul]
    all_goals (try exact trivial)
  | cons w r =>
    rw [List.length_cons] at hlen2
    refine cA_d (fun _ => ?_) (fun h => absurd (show ((d.length : Nat) : Int) < s.length by omega) h)
    have hw : s[d.length]? = some w := by rw [hdr]; exact get_mid d r w _ rfl
    have hwv := hbd w (by rw [hdr]; simp)
    (repeat' (first | simp (maxSteps := 2000000) (disch := omega) only [go_sem, ↓reduceIte, reduceIte, Nat.reduceAdd, Nat.reduceLT, Nat.reduceEqDiff, Nat.reduceLeDiff, Nat.reduceMul, Win.av] | refine idxS_get d.length rfl hw rfl ?_))
    cases c with
    | none =>
      have hP := hc0 rfl
      subst hP
      simp only [Option.toList, List.append_nil, List.length_nil]
      simp (maxSteps := 2000000) (disch := omega) only [go_sem, ↓reduceIte, reduceIte, Nat.reduceAdd, Nat.reduceLT, Nat.reduceEqDiff, Nat.reduceLeDiff, Nat.reduceMul]
      refine gA_dt (fun h => absurd h (by simp)) (fun _ => ?_)
      simp (maxSteps := 2000000) (disch := omega) only [go_sem, ↓reduceIte, reduceIte, Nat.reduceAdd, Nat.reduceLT, Nat.reduceEqDiff, Nat.reduceLeDiff, Nat.reduceMul]
      refine bsK_intro (xs := [w.av]) rfl (by decide) (by decide) (by rfl) ?_
      simp (maxSteps := 2000000) (disch := omega) only [go_sem, ↓reduceIte, reduceIte, Nat.reduceAdd, Nat.reduceLT, Nat.reduceEqDiff, Nat.reduceLeDiff, Nat.reduceMul]
      refine appendA_of (ty := 34) (k := 2) (bytes := 16) (z := [.int .i64 0, .int .i64 0]) (by kernel_rfl) (by kernel_rfl) (by kernel_rfl) rfl ?_
      simp (maxSteps := 2000000) (disch := omega) only [go_sem, ↓reduceIte, reduceIte, Nat.reduceAdd, Nat.reduceLT, Nat.reduceEqDiff, Nat.reduceLeDiff, Nat.reduceMul]
      refine appO_few (by decide) (by decide) (by simp) (by simp [AV.cells, Win.av]) (by simp) ?_
      simp (maxSteps := 2000000) (disch := omega) only [go_sem, ↓reduceIte, reduceIte, Nat.reduceAdd, Nat.reduceLT, Nat.reduceEqDiff, Nat.reduceLeDiff, Nat.reduceMul]
      refine hR3 (([], some w), (d ++ [w], r)) _ ⟨by rw [hdr]; simp, he, fun h => (by cases h), by simp⟩ (by simp) ?_
      exact (le_intro (by simp only [allLook, allLookM, go_sem, ↓reduceIte, reduceIte, Nat.reduceAdd, Nat.reduceLT, Nat.reduceEqDiff, Nat.reduceLeDiff, Nat.reduceMul, Option.toList, List.nil_append, List.map_nil, List.map_cons, List.length_append, List.length_cons, List.length_nil, show ((d.length : Nat) : Int) + 1 = (d.length + (0 + 1) : Nat) by omega]; try simp) (by simp only [allLook, allLookM, go_sem, ↓reduceIte, reduceIte, Nat.reduceAdd, Nat.reduceLT, Nat.reduceEqDiff, Nat.reduceLeDiff, Nat.reduceMul, Option.toList, List.nil_append, List.map_nil, List.map_cons, List.length_append, List.length_cons, List.length_nil, show ((d.length : Nat) : Int) + 1 = (d.length + (0 + 1) : Nat) by omega]; try simp))
    | some c =>
      simp only [Option.toList, List.length_append, List.length_cons, List.length_nil, Nat.zero_add]
      have hcx : (P ++ [c])[P.length]? = some c := get_mid P [] c _ rfl
      have hcl : P.length < (P ++ [c]).length := by simp
      simp (maxSteps := 2000000) (disch := omega) only [go_sem, ↓reduceIte, reduceIte, Nat.reduceAdd, Nat.reduceLT, Nat.reduceEqDiff, Nat.reduceLeDiff, Nat.reduceMul]
      refine gA_dt (fun _ => ?_) (fun h => absurd (show ((P.length + 1 : Nat) : Int) - 1 ≥ 0 by omega) h)
      (repeat' (first | simp (maxSteps := 2000000) (disch := omega) only [go_sem, ↓reduceIte, reduceIte, Nat.reduceAdd, Nat.reduceLT, Nat.reduceEqDiff, Nat.reduceLeDiff, Nat.reduceMul, Win.av] | refine idxO_get P.length (by omega) hcx ?_ | refine at_get hcx ?_))
      have he' : mrg s = P ++ if w.a ≤ c.b then mrgF ⟨c.a, max c.b w.b⟩ r else c :: mrgF w r := he
      refine cA_d (fun h5 => ?_) (fun h5 => ?_)
      · rw [if_pos h5] at he'
        (repeat' (first | simp (maxSteps := 2000000) (disch := omega) only [go_sem, ↓reduceIte, reduceIte, Nat.reduceAdd, Nat.reduceLT, Nat.reduceEqDiff, Nat.reduceLeDiff, Nat.reduceMul, Win.av] | refine idxO_get P.length (by omega) hcx ?_ | refine at_get hcx ?_ | refine stO_to hcx ?_))
        refine hR3 ((P, some ⟨c.a, max c.b w.b⟩), (d ++ [w], r)) _ ⟨by rw [hdr]; simp, he', fun h => (by cases h), by simp; omega⟩ (by simp) ?_
        have hst : (P ++ [c]).set P.length ⟨c.a, max c.b w.b⟩ = P ++ [⟨c.a, max c.b w.b⟩] := by simp
        rw [hst]
        exact (le_intro (by simp only [allLook, allLookM, go_sem, ↓reduceIte, reduceIte, Nat.reduceAdd, Nat.reduceLT, Nat.reduceEqDiff, Nat.reduceLeDiff, Nat.reduceMul, Option.toList, List.length_append, List.length_cons, List.length_nil, show ((d.length : Nat) : Int) + 1 = (d.length + (0 + 1) : Nat) by omega]; try simp) (by simp only [allLook, allLookM, go_sem, ↓reduceIte, reduceIte, Nat.reduceAdd, Nat.reduceLT, Nat.reduceEqDiff, Nat.reduceLeDiff, Nat.reduceMul, Option.toList, List.length_append, List.length_cons, List.length_nil, show ((d.length : Nat) : Int) + 1 = (d.length + (0 + 1) : Nat) by omega]; try simp))
      · rw [if_neg h5] at he'
        simp (maxSteps := 2000000) (disch := omega) only [go_sem, ↓reduceIte, reduceIte, Nat.reduceAdd, Nat.reduceLT, Nat.reduceEqDiff, Nat.reduceLeDiff, Nat.reduceMul]
        refine bsK_intro (xs := [w.av]) rfl (by decide) (by decide) (by rfl) ?_
        simp (maxSteps := 2000000) (disch := omega) only [go_sem, ↓reduceIte, reduceIte, Nat.reduceAdd, Nat.reduceLT, Nat.reduceEqDiff, Nat.reduceLeDiff, Nat.reduceMul]
        refine appendA_of (ty := 34) (k := 2) (bytes := 16) (z := [.int .i64 0, .int .i64 0]) (by kernel_rfl) (by kernel_rfl) (by kernel_rfl) rfl ?_
        simp (maxSteps := 2000000) (disch := omega) only [go_sem, ↓reduceIte, reduceIte, Nat.reduceAdd, Nat.reduceLT, Nat.reduceEqDiff, Nat.reduceLeDiff, Nat.reduceMul]
        refine appO_few (by decide) (by decide) (by simp) (by simp [AV.cells, Win.av]) (by simp; omega) ?_
        simp (maxSteps := 2000000) (disch := omega) only [go_sem, ↓reduceIte, reduceIte, Nat.reduceAdd, Nat.reduceLT, Nat.reduceEqDiff, Nat.reduceLeDiff, Nat.reduceMul]
        refine hR3 ((P ++ [c], some w), (d ++ [w], r)) _ ⟨by rw [hdr]; simp, by rw [he', List.append_assoc]; rfl, fun h => (by cases h), by simp; omega⟩ (by simp) ?_
        rw [show (P ++ [c]).map Win.av ++ [w.av] = ((P ++ [c]) ++ [w]).map Win.av by simp]
        exact (le_intro (by simp only [allLook, allLookM, go_sem, ↓reduceIte, reduceIte, Nat.reduceAdd, Nat.reduceLT, Nat.reduceEqDiff, Nat.reduceLeDiff, Nat.reduceMul, Option.toList, List.length_append, List.length_cons, List.length_nil, show ((d.length : Nat) : Int) + 1 = (d.length + (0 + 1) : Nat) by omega]; try simp) (by simp only [allLook, allLookM, go_sem, ↓reduceIte, reduceIte, Nat.reduceAdd, Nat.reduceLT, Nat.reduceEqDiff, Nat.reduceLeDiff, Nat.reduceMul, Option.toList, List.length_append, List.length_cons, List.length_nil, show ((d.length : Nat) : Int) + 1 = (d.length + (0 + 1) : Nat) by omega]; try simp))
end Go.Proofs.YtaogafgadgppnaaDoor

namespace Go.Proofs.YtaogafgadgppnaaDoor
open Go Go.AI Go.Proofs
set_option linter.unusedSimpArgs false
set_option linter.unusedVariables false
set_option maxRecDepth 4000
theorem bin_aggneq {P : Program} {t : TypeId} {ks : List Nat} {a b : List AV} {r : Bool} {k : AV → Prop} (hk : tyKinds P t = some ks) (he : eqL ks a b = some r) (h : Run (k (.bool (!r)))) : Run (binA P .neq t (.agg a) (.agg b) k) := by
  unfold Run at h ⊢
  simpa [binA, hk, he] using h
set_option maxHeartbeats 4000000 in
theorem same27_ok (l : List Win) (hn : l.length ≤ 1048576) : CallsTo Tryd.prog 27 [.sl (l.map Win.av), .sl (l.map Win.av)] [.p (.bool true)] := by
  refine f27_calls (Nat.le_of_ble_eq_true rfl) ?_
  simp (maxSteps := 2000000) (disch := omega) only [go_sem, ↓reduceIte, reduceIte, Nat.reduceAdd, Nat.reduceLT, Nat.reduceEqDiff, Nat.reduceLeDiff, Nat.reduceMul]
  refine cA_d (fun h => absurd h (by simp)) (fun _ => ?_)
  simp (maxSteps := 2000000) (disch := omega) only [go_sem, ↓reduceIte, reduceIte, Nat.reduceAdd, Nat.reduceLT, Nat.reduceEqDiff, Nat.reduceLeDiff, Nat.reduceMul]
  refine loop_of f27L8_is (fun i : Nat => ⟨[(13, .int .i64 i), (12, .int .i64 l.length), (0, .sl (l.map Win.av)), (1, .sl (l.map Win.av))], []⟩) (fun i => i ≤ l.length) (fun i => l.length - i) 0 (Nat.zero_le _) (le_intro (by simp only [allLook, allLookM, go_sem, ↓reduceIte, reduceIte, Nat.reduceAdd, Nat.reduceLT, Nat.reduceEqDiff, Nat.reduceLeDiff, Nat.reduceMul]; try simp) (by simp only [allLook, allLookM, go_sem, ↓reduceIte, reduceIte, Nat.reduceAdd, Nat.reduceLT, Nat.reduceEqDiff, Nat.reduceLeDiff, Nat.reduceMul]; try simp)) ?_
  rintro i R hi hR
  simp (maxSteps := 2000000) (disch := omega) only [go_sem, ↓reduceIte, reduceIte, Nat.reduceAdd, Nat.reduceLT, Nat.reduceEqDiff, Nat.reduceLeDiff, Nat.reduceMul]
  refine cA_d (fun h2 => ?_) (fun h2 => ?_)
  · have hlt : i < l.length := by omega
    (repeat' (first | simp (maxSteps := 2000000) (disch := omega) only [go_sem, ↓reduceIte, reduceIte, Nat.reduceAdd, Nat.reduceLT, Nat.reduceEqDiff, Nat.reduceLeDiff, Nat.reduceMul, Win.av] | refine idxS_map i rfl hlt (fun _ => rfl) ?_))
    refine bin_aggneq (ks := [0, 0]) (r := true) (by kernel_rfl) (by simp [eqL]) ?_
    simp (maxSteps := 2000000) (disch := omega) only [go_sem, ↓reduceIte, reduceIte, Nat.reduceAdd, Nat.reduceLT, Nat.reduceEqDiff, Nat.reduceLeDiff, Nat.reduceMul]
    exact hR (i + 1) _ hlt (by omega) (le_intro (by simp only [allLook, allLookM, go_sem, ↓reduceIte, reduceIte, Nat.reduceAdd, Nat.reduceLT, Nat.reduceEqDiff, Nat.reduceLeDiff, Nat.reduceMul]; try simp) (by simp only [allLook, allLookM, go_sem, ↓reduceIte, reduceIte, Nat.reduceAdd, Nat.reduceLT, Nat.reduceEqDiff, Nat.reduceLeDiff, Nat.reduceMul]; try simp))
  · simp (maxSteps := 2000000) (disch := omega) only [go_sem, ↓reduceIte, reduceIte, Nat.reduceAdd, Nat.reduceLT, Nat.reduceEqDiff, Nat.reduceLeDiff, Nat.reduceMul]
def idxP {α : Type} (p : α → Bool) : List α → Nat → Int
  | [], _ => -1
  | x :: r, i => if p x then i else idxP p r (i + 1)
theorem idxP_any {α : Type} (p : α → Bool) : ∀ (l : List α) (i : Nat), 0 ≤ idxP p l i ↔ l.any p = true
  | [], i => by simp [idxP]
  | x :: r, i => by
    unfold idxP
    split
    · rename_i h; simp [h]
    · rename_i h; rw [idxP_any p r (i + 1)]; simp [h]
theorem in44_ok (t : Int) (w : Win) : CallsTo Tryd.prog 44 [w.av, .pp [.int .i64 t] 0] [.p (.bool (hasT t w))] := by
  refine f44_calls (Nat.le_of_ble_eq_true rfl) ?_
  unfold hasT
  (repeat' (first | simp (maxSteps := 2000000) (disch := omega) only [go_sem, ↓reduceIte, reduceIte, Nat.reduceAdd, Nat.reduceLT, Nat.reduceEqDiff, Nat.reduceLeDiff, Nat.reduceMul, Win.av] | refine gA_dt (fun h1 => ?_) (fun h1 => ?_)))
  all_goals first | exact congrArg AV.bool (decide_eq_decide.2 (by omega)) | exact congrArg AV.bool (decide_eq_true (by omega)).symm | exact congrArg AV.bool (decide_eq_false (by omega)).symm
theorem index48_ok (l : List Win) (g : FuncId) (caps : List AV) (p : Win → Bool) (hn : l.length ≤ 1048576) (hf : freeL caps = true) (hg : ∀ x ∈ l, CallsTo Tryd.prog g (x.av :: caps) [.p (.bool (p x))]) :
    CallsTo Tryd.prog 48 [.sl (l.map Win.av), .fn g caps] [.p (.int .i64 (idxP p l 0))] := by
  refine f48_calls (Nat.le_of_ble_eq_true rfl) ?_
  simp (maxSteps := 2000000) (disch := omega) only [go_sem, ↓reduceIte, reduceIte, Nat.reduceAdd, Nat.reduceLT, Nat.reduceEqDiff, Nat.reduceLeDiff, Nat.reduceMul]
  refine loop_of f48L4_is (fun i : Nat => ⟨[(8, .int .i64 i), (7, .int .i64 l.length), (0, .sl (l.map Win.av)), (1, .fn g caps)], []⟩) (fun i => i ≤ l.length ∧ idxP p l 0 = idxP p (l.drop i) i) (fun i => l.length - i) 0 ⟨Nat.zero_le _, by simp⟩ (le_intro (by simp only [allLook, allLookM, go_sem, ↓reduceIte, reduceIte, Nat.reduceAdd, Nat.reduceLT, Nat.reduceEqDiff, Nat.reduceLeDiff, Nat.reduceMul]; try simp) (by simp only [allLook, allLookM, go_sem, ↓reduceIte, reduceIte, Nat.reduceAdd, Nat.reduceLT, Nat.reduceEqDiff, Nat.reduceLeDiff, Nat.reduceMul]; try simp)) ?_
  rintro i R ⟨hi, hf'⟩ hR
  simp (maxSteps := 2000000) (disch := omega) only [go_sem, ↓reduceIte, reduceIte, Nat.reduceAdd, Nat.reduceLT, Nat.reduceEqDiff, Nat.reduceLeDiff, Nat.reduceMul]
  refine cA_d (fun h2 => ?_) (fun h2 => ?_)
  · have hlt : i < l.length := by omega
    rw [List.drop_eq_getElem_cons hlt, idxP] at hf'
    simp (maxSteps := 2000000) (disch := omega) only [go_sem, ↓reduceIte, reduceIte, Nat.reduceAdd, Nat.reduceLT, Nat.reduceEqDiff, Nat.reduceLeDiff, Nat.reduceMul]
    refine idxS_map i rfl hlt (fun _ => rfl) ?_
    simp (maxSteps := 2000000) (disch := omega) only [go_sem, ↓reduceIte, reduceIte, Nat.reduceAdd, Nat.reduceLT, Nat.reduceEqDiff, Nat.reduceLeDiff, Nat.reduceMul, Win.av]
    refine call_1 (hg l[i] (List.getElem_mem _)) (by simpa [freeL, AV.free, Win.av] using hf) (by rfl) ?_
    simp (maxSteps := 2000000) (disch := omega) only [go_sem, ↓reduceIte, reduceIte, Nat.reduceAdd, Nat.reduceLT, Nat.reduceEqDiff, Nat.reduceLeDiff, Nat.reduceMul]
    refine cA_b (fun h3 => ?_) (fun h3 => ?_)
    · rw [if_pos h3] at hf'
      simp (maxSteps := 2000000) (disch := omega) only [go_sem, ↓reduceIte, reduceIte, Nat.reduceAdd, Nat.reduceLT, Nat.reduceEqDiff, Nat.reduceLeDiff, Nat.reduceMul]
      rw [hf']
    · rw [if_neg (by simp [h3])] at hf'
      simp (maxSteps := 2000000) (disch := omega) only [go_sem, ↓reduceIte, reduceIte, Nat.reduceAdd, Nat.reduceLT, Nat.reduceEqDiff, Nat.reduceLeDiff, Nat.reduceMul]
      refine hR (i + 1) _ ⟨hlt, hf'⟩ (by omega) (le_intro (by simp only [allLook, allLookM, go_sem, ↓reduceIte, reduceIte, Nat.reduceAdd, Nat.reduceLT, Nat.reduceEqDiff, Nat.reduceLeDiff, Nat.reduceMul]; try simp) (by simp only [allLook, allLookM, go_sem, ↓reduceIte, reduceIte, Nat.reduceAdd, Nat.reduceLT, Nat.reduceEqDiff, Nat.reduceLeDiff, Nat.reduceMul]; try simp))
  · have : l.length = i := by omega
    subst this
    rw [List.drop_length, idxP] at hf'
    simp (maxSteps := 2000000) (disch := omega) only [go_sem, ↓reduceIte, reduceIte, Nat.reduceAdd, Nat.reduceLT, Nat.reduceEqDiff, Nat.reduceLeDiff, Nat.reduceMul]
    rw [hf']
theorem any43_ok (l : List Win) (g : FuncId) (caps : List AV) (p : Win → Bool) (hn : l.length ≤ 1048576) (hf : freeL caps = true) (hg : ∀ x ∈ l, CallsTo Tryd.prog g (x.av :: caps) [.p (.bool (p x))]) :
    CallsTo Tryd.prog 43 [.sl (l.map Win.av), .fn g caps] [.p (.bool (l.any p))] := by
  refine f43_calls (Nat.le_of_ble_eq_true rfl) ?_
  simp (maxSteps := 2000000) (disch := omega) only [go_sem, ↓reduceIte, reduceIte, Nat.reduceAdd, Nat.reduceLT, Nat.reduceEqDiff, Nat.reduceLeDiff, Nat.reduceMul]
  refine call_1 (index48_ok l g caps p hn hf hg) (by simpa [freeL, AV.free] using hf) (by rfl) ?_
  simp (maxSteps := 2000000) (disch := omega) only [go_sem, ↓reduceIte, reduceIte, Nat.reduceAdd, Nat.reduceLT, Nat.reduceEqDiff, Nat.reduceLeDiff, Nat.reduceMul]
  have := idxP_any p l 0
  congr 1
  rw [Bool.eq_iff_iff, ← this]
  simp
theorem inside28_ok (l : List Win) (t : Int) (hn : l.length ≤ 1048576) : CallsTo Tryd.prog 28 [.sl (l.map Win.av), .int .i64 t] [.p (.bool (l.any (hasT t)))] := by
  refine f28_calls (Nat.le_of_ble_eq_true rfl) ?_
  simp (maxSteps := 2000000) (disch := omega) only [go_sem, ↓reduceIte, reduceIte, Nat.reduceAdd, Nat.reduceLT, Nat.reduceEqDiff, Nat.reduceLeDiff, Nat.reduceMul]
  refine callv_1 (by rfl) (any43_ok l 44 [.pp [.int .i64 t] 0] (hasT t) hn (by rfl) (fun x _ => in44_ok t x)) (by rfl) ?_
  simp (maxSteps := 2000000) (disch := omega) only [go_sem, ↓reduceIte, reduceIte, Nat.reduceAdd, Nat.reduceLT, Nat.reduceEqDiff, Nat.reduceLeDiff, Nat.reduceMul]
set_option maxHeartbeats 4000000 in
theorem rinside29_ok (l : List Win) (t : Int) (hn : l.length ≤ 1048576) : CallsTo Tryd.prog 29 [.sl (l.map Win.av), .int .i64 t] [.p (.bool (l.any (hasT t)))] := by
  refine f29_calls (Nat.le_of_ble_eq_true rfl) ?_
  simp (maxSteps := 2000000) (disch := omega) only [go_sem, ↓reduceIte, reduceIte, Nat.reduceAdd, Nat.reduceLT, Nat.reduceEqDiff, Nat.reduceLeDiff, Nat.reduceMul]
  refine loop_of f29L4_is (fun s : List Win × List Win => ⟨[(9, .int .i64 s.1.length), (8, .int .i64 l.length), (7, .sl (l.map Win.av)), (1, .int .i64 t)], []⟩)
    (fun s => l = s.1 ++ s.2 ∧ l.any (hasT t) = s.2.any (hasT t)) (fun s => s.2.length) ([], l) ⟨rfl, rfl⟩ (le_intro (by simp only [allLook, allLookM, go_sem, ↓reduceIte, reduceIte, Nat.reduceAdd, Nat.reduceLT, Nat.reduceEqDiff, Nat.reduceLeDiff, Nat.reduceMul]; try simp) (by simp only [allLook, allLookM, go_sem, ↓reduceIte, reduceIte, Nat.reduceAdd, Nat.reduceLT, Nat.reduceEqDiff, Nat.reduceLeDiff, Nat.reduceMul]; try simp)) ?_
  rintro ⟨d, r⟩ R ⟨hdr, he⟩ hR
  simp only at hdr he
  have hlen : l.length = d.length + r.length := by rw [hdr, List.length_append]
  simp (maxSteps := 2000000) (disch := omega) only [go_sem, ↓reduceIte, reduceIte, Nat.reduceAdd, Nat.reduceLT, Nat.reduceEqDiff, Nat.reduceLeDiff, Nat.reduceMul]
  cases r with
  | nil =>
    rw [List.length_nil] at hlen
    refine cA_d (fun h => absurd h (by omega)) (fun _ => ?_)
    rw [he]
    simp (maxSteps := 2000000) (disch := omega) only [go_sem, ↓reduceIte, reduceIte, Nat.reduceAdd, Nat.reduceLT, Nat.reduceEqDiff, Nat.reduceLeDiff, Nat.reduceMul]
    all_goals (try rfl)
  | cons x r =>
    rw [List.length_cons] at hlen
    refine cA_d (fun _ => ?_) (fun h => absurd (show ((d.length : Nat) : Int) < l.length by omega) h)
    have hx : l[d.length]? = some x := by rw [hdr]; exact get_mid d r x _ rfl
    rw [List.any_cons] at he
    have next : hasT t x = false → ∀ s', (St.le ⟨[(9, .int .i64 (d.length + 1 : Nat)), (8, .int .i64 l.length), (7, .sl (l.map Win.av)), (1, .int .i64 t)], []⟩ s') → Run (R s') := fun h s' hs => by
      rw [h, Bool.false_or] at he
      exact hR (d ++ [x], r) s' ⟨by rw [hdr]; simp, he⟩ (by simp) (by simpa using hs)
    (repeat' (first | simp (maxSteps := 2000000) (disch := omega) only [go_sem, ↓reduceIte, reduceIte, Nat.reduceAdd, Nat.reduceLT, Nat.reduceEqDiff, Nat.reduceLeDiff, Nat.reduceMul, Win.av] | refine idxS_get d.length rfl hx rfl ?_))
    refine gA_dt (fun h => ?_) (fun h => ?_)
    · simp (maxSteps := 2000000) (disch := omega) only [go_sem, ↓reduceIte, reduceIte, Nat.reduceAdd, Nat.reduceLT, Nat.reduceEqDiff, Nat.reduceLeDiff, Nat.reduceMul]
      refine cA_d (fun h2 => ?_) (fun h2 => ?_)
      · rw [hasT_iff.2 ⟨h, h2⟩, Bool.true_or] at he
        rw [he]
        simp (maxSteps := 2000000) (disch := omega) only [go_sem, ↓reduceIte, reduceIte, Nat.reduceAdd, Nat.reduceLT, Nat.reduceEqDiff, Nat.reduceLeDiff, Nat.reduceMul]
        all_goals (try rfl)
      · simp (maxSteps := 2000000) (disch := omega) only [go_sem, ↓reduceIte, reduceIte, Nat.reduceAdd, Nat.reduceLT, Nat.reduceEqDiff, Nat.reduceLeDiff, Nat.reduceMul]
        exact next (by unfold hasT; exact decide_eq_false (fun k => h2 k.2)) _ (le_intro (by simp only [allLook, allLookM, go_sem, ↓reduceIte, reduceIte, Nat.reduceAdd, Nat.reduceLT, Nat.reduceEqDiff, Nat.reduceLeDiff, Nat.reduceMul, show ((d.length : Nat) : Int) + 1 = (d.length + 1 : Nat) by omega]; try simp) (by simp only [allLook, allLookM, go_sem, ↓reduceIte, reduceIte, Nat.reduceAdd, Nat.reduceLT, Nat.reduceEqDiff, Nat.reduceLeDiff, Nat.reduceMul, show ((d.length : Nat) : Int) + 1 = (d.length + 1 : Nat) by omega]; try simp))
    · simp (maxSteps := 2000000) (disch := omega) only [go_sem, ↓reduceIte, reduceIte, Nat.reduceAdd, Nat.reduceLT, Nat.reduceEqDiff, Nat.reduceLeDiff, Nat.reduceMul]
      exact next (by unfold hasT; exact decide_eq_false (fun k => h k.1)) _ (le_intro (by simp only [allLook, allLookM, go_sem, ↓reduceIte, reduceIte, Nat.reduceAdd, Nat.reduceLT, Nat.reduceEqDiff, Nat.reduceLeDiff, Nat.reduceMul, show ((d.length : Nat) : Int) + 1 = (d.length + 1 : Nat) by omega]; try simp) (by simp only [allLook, allLookM, go_sem, ↓reduceIte, reduceIte, Nat.reduceAdd, Nat.reduceLT, Nat.reduceEqDiff, Nat.reduceLeDiff, Nat.reduceMul, show ((d.length : Nat) : Int) + 1 = (d.length + 1 : Nat) by omega]; try simp))
end Go.Proofs.YtaogafgadgppnaaDoor

namespace Go.Proofs.YtaogafgadgppnaaDoor
open Go Go.AI Go.Proofs
set_option linter.unusedSimpArgs false
set_option linter.unusedVariables false
set_option maxRecDepth 4000
def commonR (a b : List Win) : List Win := if (allOk a && allOk b) = true then cmnD (nrm a) (nrm b) else []
def commonE (a b : List Win) : Int := if (allOk a && allOk b) = true then 0 else 1
set_option maxHeartbeats 8000000 in
theorem common30_ok (a b : List Win) (ha : a.length ≤ 65536) (hb : b.length ≤ 65536) : CallsTo Tryd.prog 30 [.sl (a.map Win.av), .sl (b.map Win.av)] [.fresh 34 2 ((commonR a b).map Win.av), .p (.int .i64 (commonE a b))] := by
  refine f30_calls (Nat.le_of_ble_eq_true rfl) ?_
  simp (maxSteps := 2000000) (disch := omega) only [go_sem, ↓reduceIte, reduceIte, Nat.reduceAdd, Nat.reduceLT, Nat.reduceEqDiff, Nat.reduceLeDiff, Nat.reduceMul]
  refine call_f2 (merge25_ok a (by omega)) (by rfl) (by rfl) ?_
  unfold commonR commonE mergeR mergeE
  cases hao : allOk a with
  | false =>
    simp only [Bool.false_and, Bool.false_eq_true, if_false]
    simp (maxSteps := 2000000) (disch := omega) only [go_sem, ↓reduceIte, reduceIte, Nat.reduceAdd, Nat.reduceLT, Nat.reduceEqDiff, Nat.reduceLeDiff, Nat.reduceMul]
    refine cA_d (fun _ => ?_) (fun h => absurd (show ¬ (1 : Int) = 0 by decide) h)
    simp (maxSteps := 2000000) (disch := omega) only [go_sem, ↓reduceIte, reduceIte, Nat.reduceAdd, Nat.reduceLT, Nat.reduceEqDiff, Nat.reduceLeDiff, Nat.reduceMul]
    all_goals exact ⟨rfl, trivial⟩
  | true =>
  simp (maxSteps := 2000000) (disch := omega) only [go_sem, ↓reduceIte, reduceIte, Nat.reduceAdd, Nat.reduceLT, Nat.reduceEqDiff, Nat.reduceLeDiff, Nat.reduceMul]
  refine cA_d (fun h => absurd h (by simp)) (fun _ => ?_)
  simp (maxSteps := 2000000) (disch := omega) only [go_sem, ↓reduceIte, reduceIte, Nat.reduceAdd, Nat.reduceLT, Nat.reduceEqDiff, Nat.reduceLeDiff, Nat.reduceMul]
  refine call_f2 (merge25_ok b (by omega)) (by rfl) (by rfl) ?_
  unfold mergeR mergeE
  cases hbo : allOk b with
  | false =>
    simp only [Bool.and_false, Bool.false_eq_true, if_false]
    simp (maxSteps := 2000000) (disch := omega) only [go_sem, ↓reduceIte, reduceIte, Nat.reduceAdd, Nat.reduceLT, Nat.reduceEqDiff, Nat.reduceLeDiff, Nat.reduceMul]
    refine cA_d (fun _ => ?_) (fun h => absurd (show ¬ (1 : Int) = 0 by decide) h)
    simp (maxSteps := 2000000) (disch := omega) only [go_sem, ↓reduceIte, reduceIte, Nat.reduceAdd, Nat.reduceLT, Nat.reduceEqDiff, Nat.reduceLeDiff, Nat.reduceMul]
    all_goals exact ⟨rfl, trivial⟩
  | true =>
  have xbd := nrm_bd (allOk_iff.1 hao)
  have ybd := nrm_bd (allOk_iff.1 hbo)
  have hcm := cmnP_eq (nrm_canon a) (nrm_canon b)
  simp only [Bool.and_self, if_true]
  rw [← hcm]
  generalize nrm a = X at *
  generalize nrm b = Y at *
  simp (maxSteps := 2000000) (disch := omega) only [go_sem, ↓reduceIte, reduceIte, Nat.reduceAdd, Nat.reduceLT, Nat.reduceEqDiff, Nat.reduceLeDiff, Nat.reduceMul]
  refine cA_d (fun h => absurd h (by simp)) (fun _ => ?_)
  simp (maxSteps := 2000000) (disch := omega) only [go_sem, ↓reduceIte, reduceIte, Nat.reduceAdd, Nat.reduceLT, Nat.reduceEqDiff, Nat.reduceLeDiff, Nat.reduceMul]
  refine loop_of f30L15_is (fun t : List Win × (List Win × List Win) × (List Win × List Win) => ⟨[(10, .int .i64 t.2.1.1.length), (11, .int .i64 t.2.2.1.length), (6, .own 15), (8, .own 23), (9, .own 9)], [(15, .arr 34 2 (X.map Win.av)), (23, .arr 34 2 (Y.map Win.av)), (9, .arr 34 2 (t.1.map Win.av))]⟩)
    (fun t => X = t.2.1.1 ++ t.2.1.2 ∧ Y = t.2.2.1 ++ t.2.2.2 ∧ cmnP X Y = t.1 ++ cmnP t.2.1.2 t.2.2.2 ∧ t.1.length ≤ t.2.1.1.length + t.2.2.1.length) (fun t => t.2.1.2.length + t.2.2.2.length) ([], ([], X), ([], Y)) ⟨rfl, rfl, rfl, by simp⟩ (le_intro (by simp only [allLook, allLookM, go_sem, ↓reduceIte, reduceIte, Nat.reduceAdd, Nat.reduceLT, Nat.reduceEqDiff, Nat.reduceLeDiff, Nat.reduceMul]; try simp) (by simp only [allLook, allLookM, go_sem, ↓reduceIte, reduceIte, Nat.reduceAdd, Nat.reduceLT, Nat.reduceEqDiff, Nat.reduceLeDiff, Nat.reduceMul]; try simp)) ?_
  rintro ⟨P, ⟨dx, rx⟩, ⟨dy, ry⟩⟩ R ⟨hx, hy, he, hP⟩ hR
  simp only at hx hy he hP
  have hlx : X.length = dx.length + rx.length := by rw [hx, List.length_append]
  have hly : Y.length = dy.length + ry.length := by rw [hy, List.length_append]
  simp (maxSteps := 2000000) (disch := omega) only [go_sem, ↓reduceIte, reduceIte, Nat.reduceAdd, Nat.reduceLT, Nat.reduceEqDiff, Nat.reduceLeDiff, Nat.reduceMul]
  cases rx with
  | nil =>
    rw [List.length_nil] at hlx
    refine gA_dt (fun h => absurd h (by omega)) (fun _ => ?_)
    rw [cmnP, List.append_nil] at he
    rw [he]
    simp (maxSteps := 2000000) (disch := omega) only [go_sem, ↓reduceIte, reduceIte, Nat.reduceAdd, Nat.reduceLT, Nat.reduceEqDiff, Nat.reduceLeDiff, Nat.reduceMul]
    all_goals (try exact trivial)
  | cons v rx =>
  rw [List.length_cons] at hlx
  refine gA_dt (fun _ => ?_) (fun h => absurd (show ((dx.length : Nat) : Int) < X.length by omega) h)
  simp (maxSteps := 2000000) (disch := omega) only [go_sem, ↓reduceIte, reduceIte, Nat.reduceAdd, Nat.reduceLT, Nat.reduceEqDiff, Nat.reduceLeDiff, Nat.reduceMul]
  cases ry with
  | nil =>
    rw [List.length_nil] at hly
    refine cA_d (fun h => absurd h (by omega)) (fun _ => ?_)
    rw [cmnP, List.append_nil] at he
    rw [he]
    simp (maxSteps := 2000000) (disch := omega) only [go_sem, ↓reduceIte, reduceIte, Nat.reduceAdd, Nat.reduceLT, Nat.reduceEqDiff, Nat.reduceLeDiff, Nat.reduceMul]
    all_goals (try exact trivial)
  | cons w ry =>
  rw [List.length_cons] at hly
  refine cA_d (fun _ => ?_) (fun h => absurd (show ((dy.length : Nat) : Int) < Y.length by omega) h)
  have hv : X[dx.length]? = some v := by rw [hx]; exact get_mid dx rx v _ rfl
  have hw : Y[dy.length]? = some w := by rw [hy]; exact get_mid dy ry w _ rfl
  rw [cmnP] at he
  (repeat' (first | simp (maxSteps := 2000000) (disch := omega) only [go_sem, ↓reduceIte, reduceIte, Nat.reduceAdd, Nat.reduceLT, Nat.reduceEqDiff, Nat.reduceLeDiff, Nat.reduceMul, Win.av] | refine idxO_get dx.length rfl hv ?_ | refine idxO_get dy.length rfl hw ?_ | refine at_get hv ?_ | refine at_get hw ?_))
  refine cA_d (fun h4 => ?_) (fun h4 => ?_)
  · rw [if_pos (show (cutW v w).a < (cutW v w).b from h4), ← List.append_assoc] at he
    simp (maxSteps := 2000000) (disch := omega) only [go_sem, ↓reduceIte, reduceIte, Nat.reduceAdd, Nat.reduceLT, Nat.reduceEqDiff, Nat.reduceLeDiff, Nat.reduceMul]
    refine bsK_intro (xs := [(cutW v w).av]) rfl (by decide) (by decide) (by rfl) ?_
    simp (maxSteps := 2000000) (disch := omega) only [go_sem, ↓reduceIte, reduceIte, Nat.reduceAdd, Nat.reduceLT, Nat.reduceEqDiff, Nat.reduceLeDiff, Nat.reduceMul]
    refine appendA_of (ty := 34) (k := 2) (bytes := 16) (z := [.int .i64 0, .int .i64 0]) (by kernel_rfl) (by kernel_rfl) (by kernel_rfl) rfl ?_
    simp (maxSteps := 2000000) (disch := omega) only [go_sem, ↓reduceIte, reduceIte, Nat.reduceAdd, Nat.reduceLT, Nat.reduceEqDiff, Nat.reduceLeDiff, Nat.reduceMul]
    refine appO_few (by decide) (by decide) (by simp) (by simp [AV.cells, Win.av]) (by simp; omega) ?_
    (repeat' (first | simp (maxSteps := 2000000) (disch := omega) only [go_sem, ↓reduceIte, reduceIte, Nat.reduceAdd, Nat.reduceLT, Nat.reduceEqDiff, Nat.reduceLeDiff, Nat.reduceMul, Win.av] | refine idxO_get dx.length rfl hv ?_ | refine idxO_get dy.length rfl hw ?_ | refine at_get hv ?_ | refine at_get hw ?_))
    refine cA_d (fun h5 => ?_) (fun h5 => ?_)
    · rw [if_pos h5] at he
      simp (maxSteps := 2000000) (disch := omega) only [go_sem, ↓reduceIte, reduceIte, Nat.reduceAdd, Nat.reduceLT, Nat.reduceEqDiff, Nat.reduceLeDiff, Nat.reduceMul]
      refine hR (P ++ [cutW v w], (dx ++ [v], rx), (dy, w :: ry)) _ ⟨by rw [hx]; simp, hy, he, by simp; omega⟩ (by simp) ?_
      simp only [List.map_append, List.map_cons, List.map_nil]
      exact (le_intro (by simp only [allLook, allLookM, go_sem, ↓reduceIte, reduceIte, Nat.reduceAdd, Nat.reduceLT, Nat.reduceEqDiff, Nat.reduceLeDiff, Nat.reduceMul, Win.av, cutW, List.length_append, List.length_cons, List.length_nil, show ((dx.length : Nat) : Int) + 1 = (dx.length + (0 + 1) : Nat) by omega]; try simp) (by simp only [allLook, allLookM, go_sem, ↓reduceIte, reduceIte, Nat.reduceAdd, Nat.reduceLT, Nat.reduceEqDiff, Nat.reduceLeDiff, Nat.reduceMul, Win.av, cutW, List.length_append, List.length_cons, List.length_nil, show ((dx.length : Nat) : Int) + 1 = (dx.length + (0 + 1) : Nat) by omega]; try simp))
    · rw [if_neg h5] at he
      simp (maxSteps := 2000000) (disch := omega) only [go_sem, ↓reduceIte, reduceIte, Nat.reduceAdd, Nat.reduceLT, Nat.reduceEqDiff, Nat.reduceLeDiff, Nat.reduceMul]
      refine hR (P ++ [cutW v w], (dx, v :: rx), (dy ++ [w], ry)) _ ⟨hx, by rw [hy]; simp, he, by simp; omega⟩ (by simp) ?_
      simp only [List.map_append, List.map_cons, List.map_nil]
      exact (le_intro (by simp only [allLook, allLookM, go_sem, ↓reduceIte, reduceIte, Nat.reduceAdd, Nat.reduceLT, Nat.reduceEqDiff, Nat.reduceLeDiff, Nat.reduceMul, Win.av, cutW, List.length_append, List.length_cons, List.length_nil, show ((dy.length : Nat) : Int) + 1 = (dy.length + (0 + 1) : Nat) by omega]; try simp) (by simp only [allLook, allLookM, go_sem, ↓reduceIte, reduceIte, Nat.reduceAdd, Nat.reduceLT, Nat.reduceEqDiff, Nat.reduceLeDiff, Nat.reduceMul, Win.av, cutW, List.length_append, List.length_cons, List.length_nil, show ((dy.length : Nat) : Int) + 1 = (dy.length + (0 + 1) : Nat) by omega]; try simp))
  · rw [if_neg (show ¬ (cutW v w).a < (cutW v w).b from h4), List.nil_append] at he
    (repeat' (first | simp (maxSteps := 2000000) (disch := omega) only [go_sem, ↓reduceIte, reduceIte, Nat.reduceAdd, Nat.reduceLT, Nat.reduceEqDiff, Nat.reduceLeDiff, Nat.reduceMul, Win.av] | refine idxO_get dx.length rfl hv ?_ | refine idxO_get dy.length rfl hw ?_ | refine at_get hv ?_ | refine at_get hw ?_))
    refine cA_d (fun h5 => ?_) (fun h5 => ?_)
    · rw [if_pos h5] at he
      simp (maxSteps := 2000000) (disch := omega) only [go_sem, ↓reduceIte, reduceIte, Nat.reduceAdd, Nat.reduceLT, Nat.reduceEqDiff, Nat.reduceLeDiff, Nat.reduceMul]
      refine hR (P, (dx ++ [v], rx), (dy, w :: ry)) _ ⟨by rw [hx]; simp, hy, he, by simp; omega⟩ (by simp) ?_
      exact (le_intro (by simp only [allLook, allLookM, go_sem, ↓reduceIte, reduceIte, Nat.reduceAdd, Nat.reduceLT, Nat.reduceEqDiff, Nat.reduceLeDiff, Nat.reduceMul, List.length_append, List.length_cons, List.length_nil, show ((dx.length : Nat) : Int) + 1 = (dx.length + (0 + 1) : Nat) by omega]; try simp) (by simp only [allLook, allLookM, go_sem, ↓reduceIte, reduceIte, Nat.reduceAdd, Nat.reduceLT, Nat.reduceEqDiff, Nat.reduceLeDiff, Nat.reduceMul, List.length_append, List.length_cons, List.length_nil, show ((dx.length : Nat) : Int) + 1 = (dx.length + (0 + 1) : Nat) by omega]; try simp))
    · rw [if_neg h5] at he
      simp (maxSteps := 2000000) (disch := omega) only [go_sem, ↓reduceIte, reduceIte, Nat.reduceAdd, Nat.reduceLT, Nat.reduceEqDiff, Nat.reduceLeDiff, Nat.reduceMul]
      refine hR (P, (dx, v :: rx), (dy ++ [w], ry)) _ ⟨hx, by rw [hy]; simp, he, by simp; omega⟩ (by simp) ?_
      exact (le_intro (by simp only [allLook, allLookM, go_sem, ↓reduceIte, reduceIte, Nat.reduceAdd, Nat.reduceLT, Nat.reduceEqDiff, Nat.reduceLeDiff, Nat.reduceMul, List.length_append, List.length_cons, List.length_nil, show ((dy.length : Nat) : Int) + 1 = (dy.length + (0 + 1) : Nat) by omega]; try simp) (by simp only [allLook, allLookM, go_sem, ↓reduceIte, reduceIte, Nat.reduceAdd, Nat.reduceLT, Nat.reduceEqDiff, Nat.reduceLeDiff, Nat.reduceMul, List.length_append, List.length_cons, List.length_nil, show ((dy.length : Nat) : Int) + 1 = (dy.length + (0 + 1) : Nat) by omega]; try simp))
set_option maxHeartbeats 8000000 in
theorem rcommon31_ok (a b : List Win) (ha : a.length ≤ 1024) (hb : b.length ≤ 1024) : CallsTo Tryd.prog 31 [.sl (a.map Win.av), .sl (b.map Win.av)] [.fresh 34 2 ((commonR a b).map Win.av), .p (.int .i64 (commonE a b))] := by
  refine f31_calls (Nat.le_of_ble_eq_true rfl) ?_
  simp (maxSteps := 2000000) (disch := omega) only [go_sem, ↓reduceIte, reduceIte, Nat.reduceAdd, Nat.reduceLT, Nat.reduceEqDiff, Nat.reduceLeDiff, Nat.reduceMul]
  refine call_f2 (rmerge26_ok a (by omega)) (by rfl) (by rfl) ?_
  unfold commonR commonE mergeR mergeE
  cases hao : allOk a with
  | false =>
    simp only [Bool.false_and, Bool.false_eq_true, if_false]
    simp (maxSteps := 2000000) (disch := omega) only [go_sem, ↓reduceIte, reduceIte, Nat.reduceAdd, Nat.reduceLT, Nat.reduceEqDiff, Nat.reduceLeDiff, Nat.reduceMul]
    refine cA_d (fun _ => ?_) (fun h => absurd (show ¬ (1 : Int) = 0 by decide) h)
    simp (maxSteps := 2000000) (disch := omega) only [go_sem, ↓reduceIte, reduceIte, Nat.reduceAdd, Nat.reduceLT, Nat.reduceEqDiff, Nat.reduceLeDiff, Nat.reduceMul]
    all_goals exact ⟨rfl, trivial⟩
  | true =>
  simp (maxSteps := 2000000) (disch := omega) only [go_sem, ↓reduceIte, reduceIte, Nat.reduceAdd, Nat.reduceLT, Nat.reduceEqDiff, Nat.reduceLeDiff, Nat.reduceMul]
  refine cA_d (fun h => absurd h (by simp)) (fun _ => ?_)
  simp (maxSteps := 2000000) (disch := omega) only [go_sem, ↓reduceIte, reduceIte, Nat.reduceAdd, Nat.reduceLT, Nat.reduceEqDiff, Nat.reduceLeDiff, Nat.reduceMul]
  refine call_f2 (rmerge26_ok b (by omega)) (by rfl) (by rfl) ?_
  unfold mergeR mergeE
  cases hbo : allOk b with
  | false =>
    simp only [Bool.and_false, Bool.false_eq_true, if_false]
    simp (maxSteps := 2000000) (disch := omega) only [go_sem, ↓reduceIte, reduceIte, Nat.reduceAdd, Nat.reduceLT, Nat.reduceEqDiff, Nat.reduceLeDiff, Nat.reduceMul]
    refine cA_d (fun _ => ?_) (fun h => absurd (show ¬ (1 : Int) = 0 by decide) h)
    simp (maxSteps := 2000000) (disch := omega) only [go_sem, ↓reduceIte, reduceIte, Nat.reduceAdd, Nat.reduceLT, Nat.reduceEqDiff, Nat.reduceLeDiff, Nat.reduceMul]
    all_goals exact ⟨rfl, trivial⟩
  | true =>
  have xbd := nrm_bd (allOk_iff.1 hao)
  have ybd := nrm_bd (allOk_iff.1 hbo)
  simp only [Bool.and_self, if_true]
  generalize nrm a = X at *
  generalize nrm b = Y at *
  simp (maxSteps := 2000000) (disch := omega) only [go_sem, ↓reduceIte, reduceIte, Nat.reduceAdd, Nat.reduceLT, Nat.reduceEqDiff, Nat.reduceLeDiff, Nat.reduceMul]
  refine cA_d (fun h => absurd h (by simp)) (fun _ => ?_)
  simp (maxSteps := 2000000) (disch := omega) only [go_sem, ↓reduceIte, reduceIte, Nat.reduceAdd, Nat.reduceLT, Nat.reduceEqDiff, Nat.reduceLeDiff, Nat.reduceMul]
  refine loop_of f31L15_is (fun t : List Win × (List Win × List Win) => ⟨[(34, .int .i64 t.2.1.length), (33, .int .i64 X.length), (32, .own 18), (8, .own 26), (9, .own 9)], [(18, .arr 34 2 (X.map Win.av)), (26, .arr 34 2 (Y.map Win.av)), (9, .arr 34 2 (t.1.map Win.av))]⟩)
    (fun t => X = t.2.1 ++ t.2.2 ∧ cmnD X Y = t.1 ++ cmnD t.2.2 Y ∧ t.1.length ≤ t.2.1.length * 1024) (fun t => t.2.2.length) ([], ([], X)) ⟨rfl, rfl, by simp⟩ (le_intro (by simp only [allLook, allLookM, go_sem, ↓reduceIte, reduceIte, Nat.reduceAdd, Nat.reduceLT, Nat.reduceEqDiff, Nat.reduceLeDiff, Nat.reduceMul]; try simp) (by simp only [allLook, allLookM, go_sem, ↓reduceIte, reduceIte, Nat.reduceAdd, Nat.reduceLT, Nat.reduceEqDiff, Nat.reduceLeDiff, Nat.reduceMul]; try simp)) ?_
  rintro ⟨P, ⟨dx, rx⟩⟩ R ⟨hx, he, hP⟩ hR
  simp only at hx he hP
  have hlx : X.length = dx.length + rx.length := by rw [hx, List.length_append]
  simp (maxSteps := 2000000) (disch := omega) only [go_sem, ↓reduceIte, reduceIte, Nat.reduceAdd, Nat.reduceLT, Nat.reduceEqDiff, Nat.reduceLeDiff, Nat.reduceMul]
  cases rx with
  | nil =>
    rw [List.length_nil] at hlx
    refine cA_d (fun h => absurd h (by omega)) (fun _ => ?_)
    rw [cmnD, List.append_nil] at he
    rw [he]
    simp (maxSteps := 2000000) (disch := omega) only [go_sem, ↓reduceIte, reduceIte, Nat.reduceAdd, Nat.reduceLT, Nat.reduceEqDiff, Nat.reduceLeDiff, Nat.reduceMul]
    all_goals (try exact trivial)
  | cons v rx =>
  rw [List.length_cons] at hlx
  refine cA_d (fun _ => ?_) (fun h => absurd (show ((dx.length : Nat) : Int) < X.length by omega) h)
  have hv : X[dx.length]? = some v := by rw [hx]; exact get_mid dx rx v _ rfl
  rw [cmnD] at he
  (repeat' (first | simp (maxSteps := 2000000) (disch := omega) only [go_sem, ↓reduceIte, reduceIte, Nat.reduceAdd, Nat.reduceLT, Nat.reduceEqDiff, Nat.reduceLeDiff, Nat.reduceMul, Win.av] | refine idxO_get dx.length rfl hv ?_ | refine at_get hv ?_))
  refine loop_of f31L24_is (fun t : List Win × (List Win × List Win) => ⟨[(40, .int .i64 t.2.1.length), (39, .int .i64 Y.length), (38, .own 26), (34, .int .i64 dx.length), (33, .int .i64 X.length), (32, .own 18), (8, .own 26), (9, .own 9), (11, .ad 11 0 0)], [(18, .arr 34 2 (X.map Win.av)), (26, .arr 34 2 (Y.map Win.av)), (9, .arr 34 2 (t.1.map Win.av)), (11, .box [.int .i64 v.a, .int .i64 v.b])]⟩)
    (fun t => Y = t.2.1 ++ t.2.2 ∧ P ++ cutL v Y = t.1 ++ cutL v t.2.2 ∧ t.1.length ≤ dx.length * 1024 + t.2.1.length) (fun t => t.2.2.length) (P, ([], Y)) ⟨rfl, rfl, by simpa using hP⟩ (le_intro (by simp only [allLook, allLookM, go_sem, ↓reduceIte, reduceIte, Nat.reduceAdd, Nat.reduceLT, Nat.reduceEqDiff, Nat.reduceLeDiff, Nat.reduceMul]; try simp) (by simp only [allLook, allLookM, go_sem, ↓reduceIte, reduceIte, Nat.reduceAdd, Nat.reduceLT, Nat.reduceEqDiff, Nat.reduceLeDiff, Nat.reduceMul]; try simp)) ?_
  rintro ⟨P2, ⟨dy, ry⟩⟩ R2 ⟨hy, he2, hP2⟩ hR2
  simp only at hy he2 hP2
  have hly : Y.length = dy.length + ry.length := by rw [hy, List.length_append]
  simp (maxSteps := 2000000) (disch := omega) only [go_sem, ↓reduceIte, reduceIte, Nat.reduceAdd, Nat.reduceLT, Nat.reduceEqDiff, Nat.reduceLeDiff, Nat.reduceMul]
  cases ry with
  | nil =>
    rw [List.length_nil] at hly
    refine cA_d (fun h => absurd h (by omega)) (fun _ => ?_)
    rw [cutL, List.append_nil] at he2
    rw [← List.append_assoc, he2] at he
    simp (maxSteps := 2000000) (disch := omega) only [go_sem, ↓reduceIte, reduceIte, Nat.reduceAdd, Nat.reduceLT, Nat.reduceEqDiff, Nat.reduceLeDiff, Nat.reduceMul]
    refine hR (P2, (dx ++ [v], rx)) _ ⟨by rw [hx]; simp, he, by simp; omega⟩ (by simp) ?_
    exact (le_intro (by simp only [allLook, allLookM, go_sem, ↓reduceIte, reduceIte, Nat.reduceAdd, Nat.reduceLT, Nat.reduceEqDiff, Nat.reduceLeDiff, Nat.reduceMul, List.length_append, List.length_cons, List.length_nil, show ((dx.length : Nat) : Int) + 1 = (dx.length + (0 + 1) : Nat) by omega]; try simp) (by simp only [allLook, allLookM, go_sem, ↓reduceIte, reduceIte, Nat.reduceAdd, Nat.reduceLT, Nat.reduceEqDiff, Nat.reduceLeDiff, Nat.reduceMul, List.length_append, List.length_cons, List.length_nil, show ((dx.length : Nat) : Int) + 1 = (dx.length + (0 + 1) : Nat) by omega]; try simp))
  | cons w ry =>
  rw [List.length_cons] at hly
  refine cA_d (fun _ => ?_) (fun h => absurd (show ((dy.length : Nat) : Int) < Y.length by omega) h)
  have hw : Y[dy.length]? = some w := by rw [hy]; exact get_mid dy ry w _ rfl
  rw [cutL] at he2
  (repeat' (first | simp (maxSteps := 2000000) (disch := omega) only [go_sem, ↓reduceIte, reduceIte, Nat.reduceAdd, Nat.reduceLT, Nat.reduceEqDiff, Nat.reduceLeDiff, Nat.reduceMul, Win.av] | refine idxO_get dy.length rfl hw ?_ | refine at_get hw ?_))
  refine cA_d (fun h4 => ?_) (fun h4 => ?_)
  · rw [if_pos (show (cutW v w).a < (cutW v w).b from h4)] at he2
    simp (maxSteps := 2000000) (disch := omega) only [go_sem, ↓reduceIte, reduceIte, Nat.reduceAdd, Nat.reduceLT, Nat.reduceEqDiff, Nat.reduceLeDiff, Nat.reduceMul]
    refine bsK_intro (xs := [(cutW v w).av]) rfl (by decide) (by decide) (by rfl) ?_
    simp (maxSteps := 2000000) (disch := omega) only [go_sem, ↓reduceIte, reduceIte, Nat.reduceAdd, Nat.reduceLT, Nat.reduceEqDiff, Nat.reduceLeDiff, Nat.reduceMul]
    refine appendA_of (ty := 34) (k := 2) (bytes := 16) (z := [.int .i64 0, .int .i64 0]) (by kernel_rfl) (by kernel_rfl) (by kernel_rfl) rfl ?_
    simp (maxSteps := 2000000) (disch := omega) only [go_sem, ↓reduceIte, reduceIte, Nat.reduceAdd, Nat.reduceLT, Nat.reduceEqDiff, Nat.reduceLeDiff, Nat.reduceMul]
    refine appO_few (by decide) (by decide) (by simp) (by simp [AV.cells, Win.av]) (by simp; omega) ?_
    simp (maxSteps := 2000000) (disch := omega) only [go_sem, ↓reduceIte, reduceIte, Nat.reduceAdd, Nat.reduceLT, Nat.reduceEqDiff, Nat.reduceLeDiff, Nat.reduceMul]
    refine hR2 (P2 ++ [cutW v w], (dy ++ [w], ry)) _ ⟨by rw [hy]; simp, by rw [he2]; simp, by simp; omega⟩ (by simp) ?_
    simp only [List.map_append, List.map_cons, List.map_nil]
    exact (le_intro (by simp only [allLook, allLookM, go_sem, ↓reduceIte, reduceIte, Nat.reduceAdd, Nat.reduceLT, Nat.reduceEqDiff, Nat.reduceLeDiff, Nat.reduceMul, Win.av, cutW, List.length_append, List.length_cons, List.length_nil, show ((dy.length : Nat) : Int) + 1 = (dy.length + (0 + 1) : Nat) by omega]; try simp) (by simp only [allLook, allLookM, go_sem, ↓reduceIte, reduceIte, Nat.reduceAdd, Nat.reduceLT, Nat.reduceEqDiff, Nat.reduceLeDiff, Nat.reduceMul, Win.av, cutW, List.length_append, List.length_cons, List.length_nil, show ((dy.length : Nat) : Int) + 1 = (dy.length + (0 + 1) : Nat) by omega]; try simp))
  · rw [if_neg (show ¬ (cutW v w).a < (cutW v w).b from h4)] at he2
    simp (maxSteps := 2000000) (disch := omega) only [go_sem, ↓reduceIte, reduceIte, Nat.reduceAdd, Nat.reduceLT, Nat.reduceEqDiff, Nat.reduceLeDiff, Nat.reduceMul]
    refine hR2 (P2, (dy ++ [w], ry)) _ ⟨by rw [hy]; simp, he2, by simp; omega⟩ (by simp) ?_
    exact (le_intro (by simp only [allLook, allLookM, go_sem, ↓reduceIte, reduceIte, Nat.reduceAdd, Nat.reduceLT, Nat.reduceEqDiff, Nat.reduceLeDiff, Nat.reduceMul, List.length_append, List.length_cons, List.length_nil, show ((dy.length : Nat) : Int) + 1 = (dy.length + (0 + 1) : Nat) by omega]; try simp) (by simp only [allLook, allLookM, go_sem, ↓reduceIte, reduceIte, Nat.reduceAdd, Nat.reduceLT, Nat.reduceEqDiff, Nat.reduceLeDiff, Nat.reduceMul, List.length_append, List.length_cons, List.length_nil, show ((dy.length : Nat) : Int) + 1 = (dy.length + (0 + 1) : Nat) by omega]; try simp))
end Go.Proofs.YtaogafgadgppnaaDoor
