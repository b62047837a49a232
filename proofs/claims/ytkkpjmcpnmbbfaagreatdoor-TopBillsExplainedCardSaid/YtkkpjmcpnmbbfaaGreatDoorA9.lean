/- Calls: what the callee sees, what it hands back. -/
import Derived.Test.YtkkpjmcpnmbbfaaGreatDoorA8
namespace Go.AI
section
variable {P : Program} {n : Nat} {S0 : Base} {S S' S1 : Nat → Prop} {w0 w w' wc : World} {st st' : St} {a : Act} {φ φ' : Pl}
structure Seen (mem : List (Nat × Ob)) (φ : Pl) (S T : Nat → Prop) (w : World) : Prop where
  mem : ∀ id ob, lkM mem id = some ob → ∃ hd, φ id = some hd ∧ ObRep S w φ hd ob ∧ (hd.live ob → T hd.b)
  sub : ∀ b, S b → T b
theorem Rep.toAll {mem : List (Nat × Ob)} {T : Nat → Prop} {x : AV} {v : Value} (h : Seen mem φ S T w) (hx : Rep S w φ x v) (hf : x.free = true) : Rep T w noPl x v :=
  (hx.toFree hf).mono (fun _ _ => rfl) h.sub (fun _ _ h => h)
theorem Seen.view00 {mem : List (Nat × Ob)} {T : Nat → Prop} (h : Seen mem φ S T w) {x y : AV} {v : Value} (hx : Rep S w φ x v) (hy : x.view00 mem = some y) : Rep T w noPl y v := by
  have free : ∀ {x : AV}, Rep S w φ x v → (if x.free = true then some x else if x.one = true then some .opq else none) = some y → Rep T w noPl y v := by
    intro x hx hy
    split at hy
    · rename_i hf; cases hy; exact hx.toAll h hf
    · split at hy
      · rename_i h1; cases hy; exact .opq v (hx.oneCell h1)
      · cases hy
  unfold AV.view00 at hy
  split at hy
  · rename_i id
    split at hy
    case h_2 => cases hy
    rename_i e k xs hm
    cases hy
    obtain ⟨hd, hp, e1⟩ := hx.own_inv; subst e1
    obtain ⟨hd', hp', ho, hT⟩ := h.mem id _ hm
    rw [hp] at hp'; cases hp'
    obtain ⟨g1, g2, g3, g4, g5⟩ := ho
    rcases g5 with ⟨g5, g6, g7⟩ | ⟨g5, g6, g7, cur, vs, hh, g8, g9, hr⟩
    · have : xs = [] := by rw [g6] at g1; exact List.eq_nil_of_length_eq_zero g1.symm
      subst this
      rw [g6]; exact .slNone _ _
    · rw [g5]
      have hlt : T hd.b := hT (by simp [Hd.live, g5])
      refine .sl k hd.b 0 hd.cap hd.n g1 g3 hlt (vs := vs) ?_ (hr.mono (fun _ _ => rfl) h.sub (fun _ _ h => h)) ⟨g6, g7⟩ g4
      intro j u hj
      rw [cell_of_row w hd.b (0 + j) cur e (0, 0) hh]
      rw [← g9, List.getElem?_take] at hj
      split at hj
      · simpa using hj
      · cases hj
  · cases hy
    cases hx
    exact .slNone _ _
  · exact free hx hy
theorem Seen.view00L {mem : List (Nat × Ob)} {T : Nat → Prop} (h : Seen mem φ S T w) {xs ys : List AV} {vs : List Value} (hx : RepL S w φ xs vs) (hy : Go.AI.view00L mem xs = some ys) : RepL T w noPl ys vs := by
  induction xs generalizing ys vs with
  | nil => cases hx; cases hy; exact .nil
  | cons x xs ih =>
    cases hx with
    | cons hx t =>
      simp only [Go.AI.view00L] at hy
      split at hy
      · rename_i h1 h2; cases hy; exact .cons (h.view00 hx h1) (ih t h2)
      · cases hy
theorem view00_one {mem : List (Nat × Ob)} {x y : AV} (h : x.view00 mem = some y) (hx : x.one = true) : y.one = true := by
  unfold AV.view00 at h
  split at h
  · split at h
    · cases h; rfl
    · cases h
  · cases h; rfl
  · split at h
    · cases h; exact hx
    · cases h; rfl
theorem view00L_one {mem : List (Nat × Ob)} {xs ys : List AV} (h : view00L mem xs = some ys) (hx : ∀ c ∈ xs, c.one = true) : ∀ c ∈ ys, c.one = true := by
  induction xs generalizing ys with
  | nil => cases h; simp
  | cons x xs ih =>
    simp only [view00L] at h
    split at h
    · rename_i h1 h2; cases h
      intro c hc
      rcases List.mem_cons.1 hc with rfl | hc
      · exact view00_one h1 (hx x (by simp))
      · exact ih h2 (fun c hc => hx c (by simp [hc])) c hc
    · cases h
theorem Seen.view0 {mem : List (Nat × Ob)} {T : Nat → Prop} (h : Seen mem φ S T w) {x y : AV} {v : Value} (hx : Rep S w φ x v) (hy : x.view0 mem = some y) : Rep T w noPl y v := by
  unfold AV.view0 at hy
  split at hy
  · rename_i cs
    rw [Option.map_eq_some_iff] at hy
    obtain ⟨ds, h1, rfl⟩ := hy
    obtain ⟨vs, rfl, hr, ho⟩ := hx.agg_inv
    exact .agg (h.view00L hr h1) (view00L_one h1 ho)
  · exact h.view00 hx hy
theorem Seen.view0L {mem : List (Nat × Ob)} {T : Nat → Prop} (h : Seen mem φ S T w) {xs ys : List AV} {vs : List Value} (hx : RepL S w φ xs vs) (hy : Go.AI.view0L mem xs = some ys) : RepL T w noPl ys vs := by
  induction xs generalizing ys vs with
  | nil => cases hx; cases hy; exact .nil
  | cons x xs ih =>
    cases hx with
    | cons hx t =>
      simp only [Go.AI.view0L] at hy
      split at hy
      · rename_i h1 h2; cases hy; exact .cons (h.view0 hx h1) (ih t h2)
      · cases hy
theorem view0_one {mem : List (Nat × Ob)} {x y : AV} (h : x.view0 mem = some y) (hx : x.one = true) : y.one = true := by
  unfold AV.view0 at h
  split at h
  · cases hx
  · exact view00_one h hx
theorem view0L_one {mem : List (Nat × Ob)} {xs ys : List AV} (h : view0L mem xs = some ys) (hx : ∀ c ∈ xs, c.one = true) : ∀ c ∈ ys, c.one = true := by
  induction xs generalizing ys with
  | nil => cases h; simp
  | cons x xs ih =>
    simp only [view0L] at h
    split at h
    · rename_i h1 h2; cases h
      intro c hc
      rcases List.mem_cons.1 hc with rfl | hc
      · exact view0_one h1 (hx x (by simp))
      · exact ih h2 (fun c hc => hx c (by simp [hc])) c hc
    · cases h
theorem Seen.view1 {mem : List (Nat × Ob)} {T : Nat → Prop} (h : Seen mem φ S T w) {x y : AV} {v : Value} (hx : Rep S w φ x v) (hy : x.view1 mem = some y) : Rep T w noPl y v := by
  unfold AV.view1 at hy
  split at hy
  · rename_i id i off
    split at hy
    case h_2 => cases hy
    rename_i cs hm
    split at hy
    case isFalse => cases hy
    rename_i hc
    obtain ⟨rfl, h1⟩ := hc
    obtain ⟨ds, hds, e⟩ := Option.map_eq_some_iff.1 hy
    subst e
    obtain ⟨hd, hp, e1⟩ := hx.ad_inv; subst e1
    obtain ⟨hd', hp', ho, hT⟩ := h.mem id _ hm
    rw [hp] at hp'; cases hp'
    have hlt : T hd.b := hT trivial
    obtain ⟨vs, e, hh, hr⟩ := ho
    have := Rep.pp (φ := noPl) hd.b 0 off hlt (vs := vs.toList) (fun j u hj => by
      rw [cell_of_row w hd.b (0 + j) vs e (0, 0) hh]; simpa using hj) (h.view0L hr hds) (view0L_one hds (allOne_mem h1))
    simpa using this
  · exact h.view0 hx hy
theorem Seen.view1L {mem : List (Nat × Ob)} {T : Nat → Prop} (h : Seen mem φ S T w) {xs ys : List AV} {vs : List Value} (hx : RepL S w φ xs vs) (hy : Go.AI.view1L mem xs = some ys) : RepL T w noPl ys vs := by
  induction xs generalizing ys vs with
  | nil => cases hx; cases hy; exact .nil
  | cons x xs ih =>
    cases hx with
    | cons hx t =>
      simp only [Go.AI.view1L] at hy
      split at hy
      · rename_i h1 h2; cases hy; exact .cons (h.view1 hx h1) (ih t h2)
      · cases hy
theorem Seen.view {mem : List (Nat × Ob)} {T : Nat → Prop} (h : Seen mem φ S T w) {x y : AV} {v : Value} (hx : Rep S w φ x v) (hy : x.view mem = some y) : Rep T w noPl y v := by
  unfold AV.view at hy
  split at hy
  · obtain ⟨ds, hds, e⟩ := Option.map_eq_some_iff.1 hy
    subst e
    obtain ⟨vs, e, hr⟩ := hx.fn_inv; subst e
    exact .fn _ (h.view1L hr hds)
  · exact h.view1 hx hy
theorem Seen.viewL {mem : List (Nat × Ob)} {T : Nat → Prop} (h : Seen mem φ S T w) {xs ys : List AV} {vs : List Value} (hx : RepL S w φ xs vs) (hy : Go.AI.viewL mem xs = some ys) : RepL T w noPl ys vs := by
  induction xs generalizing ys vs with
  | nil => cases hx; cases hy; exact .nil
  | cons x xs ih =>
    cases hx with
    | cons hx t =>
      simp only [Go.AI.viewL] at hy
      split at hy
      · rename_i h1 h2; cases hy; exact .cons (h.view hx h1) (ih t h2)
      · cases hy
theorem Seen.outV {mem : List (Nat × Ob)} {T : Nat → Prop} (h : Seen mem φ S T w) {v x : AV} {u : Value} (hr : Rep S w φ v u) (hk : Go.AI.outV mem v x) : Rep T w noPl x u := by
  unfold Go.AI.outV at hk
  split at hk
  · rename_i id
    split at hk
    case h_2 => exact hk.elim
    rename_i e k xs hl
    subst hk
    exact h.view0 (x := .own id) hr (by simp [AV.view0, AV.view00, hl])
  · rename_i cs
    exact h.view0 (x := .agg cs) hr hk
  · rename_i f caps
    exact h.view (x := .fn f caps) hr hk
  · obtain ⟨e, hf⟩ := hk
    subst e
    exact hr.toAll h hf
theorem lookM_dropM (id : Nat) (l : List (Nat × Ob)) (j : Nat) : lkM (dropM id l) j = if j = id then none else lkM l j := by
  induction l with
  | nil => simp [dropM, lkM]
  | cons p r ih =>
    obtain ⟨i, ob⟩ := p
    simp only [dropM]
    by_cases h1 : i = id
    · rw [if_pos h1, ih]
      by_cases h2 : j = id
      · simp [h2]
      · simp [h2, lkM, show ¬ i = j by omega]
    · rw [if_neg h1]
      simp only [lkM]
      by_cases h2 : i = j
      · simp [h2, show ¬ j = id by omega]
      · simp [h2, ih]
theorem RelB.seen [Dr] (h : RelB n S0 w0 st a w φ S) : Seen st.mem φ S (· < w.heap.size) w :=
  ⟨fun id ob hl => let ⟨hd, h1, h2, _⟩ := h.mem id ob hl; ⟨hd, h1, h2, fun hv => h2.lt hv⟩, h.lt⟩
theorem RelB.seenBut [Dr] (h : RelB n S0 w0 st a w φ S) {id : Nat} {ob : Ob} {hd : Hd} (hl : lkM st.mem id = some ob) (hp : φ id = some hd) : Seen (dropM id st.mem) φ S (fun b => b < w.heap.size ∧ (hd.live ob → b ≠ hd.b)) w := by
  obtain ⟨hd', hp', ho, hb⟩ := h.mem id ob hl
  rw [hp] at hp'; cases hp'
  refine ⟨?_, fun b hS => ⟨h.lt b hS, fun hv e => (hb hv).2 (e ▸ hS)⟩⟩
  intro j oj hj
  rw [lookM_dropM] at hj
  split at hj
  · cases hj
  · rename_i hne
    obtain ⟨hd2, h1, h2, _⟩ := h.mem j oj hj
    exact ⟨hd2, h1, h2, fun hv => ⟨h2.lt hv, fun hv' e => hne (h.inj j id oj ob hd2 hd hj hl h1 hp hv hv' e)⟩⟩
theorem RetL_p {rs : List RV} {vs : List Value} (h : RetL S1 wc w' rs vs) (hp : rs.all isP = true) (φ : Pl) (d : Nat) : RepL S1 w' φ (rs.map (RV.av d)) vs := by
  induction rs generalizing vs with
  | nil => cases vs with
    | nil => exact .nil
    | cons v vs => exact h.elim
  | cons r rs ih =>
    simp only [List.all_cons, Bool.and_eq_true] at hp
    cases vs with
    | nil => cases r <;> exact h.elim
    | cons v vs =>
      cases r with
      | p x => exact .cons h.1.free (ih h.2 hp.2)
      | fresh e k xs => exact absurd hp.1 (by simp [isP])
theorem retV_rep {rs : List RV} {vs : List Value} {d : Nat} (h : RepL S1 w' φ (rs.map (RV.av d)) vs) : Rep S1 w' φ (retAV d rs) (retV vs) := by
  match rs, vs, h with
  | [], [], h => exact .tup h
  | [r], [v], .cons h .nil => exact h
  | r :: r' :: rs, v :: v' :: vs, h => exact .tup h
theorem RelB.ret [Dr] (h : RelB n S0 w0 st a w' φ S1) {d : Option Nat} (hd : ∀ t, d = some t → t < n) {rs : List RV} {vs : List Value} (hr : RetL S1 wc w' rs vs) (hs : retSt st d rs = some st') (hwc : w0.heap.size ≤ wc.heap.size)
    (hob : ∀ id ob hd, lkM st.mem id = some ob → φ id = some hd → hd.live ob → hd.b < wc.heap.size) : ∃ φ', RelB n S0 w0 st' (a.put d (retV vs)) w' φ' S1 := by
  unfold retSt at hs
  split at hs
  · rename_i e k xs rs'
    split at hs
    case h_2 => cases hs
    rename_i d
    split at hs
    case isFalse => cases hs
    rename_i hp
    cases hs
    cases vs with
    | nil => exact hr.elim
    | cons v vs =>
      obtain ⟨⟨hd1, e1, ho, hlive⟩, hr⟩ := hr
      subst e1
      refine ⟨φ.set d hd1, ?_⟩
      have hoR : ObRep S1 w' (φ.set d hd1) hd1 (.arr e k xs) := ho
      refine (h.renew' d (.inl (hd d rfl)) (OnlyOf.same st φ d w') hoR (fun hl => ⟨.inl (Nat.le_trans hwc (hlive hl).1), (hlive hl).2⟩) ?_).put (some d) hd ?_
      · intro hl j oj hj _ l p v e
        have := hob j oj hj l p v
        have := (hlive hl).1
        omega
      · exact retV_rep (.cons (.own d hd1 (Pl.set_same _ _ _)) (RetL_p hr hp _ d))
  · split at hs
    case isFalse => cases hs
    rename_i hp
    cases hs
    exact ⟨φ, h.put d hd (retV_rep (RetL_p hr hp _ 0))⟩
theorem run_call_value (c : Call) (f : Operand) (hc : c.callee = .value f) (ty : TypeId) {g : FuncId} {caps : List Value} (hf : a.eval f = .func (.func g) #[] caps.toArray) (args : List Value) (ha : c.args.toList.map a.eval = args) :
    ((do let d ← resolve a.eval c ty; invoke d.target d.args) : Sem Next).run P w = (callFunc g (args ++ caps).toArray).run P w := by
  obtain ⟨cal, as, ts⟩ := c
  dsimp only at hc ha; subst hc
  have e : as.map a.eval = args.toArray := by rw [← ha, ← Array.toList_inj]; simp
  simp only [resolve, hf, Deferred.ofValue, Sem.run_bind, Sem.run_pure, Result.andThen_ok, invoke, e]
  congr 2
  simp
theorem bareR_L {rs : List RV} {vs : List Value} (h : RetL S1 wc w' rs vs) (hs : bareR rs = true) : RetL S wc w' rs vs := by
  induction rs generalizing vs with
  | nil => cases vs <;> exact h
  | cons r rs ih =>
    cases vs with
    | nil => cases r <;> exact h.elim
    | cons v vs =>
      cases r with
      | p x => simp only [bareR, Bool.and_eq_true] at hs; exact ⟨h.1.bare hs.1, ih h.2 hs.2⟩
      | fresh e k xs => simp [bareR] at hs
theorem scalR_L {rs : List RV} {vs : List Value} (h : RetL S1 wc w' rs vs) (hs : scalR rs = true) : RetL S wc w' rs vs := by
  induction rs generalizing vs with
  | nil => cases vs <;> exact h
  | cons r rs ih =>
    cases vs with
    | nil => cases r <;> exact h.elim
    | cons v vs =>
      cases r with
      | p x => simp only [scalR, Bool.and_eq_true] at hs; exact ⟨h.1.scal hs.1, ih h.2 hs.2⟩
      | fresh e k xs => simp [scalR] at hs
theorem ObRep.scal {e : TypeId} {k : Nat} {xs : List AV} {hd : Hd} (h : ObRep S1 w' φ hd (.arr e k xs)) (hs : ∀ c ∈ flat xs, c.scal = true) : ObRep S w' φ' hd (.arr e k xs) := by
  obtain ⟨g1, g2, g3, g4, g5⟩ := h
  refine ⟨g1, g2, g3, g4, ?_⟩
  rcases g5 with g5 | ⟨g5, g6, g7, cur, vs, hh, g8, g9, hr⟩
  · exact .inl g5
  · exact .inr ⟨g5, g6, g7, cur, vs, hh, g8, g9, hr.scal (scalL_of hs)⟩
theorem RelB.objs [Dr] (h : RelB n S0 w0 st a w φ S) : ∀ id ob hd, lkM st.mem id = some ob → φ id = some hd → hd.live ob → hd.b < w.heap.size := by
  intro id ob hd hl hp hv
  obtain ⟨hd', hp', ho, _⟩ := h.mem id ob hl
  rw [hp] at hp'; cases hp'
  exact ho.lt hv
theorem lkAll_rep [Dr] (h : RelB n S0 w0 st a w φ S) : ∀ {ts : List Nat} {cs : List AV}, lkAll st.env ts = some cs → RepL S w φ cs (ts.map fun t => a.tmps.getD t undef) ∧ cs.length = ts.length
  | [], _, e => by cases e; exact ⟨.nil, rfl⟩
  | t :: ts, cs, e => by
    simp only [lkAll] at e
    split at e
    · rename_i x xs h1 h2
      cases e
      have ih := lkAll_rep h h2
      exact ⟨.cons (h.env t x h1) ih.1, by simp [ih.2]⟩
    · cases e
theorem zipE_look : ∀ {ts : List Nat} {cs : List AV} {vs : List Value} {g : Nat → Value}, RepL S w φ cs vs → vs = ts.map g → ∀ t x, lk (zipE ts cs) t = some x → Rep S w φ x (g t)
  | [], cs, vs, g, hr, e, t, x, hx => by
    subst e
    cases hr
    cases hx
  | t0 :: ts, cs, vs, g, hr, e, t, x, hx => by
    subst e
    cases hr with
    | cons h1 h2 =>
      simp only [zipE, lk] at hx
      split at hx
      · rename_i e2; subst e2; cases hx; exact h1
      · exact zipE_look h2 rfl t x hx
theorem retY_rep {ys : List AV} {vs : List Value} (h : RepL S w φ ys vs) : Rep S w φ (retY ys) (retV vs) := by
  match ys, vs, h with
  | [], [], h => exact .tup h
  | [y], [v], .cons h .nil => exact h
  | y :: y' :: ys, v :: v' :: vs, h => exact .tup h
theorem RelB.bare0 [Dr] (h : RelB n S0 w0 st a w φ S) : RelB 0 S0 w0 ⟨[], st.mem⟩ act0 w φ S :=
  ⟨rfl, rfl, h.below, fun t x hx => by (cases hx), h.mem, h.inj, h.sub0, h.lt, h.new, fun id hd e => let ⟨p1, _, p3⟩ := h.pin id hd e; ⟨p1, Nat.zero_le _, p3⟩⟩
theorem callA_sound [Dr] [HasG P S0 w0] (h : RelB n S0 w0 st a w φ S) {o : Oper} (hd : ∀ t, o.dst = some t → t < n) {f : AV} {args : List AV} {fv : Value} {vs : List Value} {K : St → Prop} {Q : Exit → Act → World → Prop}
    (hf : Rep S w φ f fv) (ha : RepL S w φ args vs) (hrun : ∀ g caps, fv = .func (.func g) #[] caps → (execOp a.eval o).run P w = (callFunc g (vs ++ caps.toList).toArray).run P w) (hk : callA P o.dst f args K st) :
    o.wp P a w (fun a' w' => ∃ st', Rel n S0 w0 st' a' w' ∧ K st') Q := by
  unfold callA at hk
  split at hk
  case h_2 => exact hk.elim
  rename_i g caps
  obtain ⟨cvs, e, hc⟩ := hf.fn_inv; subst e
  have hall := ha.append hc
  have hrun' := hrun g cvs.toArray rfl
  have enter : ∀ (xs : List Value), xs = vs ++ cvs → (∀ (args : Array Value) (w : World), (callFunc g args).run P w = .ok (.enter g args) w) → ∀ {R : Ending → World → Prop}, Calls P g xs.toArray w R →
      (∀ e w', R e w' → ∃ v, e = .returned v ∧ ∃ st', Rel n S0 w0 st' (a.put o.dst v) w' ∧ K st') → o.wp P a w (fun a' w' => ∃ st', Rel n S0 w0 st' a' w' ∧ K st') Q := by
    intro xs ex hen R hcalls hR
    subst ex
    unfold Oper.wp
    rw [hrun', List.toList_toArray, hen]
    refine hcalls.mono fun e w' hr => ?_
    obtain ⟨v, e1, st', h1, h2⟩ := hR e w' hr
    subst e1
    exact ⟨st', h1, h2⟩
  rcases hk with ⟨hfree, rs, ⟨hen, hcall⟩, st', hs, hk⟩ | ⟨ys, hv, rs, ⟨hen, hcall⟩, hsc, st', hs, hk⟩ | ⟨id, rest, e, k, xs, hargs, hm, rest', hv, ys, ⟨hen, hcall⟩, hsc, hk⟩ | ⟨rest, e, k, hargs, rest', hv, ⟨hen, hcall⟩, hk⟩ | ⟨id, rest, e, k, xs, hargs, hm, rest', hv, ys, m, ⟨hen, hcall⟩, hmy, hsc, hk⟩ | ⟨ts, cs, hh, hlt, hcs, hm1, hm2, hk⟩
  · refine enter _ rfl hen (hcall S w _ h.lt (h.glob (P := P)) (hall.toFree hfree)) ?_
    rintro e w' ⟨us, rfl, hb, S1, s1, s2, s3, hr⟩
    have hob := h.objs
    have hg := (h.grow hb).more s1 s3 (fun b hb' => by
      rcases s2 b hb' with h' | h'
      · exact .inl h'
      · exact .inr ⟨Nat.le_trans h.below.size h', fun id ob hd hl hp hv e => by have := hob id ob hd hl hp hv; omega⟩)
    obtain ⟨φ', hfin⟩ := hg.ret (wc := w) hd hr hs h.below.size hob
    exact ⟨_, rfl, st', ⟨φ', S1, hfin⟩, hk⟩
  · refine enter _ rfl hen (hcall (· < w.heap.size) w _ (fun _ h => h) ((h.glob (P := P)).mono (fun _ _ => rfl) h.lt) (h.seen.viewL hall hv)) ?_
    rintro e w' ⟨us, rfl, hb, S1, s1, s2, s3, hr⟩
    have hg := h.grow hb
    have hr' : RetL S w w' rs us := by
      unfold scalF at hsc
      split at hsc
      · cases us with
        | nil => exact hr.elim
        | cons u us =>
          obtain ⟨⟨hd1, e1, ho, hl⟩, hr⟩ := hr
          exact ⟨⟨hd1, e1, ho.scal hsc.1, fun hv => ⟨(hl hv).1, fun hS => by have := h.lt _ hS; have := (hl hv).1; omega⟩⟩, scalR_L hr hsc.2⟩
      · exact bareR_L hr hsc
    obtain ⟨φ', hfin⟩ := hg.ret (wc := w) hd hr' hs h.below.size h.objs
    exact ⟨_, rfl, st', ⟨φ', S, hfin⟩, hk⟩
  · rw [hargs] at hall
    generalize hxs : vs ++ cvs = allv at hall
    cases hall with
    | @cons _ _ v0 _ vs' h0 ht =>
    obtain ⟨hd1, hp, e1⟩ := h0.own_inv; subst e1
    obtain ⟨hd', hp', ho, hb⟩ := h.mem id _ hm
    rw [hp] at hp'; cases hp'
    have hseen := h.seenBut hm hp
    have ho' : ObRep (fun b => b < w.heap.size ∧ (hd1.live (.arr e k xs) → b ≠ hd1.b)) w noPl hd1 (.arr e k xs) := by
      have := ho.mono (w' := w) (φ' := φ) (fun _ => rfl) (fun _ _ => rfl) hseen.sub (fun _ _ h => h)
      exact this
    refine enter (Value.slice hd1.a hd1.n hd1.cap :: vs') hxs.symm hen (hcall _ w hd1 vs' (fun _ hb => hb.1) ((h.glob (P := P)).mono (fun _ _ => rfl) hseen.sub) ho' (fun hv hb => hb.2 hv rfl) (hseen.viewL ht hv)) ?_
    rintro en w' ⟨rfl, ⟨k1, k2, k3, k4, k6, k5⟩, hor⟩
    have hon : OnlyOf st φ id w w' := ⟨k1, k2, k3, k4, k6, fun b hlt hne => k5 b hlt (fun hv => hne _ hd1 hm hp hv)⟩
    have hg := (h.write hm hp hon (hor.scal hsc) (fun h => h)).put o.dst hd (v := .tuple #[]) (.tup .nil)
    exact ⟨_, rfl, _, ⟨φ, S, hg⟩, hk⟩
  · rw [hargs] at hall
    generalize hxs : vs ++ cvs = allv at hall
    cases hall with
    | @cons _ _ v0 _ vs' h0 ht =>
    cases h0
    let hd0 : Hd := { a := none, n := 0, cap := 0, b := 0, k := k }
    have ho : ObRep (· < w.heap.size) w noPl hd0 (.arr e k []) := ⟨rfl, rfl, by simp, by simp [flat], .inl ⟨rfl, rfl, rfl⟩⟩
    have hnl : ¬ hd0.live (.arr e k []) := fun h => h rfl
    refine enter (Value.slice none 0 0 :: vs') hxs.symm hen (hcall (· < w.heap.size) w hd0 vs' (fun _ h => h) ((h.glob (P := P)).mono (fun _ _ => rfl) h.lt) ho (fun h => absurd h hnl) (h.seen.viewL ht hv)) ?_
    rintro en w' ⟨rfl, ⟨k1, k2, k3, k4, k6, k5⟩, _⟩
    have hb : Below w.heap.size w w' := ⟨k1, k2, k3, k4, k6, fun b hlt => k5 b hlt (fun hv => absurd hv hnl)⟩
    have hg := (h.grow hb).put o.dst hd (v := .tuple #[]) (.tup .nil)
    exact ⟨_, rfl, _, ⟨φ, S, hg⟩, hk⟩
  · rw [hargs] at hall
    generalize hxs : vs ++ cvs = allv at hall
    cases hall with
    | @cons _ _ v0 _ vs' h0 ht =>
    obtain ⟨hd1, hp, e1⟩ := h0.own_inv; subst e1
    obtain ⟨hd', hp', ho, hb⟩ := h.mem id _ hm
    rw [hp] at hp'; cases hp'
    have hseen := h.seenBut hm hp
    have ho' : ObRep (fun b => b < w.heap.size ∧ (hd1.live (.arr e k xs) → b ≠ hd1.b)) w noPl hd1 (.arr e k xs) := by
      have := ho.mono (w' := w) (φ' := φ) (fun _ => rfl) (fun _ _ => rfl) hseen.sub (fun _ _ h => h)
      exact this
    refine enter (Value.slice hd1.a hd1.n hd1.cap :: vs') hxs.symm hen (hcall _ w hd1 vs' (fun _ hb => hb.1) ((h.glob (P := P)).mono (fun _ _ => rfl) hseen.sub) ho' (fun hv hb => hb.2 hv rfl) (hseen.viewL ht hv)) ?_
    rintro en w' ⟨rfl, ⟨k1, k2, k3, k4, k6, k5⟩, hor⟩
    have hon : OnlyOf st φ id w w' := ⟨k1, k2, k3, k4, k6, fun b hlt hne => k5 b hlt (fun hv => hne _ hd1 hm hp hv)⟩
    have hg := h.write hm hp hon (hor.scal hsc) (fun h => h)
    obtain ⟨S', _, hg2, hd2, hp2, hx⟩ := hg.freeze2 (id := id) (e := e) (k := k) (xs := ys) (by simp [St.write, lkM])
    rw [hp] at hp2; cases hp2
    exact ⟨_, rfl, _, ⟨φ, S', hg2.put o.dst hd (hx.slTake hmy)⟩, hk⟩
  · obtain ⟨hrc, hlen⟩ := lkAll_rep h hcs
    have hset : ∀ j, j ≠ hh → (φ.set hh { b := 0 }) j = φ j := fun j hj => Pl.set_ne φ hh _ j hj
    obtain ⟨hen, hcall⟩ := hk (ts.map fun t => a.tmps.getD t undef)
    have hren := h.renew' hh (.inr hlt) (ob := .held cs (ts.map fun t => a.tmps.getD t undef)) (hd := { b := 0 }) (OnlyOf.same st φ hh w) (hrc.place hm2 hset) (fun hl => hl.elim) (fun hl => hl.elim)
    refine enter _ rfl hen (hcall S0 w0 w _ S _ inferInstance hren.bare0 (hall.place hm1 hset)) ?_
    rintro e w' ⟨us, ys, mem', φ', S', rfl, hr, hys, cs', hl, hk⟩
    refine ⟨_, rfl, _, ⟨φ', S', RelB.put (st := ⟨zipE ts cs', mem'⟩) ⟨h.size, h.defers, hr.below, ?_, hr.mem, hr.inj, hr.sub0, hr.lt, hr.new, fun id hd e => ⟨(hr.pin id hd e).1, (h.pin id hd e).2⟩⟩ o.dst hd (retY_rep hys)⟩, hk⟩
    obtain ⟨_, _, ho, _⟩ := hr.mem hh _ hl
    exact zipE_look (show RepL S' w' φ' cs' _ from ho) rfl
end
end Go.AI
