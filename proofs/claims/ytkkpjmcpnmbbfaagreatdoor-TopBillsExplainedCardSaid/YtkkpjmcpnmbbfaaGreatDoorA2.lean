/- The abstract state of a Go function's walk, what it says of a frame and a world, and how it is kept. -/
import Derived.Test.YtkkpjmcpnmbbfaaGreatDoorA1
namespace Go.AI
def lk : List (Nat × AV) → Nat → Option AV
  | [], _ => none
  | (a, x) :: r, t => if a = t then some x else lk r t
inductive Ob where
  | box (cs : List AV)
  | arr (e : TypeId) (k : Nat) (xs : List AV)
  | mp (es : List (AV × AV))
  | it (m since : Nat) (seen : List Nat) (last : Nat)
  | gone
  | held (cs : List AV) (vs : List Value)
def lkM : List (Nat × Ob) → Nat → Option Ob
  | [], _ => none
  | (a, x) :: r, t => if a = t then some x else lkM r t
structure St where
  env : List (Nat × AV)
  mem : List (Nat × Ob)
def AV.kill (id : Nat) (x : AV) : AV := if x.ment id then .un else x
def killL (id : Nat) : List AV → List AV
  | [] => []
  | x :: xs => x.kill id :: killL id xs
def killE (id : Nat) : List (Nat × AV) → List (Nat × AV)
  | [] => []
  | (t, x) :: r => (t, x.kill id) :: killE id r
def killEs (id : Nat) : List (AV × AV) → List (AV × AV)
  | [] => []
  | (k, v) :: r => (k, v.kill id) :: killEs id r
def Ob.kill (id : Nat) : Ob → Ob
  | .box cs => .box (killL id cs)
  | .mp es => .mp (killEs id es)
  | .it m since seen last => if m = id then .gone else .it m since seen last
  | .held cs vs => .held (killL id cs) vs
  | o => o
def killM (id : Nat) : List (Nat × Ob) → List (Nat × Ob)
  | [] => []
  | (t, x) :: r => (t, x.kill id) :: killM id r
def St.put (st : St) (d : Option Nat) (x : AV) : St :=
  match d with
  | some d => { st with env := (d, x) :: st.env }
  | none => st
def St.renew (st : St) (id : Nat) (ob : Ob) : St := { env := killE id st.env, mem := (id, ob) :: killM id st.mem }
def St.write (st : St) (id : Nat) (ob : Ob) : St := { st with mem := (id, ob) :: st.mem }
theorem look_killE (id : Nat) (l : List (Nat × AV)) (t : Nat) : lk (killE id l) t = (lk l t).map (AV.kill id) := by
  induction l with
  | nil => rfl
  | cons p r ih =>
    obtain ⟨a, x⟩ := p
    simp only [killE, lk]
    split
    · rfl
    · exact ih
theorem lookM_killM (id : Nat) (l : List (Nat × Ob)) (t : Nat) : lkM (killM id l) t = (lkM l t).map (Ob.kill id) := by
  induction l with
  | nil => rfl
  | cons p r ih =>
    obtain ⟨a, x⟩ := p
    simp only [killM, lkM]
    split
    · rfl
    · exact ih
def Hd.live (hd : Hd) (ob : Ob) : Prop :=
  match ob with
  | .arr _ _ _ => hd.a ≠ none
  | .held _ _ => False
  | _ => True
def EsRep (S : Nat → Prop) (w : World) (φ : Pl) : Nat → List (AV × AV) → List MapEntry → Prop
  | _, [], [] => True
  | i, (k, v) :: r, e :: es => e.born = i ∧ Rep S w noPl k e.key ∧ Rep S w φ v e.val ∧ EsRep S w φ (i + 1) r es
  | _, _, _ => False
theorem EsRep.mono {S S' : Nat → Prop} {w w' : World} {φ φ' : Pl} (hw : ∀ b, S b → w'.heap[b]? = w.heap[b]?) (hS : ∀ b, S b → S' b) (hφ : ∀ id hd, φ id = some hd → φ' id = some hd) : ∀ {i : Nat} {es : List (AV × AV)} {l : List MapEntry}, EsRep S w φ i es l → EsRep S' w' φ' i es l
  | _, [], [], _ => trivial
  | _, (_, _) :: _, _ :: _, ⟨h1, h2, h3, h4⟩ => ⟨h1, h2.mono hw hS (fun _ _ h => h), h3.mono hw hS hφ, EsRep.mono hw hS hφ h4⟩
theorem EsRep.length {S : Nat → Prop} {w : World} {φ : Pl} : ∀ {i : Nat} {es : List (AV × AV)} {l : List MapEntry}, EsRep S w φ i es l → l.length = es.length
  | _, [], [], _ => rfl
  | _, (_, _) :: _, _ :: _, ⟨_, _, _, h4⟩ => by simp [h4.length]
def ObRep (S : Nat → Prop) (w : World) (φ : Pl) (hd : Hd) : Ob → Prop
  | .box cs => ∃ vs e, w.heap[hd.b]? = some (.cells vs e (0, 0)) ∧ RepL S w φ cs vs.toList
  | .arr e k xs => hd.n = xs.length ∧ hd.k = k ∧ (∀ x ∈ xs, x.cells.length = k) ∧ (∀ c ∈ flat xs, c.one = true) ∧
      ((hd.a = none ∧ hd.n = 0 ∧ hd.cap = 0) ∨
       (hd.a = some ⟨hd.b, 0, none⟩ ∧ hd.n ≤ hd.cap ∧ hd.cap ≤ maxLen ∧ ∃ cur vs, w.heap[hd.b]? = some (.cells cur e (0, 0)) ∧ hd.cap * k ≤ cur.size ∧
          cur.toList.take (hd.n * k) = vs ∧ RepL S w noPl (flat xs) vs))
  | .mp es => ∃ l, w.heap[hd.b]? = some (.map l es.length) ∧ EsRep S w φ 0 es l.toList
  | .it m since seen last => ∃ hm, φ m = some hm ∧ w.heap[hd.b]? = some (.mapIter (some hm.b) since seen.toArray last)
  | .gone => hd.b < w.heap.size
  | .held cs vs => RepL S w φ cs vs
structure Base where
  S : Nat → Prop
  O : Nat → Prop
  pinned : Nat → Option Hd
structure RelB [Dr] (n : Nat) (S0 : Base) (w0 : World) (st : St) (a : Act) (w : World) (φ : Pl) (S : Nat → Prop) : Prop where
  size : a.tmps.size = n
  defers : a.defers = []
  below : BelowO S0.O w0.heap.size w0 w
  env : ∀ t x, lk st.env t = some x → Rep S w φ x (a.tmps.getD t undef)
  mem : ∀ id ob, lkM st.mem id = some ob → ∃ hd, φ id = some hd ∧ ObRep S w φ hd ob ∧ (hd.live ob → (w0.heap.size ≤ hd.b ∨ S0.O hd.b) ∧ ¬ S hd.b)
  inj : ∀ i j oi oj hi hj, lkM st.mem i = some oi → lkM st.mem j = some oj → φ i = some hi → φ j = some hj → hi.live oi → hj.live oj → hi.b = hj.b → i = j
  sub0 : ∀ b, S0.S b → S b
  lt : ∀ b, S b → b < w.heap.size
  new : ∀ b, S b → S0.S b ∨ w0.heap.size ≤ b ∨ S0.O b
  pin : ∀ id hd, S0.pinned id = some hd → φ id = some hd ∧ n ≤ id ∧ 1000 ≤ id
def Rel [Dr] (n : Nat) (S0 : Base) (w0 : World) (st : St) (a : Act) (w : World) : Prop := ∃ φ S, RelB n S0 w0 st a w φ S
section
variable {n : Nat} {S0 : Base} {S S' : Nat → Prop} {w0 w w' : World} {st st' : St} {a : Act} {φ φ' : Pl}
theorem ObRep.lt {hd : Hd} {ob : Ob} (h : ObRep S w φ hd ob) (hl : hd.live ob) : hd.b < w.heap.size := by
  cases ob with
  | box cs =>
    obtain ⟨vs, e, hh, _⟩ := h
    rcases Nat.lt_or_ge hd.b w.heap.size with h' | h'
    · exact h'
    · simp [Array.getElem?_eq_none h'] at hh
  | arr e k xs =>
    obtain ⟨_, _, _, _, h | ⟨_, _, _, cur, vs, hh, _⟩⟩ := h
    · exact absurd h.1 hl
    · rcases Nat.lt_or_ge hd.b w.heap.size with h' | h'
      · exact h'
      · simp [Array.getElem?_eq_none h'] at hh
  | mp es =>
    obtain ⟨l, hh, _⟩ := h
    rcases Nat.lt_or_ge hd.b w.heap.size with h' | h'
    · exact h'
    · simp [Array.getElem?_eq_none h'] at hh
  | it m since seen last =>
    obtain ⟨hm, _, hh⟩ := h
    rcases Nat.lt_or_ge hd.b w.heap.size with h' | h'
    · exact h'
    · simp [Array.getElem?_eq_none h'] at hh
  | gone => exact h
  | held cs vs => exact hl.elim
theorem ObRep.mono {hd : Hd} {ob : Ob} (h : ObRep S w φ hd ob) (hb : hd.live ob → w'.heap[hd.b]? = w.heap[hd.b]?) (hw : ∀ b, S b → w'.heap[b]? = w.heap[b]?) (hS : ∀ b, S b → S' b)
    (hφ : ∀ id hd, φ id = some hd → φ' id = some hd) : ObRep S' w' φ' hd ob := by
  cases ob with
  | box cs =>
    obtain ⟨vs, e, hh, hr⟩ := h
    exact ⟨vs, e, (hb trivial).trans hh, hr.mono hw hS hφ⟩
  | arr e k xs =>
    obtain ⟨h1, h2, h3, h4, h5⟩ := h
    refine ⟨h1, h2, h3, h4, ?_⟩
    rcases h5 with h5 | ⟨h5, h6, h7, cur, vs, hh, h8, h9, hr⟩
    · exact .inl h5
    · exact .inr ⟨h5, h6, h7, cur, vs, (hb (by simp [Hd.live, h5])).trans hh, h8, h9, hr.mono hw hS (fun _ _ h => h)⟩
  | mp es =>
    obtain ⟨l, hh, hr⟩ := h
    exact ⟨l, (hb trivial).trans hh, hr.mono hw hS hφ⟩
  | it m since seen last =>
    obtain ⟨hm, h1, hh⟩ := h
    exact ⟨hm, hφ _ _ h1, (hb trivial).trans hh⟩
  | gone =>
    have e := hb trivial
    have h' : hd.b < w.heap.size := h
    show hd.b < w'.heap.size
    rcases Nat.lt_or_ge hd.b w'.heap.size with h1 | h1
    · exact h1
    · rw [Array.getElem?_eq_none h1, Array.getElem?_eq_getElem h'] at e
      cases e
  | held cs vs => exact RepL.mono h hw hS hφ
theorem RepL.killL {xs : List AV} {vs : List Value} (h : RepL S w φ xs vs) (id : Nat) (hφ : ∀ j, j ≠ id → φ' j = φ j) : RepL S w φ' (Go.AI.killL id xs) vs := by
  induction xs generalizing vs with
  | nil => cases h; exact .nil
  | cons x xs ih =>
    cases h with
    | cons h t =>
      refine .cons ?_ (ih t)
      unfold AV.kill
      cases hm : x.ment id
      · simpa [hm] using h.place hm hφ
      · simpa [hm] using Rep.un _
theorem Rep.kill {x : AV} {v : Value} (h : Rep S w φ x v) (id : Nat) (hφ : ∀ j, j ≠ id → φ' j = φ j) : Rep S w φ' (x.kill id) v := by
  unfold AV.kill
  cases hm : x.ment id
  · simpa [hm] using h.place hm hφ
  · simpa [hm] using Rep.un _
theorem killEs_length (id : Nat) : ∀ es : List (AV × AV), (killEs id es).length = es.length
  | [] => rfl
  | (_, _) :: r => by simp [killEs, killEs_length id r]
theorem EsRep.kill (id : Nat) (hφ : ∀ j, j ≠ id → φ' j = φ j) : ∀ {i : Nat} {es : List (AV × AV)} {l : List MapEntry}, EsRep S w φ i es l → EsRep S w φ' i (killEs id es) l
  | _, [], [], _ => trivial
  | _, (_, _) :: _, _ :: _, ⟨h1, h2, h3, h4⟩ => ⟨h1, h2, h3.kill id hφ, EsRep.kill id hφ h4⟩
theorem ObRep.kill {hd : Hd} {ob : Ob} (h : ObRep S w φ hd ob) (id : Nat) (hφ : ∀ j, j ≠ id → φ' j = φ j) : ObRep S w φ' hd (ob.kill id) := by
  cases ob with
  | box cs =>
    obtain ⟨vs, e, hh, hr⟩ := h
    exact ⟨vs, e, hh, hr.killL id hφ⟩
  | arr e k xs => exact h
  | mp es =>
    obtain ⟨l, hh, hr⟩ := h
    exact ⟨l, by rw [killEs_length]; exact hh, hr.kill id hφ⟩
  | it m since seen last =>
    unfold Ob.kill
    by_cases hmi : m = id
    · simp only [hmi, if_true]
      exact h.lt trivial
    · simp only [hmi, if_false]
      obtain ⟨hm, h1, hh⟩ := h
      exact ⟨hm, (hφ m hmi).trans h1, hh⟩
  | gone => exact h
  | held cs vs => exact RepL.killL h id hφ
theorem live_kill {hd : Hd} {ob : Ob} {id : Nat} : hd.live (ob.kill id) ↔ hd.live ob := by
  cases ob with
  | it m since seen last =>
    simp only [Ob.kill]
    split <;> rfl
  | _ => rfl
theorem Act.put_getD (a : Act) (d : Nat) (v : Value) (t : Nat) (hd : d < a.tmps.size) : (a.put (some d) v).tmps.getD t undef = if d = t then v else a.tmps.getD t undef := by
  simp only [Act.put, Array.getD_eq_getD_getElem?, Array.getElem?_setIfInBounds]
  split
  · rename_i h; subst h; simp
  · rfl
theorem RelB.put [Dr] (h : RelB n S0 w0 st a w φ S) (d : Option Nat) (hd : ∀ t, d = some t → t < n) {x : AV} {v : Value} (hx : Rep S w φ x v) : RelB n S0 w0 (st.put d x) (a.put d v) w φ S := by
  cases d with
  | none => exact h
  | some d =>
    refine ⟨by simpa [Act.put] using h.size, h.defers, h.below, ?_, h.mem, h.inj, h.sub0, h.lt, h.new, h.pin⟩
    intro t y hy
    rw [Act.put_getD _ _ _ _ (by rw [h.size]; exact hd d rfl)]
    simp only [St.put, lk] at hy
    split at hy
    · rename_i e; subst e; simp at hy; subst hy; simpa using hx
    · rename_i e; rw [if_neg e]; exact h.env t y hy
theorem RelB.grow [Dr] (h : RelB n S0 w0 st a w φ S) (hb : Below w.heap.size w w') : RelB n S0 w0 st a w' φ S := by
  have hw : ∀ b, S b → w'.heap[b]? = w.heap[b]? := fun b hS => hb.block b (h.lt b hS)
  refine ⟨h.size, h.defers, h.below.trans (hb.mono h.below.size).toO, fun t x hx => (h.env t x hx).mono hw (fun _ h => h) (fun _ _ h => h), ?_, h.inj, h.sub0, fun b hS => Nat.lt_of_lt_of_le (h.lt b hS) hb.size, h.new, h.pin⟩
  intro id ob ho
  obtain ⟨hd, h1, h2, h3⟩ := h.mem id ob ho
  exact ⟨hd, h1, h2.mono (fun hl => hb.block _ (h2.lt hl)) hw (fun _ h => h) (fun _ _ h => h), h3⟩
theorem RelB.more [Dr] (h : RelB n S0 w0 st a w φ S) (hS : ∀ b, S b → S' b) (hlt : ∀ b, S' b → b < w.heap.size) (hnew : ∀ b, S' b → S b ∨ (w0.heap.size ≤ b ∧ ∀ id ob hd, lkM st.mem id = some ob → φ id = some hd → hd.live ob → hd.b ≠ b)) :
    RelB n S0 w0 st a w φ S' := by
  refine ⟨h.size, h.defers, h.below, fun t x hx => (h.env t x hx).mono (fun _ _ => rfl) hS (fun _ _ h => h), ?_, h.inj, fun b hb => hS b (h.sub0 b hb), hlt, ?_, h.pin⟩
  · intro id ob ho
    obtain ⟨hd, h1, h2, h3⟩ := h.mem id ob ho
    refine ⟨hd, h1, h2.mono (fun _ => rfl) (fun _ _ => rfl) hS (fun _ _ h => h), fun hl => ⟨(h3 hl).1, fun hb => ?_⟩⟩
    rcases hnew _ hb with h' | h'
    · exact (h3 hl).2 h'
    · exact h'.2 id ob hd ho h1 hl rfl
  · intro b hb
    rcases hnew b hb with h' | h'
    · exact h.new b h'
    · exact .inr (.inl h'.1)
def Pl.set (φ : Pl) (id : Nat) (hd : Hd) : Pl := fun j => if j = id then some hd else φ j
theorem Pl.set_same (φ : Pl) (id : Nat) (hd : Hd) : φ.set id hd id = some hd := by simp [Pl.set]
theorem Pl.set_ne (φ : Pl) (id : Nat) (hd : Hd) (j : Nat) (h : j ≠ id) : φ.set id hd j = φ j := by simp [Pl.set, h]
def OnlyOf [Dr] (st : St) (φ : Pl) (id : Nat) (w w' : World) : Prop :=
  w'.os = w.os ∧ w'.tape = w.tape ∧ w'.output = w.output ∧ w.heap.size ≤ w'.heap.size ∧ (Dr.on → w.drawn ≤ w'.drawn) ∧
  ∀ b, b < w.heap.size → (∀ ob hd, lkM st.mem id = some ob → φ id = some hd → hd.live ob → b ≠ hd.b) → w'.heap[b]? = w.heap[b]?
theorem OnlyOf.below [Dr] (h : RelB n S0 w0 st a w φ S) {id : Nat} (ho : OnlyOf st φ id w w') : BelowO S0.O w0.heap.size w0 w' := by
  obtain ⟨h1, h2, h3, h4, h6, h5⟩ := ho
  refine h.below.trans ⟨h1, h2, h3, h4, h6, fun k hk hO => h5 k (Nat.lt_of_lt_of_le hk h.below.size) ?_⟩
  intro ob hd hl hp hv e
  obtain ⟨hd', h1', _, h3'⟩ := h.mem id ob hl
  rw [hp] at h1'; cases h1'
  rcases (h3' hv).1 with h' | h'
  · omega
  · exact hO (e ▸ h')
theorem OnlyOf.keep [Dr] (h : RelB n S0 w0 st a w φ S) {id : Nat} (ho : OnlyOf st φ id w w') : ∀ b, S b → w'.heap[b]? = w.heap[b]? := by
  intro b hb
  refine ho.2.2.2.2.2 b (h.lt b hb) ?_
  intro ob hd hl hp hv e
  obtain ⟨hd', h1', _, h3'⟩ := h.mem id ob hl
  rw [hp] at h1'; cases h1'
  exact (h3' hv).2 (e ▸ hb)
theorem OnlyOf.other [Dr] (h : RelB n S0 w0 st a w φ S) {id : Nat} (ho : OnlyOf st φ id w w') {j : Nat} {ob : Ob} {hd : Hd} (hj : j ≠ id) (hl : lkM st.mem j = some ob) (hp : φ j = some hd) (hv : hd.live ob) :
    w'.heap[hd.b]? = w.heap[hd.b]? := by
  obtain ⟨hd', h1', h2', h3'⟩ := h.mem j ob hl
  rw [hp] at h1'; cases h1'
  refine ho.2.2.2.2.2 _ (h2'.lt hv) ?_
  intro ob2 hd2 hl2 hp2 hv2 e
  exact hj (h.inj j id ob ob2 hd hd2 hl hl2 hp hp2 hv hv2 e)
theorem RelB.write [Dr] (h : RelB n S0 w0 st a w φ S) {id : Nat} {ob ob' : Ob} {hd : Hd} (hl : lkM st.mem id = some ob) (hp : φ id = some hd) (ho : OnlyOf st φ id w w')
    (hr : ObRep S w' φ hd ob') (hv : hd.live ob' → hd.live ob) : RelB n S0 w0 (st.write id ob') a w' φ S := by
  have hw := ho.keep h
  obtain ⟨hd0, e0, hr0, hb0⟩ := h.mem id ob hl
  rw [hp] at e0; cases e0
  refine ⟨h.size, h.defers, ho.below h, fun t x hx => (h.env t x hx).mono hw (fun _ h => h) (fun _ _ h => h), ?_, ?_, h.sub0, fun b hS => Nat.lt_of_lt_of_le (h.lt b hS) ho.2.2.2.1, h.new, h.pin⟩
  · intro j o2 hj
    simp only [St.write, lkM] at hj
    split at hj
    · rename_i e; subst e; cases hj
      exact ⟨hd, hp, hr, fun hl => hb0 (hv hl)⟩
    · rename_i e
      obtain ⟨hd2, h1, h2, h3⟩ := h.mem j o2 hj
      exact ⟨hd2, h1, h2.mono (fun hl2 => ho.other h (Ne.symm e) hj h1 hl2) hw (fun _ h => h) (fun _ _ h => h), h3⟩
  · intro i j oi oj hi hj hoi hoj pi pj li lj hb
    simp only [St.write, lkM] at hoi hoj
    split at hoi <;> split at hoj
    · rename_i e1 e2; exact e1.symm.trans e2
    · rename_i e1 e2; subst e1; cases hoi
      rw [hp] at pi; cases pi
      exact h.inj id j ob oj hd hj hl hoj hp pj (hv li) lj hb
    · rename_i e1 e2; subst e2; cases hoj
      rw [hp] at pj; cases pj
      exact h.inj i id oi ob hi hd hoi hl pi hp li (hv lj) hb
    · exact h.inj i j oi oj hi hj hoi hoj pi pj li lj hb
theorem RelB.renew' [Dr] (h : RelB n S0 w0 st a w φ S) (id : Nat) (hid : id < n ∨ id < 1000) {ob : Ob} {hd : Hd} (ho : OnlyOf st φ id w w') (hr : ObRep S w' (φ.set id hd) hd ob)
    (hown : hd.live ob → (w0.heap.size ≤ hd.b ∨ S0.O hd.b) ∧ ¬ S hd.b) (hne : hd.live ob → ∀ j oj hj, j ≠ id → lkM st.mem j = some oj → φ j = some hj → hj.live oj → hd.b ≠ hj.b) : RelB n S0 w0 (st.renew id ob) a w' (φ.set id hd) S := by
  have hw := ho.keep h
  have hφ : ∀ j, j ≠ id → (φ.set id hd) j = φ j := fun j hj => Pl.set_ne φ id hd j hj
  refine ⟨h.size, h.defers, ho.below h, ?_, ?_, ?_, h.sub0, fun b hS => Nat.lt_of_lt_of_le (h.lt b hS) ho.2.2.2.1, h.new, fun j hj e => by
    obtain ⟨p1, p2, p3⟩ := h.pin j hj e
    exact ⟨by rw [hφ j (by omega)]; exact p1, p2, p3⟩⟩
  · intro t x hx
    simp only [St.renew, look_killE, Option.map_eq_some_iff] at hx
    obtain ⟨y, hy, rfl⟩ := hx
    exact ((h.env t y hy).mono hw (fun _ h => h) (fun _ _ h => h)).kill id hφ
  · intro j o2 hj
    simp only [St.renew, lkM] at hj
    split at hj
    · rename_i e; subst e; cases hj
      exact ⟨hd, Pl.set_same φ id hd, hr, hown⟩
    · rename_i e
      rw [lookM_killM, Option.map_eq_some_iff] at hj
      obtain ⟨o3, hj, rfl⟩ := hj
      obtain ⟨hd2, h1, h2, h3⟩ := h.mem j o3 hj
      refine ⟨hd2, by rw [hφ j (Ne.symm e)]; exact h1, ?_, fun hl => h3 (live_kill.1 hl)⟩
      exact (h2.mono (fun hl2 => ho.other h (Ne.symm e) hj h1 hl2) hw (fun _ h => h) (fun _ _ h => h)).kill id hφ
  · intro i j oi oj hi hj hoi hoj pi pj li lj hb
    simp only [St.renew, lkM] at hoi hoj
    split at hoi <;> split at hoj
    · rename_i e1 e2; exact e1.symm.trans e2
    · rename_i e1 e2; subst e1; cases hoi
      rw [Pl.set_same] at pi; cases pi
      rw [lookM_killM, Option.map_eq_some_iff] at hoj
      obtain ⟨o3, hoj, rfl⟩ := hoj
      rw [hφ j (Ne.symm e2)] at pj
      exact absurd hb (hne li j o3 hj (Ne.symm e2) hoj pj (live_kill.1 lj))
    · rename_i e1 e2; subst e2; cases hoj
      rw [Pl.set_same] at pj; cases pj
      rw [lookM_killM, Option.map_eq_some_iff] at hoi
      obtain ⟨o3, hoi, rfl⟩ := hoi
      rw [hφ i (Ne.symm e1)] at pi
      exact absurd hb.symm (hne lj i o3 hi (Ne.symm e1) hoi pi (live_kill.1 li))
    · rename_i e1 e2
      rw [lookM_killM, Option.map_eq_some_iff] at hoi hoj
      obtain ⟨o3, hoi, rfl⟩ := hoi
      obtain ⟨o4, hoj, rfl⟩ := hoj
      rw [hφ i (Ne.symm e1)] at pi
      rw [hφ j (Ne.symm e2)] at pj
      exact h.inj i j o3 o4 hi hj hoi hoj pi pj (live_kill.1 li) (live_kill.1 lj) hb
theorem RelB.renew [Dr] (h : RelB n S0 w0 st a w φ S) (id : Nat) (hid : id < n ∨ id < 1000) {ob : Ob} {hd : Hd} (ho : OnlyOf st φ id w w') (hr : ObRep S w' (φ.set id hd) hd ob)
    (hv : hd.live ob → w.heap.size ≤ hd.b ∨ ∃ ob0 hd0, lkM st.mem id = some ob0 ∧ φ id = some hd0 ∧ hd0.live ob0 ∧ hd.b = hd0.b) : RelB n S0 w0 (st.renew id ob) a w' (φ.set id hd) S := by
  refine h.renew' id hid ho hr ?_ ?_
  · intro hl
    rcases hv hl with h' | ⟨ob0, hd0, l0, p0, v0, e⟩
    · exact ⟨.inl (Nat.le_trans h.below.size h'), fun hS => by have := h.lt _ hS; omega⟩
    · obtain ⟨hd1, e1, _, h3⟩ := h.mem id ob0 l0
      rw [p0] at e1; cases e1
      rw [e]; exact h3 v0
  · intro hl j oj hj hji l p v e
    obtain ⟨hd1, e1, r1, _⟩ := h.mem j oj l
    rw [p] at e1; cases e1
    rcases hv hl with h' | ⟨ob0, hd0, l0, p0, v0, e0⟩
    · have := r1.lt v; omega
    · exact hji (h.inj j id oj ob0 hj hd0 l l0 p p0 v v0 (by rw [← e, e0]))
def St.le (st st' : St) : Prop := (∀ t x, lk st.env t = some x → lk st'.env t = some x) ∧ (∀ id ob, lkM st.mem id = some ob → lkM st'.mem id = some ob)
theorem RelB.weaken [Dr] (h : RelB n S0 w0 st' a w φ S) (hs : st.le st') : RelB n S0 w0 st a w φ S :=
  ⟨h.size, h.defers, h.below, fun t x hx => h.env t x (hs.1 t x hx), fun id ob ho => h.mem id ob (hs.2 id ob ho),
    fun i j oi oj hi hj hoi hoj => h.inj i j oi oj hi hj (hs.2 i oi hoi) (hs.2 j oj hoj), h.sub0, h.lt, h.new, h.pin⟩
end
end Go.AI
