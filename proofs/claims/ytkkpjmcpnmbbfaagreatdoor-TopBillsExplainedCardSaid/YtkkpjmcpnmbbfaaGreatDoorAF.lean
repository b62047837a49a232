/- A slice of the call's own memory that is only read from here on: it may be cut, and lie in other memory. -/
import Derived.Test.YtkkpjmcpnmbbfaaGreatDoorA4
namespace Go.AI
def AV.fro (id : Nat) (xs : List AV) (x : AV) : AV :=
  match x with
  | .own j => if j = id then .sl xs else .own j
  | x => x.kill id
def froL (id : Nat) (xs : List AV) : List AV → List AV
  | [] => []
  | x :: r => x.fro id xs :: froL id xs r
def froE (id : Nat) (xs : List AV) : List (Nat × AV) → List (Nat × AV)
  | [] => []
  | (t, x) :: r => (t, x.fro id xs) :: froE id xs r
def Ob.fro (id : Nat) (xs : List AV) : Ob → Ob
  | .box cs => .box (froL id xs cs)
  | o => o.kill id
def froM (id : Nat) (xs : List AV) : List (Nat × Ob) → List (Nat × Ob)
  | [] => []
  | (j, o) :: r => if j = id then froM id xs r else (j, o.fro id xs) :: froM id xs r
def St.freeze (st : St) (id : Nat) (xs : List AV) : St := ⟨froE id xs st.env, froM id xs st.mem⟩
theorem look_froE (id : Nat) (xs : List AV) (l : List (Nat × AV)) (t : Nat) : lk (froE id xs l) t = (lk l t).map (AV.fro id xs) := by
  induction l with
  | nil => rfl
  | cons p r ih =>
    obtain ⟨a, x⟩ := p
    simp only [froE, lk]
    split
    · rfl
    · exact ih
theorem lookM_froM (id : Nat) (xs : List AV) (l : List (Nat × Ob)) (j : Nat) : lkM (froM id xs l) j = if j = id then none else (lkM l j).map (Ob.fro id xs) := by
  induction l with
  | nil => simp [froM, lkM]
  | cons p r ih =>
    obtain ⟨a, x⟩ := p
    simp only [froM]
    by_cases h : a = id
    · rw [if_pos h, ih]
      by_cases h2 : j = id
      · rw [if_pos h2, if_pos h2]
      · rw [if_neg h2, if_neg h2]
        simp only [lkM]
        rw [if_neg (by omega)]
    · rw [if_neg h]
      simp only [lkM]
      by_cases h3 : a = j
      · rw [if_pos h3, if_pos h3, if_neg (by omega)]
        rfl
      · rw [if_neg h3, if_neg h3]
        exact ih
section
variable {n : Nat} {S0 : Base} {S S' : Nat → Prop} {w0 w w' : World} {st st' : St} {a : Act} {φ φ' : Pl}
theorem Rep.fro {x : AV} {v : Value} (h : Rep S w φ x v) {id : Nat} {hd : Hd} {xs : List AV} (hp : φ id = some hd) (hx : Rep S' w φ (.sl xs) (.slice hd.a hd.n hd.cap)) (hS : ∀ b, S b → S' b) : Rep S' w φ (x.fro id xs) v := by
  unfold AV.fro
  split
  · rename_i j
    obtain ⟨hd2, h1, rfl⟩ := h.own_inv
    by_cases e : j = id
    · subst e
      rw [if_pos rfl]
      rw [hp] at h1
      cases h1
      exact hx
    · rw [if_neg e]
      exact .own j hd2 h1
  · exact (h.mono (fun _ _ => rfl) hS (fun _ _ h => h)).kill id (fun _ _ => rfl)
theorem RepL.fro {cs : List AV} {vs : List Value} (h : RepL S w φ cs vs) {id : Nat} {hd : Hd} {xs : List AV} (hp : φ id = some hd) (hx : Rep S' w φ (.sl xs) (.slice hd.a hd.n hd.cap)) (hS : ∀ b, S b → S' b) : RepL S' w φ (froL id xs cs) vs := by
  induction cs generalizing vs with
  | nil => cases h; exact .nil
  | cons x r ih => cases h with | cons h t => exact .cons (h.fro hp hx hS) (ih t)
theorem live_fro {hd : Hd} {ob : Ob} {id : Nat} {xs : List AV} : hd.live (ob.fro id xs) ↔ hd.live ob := by
  cases ob with
  | box cs => rfl
  | _ => simp only [Ob.fro]; exact live_kill
theorem ObRep.toSl {hd : Hd} {e : TypeId} {k : Nat} {xs : List AV} (h : ObRep S w φ hd (.arr e k xs)) (hS : ∀ b, S b → S' b) (hb : hd.live (.arr e k xs) → S' hd.b) : Rep S' w φ' (.sl xs) (.slice hd.a hd.n hd.cap) := by
  obtain ⟨h1, h2, h3, h4, h5⟩ := h
  rcases h5 with ⟨e1, e2, e3⟩ | ⟨e1, e2, e3, cur, vs, hh, h8, h9, hr⟩
  · rw [e1, e2, e3]
    have : xs = [] := List.eq_nil_of_length_eq_zero (by rw [← h1, e2])
    subst this
    exact .slNone none 0
  · rw [e1]
    refine .sl (vs := vs) k hd.b 0 hd.cap hd.n h1 h3 (hb (by simp [Hd.live, e1])) ?_ (hr.mono (fun _ _ => rfl) hS (fun _ _ h => h)) ⟨e2, e3⟩ h4
    intro j v hj
    rw [cell_of_row w hd.b (0 + j) cur e (0, 0) hh]
    rw [← h9, List.getElem?_take] at hj
    split at hj
    · simpa using hj
    · cases hj
theorem RelB.freeze2 [Dr] (h : RelB n S0 w0 st a w φ S) {id : Nat} {e : TypeId} {k : Nat} {xs : List AV} (hm : lkM st.mem id = some (.arr e k xs)) :
    ∃ S', (∀ b, S b → S' b) ∧ RelB n S0 w0 (st.freeze id xs) a w φ S' ∧ ∃ hd, φ id = some hd ∧ Rep S' w φ (.sl xs) (.slice hd.a hd.n hd.cap) := by
  obtain ⟨hd, hp, ho, hb⟩ := h.mem id _ hm
  let S1 : Nat → Prop := fun b => S b ∨ (hd.live (.arr e k xs) ∧ b = hd.b)
  have hS : ∀ b, S b → S1 b := fun b h => .inl h
  have hx : ∀ {φ' : Pl}, Rep S1 w φ' (.sl xs) (.slice hd.a hd.n hd.cap) := fun {φ'} => ho.toSl hS (fun hl => .inr ⟨hl, rfl⟩)
  refine ⟨S1, hS, ⟨h.size, h.defers, h.below, ?_, ?_, ?_, fun b hb => hS b (h.sub0 b hb), ?_, ?_, h.pin⟩, hd, hp, hx⟩
  · intro t x ht
    simp only [St.freeze, look_froE, Option.map_eq_some_iff] at ht
    obtain ⟨y, hy, rfl⟩ := ht
    exact (h.env t y hy).fro hp hx hS
  · intro j ob hj
    simp only [St.freeze, lookM_froM] at hj
    split at hj
    · cases hj
    rename_i hji
    rw [Option.map_eq_some_iff] at hj
    obtain ⟨o2, hj, rfl⟩ := hj
    obtain ⟨hd2, g1, g2, g3⟩ := h.mem j o2 hj
    refine ⟨hd2, g1, ?_, fun hl => ?_⟩
    · have g2' := g2.mono (S' := S1) (fun _ => rfl) (fun _ _ => rfl) hS (fun _ _ h => h)
      cases o2 with
      | box cs =>
        obtain ⟨vs, e2, hh, hr⟩ := g2
        exact ⟨vs, e2, hh, hr.fro hp hx hS⟩
      | _ => exact g2'.kill id (fun _ _ => rfl)
    · have hl2 := live_fro.1 hl
      obtain ⟨q1, q2⟩ := g3 hl2
      refine ⟨q1, ?_⟩
      rintro (q | ⟨q, q'⟩)
      · exact q2 q
      · exact hji (h.inj j id o2 _ hd2 hd hj hm g1 hp hl2 q q')
  · intro i j oi oj hi hj hoi hoj pi pj li lj hbb
    simp only [St.freeze, lookM_froM] at hoi hoj
    split at hoi
    · cases hoi
    split at hoj
    · cases hoj
    rw [Option.map_eq_some_iff] at hoi hoj
    obtain ⟨o3, hoi, rfl⟩ := hoi
    obtain ⟨o4, hoj, rfl⟩ := hoj
    exact h.inj i j o3 o4 hi hj hoi hoj pi pj (live_fro.1 li) (live_fro.1 lj) hbb
  · rintro b (q | ⟨q, rfl⟩)
    · exact h.lt b q
    · exact ho.lt q
  · rintro b (q | ⟨q, rfl⟩)
    · exact h.new b q
    · rcases (hb q).1 with h' | h'
      · exact .inr (.inl h')
      · exact .inr (.inr h')
theorem RelB.freeze [Dr] (h : RelB n S0 w0 st a w φ S) {id : Nat} {e : TypeId} {k : Nat} {xs : List AV} (hm : lkM st.mem id = some (.arr e k xs)) :
    ∃ S', (∀ b, S b → S' b) ∧ RelB n S0 w0 (st.freeze id xs) a w φ S' := by
  obtain ⟨S', h1, h2, _⟩ := h.freeze2 hm
  exact ⟨S', h1, h2⟩
theorem Rep.slTake {xs : List AV} {ad : Option Addr} {len cap : Nat} (h : Rep S w φ (.sl xs) (.slice ad len cap)) {m : Nat} (hm : m ≤ xs.length) : Rep S w φ (.sl (xs.take m)) (.slice ad m cap) := by
  cases h with
  | slNone a c =>
    have : m = 0 := by simpa using hm
    subst this
    exact .slNone _ _
  | @sl _ _ vs k b off cap n hn hk hb hc hr hmm h1 =>
    refine .sl k b off cap m (by simp; omega) (fun x hx => hk x (List.mem_of_mem_take hx)) hb (vs := vs.take (m * k)) ?_ ?_ (by omega) ?_
    · intro j v hj
      rw [List.getElem?_take] at hj
      split at hj
      · exact hc j v hj
      · cases hj
    · have := hr.take (m * k)
      have e : (flat xs).take (m * k) = flat (xs.take m) := by
        have h2 : xs = xs.take m ++ xs.drop m := (List.take_append_drop m xs).symm
        have h3 : (flat (xs.take m)).length = m * k := by rw [flat_length (k := k) (fun x hx => hk x (List.mem_of_mem_take hx)), List.length_take]; congr 1; omega
        conv => lhs; rw [h2, flat_append, List.take_append_of_le_length (by omega), List.take_of_length_le (by omega)]
      rw [e] at this
      exact this
    · intro c hc'
      refine h1 c ?_
      have h2 : xs = xs.take m ++ xs.drop m := (List.take_append_drop m xs).symm
      rw [h2, flat_append]
      exact List.mem_append_left _ hc'
theorem Rep.toFree' {xs : List AV} {v : Value} (h : Rep S w φ (.sl xs) v) : Rep S w noPl (.sl xs) v := by
  cases h with
  | slNone a c => exact .slNone a c
  | sl k b off cap n hn hk hb hc hr hm h1 => exact .sl k b off cap n hn hk hb hc hr hm h1
def freezeVs : List (Nat × AV) → St → St
  | [], st => st
  | (_, .own id) :: r, st => match lkM st.mem id with
    | some (.arr _ _ xs) => freezeVs r (st.freeze id xs)
    | _ => freezeVs r st
  | _ :: r, st => freezeVs r st
theorem RelB.freezeVs [Dr] : ∀ {vs : List (Nat × AV)} {st : St} {S : Nat → Prop}, RelB n S0 w0 st a w φ S → ∃ S', (∀ b, S b → S' b) ∧ RelB n S0 w0 (Go.AI.freezeVs vs st) a w φ S'
  | [], st, S, h => ⟨S, fun _ h => h, h⟩
  | (i, x) :: r, st, S, h => by
    unfold Go.AI.freezeVs
    split
    · cases ‹(i, x) :: r = []›
    · rename_i id r' heq
      cases heq
      split
      · rename_i e k xs hm
        obtain ⟨S1, h1, h2⟩ := h.freeze hm
        obtain ⟨S2, h3, h4⟩ := RelB.freezeVs (vs := r) h2
        exact ⟨S2, fun b hb => h3 b (h1 b hb), h4⟩
      · exact RelB.freezeVs (vs := r) h
    · rename_i heq
      cases heq
      exact RelB.freezeVs (vs := r) h
end
end Go.AI
