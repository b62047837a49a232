/- The abstract values of a Go function's walk, and what it means that a value of the model represents one in a world. Nothing of a program is used here. -/
import Derived.Test.YtkkpjmcpnmbbfaaGreatDoorA0
namespace Go.AI
inductive AV where
  | int (k : IntKind) (n : Int)
  | bool (b : Bool)
  | str (s : List UInt8)
  | agg (cs : List AV)
  | tup (vs : List AV)
  | sl (xs : List AV)
  | pp (cs : List AV) (off : Nat)
  | own (id : Nat)
  | ad (id i off : Nat)
  | mp (id : Nat)
  | fn (f : FuncId) (caps : List AV)
  | nils
  | ifc (t : TypeId) (x : AV)
  | tl (id lo n : Nat)
  | opq
  | un
  deriving Inhabited
def AV.cells : AV → List AV
  | .agg cs => cs
  | v => [v]
def AV.one : AV → Bool
  | .agg _ | .tup _ | .un => false
  | _ => true
def flat : List AV → List AV
  | [] => []
  | x :: xs => x.cells ++ flat xs
theorem flat_append (xs ys : List AV) : flat (xs ++ ys) = flat xs ++ flat ys := by
  induction xs with
  | nil => rfl
  | cons x xs ih => simp [flat, ih]
theorem flat_length {k : Nat} {xs : List AV} (h : ∀ x ∈ xs, x.cells.length = k) : (flat xs).length = xs.length * k := by
  induction xs with
  | nil => simp [flat]
  | cons x xs ih =>
    simp only [flat, List.length_append, List.length_cons]
    rw [h x (by simp), ih (fun y hy => h y (by simp [hy]))]
    rw [Nat.add_mul, Nat.one_mul, Nat.add_comm]
theorem flat_drop {k : Nat} {xs : List AV} (h : ∀ x ∈ xs, x.cells.length = k) (i : Nat) : (flat xs).drop (i * k) = flat (xs.drop i) := by
  induction xs generalizing i with
  | nil => simp [flat]
  | cons x xs ih =>
    cases i with
    | zero => simp
    | succ i =>
      simp only [flat, List.drop_succ_cons]
      have hx : x.cells.length = k := h x (by simp)
      rw [Nat.add_mul, Nat.one_mul, Nat.add_comm, ← List.drop_drop]
      rw [show (x.cells ++ flat xs).drop k = flat xs by rw [← hx]; simp]
      exact ih (fun y hy => h y (by simp [hy])) i
theorem flat_at {k : Nat} {xs : List AV} (h : ∀ x ∈ xs, x.cells.length = k) {i : Nat} {x : AV} (hx : xs[i]? = some x) {j : Nat} (hj : j < k) :
    (flat xs)[i * k + j]? = x.cells[j]? := by
  have hi : i < xs.length := by
    rcases Nat.lt_or_ge i xs.length with h' | h'
    · exact h'
    · simp [List.getElem?_eq_none h'] at hx
  rw [← List.getElem?_drop, flat_drop h]
  have : xs.drop i = x :: xs.drop (i + 1) := by
    rw [List.drop_eq_getElem_cons hi]
    rw [List.getElem?_eq_getElem hi] at hx
    simp at hx; rw [hx]
  rw [this]
  simp only [flat]
  have hxl : x.cells.length = k := h x (List.mem_of_getElem? hx)
  rw [List.getElem?_append_left (by omega)]
structure Hd where
  a : Option Addr := none
  n : Nat := 0
  cap : Nat := 0
  b : Nat
  k : Nat := 1
abbrev Pl := Nat → Option Hd
def noPl : Pl := fun _ => none
mutual
inductive Rep (S : Nat → Prop) (w : World) : Pl → AV → Value → Prop
  | int {φ : Pl} (k : IntKind) (n : Int) : Rep S w φ (.int k n) (.int k n)
  | bool {φ : Pl} (b : Bool) : Rep S w φ (.bool b) (.bool b)
  | str {φ : Pl} (s : List UInt8) (h : s.length ≤ maxLen) : Rep S w φ (.str s) (.string ⟨s.toArray⟩)
  | agg {φ : Pl} {cs : List AV} {vs : List Value} (h : RepL S w φ cs vs) (h1 : ∀ c ∈ cs, c.one = true) : Rep S w φ (.agg cs) (.agg vs.toArray)
  | tup {φ : Pl} {cs : List AV} {vs : List Value} (h : RepL S w φ cs vs) : Rep S w φ (.tup cs) (.tuple vs.toArray)
  | slNone {φ : Pl} (a : Option Addr) (cap : Nat) : Rep S w φ (.sl []) (.slice a 0 cap)
  | sl {φ : Pl} {xs : List AV} {vs : List Value} (k b off cap n : Nat) (hn : n = xs.length) (hk : ∀ x ∈ xs, x.cells.length = k) (hb : S b)
      (hc : ∀ j v, vs[j]? = some v → w.cell? ⟨b, off + j, none⟩ = some v) (hr : RepL S w noPl (flat xs) vs) (hm : n ≤ cap ∧ cap ≤ maxLen) (h1 : ∀ c ∈ flat xs, c.one = true) :
      Rep S w φ (.sl xs) (.slice (some ⟨b, off, none⟩) n cap)
  | pp {φ : Pl} {cs : List AV} {vs : List Value} (b o off : Nat) (hb : S b) (hc : ∀ j v, vs[j]? = some v → w.cell? ⟨b, o + j, none⟩ = some v) (hr : RepL S w noPl cs vs) (h1 : ∀ c ∈ cs, c.one = true) :
      Rep S w φ (.pp cs off) (.pointer (some ⟨b, o + off, none⟩))
  | own {φ : Pl} (id : Nat) (hd : Hd) (h : φ id = some hd) : Rep S w φ (.own id) (.slice hd.a hd.n hd.cap)
  | ad {φ : Pl} (id i off : Nat) (hd : Hd) (h : φ id = some hd) : Rep S w φ (.ad id i off) (.pointer (some ⟨hd.b, i * hd.k + off, none⟩))
  | mp {φ : Pl} (id : Nat) (hd : Hd) (h : φ id = some hd) : Rep S w φ (.mp id) (.map (some hd.b))
  | fn {φ : Pl} (f : FuncId) {caps : List AV} {vs : List Value} (h : RepL S w φ caps vs) : Rep S w φ (.fn f caps) (.func (.func f) #[] vs.toArray)
  | nils {φ : Pl} : Rep S w φ .nils (.slice none 0 0)
  | ifc {φ : Pl} (t : TypeId) {x : AV} {v : Value} (h : Rep S w noPl x v) : Rep S w φ (.ifc t x) (.iface t v)
  | tl {φ : Pl} (id lo n : Nat) (hd : Hd) (h : φ id = some hd) : Rep S w φ (.tl id lo n) (.slice (if hd.cap = lo then hd.a else hd.a.map (·.add (lo * hd.k))) n (hd.cap - lo))
  | opq {φ : Pl} (v : Value) (h : v.oneCell' = true) : Rep S w φ .opq v
  | un {φ : Pl} (v : Value) : Rep S w φ .un v
inductive RepL (S : Nat → Prop) (w : World) : Pl → List AV → List Value → Prop
  | nil {φ : Pl} : RepL S w φ [] []
  | cons {φ : Pl} {x : AV} {v : Value} {xs : List AV} {vs : List Value} (h : Rep S w φ x v) (t : RepL S w φ xs vs) : RepL S w φ (x :: xs) (v :: vs)
end
section
variable {φ φ' : Pl} {S S' : Nat → Prop} {w w' : World}
mutual
theorem Rep.mono {φ φ' : Pl} {x : AV} {v : Value} (h : Rep S w φ x v) (hw : ∀ b, S b → w'.heap[b]? = w.heap[b]?) (hS : ∀ b, S b → S' b) (hφ : ∀ id hd, φ id = some hd → φ' id = some hd) : Rep S' w' φ' x v :=
  match h with
  | .int k n => .int k n
  | .bool b => .bool b
  | .str s h => .str s h
  | .agg h h1 => .agg (h.mono hw hS hφ) h1
  | .tup h => .tup (h.mono hw hS hφ)
  | .slNone a c => .slNone a c
  | .sl k b off cap n hn hk hb hc hr hm h1 => .sl k b off cap n hn hk (hS b hb) (fun j v hv => (World.cell?_of_block (hw b hb)).trans (hc j v hv)) (hr.mono hw hS (fun _ _ h => h)) hm h1
  | .pp b o off hb hc hr h1 => .pp b o off (hS b hb) (fun j v hv => (World.cell?_of_block (hw b hb)).trans (hc j v hv)) (hr.mono hw hS (fun _ _ h => h)) h1
  | .own id hd h => .own id hd (hφ id hd h)
  | .ad id i off hd h => .ad id i off hd (hφ id hd h)
  | .mp id hd h => .mp id hd (hφ id hd h)
  | .fn f h => .fn f (h.mono hw hS hφ)
  | .nils => .nils
  | .ifc t h => .ifc t (h.mono hw hS (fun _ _ h => h))
  | .tl id lo n hd h => .tl id lo n hd (hφ id hd h)
  | .opq v h => .opq v h
  | .un v => .un v
theorem RepL.mono {φ φ' : Pl} {xs : List AV} {vs : List Value} (h : RepL S w φ xs vs) (hw : ∀ b, S b → w'.heap[b]? = w.heap[b]?) (hS : ∀ b, S b → S' b) (hφ : ∀ id hd, φ id = some hd → φ' id = some hd) : RepL S' w' φ' xs vs :=
  match h with
  | .nil => .nil
  | .cons h t => .cons (h.mono hw hS hφ) (t.mono hw hS hφ)
end
mutual
def AV.ment (id : Nat) : AV → Bool
  | .own i | .ad i _ _ | .mp i | .tl i _ _ => i == id
  | .agg cs | .tup cs | .fn _ cs => mentL id cs
  | _ => false
def mentL (id : Nat) : List AV → Bool
  | [] => false
  | x :: xs => x.ment id || mentL id xs
end
mutual
theorem Rep.place {φ φ' : Pl} {id : Nat} {x : AV} {v : Value} (h : Rep S w φ x v) (hx : x.ment id = false) (hφ : ∀ j, j ≠ id → φ' j = φ j) : Rep S w φ' x v :=
  match h with
  | .int k n => .int k n
  | .bool b => .bool b
  | .str s h => .str s h
  | .agg h h1 => .agg (h.place (by simpa [AV.ment] using hx) hφ) h1
  | .tup h => .tup (h.place (by simpa [AV.ment] using hx) hφ)
  | .slNone a c => .slNone a c
  | .sl k b off cap n hn hk hb hc hr hm h1 => .sl k b off cap n hn hk hb hc hr hm h1
  | .pp b o off hb hc hr h1 => .pp b o off hb hc hr h1
  | .own i hd h => .own i hd (by rw [hφ i (by simpa [AV.ment] using hx)]; exact h)
  | .ad i e off hd h => .ad i e off hd (by rw [hφ i (by simpa [AV.ment] using hx)]; exact h)
  | .mp i hd h => .mp i hd (by rw [hφ i (by simpa [AV.ment] using hx)]; exact h)
  | .fn f h => .fn f (h.place (by simpa [AV.ment] using hx) hφ)
  | .nils => .nils
  | .ifc t h => .ifc t h
  | .tl i lo n hd h => .tl i lo n hd (by rw [hφ i (by simpa [AV.ment] using hx)]; exact h)
  | .opq v h => .opq v h
  | .un v => .un v
theorem RepL.place {φ φ' : Pl} {id : Nat} {xs : List AV} {vs : List Value} (h : RepL S w φ xs vs) (hx : mentL id xs = false) (hφ : ∀ j, j ≠ id → φ' j = φ j) : RepL S w φ' xs vs :=
  match h with
  | .nil => .nil
  | .cons h t => .cons (h.place (by simp [mentL] at hx; exact hx.1) hφ) (t.place (by simp [mentL] at hx; exact hx.2) hφ)
end
theorem Rep.free {x : AV} {v : Value} (h : Rep S w noPl x v) : Rep S w φ x v := h.mono (fun _ _ => rfl) (fun _ h => h) (fun _ _ h => by cases h)
theorem RepL.free {xs : List AV} {vs : List Value} (h : RepL S w noPl xs vs) : RepL S w φ xs vs := h.mono (fun _ _ => rfl) (fun _ h => h) (fun _ _ h => by cases h)
theorem RepL.length {xs : List AV} {vs : List Value} (h : RepL S w φ xs vs) : vs.length = xs.length := by
  induction xs generalizing vs with
  | nil => cases h; rfl
  | cons x xs ih => cases h with | cons _ t => simp [ih t]
theorem RepL.get {xs : List AV} {vs : List Value} (h : RepL S w φ xs vs) {i : Nat} {x : AV} (hx : xs[i]? = some x) : ∃ v, vs[i]? = some v ∧ Rep S w φ x v := by
  induction xs generalizing vs i with
  | nil => simp at hx
  | cons y ys ih =>
    cases h with
    | cons h t =>
      cases i with
      | zero => simp at hx; subst hx; exact ⟨_, by simp, h⟩
      | succ i => simp at hx; obtain ⟨v, hv, hr⟩ := ih t hx; exact ⟨v, by simpa using hv, hr⟩
theorem RepL.append {xs ys : List AV} {vs us : List Value} (h : RepL S w φ xs vs) (h' : RepL S w φ ys us) : RepL S w φ (xs ++ ys) (vs ++ us) := by
  induction xs generalizing vs with
  | nil => cases h; simpa using h'
  | cons x xs ih => cases h with | cons h t => exact .cons h (ih t)
theorem RepL.drop {xs : List AV} {vs : List Value} (h : RepL S w φ xs vs) (n : Nat) : RepL S w φ (xs.drop n) (vs.drop n) := by
  induction n generalizing xs vs with
  | zero => simpa using h
  | succ n ih => cases h with
    | nil => simpa using RepL.nil
    | cons h t => simpa using ih t
theorem RepL.take {xs : List AV} {vs : List Value} (h : RepL S w φ xs vs) (n : Nat) : RepL S w φ (xs.take n) (vs.take n) := by
  induction n generalizing xs vs with
  | zero => simpa using RepL.nil
  | succ n ih => cases h with
    | nil => simpa using RepL.nil
    | cons h t => simpa using RepL.cons h (ih t)
theorem RepL.set {xs : List AV} {vs : List Value} (h : RepL S w φ xs vs) {x : AV} {v : Value} (hx : Rep S w φ x v) (n : Nat) : RepL S w φ (xs.set n x) (vs.set n v) := by
  induction n generalizing xs vs with
  | zero => cases h with
    | nil => simpa using RepL.nil
    | cons h t => simpa using RepL.cons hx t
  | succ n ih => cases h with
    | nil => simpa using RepL.nil
    | cons h t => simpa using RepL.cons h (ih t)
theorem RepL.split {xs ys : List AV} {vs : List Value} (h : RepL S w φ (xs ++ ys) vs) : ∃ us ts, vs = us ++ ts ∧ RepL S w φ xs us ∧ RepL S w φ ys ts := by
  refine ⟨vs.take xs.length, vs.drop xs.length, by simp, ?_, ?_⟩
  · simpa using h.take xs.length
  · simpa using h.drop xs.length
theorem Rep.cells {x : AV} {v : Value} (h : Rep S w φ x v) (hx : x ≠ .un) : RepL S w φ x.cells v.cells.toList := by
  cases h with
  | agg h h1 => simpa [AV.cells, Value.cells] using h
  | un v => exact absurd rfl hx
  | opq v h =>
    have e : v.cells = #[v] := by cases v <;> first | rfl | (simp [Value.oneCell'] at h)
    rw [e]
    exact .cons (.opq v h) .nil
  | _ => simp only [AV.cells, Value.cells]; refine .cons ?_ .nil; constructor <;> assumption
theorem Rep.oneCell {x : AV} {v : Value} (h : Rep S w φ x v) (hx : x.one = true) : v.oneCell' = true := by
  cases h <;> first | rfl | assumption | (simp [AV.one] at hx)
theorem RepL.oneCell {xs : List AV} {vs : List Value} (h : RepL S w φ xs vs) (hx : ∀ c ∈ xs, c.one = true) : ∀ v ∈ vs, v.oneCell' = true := by
  induction xs generalizing vs with
  | nil => cases h; simp
  | cons x xs ih => cases h with
    | cons h t =>
      intro v hv
      rcases List.mem_cons.1 hv with rfl | hv
      · exact h.oneCell (hx x (by simp))
      · exact ih t (fun c hc => hx c (by simp [hc])) v hv
theorem AV.cells_one {x : AV} (h : x.one = true) : x.cells = [x] := by cases x <;> first | rfl | simp [AV.one] at h
end
end Go.AI
