/- What a call may have done to the world: nothing below a mark, or to blocks of its own alone; the count of draws never falls. -/
import Derived.WalkKit
import Derived.KernelRfl
namespace Go.AI
class Dr where
  on : Prop
structure BelowO [Dr] (O : Nat → Prop) (B : Nat) (w w' : World) : Prop where
  os : w'.os = w.os
  tape : w'.tape = w.tape
  output : w'.output = w.output
  size : w.heap.size ≤ w'.heap.size
  drawn : Dr.on → w.drawn ≤ w'.drawn
  block : ∀ k, k < B → ¬ O k → w'.heap[k]? = w.heap[k]?
structure Below [Dr] (B : Nat) (w w' : World) : Prop where
  os : w'.os = w.os
  tape : w'.tape = w.tape
  output : w'.output = w.output
  size : w.heap.size ≤ w'.heap.size
  drawn : Dr.on → w.drawn ≤ w'.drawn
  block : ∀ k, k < B → w'.heap[k]? = w.heap[k]?
section
variable {B B' : Nat} {O : Nat → Prop} {w w' a b c : World}
theorem Below.refl [Dr] (B : Nat) (w : World) : Below B w w := ⟨rfl, rfl, rfl, Nat.le_refl _, fun _ => Nat.le_refl _, fun _ _ => rfl⟩
theorem Below.trans [Dr] (h : Below B a b) (k : Below B b c) : Below B a c :=
  ⟨k.os.trans h.os, k.tape.trans h.tape, k.output.trans h.output, Nat.le_trans h.size k.size, fun q => Nat.le_trans (h.drawn q) (k.drawn q), fun i hi => (k.block i hi).trans (h.block i hi)⟩
theorem Below.mono [Dr] (h : Below B w w') (hB : B' ≤ B) : Below B' w w' := ⟨h.os, h.tape, h.output, h.size, h.drawn, fun k hk => h.block k (Nat.lt_of_lt_of_le hk hB)⟩
theorem Below.cell [Dr] (h : Below B w w') {p : Addr} (hp : p.block < B) : w'.cell? p = w.cell? p := World.cell?_of_block (w := w) (h.block p.block hp)
theorem Below.kit [Dr] (h : Below B w w') : Go.RowKit.Below B w w' := ⟨h.os, h.tape, h.output, h.size, h.block⟩
theorem Below.drew [Dr] (B : Nat) (w : World) : Below B w w.drew := ⟨rfl, rfl, rfl, Nat.le_refl _, fun _ => Nat.le_succ _, fun _ _ => rfl⟩
theorem Below.heap_alloc (w : World) (o : Obj) (k : Nat) (h : k < w.heap.size) : (w.alloc o).heap[k]? = w.heap[k]? := by
  show (w.heap.push o)[k]? = _
  rw [Array.getElem?_push, if_neg (by omega)]
theorem BelowO.refl [Dr] (O : Nat → Prop) (B : Nat) (w : World) : BelowO O B w w := ⟨rfl, rfl, rfl, Nat.le_refl _, fun _ => Nat.le_refl _, fun _ _ _ => rfl⟩
theorem BelowO.trans [Dr] (h : BelowO O B a b) (k : BelowO O B b c) : BelowO O B a c :=
  ⟨k.os.trans h.os, k.tape.trans h.tape, k.output.trans h.output, Nat.le_trans h.size k.size, fun q => Nat.le_trans (h.drawn q) (k.drawn q), fun i hi hO => (k.block i hi hO).trans (h.block i hi hO)⟩
theorem Below.toO [Dr] (h : Below B w w') : BelowO O B w w' := ⟨h.os, h.tape, h.output, h.size, h.drawn, fun k hk _ => h.block k hk⟩
theorem BelowO.all [Dr] (h : BelowO (fun _ => False) B w w') : Below B w w' := ⟨h.os, h.tape, h.output, h.size, h.drawn, fun k hk => h.block k hk (fun h => h)⟩
theorem ask_drawn {α : Type} : ∀ (q : Ask α) (w : World), w.drawn ≤ (w.ask q).2.drawn
  | .done a, w => Nat.le_refl _
  | .ask what range k, w => by
    unfold World.ask
    dsimp only
    split
    · exact ask_drawn (k 0) w
    · exact Nat.le_trans (Nat.le_succ _) (ask_drawn (k _) { w with drawn := w.drawn + 1 })
theorem sys_drawn (w : World) (c : Sys) : w.drawn ≤ (w.sys c).2.drawn := by
  have h := ask_drawn (Kernel.perform c w.os) w
  unfold World.sys
  split
  · exact Nat.le_refl _
  · rename_i heq
    rw [heq] at h
    exact h
theorem viewStore_drawn {p : Program} {w w1 : World} {x : Addr} {u : TypeId} {k : Addr} {v : Value} {b : Bool} {l : List Addr} (h : w.viewStore p x u k v b = .ok (w1, l)) : w1.drawn = w.drawn := by
  unfold World.viewStore at h
  simp only [bind, Except.bind, pure, Except.pure] at h
  repeat' (first | (split at h) | (cases h; done) | (injection h with h; injection h with h1 h2; subst h1; rfl))
theorem run_drawn {α : Type} {p : Program} : ∀ (s : Sem α) (w w' : World) (v : α), s.run p w = .ok v w' → w.drawn ≤ w'.drawn
  | .pure a, w, w', v, h => by simp only [Sem.run] at h; cases h; exact Nat.le_refl _
  | .load m a k, w, w', v, h => by
    simp only [Sem.run] at h
    split at h
    · exact run_drawn (k _) _ _ _ h
    · split at h
      · exact run_drawn (k _) _ _ _ h
      · cases h
  | .store m a x k, w, w', v, h => by
    have plain : (match w.cell? a with
        | some _ => if w.frozen? a then (.halt (.unsupported (.unsafePointer "a write to bytes that a string shares")) w : Result α) else k.run p (w.setCell a x)
        | none => match w.farStore p a x (m == Mode.atomic) with
          | .ok (w, _) => k.run p w
          | .error h => .halt h w) = .ok v w' → w.drawn ≤ w'.drawn := by
      intro h
      split at h
      · split at h
        · cases h
        · exact run_drawn k (w.setCell a x) _ _ h
      · split at h
        · rename_i w1 l hw
          have : w1.drawn = w.drawn := by
            unfold World.farStore at hw
            split at hw
            · split at hw
              · rename_i r hr; cases hw; exact viewStore_drawn hr
              · cases hw
            · cases hw
          rw [← this]; exact run_drawn k _ _ _ h
        · cases h
    cases x <;> simp only [Sem.run] at h <;> first | exact plain h | cases h
  | .new o k, w, w', v, h => by simp only [Sem.run] at h; exact run_drawn (k _) { w with heap := w.heap.push o } _ _ h
  | .shape r k, w, w', v, h => by simp only [Sem.run] at h; exact run_drawn (k _) _ _ _ h
  | .freeze a n k, w, w', v, h => by
    simp only [Sem.run] at h
    have := run_drawn k (w.freeze a n) _ _ h
    have e : (w.freeze a n).drawn = w.drawn := by unfold World.freeze; split <;> rfl
    omega
  | .frozen a k, w, w', v, h => by simp only [Sem.run] at h; exact run_drawn (k _) _ _ _ h
  | .getObj r k, w, w', v, h => by
    simp only [Sem.run] at h
    split at h
    · cases h
    · exact run_drawn (k _) _ _ _ h
    · cases h
  | .setObj r o k, w, w', v, h => by
    simp only [Sem.run] at h
    split at h
    · cases h
    · exact run_drawn k { w with heap := w.heap.setIfInBounds r o } _ _ h
    · cases h
  | .choose q k, w, w', v, h => by
    simp only [Sem.run] at h
    split at h
    · exact run_drawn (k _) _ _ _ h
    · exact Nat.le_trans (Nat.le_succ _) (run_drawn (k _) { w with drawn := w.drawn + 1 } _ _ h)
  | .sys c k, w, w', v, h => by
    simp only [Sem.run] at h
    exact Nat.le_trans (sys_drawn w c) (run_drawn (k _) _ _ _ h)
  | .program k, w, w', v, h => by simp only [Sem.run] at h; exact run_drawn (k _) _ _ _ h
  | .mark _ k, w, w', v, h => by simp only [Sem.run] at h; exact run_drawn k _ _ _ h
  | .halt x, w, w', v, h => by simp only [Sem.run] at h; cases h
end
end Go.AI
